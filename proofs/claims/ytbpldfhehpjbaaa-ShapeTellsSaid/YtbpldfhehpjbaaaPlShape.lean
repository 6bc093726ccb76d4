/- Plain: what the program's shape tells of a slot is what the document tells. -/
import Derived.Test.YtbpldfhehpjbaaaPlBase
namespace Go.Proofs.Ytbpldfhehpjbaaa
open Go Go.HW
set_option maxRecDepth 8000

structure OkI (x : Instr) : Prop where
  op : 0 ≤ x.fOp ∧ x.fOp < 256
  off : -32768 ≤ x.fOff ∧ x.fOff < 32768
  imm : -2147483648 ≤ x.fImm ∧ x.fImm < 2147483648

theorem all256 (p : Int → Bool) (h : (List.range 256).all (fun n => p (n : Int)) = true) {x : Int} (h0 : 0 ≤ x ∧ x < 256) : p x = true := by
  have := List.all_eq_true.1 h x.toNat (by simp; omega)
  rw [show ((x.toNat : Nat) : Int) = x from by omega] at this
  exact this

abbrev atOp (o : Int) : Instr := ⟨o, 0, 0, 0, 0⟩
def refEnds (x : Instr) : Bool := ((fn54 x == 5) && ((fn55 x == 144) || (fn55 x == 0))) || ((fn54 x == 6) && (fn55 x == 0))

theorem kn_eq {x : Instr} (h : OkI x) : fn35 (fn60 x) = fn76 x := by
  have := all256 (fun o => fn35 (fn60 (atOp o)) == fn76 (atOp o)) (by kernel_rfl) h.op
  exact eq_of_beq this

theorem en_eq {x : Instr} (h : OkI x) (hk : fn76 x = true) : fn40 (fn60 x) = refEnds x := by
  have := all256 (fun o => !(fn76 (atOp o)) || (fn40 (fn60 (atOp o)) == refEnds (atOp o))) (by kernel_rfl) h.op
  have h2 : (!(fn76 x) || (fn40 (fn60 x) == refEnds x)) = true := this
  rw [hk] at h2
  exact eq_of_beq (by simpa using h2)

theorem bif_or {α : Type} (a b : Bool) (z r : α) : (bif a then z else bif b then z else r) = bif (a || b) then z else r := by cases a <;> rfl

theorem tg_eq {x : Instr} (h : OkI x) (hk : fn76 x = true) (at' : Int) : fn39 (fn60 x) at' = fn58 x at' := by
  have := all256 (fun o => !(fn76 (atOp o)) || ((!(((fn60 (atOp o)).fclass == 5) || ((fn60 (atOp o)).fclass == 6)) || ((!(fn62 (fn60 (atOp o)))) && ((fn60 (atOp o)).fop != 0))) == ((((fn54 (atOp o) != 5) && (fn54 (atOp o) != 6)) || (fn55 (atOp o) == 128)) || (fn55 (atOp o) == 144)))) (by kernel_rfl) h.op
  have h2 : (!(fn76 x) || ((!(((fn60 x).fclass == 5) || ((fn60 x).fclass == 6)) || ((!(fn62 (fn60 x))) && ((fn60 x).fop != 0))) == ((((fn54 x != 5) && (fn54 x != 6)) || (fn55 x == 128)) || (fn55 x == 144)))) = true := this
  rw [hk] at h2
  have h3 := eq_of_beq (show _ == _ from by simpa only [Bool.not_true, Bool.false_or] using h2)
  simp only [fn39, fn58, bindP]
  rw [bif_or, h3]
  rfl

theorem rg_eq {x : Instr} : fn36 (fn60 x) = !(((decide ((10 : Int) < x.fDst)) || (decide ((10 : Int) < x.fSrc))) || ((x.fDst == 10) && fn77 x)) := by
  have e0 : fn36 (fn60 x) = (((decide (x.fDst ≤ 10)) && (decide (x.fSrc ≤ 10))) && (bif fn77 x then !(x.fDst == 10) else true)) := rfl
  rw [e0]
  generalize fn77 x = c
  have h1 : decide (x.fDst ≤ 10) = !(decide (10 < x.fDst)) := by by_cases h : x.fDst ≤ 10 <;> simp [h] <;> omega
  have h2 : decide (x.fSrc ≤ 10) = !(decide (10 < x.fSrc)) := by by_cases h : x.fSrc ≤ 10 <;> simp [h] <;> omega
  rw [h1, h2]
  generalize decide (10 < x.fDst) = a
  generalize decide (10 < x.fSrc) = b
  generalize (x.fDst == 10) = d
  cases a <;> cases b <;> cases c <;> cases d <;> rfl

theorem idx93 (l : List Int) (y : Int) (hl : l.length ≤ 1000) : ∀ (n : Nat) (x : Int), 0 ≤ x → x ≤ l.length → (l.length : Int) - x < n →
    (fn93_l1 l y n x = some (.inl ()) ∧ y ∉ l.drop x.toNat) ∨ ∃ i, fn93_l1 l y n x = some (.inr i) ∧ 0 ≤ i ∧ y ∈ l.drop x.toNat
  | 0, x, h0, h1, h2 => by omega
  | n + 1, x, h0, h1, h2 => by
    rw [fn93_l1]
    by_cases hx : x < (l.length : Int)
    · have hi : inb x l.length = true := inb_iff.2 ⟨h0, hx⟩
      have hlt : x.toNat < l.length := by omega
      have hd : l.drop x.toNat = gt l x :: l.drop (x.toNat + 1) := by
        rw [List.drop_eq_getElem_cons hlt]; congr 1; simp [gt, hlt]
      simp only [hx, decide_true, cond_true, hi]
      cases hy : (y == gt l x) with
      | true => exact .inr ⟨x, rfl, h0, by rw [hd, eq_of_beq hy]; simp⟩
      | false =>
        simp only [cond_false]
        rw [w64 (by omega)]
        have ih := idx93 l y hl n (x + 1) (by omega) (by omega) (by omega)
        rw [show (x + 1).toNat = x.toNat + 1 from by omega] at ih
        have hne : y ≠ gt l x := by intro e; subst e; simp at hy
        rcases ih with ⟨e1, e2⟩ | ⟨i, e1, e2, e3⟩
        · exact .inl ⟨e1, by rw [hd]; simp [hne, e2]⟩
        · exact .inr ⟨i, e1, e2, by rw [hd]; simp [e3]⟩
    · simp only [hx, decide_false, cond_false]
      exact .inl ⟨trivial, by rw [List.drop_eq_nil_of_le (by omega)]; simp⟩
theorem idx92 (l : List Int) (y : Int) (hl : l.length ≤ 1000) : ∀ (n : Nat) (x : Int), fn92_l1 l y n x = fn93_l1 l y n x
  | 0, x => rfl
  | n + 1, x => by rw [fn92_l1, fn93_l1, idx92 l y hl n]

theorem has81 {F : Nat} (l : List Int) (y : Int) (hl : l.length ≤ 1000) (hF : 1001 < F) : fn81 F l y = some (decide (y ∈ l)) := by
  rw [fn81, fn93]
  rcases idx93 l y hl F 0 (by omega) (by omega) (by omega) with ⟨e1, e2⟩ | ⟨i, e1, e2, e3⟩
  · rw [e1]; rw [Int.toNat_zero, List.drop_zero] at e2; simp [fn93_k1, e2]
  · rw [e1]; rw [Int.toNat_zero, List.drop_zero] at e3; simp [e2, e3]
theorem has80 {F : Nat} (l : List Int) (y : Int) (hl : l.length ≤ 1000) (hF : 1001 < F) : fn80 F l y = some (decide (y ∈ l)) := by
  rw [fn80, fn92, idx92 l y hl]
  rcases idx93 l y hl F 0 (by omega) (by omega) (by omega) with ⟨e1, e2⟩ | ⟨i, e1, e2, e3⟩
  · rw [e1]; rw [Int.toNat_zero, List.drop_zero] at e2; simp [fn92_k1, e2]
  · rw [e1]; rw [Int.toNat_zero, List.drop_zero] at e3; simp [e2, e3]

theorem mem_or (y a : Int) (l : List Int) : decide (y ∈ a :: l) = ((y == a) || decide (y ∈ l)) := by
  simp only [List.mem_cons, Bool.decide_or]
  congr 1
theorem mem_nil' (y : Int) : decide (y ∈ ([] : List Int)) = false := rfl

theorem alu_eq {F : Nat} (hF : 1001 < F) {x : Instr} (hc : (fn60 x).fclass = 4 ∨ (fn60 x).fclass = 7) : fn67 F (fn60 x) = some (fn88 x) := by
  have h7 : fn54 x = (fn60 x).fclass := rfl
  have hop : fn55 x = (fn60 x).fop := rfl
  have hrg : fn86 x = (fn60 x).freg := rfl
  simp only [fn67, fn88, bindP, hop, hrg, h7]
  generalize (fn60 x).fop = o
  generalize hcl : (fn60 x).fclass = c at hc
  generalize (fn60 x).freg = r
  simp only [fn60_instr]
  have l1 : ([0] : List Int) ++ [1] = [0, 1] := rfl
  have l2 : ([0] : List Int) ++ [8, 16, 32] = [0, 8, 16, 32] := rfl
  have l3 : ([0] : List Int) ++ [8, 16] = [0, 8, 16] := rfl
  simp only [l1, l2, l3]
  rw [has80 _ _ (by decide) hF, has81 _ _ (by decide) hF, has81 _ _ (by decide) hF, has81 _ _ (by decide) hF, has81 _ _ (by decide) hF]
  simp only [mem_or, mem_nil', Bool.or_false, bne]
  generalize (x.fSrc == 0) = b1
  generalize (x.fOff == 0) = b2
  generalize (x.fImm == 0) = b3
  have d1 : decide ((([0] : List Int).length + ([1] : List Int).length) * 2 ≤ 140737488355328 ∧ ([0] : List Int).length + ([1] : List Int).length ≤ 9223372036854775807) = true := by decide
  have d2 : decide ((([0] : List Int).length + ([8, 16, 32] : List Int).length) * 2 ≤ 140737488355328 ∧ ([0] : List Int).length + ([8, 16, 32] : List Int).length ≤ 9223372036854775807) = true := by decide
  have d3 : decide ((([0] : List Int).length + ([8, 16] : List Int).length) * 2 ≤ 140737488355328 ∧ ([0] : List Int).length + ([8, 16] : List Int).length ≤ 9223372036854775807) = true := by decide
  rw [d1, d2, d3]
  generalize (x.fOff == 1) = q1
  generalize (x.fOff == 8) = q8
  generalize (x.fOff == 16) = q16
  generalize (x.fOff == 32) = q32
  generalize (x.fImm == 16 || (x.fImm == 32 || x.fImm == 64)) = qi
  by_cases h208 : o = 208
  · subst h208; cases b1 <;> cases b2 <;> rfl
  by_cases h48 : o = 48
  · subst h48; cases r <;> cases b1 <;> cases b2 <;> cases b3 <;> cases q1 <;> rfl
  by_cases h144 : o = 144
  · subst h144; cases r <;> cases b1 <;> cases b2 <;> cases b3 <;> cases q1 <;> rfl
  by_cases h176 : o = 176
  · subst h176
    rcases hc with rfl | rfl <;> cases r <;> cases b1 <;> cases b2 <;> cases b3 <;> cases q8 <;> cases q16 <;> cases q32 <;> rfl
  have e1 : (o == 208) = false := by simp [h208]
  have e2 : (o == 48) = false := by simp [h48]
  have e3 : (o == 144) = false := by simp [h144]
  have e4 : (o == 176) = false := by simp [h176]
  rw [e1, e2, e3, e4]
  cases (o == 128) <;> cases r <;> cases b1 <;> cases b2 <;> cases b3 <;> rfl

theorem cls_lt {x : Instr} (h : OkI x) : fn54 x = 0 ∨ fn54 x = 1 ∨ fn54 x = 2 ∨ fn54 x = 3 ∨ fn54 x = 4 ∨ fn54 x = 5 ∨ fn54 x = 6 ∨ fn54 x = 7 := by
  have := all256 (fun o => decide (fn54 (atOp o) = 0 ∨ fn54 (atOp o) = 1 ∨ fn54 (atOp o) = 2 ∨ fn54 (atOp o) = 3 ∨ fn54 (atOp o) = 4 ∨ fn54 (atOp o) = 5 ∨ fn54 (atOp o) = 6 ∨ fn54 (atOp o) = 7)) (by kernel_rfl) h.op
  exact of_decide_eq_true (p := fn54 x = 0 ∨ fn54 x = 1 ∨ fn54 x = 2 ∨ fn54 x = 3 ∨ fn54 x = 4 ∨ fn54 x = 5 ∨ fn54 x = 6 ∨ fn54 x = 7) this

theorem jump_eq {x : Instr} : fn68 (fn60 x) = fn89 x := by
  have hop : fn55 x = (fn60 x).fop := rfl
  have hcl : fn54 x = (fn60 x).fclass := rfl
  have hrg : fn86 x = (fn60 x).freg := rfl
  have hcd : fn87 (fn60 x).fop = fn62 (fn60 x) := rfl
  simp only [fn68, fn89, bindP, hop, hcl, hrg, hcd, fn60_instr, bne]
  generalize (fn60 x).fop = o
  generalize (fn60 x).freg = r
  generalize fn62 (fn60 x) = v
  generalize (x.fDst == 0) = b0
  generalize (x.fSrc == 0) = b1
  generalize (x.fOff == 0) = b2
  generalize (x.fImm == 0) = b3
  generalize (o == 0) = o0
  generalize ((fn60 x).fclass == 5) = c5
  generalize (o == 128) = o1
  cases v
  · cases b0 <;> cases b1 <;> cases b2 <;> cases b3 <;> cases o0 <;> cases c5 <;> cases o1 <;> rfl
  · cases r <;> cases b1 <;> cases b3 <;> rfl

theorem pt_eq {F : Nat} (hF : 1001 < F) {x : Instr} (h : OkI x) : fn37 F (fn60 x) = some (fn78 x) := by
  have e54 : fn54 x = (fn60 x).fclass := rfl
  have hc := cls_lt h
  rw [e54] at hc
  have a1 := alu_eq hF (x := x)
  have a2 := jump_eq (x := x)
  simp only [fn37, fn78, bindP, e54, a2]
  rcases hc with e | e | e | e | e | e | e | e
  · rw [e]; rfl
  · rw [e]; rfl
  · rw [e]; rfl
  · rw [e]; rfl
  · rw [a1 (.inl e)]; rw [e]; rfl
  · rw [e]; rfl
  · rw [e]; rfl
  · rw [a1 (.inr e)]; rw [e]; rfl
end Go.Proofs.Ytbpldfhehpjbaaa
