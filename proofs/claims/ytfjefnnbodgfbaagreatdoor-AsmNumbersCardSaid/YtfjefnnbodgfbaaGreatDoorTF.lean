/- Part of the proof: the logic, the walks, and what they compute. -/
import Derived.Lib.Join
import Derived.ChangeSame
import Derived.Carry
import Derived.ProofKit
import Derived.OpenShut
import Derived.KernelRfl
import Derived.SizedLaws
import Derived.Test.YtfjefnnbodgfbaaGreatDoorRows
import Derived.Lib.LaidU8
import Derived.Shelf.Vars
import Derived.LaidLaws
import Derived.Handed
import Derived.Stop.Joined
import Derived.Test.YtfjefnnbodgfbaaGreatDoorTE
set_option linter.all false
namespace Go.Proofs.YtfjefnnbodgfbaaGreatDoor
open Go Go.HW
set_option linter.unusedVariables false
set_option maxRecDepth 100000
theorem one_size {x : Instr} (hx : Rng x) {s : ByteArray} (h : fn31 300000 tabD x = some s) : s.size ≤ 120 := by
 obtain ⟨d1, d2⟩ := tabD_good
 have hd := doc_loop (F0 := 300000) (by omega) (x := x) (p := tabD) hx d1 (by omega) tabD.length 0 300000 (by omega) (by omega) (by omega)
 rw [show ((0 : Nat) : Int) = 0 from rfl, List.drop_zero] at hd
 unfold fn31 at h
 rw [hd] at h
 cases hf : tabD.find? (fun f => fitB x f.fwords f.fslot) with
 | some f =>
  rw [hf] at h
  have g := d1 f (List.mem_of_find?_eq_some hf)
  have h1 := sayL_size hx (lts f.fwords)
  have e : f.fname ++ sayL x (lts f.fwords) = s := Option.some.inj h
  have h2 := g.nm10; have h3 := g.len4
  rw [← e, ByteArray.size_append]; omega
 | none =>
  rw [hf] at h
  replace h : fn31_k1 x = some s := h
  rw [raw_ok hx] at h
  obtain ⟨i1, i2, i3, i4, i5⟩ := hx.i64
  have s1 := num_size i1; have s2 := num_size i2; have s3 := num_size i3; have s4 := num_size i4; have s5 := num_size i5
  have e1 : sSp.size = 1 := rfl
  have e2 : sR.size = 1 := rfl
  have e3 : (⟨#[115, 108, 111, 116]⟩ : ByteArray).size = 4 := rfl
  rw [← Option.some.inj h]
  simp only [ByteArray.size_append]; omega
theorem pair_size {x y : Instr} (hx : Rng x) (hy : Rng y) {s : ByteArray} (h : fn30 x y = some s) : s.size ≤ 120 := by
 rw [two_ok hx hy] at h
 obtain ⟨i1, i2, i3, i4, i5⟩ := hx.i64
 have hI : I64 (wideP x y) := by rw [wide_eq hx hy]; unfold wideD; exact wrapI64 _
 have s1 := num_size i1; have s2 := num_size hI; have s4 := num_size i4
 have e1 : sSp.size = 1 := rfl
 have e2 : sR.size = 1 := rfl
 have e3 : fLd.fname.size = 4 := rfl
 have e4 : fMap.fname.size = 5 := rfl
 rw [← Option.some.inj h]
 generalize (decide (x.fOp = 24) && (decide (x.fSrc = 0 ∧ x.fOff = 0) && decide (y.fOp = 0 ∧ y.fDst = 0 ∧ y.fSrc = 0 ∧ y.fOff = 0))) = a
 generalize (decide (x.fOp = 24) && (decide (x.fSrc = 1 ∧ x.fOff = 0) && decide (y.fOp = 0 ∧ y.fDst = 0 ∧ y.fSrc = 0 ∧ y.fOff = 0 ∧ y.fImm = 0))) = b
 cases a
 ·cases b
  ·exact Nat.zero_le _
  ·simp only [cond_false, cond_true, ByteArray.size_append]; omega
 ·simp only [cond_true, ByteArray.size_append]; omega
theorem cut1 (x : Instr) (r : List Instr) : cutX (x :: r) (1 : Int).toNat (((x :: r).length : Nat) : Int).toNat = r := by
 show ((x :: r).take _).drop 1 = r
 rw [Int.toNat_natCast, List.take_length]; rfl
theorem sl1 (x : Instr) (r : List Instr) : sliceOk (1 : Int) (((x :: r).length : Nat) : Int) (x :: r).length = true := sliceOk_iff.2 ⟨by omega, by simp only [List.length_cons]; omega, Int.le_refl _⟩
theorem wr_ok {b s : ByteArray} (hb : b.size ≤ 5000000) (hs : s.size ≤ 120) : fn27b b (s ++ (⟨#[10]⟩ : ByteArray)) = some (b ++ (s ++ (⟨#[10]⟩ : ByteArray)), ((s ++ (⟨#[10]⟩ : ByteArray)).size : Int)) := by
 have e : (s ++ (⟨#[10]⟩ : ByteArray)).size = s.size + 1 := by rw [ByteArray.size_append]; rfl
 have g : (decide (0 < (s ++ (⟨#[10]⟩ : ByteArray)).size) && appHyp 1 (bytesZ b).length (s ++ (⟨#[10]⟩ : ByteArray)).size) = true := by
  rw [e, bytesZ_len]; unfold appHyp
  rw [decide_eq_true (by omega), decide_eq_true (by omega)]; rfl
 unfold fn27b
 rw [g]; rfl
theorem prog_one {x : Instr} {ws : List ByteArray} {s b : ByteArray} {rl : ByteArray → List Instr → Option ByteArray}
  (h1 : fn26 300000 tabP.1 tabP.2 x ⟨0, 0, 0, 0, 0⟩ true = some (ws, false)) (h2 : fn19 ws sSp = some s) (hs : s.size ≤ 120) (hb : b.size ≤ 5000000) :
  fn12_b1 300000 tabP rl b [x] = rl (b ++ (s ++ (⟨#[10]⟩ : ByteArray))) [] := by
 have h2' : fn19 ws (⟨#[32]⟩ : ByteArray) = some s := h2
 have g1 : decide ((0 : Int) < (([x] : List Instr).length : Int)) = true := rfl
 have g2 : decide ((1 : Int) < (([x] : List Instr).length : Int)) = false := rfl
 have g3 : inb 0 ([x] : List Instr).length = true := rfl
 have g4 : gt [x] 0 = x := rfl
 have g5 : ((([x] : List Instr).length : Int) == 1) = true := rfl
 have g6 : decide (s.size + (⟨#[10]⟩ : ByteArray).size ≤ 9223372036854775807) = true := decide_eq_true (by have : (⟨#[10]⟩ : ByteArray).size = 1 := rfl; omega)
 rw [fn12_b1, g1, cond_true, g2, cond_false, g3, cond_true, g4, g5, h1, Option.bind_some]
 show Option.bind (fn19 ws (⟨#[32]⟩ : ByteArray)) _ = _
 rw [h2', Option.bind_some, g6, cond_true, wr_ok hb hs, Option.bind_some, sl1 x [], cond_true, cut1 x []]
 rfl
theorem prog_two {x y : Instr} {r : List Instr} {ws : List ByteArray} {two : Bool} {s b : ByteArray} {rl : ByteArray → List Instr → Option ByteArray}
  (h1 : fn26 300000 tabP.1 tabP.2 x y false = some (ws, two)) (h2 : fn19 ws sSp = some s) (hs : s.size ≤ 120) (hb : b.size ≤ 5000000) :
  fn12_b1 300000 tabP rl b (x :: y :: r) = rl (b ++ (s ++ (⟨#[10]⟩ : ByteArray))) (bif two then r else y :: r) := by
 have h2' : fn19 ws (⟨#[32]⟩ : ByteArray) = some s := h2
 have hl : (x :: y :: r).length = r.length + 2 := rfl
 have g1 : decide ((0 : Int) < ((x :: y :: r).length : Int)) = true := decide_eq_true (by rw [hl]; omega)
 have g2 : decide ((1 : Int) < ((x :: y :: r).length : Int)) = true := decide_eq_true (by rw [hl]; omega)
 have g3 : inb 0 (x :: y :: r).length = true := inb_iff.2 ⟨by omega, by rw [hl]; omega⟩
 have g3' : inb 1 (x :: y :: r).length = true := inb_iff.2 ⟨by omega, by rw [hl]; omega⟩
 have g4 : gt (x :: y :: r) 0 = x := rfl
 have g4' : gt (x :: y :: r) 1 = y := rfl
 have g5 : (((x :: y :: r).length : Int) == 1) = false := by rw [Bool.eq_false_iff]; intro h; have := eq_of_beq h; rw [hl] at this; omega
 have g6 : decide (s.size + (⟨#[10]⟩ : ByteArray).size ≤ 9223372036854775807) = true := decide_eq_true (by have : (⟨#[10]⟩ : ByteArray).size = 1 := rfl; omega)
 rw [fn12_b1, g1, cond_true, g2, cond_true, g3', cond_true, g3, cond_true, g4, g4', g5, h1, Option.bind_some]
 show Option.bind (fn19 ws (⟨#[32]⟩ : ByteArray)) _ = _
 rw [h2', Option.bind_some, g6, cond_true, wr_ok hb hs, Option.bind_some, sl1 x (y :: r), cond_true, cut1 x (y :: r)]
 cases two with
 | false => rfl
 | true =>
  show (bif sliceOk (1 : Int) (((y :: r).length : Nat) : Int) (y :: r).length then rl _ (cutX (y :: r) (1 : Int).toNat (((y :: r).length : Nat) : Int).toNat) else none) = _
  rw [sl1 y r, cond_true, cut1 y r]; rfl
theorem ne_nil {v : ByteArray} (h : 0 < v.size) : (v.toList != (⟨#[]⟩ : ByteArray).toList) = true := by
 rw [ByteArray.toList_eq, ByteArray.toList_eq]
 have : v.data.toList ≠ [] := fun e => by
  have : v.data.toList.length = v.size := by simp
  rw [e] at this; simp at this; omega
 simpa using this
theorem eq_nil : ((⟨#[]⟩ : ByteArray).toList != (⟨#[]⟩ : ByteArray).toList) = false := by simp
theorem bz_ok {acc : List Int} {s : ByteArray} (ha : acc.length ≤ 5000000) (hs : s.size ≤ 120) : appHyp 1 acc.length s.size = true ∧ decide (((acc ++ bytesZ s).length + ([10] : List Int).length) * 1 ≤ 140737488355328 ∧ (acc ++ bytesZ s).length + ([10] : List Int).length ≤ 9223372036854775807) = true := by
 refine ⟨decide_eq_true (by omega), decide_eq_true ?_⟩
 rw [List.length_append, bytesZ_len, List.length_singleton]; omega
theorem doc_odd {p : List Instr} {i : Nat} (hi : i < p.length) {acc : List Int} {rl : List Int → Int → Option (List Int ⊕ ByteArray)} (ho : fn23 p[i] = true) :
  fn13_b1 300000 p tabD rl acc (i : Int) = some (.inr ⟨#[]⟩) := by
 have hin : inb (i : Int) p.length = true := inb_iff.2 ⟨by omega, by omega⟩
 have hget : gt p (i : Int) = p[i] := by simp [gt, hi]
 replace ho : (decide ((15 : Int) < p[i].fDst) || decide ((15 : Int) < p[i].fSrc)) = true := ho
 rw [fn13_b1, decide_eq_true (by omega), cond_true, hin, cond_true, hget, ho, cond_true]
 cases decide ((15 : Int) < p[i].fDst) <;> rfl
theorem doc_one {p : List Instr} {i : Nat} (hi : i < p.length) (hl : i + 1 = p.length) (hp : p.length ≤ 100000) {acc : List Int} {s : ByteArray} {rl : List Int → Int → Option (List Int ⊕ ByteArray)} (ho : fn23 p[i] = false)
  (h31 : fn31 300000 tabD p[i] = some s) (hs : s.size ≤ 120) (ha : acc.length ≤ 5000000) :
  fn13_b1 300000 p tabD rl acc (i : Int) = rl (acc ++ bytesZ s ++ [10]) ((i + 1 : Nat) : Int) := by
 have hin : inb (i : Int) p.length = true := inb_iff.2 ⟨by omega, by omega⟩
 have hget : gt p (i : Int) = p[i] := by simp [gt, hi]
 have hw : IntKind.i64.wrap ((i : Int) + 1) = ((i + 1 : Nat) : Int) := by rw [w64 (by omega)]; omega
 replace ho : (decide ((15 : Int) < p[i].fDst) || decide ((15 : Int) < p[i].fSrc)) = false := ho
 obtain ⟨o1, o2⟩ := Bool.or_eq_false_iff.1 ho
 obtain ⟨b1, b2⟩ := bz_ok ha hs
 rw [fn13_b1, decide_eq_true (by omega), cond_true, hin, cond_true, hget, ho, o1, cond_false, cond_true, cond_false, hw, decide_eq_false (by omega), cond_false, eq_nil, cond_false, h31, Option.bind_some, b1, cond_true, b2, cond_true]
theorem doc_two {p : List Instr} {i : Nat} (hi : i < p.length) (hl : i + 1 < p.length) (hp : p.length ≤ 100000) {acc : List Int} {s : ByteArray} {two : Bool} {rl : List Int → Int → Option (List Int ⊕ ByteArray)} (ho : fn23 p[i] = false)
  (h : (two = true ∧ fn30 p[i] p[i + 1] = some s ∧ 0 < s.size) ∨ (two = false ∧ fn30 p[i] p[i + 1] = some ⟨#[]⟩ ∧ fn31 300000 tabD p[i] = some s)) (hs : s.size ≤ 120) (ha : acc.length ≤ 5000000) :
  fn13_b1 300000 p tabD rl acc (i : Int) = rl (acc ++ bytesZ s ++ [10]) ((bif two then i + 2 else i + 1 : Nat) : Int) := by
 have hin : inb (i : Int) p.length = true := inb_iff.2 ⟨by omega, by omega⟩
 have hin2 : inb ((i + 1 : Nat) : Int) p.length = true := inb_iff.2 ⟨by omega, by omega⟩
 have hget : gt p (i : Int) = p[i] := by simp [gt, hi]
 have hget2 : gt p ((i + 1 : Nat) : Int) = p[i + 1] := by
  show p.getD ((i + 1 : Nat) : Int).toNat _ = _
  rw [Int.toNat_natCast]; simp [hl]
 have hw : IntKind.i64.wrap ((i : Int) + 1) = ((i + 1 : Nat) : Int) := by rw [w64 (by omega)]; omega
 have hw2 : IntKind.i64.wrap (((i + 1 : Nat) : Int) + 1) = ((i + 2 : Nat) : Int) := by rw [w64 (by omega)]; omega
 replace ho : (decide ((15 : Int) < p[i].fDst) || decide ((15 : Int) < p[i].fSrc)) = false := ho
 obtain ⟨o1, o2⟩ := Bool.or_eq_false_iff.1 ho
 obtain ⟨b1, b2⟩ := bz_ok ha hs
 rw [fn13_b1, decide_eq_true (by omega), cond_true, hin, cond_true, hget, ho, o1, cond_false, cond_true, cond_false, hw, decide_eq_true (by omega), cond_true, hin2, cond_true, hget2]
 rcases h with ⟨rfl, h30, hpos⟩ | ⟨rfl, h30, h31⟩
 ·rw [h30, Option.bind_some, ne_nil hpos, cond_true, b1, cond_true, b2, cond_true, hw2]; rfl
 ·rw [h30, Option.bind_some, eq_nil, cond_false, h31, Option.bind_some, b1, cond_true, b2, cond_true]; rfl
end Go.Proofs.YtfjefnnbodgfbaaGreatDoor
namespace Go.Proofs.YtfjefnnbodgfbaaGreatDoor
open Go Go.HW
set_option linter.unusedVariables false
set_option maxRecDepth 100000
theorem bz_app (b s : ByteArray) : bytesZ (b ++ s) = bytesZ b ++ bytesZ s := by simp [bytesZ, ByteArray.data_append]
theorem bz_line (b s : ByteArray) : bytesZ (b ++ (s ++ (⟨#[10]⟩ : ByteArray))) = bytesZ b ++ bytesZ s ++ [10] := by
 rw [bz_app, bz_app, bytes_nl, List.append_assoc]
theorem sz_line (b s : ByteArray) : (b ++ (s ++ (⟨#[10]⟩ : ByteArray))).size = b.size + s.size + 1 := by
 rw [ByteArray.size_append, ByteArray.size_append]; show _ + (_ + 1) = _; omega
theorem both_loop {p : List Instr} (hp : p.length ≤ 2000) (hr : ∀ x ∈ p, Rng x) (hn : p.any fn23 = false) :
  ∀ (n i : Nat) (b : ByteArray) (F G : Nat), p.length - i ≤ n → i ≤ p.length → n < F → n < G → b.size + 121 * n ≤ 4000000 →
   ∃ s, (fn12_l1 300000 tabP F b (p.drop i) = some s ∧ fn13_l1 300000 p tabD G (bytesZ b) (i : Int) = some (.inl (bytesZ s))) ∧ s.size ≤ b.size + 121 * n := by
 have hodd : ∀ {i : Nat} (h : i < p.length), fn23 p[i] = false := fun h => by
  have := List.any_eq_false.1 hn _ (List.getElem_mem h)
  simpa using this
 intro n
 induction n using Nat.strongRecOn with
 | _ n ih =>
  intro i b F G hni hi hF hG hb
  obtain ⟨F, rfl⟩ : ∃ k, F = k + 1 := ⟨F - 1, by omega⟩
  obtain ⟨G, rfl⟩ : ∃ k, G = k + 1 := ⟨G - 1, by omega⟩
  rcases Nat.lt_or_ge i p.length with hlt | hge
  ·have hx := hr _ (List.getElem_mem hlt)
   have ha : (bytesZ b).length ≤ 5000000 := by rw [bytesZ_len]; omega
   rcases Nat.lt_or_ge (i + 1) p.length with h2 | h2
   ·have hy := hr _ (List.getElem_mem h2)
    obtain ⟨ws, s, two, e1, e2, e3⟩ := step_two hx hy
    have hs : s.size ≤ 120 := by
     rcases e3 with ⟨_, h30, _⟩ | ⟨_, _, h31⟩
     ·exact pair_size hx hy h30
     ·exact one_size hx h31
    have hd : p.drop i = p[i] :: p[i + 1] :: p.drop (i + 2) := by rw [List.drop_eq_getElem_cons hlt, List.drop_eq_getElem_cons h2]
    have hd1 : p.drop (i + 1) = p[i + 1] :: p.drop (i + 2) := List.drop_eq_getElem_cons h2
    rw [fn12_l1_s, fn13_l1_s, hd, prog_two e1 e2 hs (by omega), doc_two hlt h2 (by omega) (hodd hlt) e3 hs ha, ← bz_line]
    cases two with
    | true =>
     obtain ⟨s', q1, q2⟩ := ih (n - 1) (by omega) (i + 2) (b ++ (s ++ (⟨#[10]⟩ : ByteArray))) F G (by omega) (by omega) (by omega) (by omega) (by rw [sz_line]; omega)
     rw [sz_line] at q2
     exact ⟨s', q1, by omega⟩
    | false =>
     rw [cond_false, cond_false, ← hd1]
     obtain ⟨s', q1, q2⟩ := ih (n - 1) (by omega) (i + 1) (b ++ (s ++ (⟨#[10]⟩ : ByteArray))) F G (by omega) (by omega) (by omega) (by omega) (by rw [sz_line]; omega)
     rw [sz_line] at q2
     exact ⟨s', q1, by omega⟩
   ·obtain ⟨ws, s, e1, e2, e3⟩ := step_last (y := ⟨0, 0, 0, 0, 0⟩) hx
    have hs := one_size hx e2
    have hd : p.drop i = [p[i]] := by rw [List.drop_eq_getElem_cons hlt, List.drop_eq_nil_of_le h2]
    have hd1 : p.drop (i + 1) = [] := List.drop_eq_nil_of_le h2
    rw [fn12_l1_s, fn13_l1_s, hd, prog_one e1 e3 hs (by omega), doc_one hlt (by omega) (by omega) (hodd hlt) e2 hs ha, ← bz_line, ← hd1]
    obtain ⟨s', q1, q2⟩ := ih (n - 1) (by omega) (i + 1) (b ++ (s ++ (⟨#[10]⟩ : ByteArray))) F G (by omega) (by omega) (by omega) (by omega) (by rw [sz_line]; omega)
    rw [sz_line] at q2
    exact ⟨s', q1, by omega⟩
  ·refine ⟨b, ⟨?_, ?_⟩, by omega⟩
   ·rw [List.drop_eq_nil_of_le hge, fn12_l1_s]; rfl
   ·rw [fn13_l1_s, fn13_b1, decide_eq_false (by omega), cond_false]
theorem pair_even {x y : Instr} (hx : Rng x) (hy : Rng y) {s : ByteArray} (h : fn30 x y = some s) (hpos : 0 < s.size) : fn23 y = false := by
 rw [two_ok hx hy] at h
 unfold fn23
 by_cases h1 : (y.fDst = 0 ∧ y.fSrc = 0)
 ·rw [h1.1, h1.2]; rfl
 ·have a1 : decide (y.fOp = 0 ∧ y.fDst = 0 ∧ y.fSrc = 0 ∧ y.fOff = 0) = false := decide_eq_false fun q => h1 ⟨q.2.1, q.2.2.1⟩
  have a2 : decide (y.fOp = 0 ∧ y.fDst = 0 ∧ y.fSrc = 0 ∧ y.fOff = 0 ∧ y.fImm = 0) = false := decide_eq_false fun q => h1 ⟨q.2.1, q.2.2.1⟩
  simp only [a1, a2, Bool.and_false, cond_false] at h
  have : s = ⟨#[]⟩ := (Option.some.inj h).symm
  rw [this] at hpos; exact absurd hpos (by decide)
theorem odd_doc {p : List Instr} (hp : p.length ≤ 2000) (hr : ∀ x ∈ p, Rng x) :
  ∀ (n i : Nat) (acc : List Int) (G : Nat), p.length - i ≤ n → (p.drop i).any fn23 = true → n < G → acc.length + 121 * n ≤ 4000000 →
   fn13_l1 300000 p tabD G acc (i : Int) = some (.inr ⟨#[]⟩) := by
 intro n
 induction n using Nat.strongRecOn with
 | _ n ih =>
  intro i acc G hni hany hG hb
  obtain ⟨G, rfl⟩ : ∃ k, G = k + 1 := ⟨G - 1, by omega⟩
  have hlt : i < p.length := by
   rcases Nat.lt_or_ge i p.length with h | h
   ·exact h
   ·rw [List.drop_eq_nil_of_le h] at hany; cases hany
  have hx := hr _ (List.getElem_mem hlt)
  rw [fn13_l1_s]
  cases ho : fn23 p[i] with
  | true => exact doc_odd hlt ho
  | false =>
   have hd : p.drop i = p[i] :: p.drop (i + 1) := List.drop_eq_getElem_cons hlt
   rw [hd, List.any_cons, ho, Bool.false_or] at hany
   have h2 : i + 1 < p.length := by
    rcases Nat.lt_or_ge (i + 1) p.length with h | h
    ·exact h
    ·rw [List.drop_eq_nil_of_le h] at hany; cases hany
   have hy := hr _ (List.getElem_mem h2)
   obtain ⟨ws, s, two, e1, e2, e3⟩ := step_two hx hy
   have hs : s.size ≤ 120 := by
    rcases e3 with ⟨_, h30, _⟩ | ⟨_, _, h31⟩
    ·exact pair_size hx hy h30
    ·exact one_size hx h31
   rw [doc_two hlt h2 (by omega) ho e3 hs (by omega)]
   have hl : (acc ++ bytesZ s ++ [10]).length = acc.length + s.size + 1 := by rw [List.length_append, List.length_append, bytesZ_len]; rfl
   rcases e3 with ⟨rfl, h30, hpos⟩ | ⟨rfl, h30, h31⟩
   ·have hev := pair_even hx hy h30 hpos
    rw [List.drop_eq_getElem_cons h2, List.any_cons, hev, Bool.false_or] at hany
    exact ih (n - 1) (by omega) (i + 2) _ G (by omega) hany (by omega) (by rw [hl]; omega)
   ·exact ih (n - 1) (by omega) (i + 1) _ G (by omega) hany (by omega) (by rw [hl]; omega)
theorem text_ok {p : List Instr} (hp : p.length ≤ 2000) (hr : ∀ x ∈ p, Rng x) : ∃ s, fn12 300000 p = some s ∧ fn13 300000 p = some s ∧ s.size ≤ 121 * p.length := by
 have g : decide ((4096 : Int) < (p.length : Int)) = false := decide_eq_false (by omega)
 unfold fn12 fn13
 rw [g, cond_false, cond_true, odd_ok p (by omega), Option.bind_some, Bool.false_or, cond_false, tabD_ok, Option.bind_some]
 cases hn : p.any fn23 with
 | true =>
  have h := odd_doc (by omega) hr p.length 0 [] 300000 (by omega) (by rw [List.drop_zero]; exact hn) (by omega) (by simp only [List.length_nil]; omega)
  rw [show ((0 : Nat) : Int) = 0 from rfl] at h
  rw [h]
  exact ⟨_, rfl, rfl, Nat.zero_le _⟩
 | false =>
  obtain ⟨s, ⟨h1, h2⟩, h3⟩ := both_loop (by omega) hr hn p.length 0 ⟨#[]⟩ 300000 300000 (by omega) (by omega) (by omega) (by omega) (by show 0 + 121 * p.length ≤ 4000000; omega)
  rw [show ((0 : Nat) : Int) = 0 from rfl, show bytesZ ⟨#[]⟩ = [] from rfl] at h2
  rw [List.drop_zero] at h1
  rw [cond_false, tabP_ok, Option.bind_some, h1, h2]
  refine ⟨s, rfl, ?_, by have e : (⟨#[]⟩ : ByteArray).size = 0 := rfl; rw [e] at h3; omega⟩
  show some (strOfNums (bytesZ s)) = _
  rw [strOf_bytes]
end Go.Proofs.YtfjefnnbodgfbaaGreatDoor
namespace Go.Proofs.YtfjefnnbodgfbaaGreatDoor
open Go Go.HW
set_option linter.unusedVariables false
set_option maxRecDepth 100000
theorem lens_le {B : Nat} : ∀ (v : List ByteArray), (∀ w ∈ v, w.size ≤ B) → Lib.lens (v.map (·.data.toList)) ≤ v.length * B
 | [], _ => Nat.zero_le _
 | x :: v, h => by
  have h1 := h x (by simp)
  have h2 := lens_le v fun w hw => h w (by simp [hw])
  have e : x.data.toList.length = x.size := by simp
  simp only [List.map_cons, Lib.lens, List.length_cons, Nat.succ_mul, List.sum_cons] at *
  omega
theorem join_le {v : List ByteArray} {B : Nat} (h : ∀ w ∈ v, w.size ≤ B) : (Lib.join (v.map (·.data.toList)) [32]).length ≤ v.length * (B + 1) := by
 cases v with
 | nil => rw [List.map_nil, Lib.join_nil]; exact Nat.zero_le _
 | cons x v =>
  have hl := lens_le (x :: v) h
  rw [List.map_cons] at hl
  rw [List.map_cons, Lib.join_length, List.length_map]
  rw [List.length_cons] at hl ⊢
  rw [Nat.mul_add]
  simp only [List.length_cons, List.length_nil]
  omega
theorem fn19_len {v : List ByteArray} (h1 : v.length ≤ 100) (h2 : ∀ w ∈ v, w.size ≤ 300) : ∃ r, fn19 v (⟨#[32]⟩ : ByteArray) = some r ∧ r.size ≤ 40000 := by
 have hj := join_le h2
 have hm : v.length * (300 + 1) ≤ 100 * 301 := Nat.mul_le_mul_right _ h1
 refine ⟨⟨(Lib.join (v.map (·.data.toList)) [32]).toArray⟩, ?_, ?_⟩
 ·unfold fn19
  rw [decide_eq_true (show v.length ≤ 140737488355328 by omega), decide_eq_true (show (Lib.join (v.map (·.data.toList)) (⟨#[32]⟩ : ByteArray).data.toList).length ≤ 140737488355328 from (by show (Lib.join (v.map (·.data.toList)) [32]).length ≤ _; omega))]
  rfl
 ·show (mkB _).size ≤ _
  rw [mkB_size]; omega
def Sml (xs : List ByteArray) : Prop := ∀ x ∈ xs, x.size ≤ 40000
theorem Sml.snoc {xs : List ByteArray} {x : ByteArray} (h : Sml xs) (hx : x.size ≤ 40000) : Sml (xs ++ [x]) := fun y hy => by
 rcases List.mem_append.1 hy with hy | hy
 ·exact h y hy
 ·rw [List.mem_singleton] at hy; rw [hy]; exact hx
theorem num_l3 {v1 v : List ByteArray} {x : Nat} (h1 : v1.length ≤ 300) (h2 : ∀ w ∈ v1, w.size ≤ 300) (h3 : v.length ≤ 100) (h4 : ∀ w ∈ v, w.size ≤ 300) (hx : x < v.length) :
  ∀ (n i F : Nat) (xs : List ByteArray), v1.length - i = n → i ≤ v1.length → n < F → Sml xs → xs.length + n ≤ 100000 →
   ∃ ys, fn8_l3 v1 v (x : Int) F xs (i : Int) = some ys ∧ Sml ys ∧ ys.length = xs.length + n := by
 intro n
 induction n with
 | zero =>
  intro i F xs hn hi hF hs hl
  obtain ⟨F, rfl⟩ : ∃ n, F = n + 1 := ⟨F - 1, by omega⟩
  exact ⟨xs, by rw [fn8_l3_s, fn8_b3, decide_eq_false (by omega), cond_false], hs, rfl⟩
 | succ n ih =>
  intro i F xs hn hi hF hs hl
  obtain ⟨F, rfl⟩ : ∃ n, F = n + 1 := ⟨F - 1, by omega⟩
  have hlt : i < v1.length := by omega
  have hin : inb (i : Int) v1.length = true := by simp [inb]; omega
  have hinx : inb (x : Int) (([] : List ByteArray) ++ v).length = true := inb_iff.2 ⟨by omega, by rw [List.nil_append]; omega⟩
  have hget : gt v1 (i : Int) = v1[i] := by simp [gt, hlt]
  have hw : IntKind.i64.wrap ((i : Int) + 1) = ((i + 1 : Nat) : Int) := by rw [w64' (by omega)]; omega
  obtain ⟨r, e1, e2⟩ := fn19_len (v := (([] : List ByteArray) ++ v).set (x : Int).toNat v1[i]) (by rw [List.length_set, List.nil_append]; exact h3) (fun w hw => by
   rcases List.mem_or_eq_of_mem_set hw with hw | hw
   ·rw [List.nil_append] at hw; exact h4 w hw
   ·rw [hw]; exact h2 _ (List.getElem_mem hlt))
  obtain ⟨ys, q1, q2, q3⟩ := ih (i + 1) F (xs ++ [r]) (by omega) (by omega) (by omega) (hs.snoc e2) (by rw [List.length_append, List.length_cons, List.length_nil]; omega)
  refine ⟨ys, ?_, q2, by rw [q3, List.length_append, List.length_cons, List.length_nil]; omega⟩
  rw [fn8_l3_s, fn8_b3, decide_eq_true (by omega), cond_true, decide_eq_true (by simp only [List.length_nil]; omega), cond_true, hin, cond_true, hinx, cond_true, hget, e1, Option.bind_some, decide_eq_true (by simp only [List.length_cons, List.length_nil]; omega), cond_true, hw]
  exact q1
theorem num_l2 {v1 v : List ByteArray} (h1 : v1.length ≤ 300) (h2 : ∀ w ∈ v1, w.size ≤ 300) (h3 : v.length ≤ 100) (h4 : ∀ w ∈ v, w.size ≤ 300) :
  ∀ (n i F : Nat) (xs : List ByteArray), v.length - i = n → i ≤ v.length → n < F → Sml xs → xs.length + 301 * n ≤ 50000 →
   ∃ ys, fn8_l2 300000 v1 v F xs (i : Int) = some ys ∧ Sml ys ∧ ys.length ≤ 50000 := by
 intro n
 induction n with
 | zero =>
  intro i F xs hn hi hF hs hl
  obtain ⟨F, rfl⟩ : ∃ n, F = n + 1 := ⟨F - 1, by omega⟩
  exact ⟨xs, by rw [fn8_l2_s, fn8_b2, decide_eq_false (by omega), cond_false], hs, by omega⟩
 | succ n ih =>
  intro i F xs hn hi hF hs hl
  obtain ⟨F, rfl⟩ : ∃ n, F = n + 1 := ⟨F - 1, by omega⟩
  have hw : IntKind.i64.wrap ((i : Int) + 1) = ((i + 1 : Nat) : Int) := by rw [w64' (by omega)]; omega
  have hk : sliceOk ((0 : Nat) : Int) (i : Int) v.length = true := sliceOk_iff.2 ⟨by omega, by omega, by omega⟩
  have hsub : ∀ w ∈ cutX v (((0 : Nat) : Int).toNat) (((0 : Nat) : Int).toNat + ((i : Int).toNat - ((0 : Nat) : Int).toNat)), w ∈ v := fun w hw => List.mem_of_mem_take (List.mem_of_mem_drop hw)
  obtain ⟨r, e1, e2⟩ := fn19_len (v := cutX v (((0 : Nat) : Int).toNat) (((0 : Nat) : Int).toNat + ((i : Int).toNat - ((0 : Nat) : Int).toNat))) (by
   unfold cutX
   rw [List.length_drop, List.length_take]; omega) (fun w hw => h4 w (hsub w hw))
  obtain ⟨ys, q1, q2, q3⟩ := num_l3 (x := i) h1 h2 h3 h4 (by omega) v1.length 0 300000 (xs ++ [r]) (by omega) (by omega) (by omega) (hs.snoc e2) (by rw [List.length_append, List.length_cons, List.length_nil]; omega)
  rw [List.length_append, List.length_cons, List.length_nil] at q3
  rw [show ((0 : Nat) : Int) = 0 from rfl] at q1
  rw [fn8_l2_s, fn8_b2, decide_eq_true (by omega), cond_true, hk, cond_true, e1, Option.bind_some, decide_eq_true (by simp only [List.length_cons, List.length_nil]; omega), cond_true, q1, Option.bind_some]
  show ∃ zs, fn8_l2 300000 v1 v F ys (IntKind.i64.wrap ((i : Int) + 1)) = some zs ∧ Sml zs ∧ zs.length ≤ 50000
  rw [hw]
  exact ih (i + 1) F ys (by omega) (by omega) (by omega) q2 (by omega)
theorem num_l4 {xs : List ByteArray} (hs : Sml xs) (hl : xs.length ≤ 50000) : ∀ (n i F : Nat), xs.length - i = n → i ≤ xs.length → n < F → fn8_l4 300000 xs F (i : Int) = some (.inl ()) := by
 intro n
 induction n with
 | zero =>
  intro i F hn hi hF
  obtain ⟨F, rfl⟩ : ∃ n, F = n + 1 := ⟨F - 1, by omega⟩
  rw [fn8_l4_s, fn8_b4, decide_eq_false (by omega), cond_false]
 | succ n ih =>
  intro i F hn hi hF
  obtain ⟨F, rfl⟩ : ∃ n, F = n + 1 := ⟨F - 1, by omega⟩
  have hlt : i < xs.length := by omega
  have hin : inb (i : Int) xs.length = true := by simp [inb]; omega
  have hget : gt xs (i : Int) = xs[i] := by simp [gt, hlt]
  have hw : IntKind.i64.wrap ((i : Int) + 1) = ((i + 1 : Nat) : Int) := by rw [w64' (by omega)]; omega
  have hz := hs _ (List.getElem_mem hlt)
  have z1 : (⟨#[101, 120, 105, 116, 10, 10]⟩ : ByteArray).size = 6 := rfl
  have z2 : (⟨#[10, 101, 120, 105, 116]⟩ : ByteArray).size = 5 := rfl
  rw [fn8_l4_s, fn8_b4, decide_eq_true (by omega), cond_true, hin, cond_true, hget, fn9_ok tabP_ok tabD_ok (by omega) (by omega) (by omega), Option.bind_some, Bool.not_true, cond_false, hw]
  cases ((i : Int).tmod 7) == 0 with
  | false => rw [cond_false]; exact ih (i + 1) F (by omega) (by omega) (by omega)
  | true =>
   rw [cond_true, decide_eq_true (by omega), cond_true, decide_eq_true (by rw [ByteArray.size_append]; omega), cond_true, fn9_ok (s := ((⟨#[101, 120, 105, 116, 10, 10]⟩ : ByteArray) ++ xs[i]) ++ (⟨#[10, 101, 120, 105, 116]⟩ : ByteArray)) tabP_ok tabD_ok (by rw [ByteArray.size_append, ByteArray.size_append]; omega) (by rw [ByteArray.size_append, ByteArray.size_append]; omega) (by omega), Option.bind_some, Bool.not_true, cond_false]
   exact ih (i + 1) F (by omega) (by omega) (by omega)
def LL : List ByteArray := [str_5, str_6, str_7, str_8, str_9, (⟨#[110, 101, 103, 32, 114, 49]⟩ : ByteArray), str_10, str_11, str_12, (⟨#[106, 97, 32, 45, 51]⟩ : ByteArray), str_13, str_14, str_15, (⟨#[99, 97, 108, 108, 32, 49]⟩ : ByteArray), (⟨#[101, 120, 105, 116]⟩ : ByteArray), str_16, str_17, str_18, str_19, str_20, str_21, str_22]
theorem LL_ok : LL.all (fun s => decide (s.size ≤ 60) && s.data.toList.all fun b => decide (b.toNat < 128)) = true := by decide +kernel
theorem LL_len : LL.length = 22 := rfl
theorem up_len (l : List UInt8) : (Lib.toUpperA l).length = l.length := by simp [Lib.toUpperA]
theorem num_b1 {v1 : List ByteArray} (h1 : v1.length ≤ 300) (h2 : ∀ w ∈ v1, w.size ≤ 300) {rl : Int → Option (Unit ⊕ Bool)} {x : Nat} (hx : x < 22) : fn8_b1 300000 v1 rl (x : Int) = rl ((x + 1 : Nat) : Int) := by
 have hlt : x < LL.length := hx
 have hin : inb (x : Int) 22 = true := inb_iff.2 ⟨by omega, by omega⟩
 have hget : gt LL (x : Int) = LL[x] := by simp [gt, hlt]
 have hall := List.all_eq_true.1 LL_ok _ (List.getElem_mem hlt)
 simp only [Bool.and_eq_true, decide_eq_true_eq] at hall
 obtain ⟨hz, ha⟩ := hall
 unfold fn8_b1
 rw [show ([str_5, str_6, str_7, str_8, str_9, (⟨#[110, 101, 103, 32, 114, 49]⟩ : ByteArray), str_10, str_11, str_12, (⟨#[106, 97, 32, 45, 51]⟩ : ByteArray), str_13, str_14, str_15, (⟨#[99, 97, 108, 108, 32, 49]⟩ : ByteArray), (⟨#[101, 120, 105, 116]⟩ : ByteArray), str_16, str_17, str_18, str_19, str_20, str_21, str_22] : List ByteArray) = LL from rfl, LL_len, hget]
 generalize LL[x] = s at hz ha
 have e1 : (⟨#[32]⟩ : ByteArray).size = 1 := rfl
 have e2 : (⟨#[32, 49]⟩ : ByteArray).size = 2 := rfl
 have e3 : (⟨#[10, 10]⟩ : ByteArray).size = 2 := rfl
 have e4 : (⟨#[119]⟩ : ByteArray).size = 1 := rfl
 have hup : fn18 s = some (mkB (Lib.toUpperA s.data.toList)) := by
  unfold fn18
  rw [decide_eq_true (by omega), Bool.true_and, ha]; rfl
 have huz : (mkB (Lib.toUpperA s.data.toList)).size ≤ 60 := by
  rw [mkB_size, up_len]
  have : s.data.toList.length = s.size := by simp
  omega
 cases hp : parts 32 s with
 | nil => exact absurd hp (parts_ne _ _)
 | cons w ws =>
  have hpz : ∀ y ∈ w :: ws, y.size ≤ 60 := fun y hy => by
   have := parts_size (c := 32) (s := s) (w := y) (by rw [hp]; exact hy)
   omega
  have hpl : (w :: ws).length ≤ 61 := by have := parts_len 32 s; rw [hp] at this; omega
  have hwz := hpz w (by simp)
  have hws : w.size ≤ s.size := parts_size (c := 32) (by rw [hp]; simp)
  have hin0 : inb 0 (w :: ws).length = true := inb_iff.2 ⟨by omega, by simp only [List.length_cons]; omega⟩
  have hk : sliceOk (w.size : Int) ((s.size : Nat) : Int) s.size = true := sliceOk_iff.2 ⟨by omega, by omega, by omega⟩
  have hez : (s.extract (w.size : Int).toNat ((s.size : Nat) : Int).toNat).size ≤ 60 := by
   rw [← bL_len, bL_ext, List.length_take, List.length_drop, bL_len]; omega
  have hg0 : gt (w :: ws) 0 = w := rfl
  rw [decide_eq_true (show (x : Int) < ((22 : Nat) : Int) by omega), cond_true, hin, cond_true, fn17_sp (by omega), hp, Option.bind_some, hup, hin0, hg0, hk, e1, e2, e3, e4]
  rw [decide_eq_true (show s.size + 1 ≤ 9223372036854775807 by omega), decide_eq_true (show 1 + s.size ≤ 9223372036854775807 by omega), decide_eq_true (show s.size + 2 ≤ 9223372036854775807 by omega), decide_eq_true (show (s ++ (⟨#[10, 10]⟩ : ByteArray)).size + s.size ≤ 9223372036854775807 by rw [ByteArray.size_append]; omega),
   decide_eq_true (show w.size + 1 ≤ 9223372036854775807 by omega), decide_eq_true (show (w ++ (⟨#[119]⟩ : ByteArray)).size + (s.extract (w.size : Int).toNat ((s.size : Nat) : Int).toNat).size ≤ 9223372036854775807 by rw [ByteArray.size_append]; omega)]
  simp only [cond_true, Option.bind_some]
  have hb : Sml [s, s ++ (⟨#[32]⟩ : ByteArray), (⟨#[32]⟩ : ByteArray) ++ s, s ++ (⟨#[32, 49]⟩ : ByteArray), (s ++ (⟨#[10, 10]⟩ : ByteArray)) ++ s, mkB (Lib.toUpperA s.data.toList), s ++ (⟨#[119]⟩ : ByteArray), (w ++ (⟨#[119]⟩ : ByteArray)) ++ (s.extract (w.size : Int).toNat ((s.size : Nat) : Int).toNat)] := by
   intro y hy
   simp only [List.mem_cons, List.not_mem_nil, or_false] at hy
   rcases hy with rfl | rfl | rfl | rfl | rfl | rfl | rfl | rfl <;> (try simp only [ByteArray.size_append, e1, e2, e3, e4]) <;> omega
  obtain ⟨ys, q1, q2, q3⟩ := num_l2 (v := w :: ws) (by omega) h2 (by omega) (fun y hy => by have := hpz y hy; omega) (w :: ws).length 0 300000 _ (by omega) (by omega) (by omega) hb (by show 8 + _ ≤ _; omega)
  have hl4 := num_l4 q2 q3 ys.length 0 300000 (by omega) (by omega) (by omega)
  rw [show ((0 : Nat) : Int) = 0 from rfl] at q1 hl4
  rw [q1, Option.bind_some]
  unfold fn8_k2
  rw [hl4]
  show rl (IntKind.i64.wrap ((x : Int) + 1)) = _
  rw [w64' (by omega)]; rfl
theorem num_l1 {v1 : List ByteArray} (h1 : v1.length ≤ 300) (h2 : ∀ w ∈ v1, w.size ≤ 300) : ∀ (n x F : Nat), 22 - x = n → x ≤ 22 → n < F → fn8_l1 300000 v1 F (x : Int) = some (.inl ()) := by
 intro n
 induction n with
 | zero =>
  intro x F hn hx hF
  obtain ⟨F, rfl⟩ : ∃ n, F = n + 1 := ⟨F - 1, by omega⟩
  rw [fn8_l1_s, fn8_b1]
  rw [show (([str_5, str_6, str_7, str_8, str_9, (⟨#[110, 101, 103, 32, 114, 49]⟩ : ByteArray), str_10, str_11, str_12, (⟨#[106, 97, 32, 45, 51]⟩ : ByteArray), str_13, str_14, str_15, (⟨#[99, 97, 108, 108, 32, 49]⟩ : ByteArray), (⟨#[101, 120, 105, 116]⟩ : ByteArray), str_16, str_17, str_18, str_19, str_20, str_21, str_22] : List ByteArray).length : Int) = 22 from rfl, decide_eq_false (by omega), cond_false]
 | succ n ih =>
  intro x F hn hx hF
  obtain ⟨F, rfl⟩ : ∃ n, F = n + 1 := ⟨F - 1, by omega⟩
  rw [fn8_l1_s, num_b1 h1 h2 (by omega)]
  exact ih (x + 1) F (by omega) (by omega) (by omega)
end Go.Proofs.YtfjefnnbodgfbaaGreatDoor
namespace Go.Proofs.YtfjefnnbodgfbaaGreatDoor
open Go Go.HW
set_option linter.unusedVariables false
set_option maxRecDepth 100000
theorem spl_app (c : UInt8) : ∀ a b : List UInt8, spl c (a ++ c :: b) = spl c a ++ spl c b
 | [], b => by
  show (bif c == c then [] :: spl c b else _) = _
  rw [beq_self_eq_true]; rfl
 | x :: a, b => by
  rw [List.cons_append, spl, spl, spl_app c a b]
  cases x == c with
  | true => rfl
  | false =>
   rw [cond_false, cond_false]
   cases hs : spl c a with
   | nil => exact absurd hs (spl_ne c a)
   | cons y r => rfl
theorem bL_app (a b : ByteArray) : bL (a ++ b) = bL a ++ bL b := by simp [bL, ByteArray.data_append]
theorem frk1_some {α γ : Type} (a : α) (f : α → Option γ) : frk1 (some a) f = f a := rfl
end Go.Proofs.YtfjefnnbodgfbaaGreatDoor
namespace Go.Proofs.YtfjefnnbodgfbaaGreatDoor
open Go Go.HW
set_option linter.unusedVariables false
set_option maxRecDepth 100000
theorem spl_no {c : UInt8} : ∀ {a : List UInt8}, c ∉ a → spl c a = [a]
 | [], _ => rfl
 | b :: a, h => by
  have hb : (b == c) = false := beq_eq_false_iff_ne.2 fun e => h (by rw [e]; simp)
  rw [spl, hb, cond_false, spl_no fun e => h (List.mem_cons_of_mem _ e)]
theorem spl_cut {c : UInt8} {a b : List UInt8} (h : c ∉ a) : spl c (a ++ c :: b) = a :: spl c b := by
 rw [spl_app, spl_no h]; rfl
end Go.Proofs.YtfjefnnbodgfbaaGreatDoor
namespace Go.Proofs.YtfjefnnbodgfbaaGreatDoor
open Go Go.HW
set_option linter.unusedVariables false
set_option maxRecDepth 100000
theorem w8t (n : Int) : 0 ≤ IntKind.u8.wrap n ∧ IntKind.u8.wrap n < 256 := by rw [IntKind.wrap_u8]; omega
theorem w16t (n : Int) : -32768 ≤ IntKind.i16.wrap n ∧ IntKind.i16.wrap n < 32768 := by
 simp [IntKind.wrap, IntKind.bits, IntKind.signed]
 split <;> omega
theorem w32t (n : Int) : -2147483648 ≤ IntKind.i32.wrap n ∧ IntKind.i32.wrap n < 2147483648 := by rw [IntKind.wrap_i32]; omega
theorem z0 : (0 : Int) ≤ 0 ∧ (0 : Int) < 256 := by decide
theorem z1 : (0 : Int) ≤ 1 ∧ (1 : Int) < 256 := by decide
theorem z24 : (0 : Int) ≤ 24 ∧ (24 : Int) < 256 := by decide
theorem zO : (-32768 : Int) ≤ 0 ∧ (0 : Int) < 32768 := by decide
theorem num_b5 {rl : Int → Option (Unit ⊕ Bool)} {x : Nat} (hx : x < 256) : fn8_b5 300000 rl (x : Int) = rl ((x + 1 : Nat) : Int) := by
 have key : ∀ X Y : Instr, Rng X → Rng Y → (Option.bind (fn12 300000 [X, Y]) fun a => Option.bind (fn13 300000 [X, Y]) fun b => (bif a.toList != b.toList then some (.inr false) else Option.bind (fn12 300000 [X]) fun c => Option.bind (fn13 300000 [X]) fun d => (bif c.toList != d.toList then some (.inr false) else rl (IntKind.i64.wrap ((x : Int) + 1)) : Option (Unit ⊕ Bool)))) = rl (IntKind.i64.wrap ((x : Int) + 1)) := fun X Y hX hY => by
  obtain ⟨s, t1, t2, _⟩ := text_ok (p := [X, Y]) (show 2 ≤ 2000 by decide) (fun z hz => by
   simp only [List.mem_cons, List.not_mem_nil, or_false] at hz
   rcases hz with rfl | rfl
   ·exact hX
   ·exact hY)
  obtain ⟨s', t1', t2', _⟩ := text_ok (p := [X]) (show 1 ≤ 2000 by decide) (fun z hz => by rw [List.mem_singleton] at hz; rw [hz]; exact hX)
  rw [t1, t2, t1', t2']
  simp only [Option.bind_some]
  rw [neL, neL, decide_eq_true rfl, decide_eq_true rfl]; rfl
 have hw : IntKind.i64.wrap ((x : Int) + 1) = ((x + 1 : Nat) : Int) := by rw [w64' (by omega)]; omega
 unfold fn8_b5
 rw [decide_eq_true (by omega), cond_true, ← hw]
 cases (iand .i64 (x : Int) 32) != 0 with
 | true =>
  rw [cond_true]
  exact key _ _ ⟨z24, w8t _, w8t _, w16t _, w32t _⟩ ⟨w8t _, z0, z1, zO, w32t _⟩
 | false =>
  rw [cond_false]
  exact key _ _ ⟨z24, w8t _, w8t _, w16t _, w32t _⟩ ⟨w8t _, z0, z0, zO, w32t _⟩
theorem num_l5 : ∀ (n x F : Nat), 256 - x = n → x ≤ 256 → n < F → fn8_l5 300000 F (x : Int) = some (.inl ()) := by
 intro n
 induction n with
 | zero =>
  intro x F hn hx hF
  obtain ⟨F, rfl⟩ : ∃ n, F = n + 1 := ⟨F - 1, by omega⟩
  rw [fn8_l5_s, fn8_b5, decide_eq_false (by omega), cond_false]
 | succ n ih =>
  intro x F hn hx hF
  obtain ⟨F, rfl⟩ : ∃ n, F = n + 1 := ⟨F - 1, by omega⟩
  rw [fn8_l5_s, num_b5 (by omega)]
  exact ih (x + 1) F (by omega) (by omega) (by omega)
def exL : List UInt8 := [101, 120, 105, 116]
def exI : Instr := ⟨149, 0, 0, 0, 0⟩
theorem ex_line : lineS (parts 32 (mkB exL)) = some [exI] := by decide +kernel
theorem x_line : lineS (parts 32 (mkB [120])) = none := by decide +kernel
theorem rep_text : ∀ (n : Nat) (t : List UInt8) (acc : List Instr) (i : Nat), textS acc ((spl 10 (Lib.repeatL [101, 120, 105, 116, 10] n ++ t)).map mkB) i = textS (acc ++ List.replicate n exI) ((spl 10 t).map mkB) (i + n)
 | 0, t, acc, i => by rw [List.replicate_zero, List.append_nil]; rfl
 | n + 1, t, acc, i => by
  have e : Lib.repeatL [101, 120, 105, 116, 10] (n + 1) ++ t = exL ++ 10 :: (Lib.repeatL [101, 120, 105, 116, 10] n ++ t) := rfl
  have hne : decide (mkB exL = bE) = false := by decide
  rw [e, spl_cut (by decide), List.map_cons, textS, hne, cond_false, ex_line]
  show textS (acc ++ [exI]) _ (i + 1) = _
  rw [rep_text n t (acc ++ [exI]) (i + 1), List.append_assoc, show [exI] ++ List.replicate n exI = List.replicate (n + 1) exI from rfl, show i + 1 + n = i + (n + 1) by omega]
theorem fn20_ok (s : ByteArray) (n : Nat) (h1 : s.size ≤ 10) (h2 : n ≤ 1000000) : fn20 s (n : Int) = some (mkB (Lib.repeatL (bL s) n)) := by
 have hm : s.size * n ≤ 10 * 1000000 := Nat.mul_le_mul h1 h2
 unfold fn20
 rw [decide_eq_true (by omega), decide_eq_true (by omega), decide_eq_true (by rw [Int.toNat_natCast]; omega)]; rfl
theorem rep_size (l : List UInt8) (n : Nat) : (mkB (Lib.repeatL l n)).size = n * l.length := by rw [mkB_size, Lib.repeatL_length]
def exB : ByteArray := ⟨#[101, 120, 105, 116, 10]⟩
theorem rep_parse (n : Nat) : textS [] (parts 10 (mkB (Lib.repeatL (bL exB) n))) 0 = .inl (List.replicate n exI) := by
 unfold parts
 rw [bL_mkB, show bL exB = [101, 120, 105, 116, 10] from rfl]
 have h := rep_text n [] [] 0
 rw [List.append_nil, List.nil_append] at h
 rw [h]
 show textS _ [bE] _ = _
 rw [textS, decide_eq_true rfl, cond_true, textS]
theorem rep_x (n : Nat) : textS [] (parts 10 (mkB (Lib.repeatL (bL exB) n) ++ (⟨#[120]⟩ : ByteArray))) 0 = .inr (n + 1) := by
 unfold parts
 rw [bL_app, bL_mkB, show bL exB = [101, 120, 105, 116, 10] from rfl, show bL (⟨#[120]⟩ : ByteArray) = [120] from rfl, rep_text n [120] [] 0]
 have hne : decide (mkB [120] = bE) = false := by decide
 show textS _ [mkB [120]] _ = _
 rw [textS, hne, cond_false, x_line, Nat.zero_add]
theorem fn15_long {s : ByteArray} {F : Nat} (h : 262144 < s.size) : fn15 F s = some ([], 0, 3) := by
 unfold fn15
 rw [decide_eq_true (by omega)]; rfl
theorem show_nil : fn12 300000 [] = some (⟨#[]⟩ : ByteArray) := by decide +kernel
theorem show_16 : fn12 300000 [(⟨0, 16, 0, 0, 0⟩ : Instr)] = some (⟨#[]⟩ : ByteArray) := by decide +kernel
theorem show_long : fn12 300000 (List.replicate (4097 : Int).toNat (⟨0, 0, 0, 0, 0⟩ : Instr)) = some (⟨#[]⟩ : ByteArray) := by
 have g : decide ((4096 : Int) < ((List.replicate (4097 : Int).toNat (⟨0, 0, 0, 0, 0⟩ : Instr)).length : Int)) = true := by
  rw [List.length_replicate]; decide
 unfold fn12
 rw [g]; rfl
theorem ka1 : fn20 exB 4097 = some (mkB (Lib.repeatL (bL exB) 4097)) := fn20_ok exB 4097 (by decide) (by decide)
theorem ka2 : fn20 exB 4096 = some (mkB (Lib.repeatL (bL exB) 4096)) := fn20_ok exB 4096 (by decide) (by decide)
def nlB : ByteArray := ⟨#[10]⟩
theorem ka3 : fn20 nlB 262145 = some (mkB (Lib.repeatL (bL nlB) 262145)) := fn20_ok nlB 262145 (by decide) (by decide)
theorem outP_big {n : Nat} (h : 4096 < n) : outS (.inl (List.replicate n exI)) = ([], 0, 3) := by
 rw [outS_l, List.length_replicate, decide_eq_true (by omega), cond_true]
theorem outP_few {n : Nat} (h : n ≤ 4096) : outS (.inl (List.replicate n exI)) = (List.replicate n exI, 0, 0) := by
 rw [outS_l, List.length_replicate, decide_eq_false (by omega), cond_false]
theorem rep_fn15 {n : Nat} (h : n ≤ 10000) : fn15 300000 (mkB (Lib.repeatL (bL exB) n)) = some (outS (.inl (List.replicate n exI))) := by
 have hs := rep_size (bL exB) n
 rw [show (bL exB).length = 5 from rfl] at hs
 rw [fn15_ok tabP_ok (by omega) (by omega) (by omega), parseS, rep_parse]
theorem rep_fn15x {n : Nat} (h : n ≤ 10000) : fn15 300000 (mkB (Lib.repeatL (bL exB) n) ++ (⟨#[120]⟩ : ByteArray)) = some ([], ((n + 1 : Nat) : Int), 25) := by
 have hs := rep_size (bL exB) n
 rw [show (bL exB).length = 5 from rfl] at hs
 have z1 : (⟨#[120]⟩ : ByteArray).size = 1 := rfl
 rw [fn15_ok tabP_ok (by rw [ByteArray.size_append]; omega) (by rw [ByteArray.size_append]; omega) (by omega), parseS, rep_x]; rfl
theorem rep_fn15n {n : Nat} (h : 262144 < n) : fn15 300000 (mkB (Lib.repeatL (bL nlB) n)) = some ([], 0, 3) := by
 have hs := rep_size (bL nlB) n
 rw [show (bL nlB).length = 1 from rfl] at hs
 exact fn15_long (by omega)
theorem rep_z {n : Nat} (h : n ≤ 10000) : (mkB (Lib.repeatL (bL exB) n)).size + (⟨#[120]⟩ : ByteArray).size ≤ 9223372036854775807 := by
 have hs := rep_size (bL exB) n
 rw [show (bL exB).length = 5 from rfl] at hs
 have z1 : (⟨#[120]⟩ : ByteArray).size = 1 := rfl
 omega
theorem kp1 : fn15 300000 (mkB (Lib.repeatL (bL exB) 4097)) = some ([], 0, 3) := by rw [rep_fn15 (by decide), outP_big (by decide)]
theorem kp2 : fn15 300000 (mkB (Lib.repeatL (bL exB) 4097) ++ (⟨#[120]⟩ : ByteArray)) = some ([], 4098, 25) := rep_fn15x (by decide)
theorem kp3 : fn15 300000 (mkB (Lib.repeatL (bL nlB) 262145)) = some ([], 0, 3) := rep_fn15n (by decide)
theorem kp4 : fn15 300000 (mkB (Lib.repeatL (bL exB) 4096)) = some (List.replicate 4096 exI, 0, 0) := by rw [rep_fn15 (by decide), outP_few (by decide)]
theorem k5_gen {f20 : ByteArray → Int → Option ByteArray} {f15 : ByteArray → Option (List Instr × Int × Int)} {f12 : List Instr → Option ByteArray} {f12n : Option ByteArray} {f9 : ByteArray → Option Bool} {f10 : Option Bool} {A B C : ByteArray} {D : List Instr}
  (a1 : f20 (⟨#[101, 120, 105, 116, 10]⟩ : ByteArray) 4097 = some A) (a2 : f20 (⟨#[101, 120, 105, 116, 10]⟩ : ByteArray) 4096 = some C) (a3 : f20 (⟨#[10]⟩ : ByteArray) 262145 = some B) (hz : A.size + (⟨#[120]⟩ : ByteArray).size ≤ 9223372036854775807)
  (p1 : f15 A = some ([], 0, 3)) (p2 : f15 (A ++ (⟨#[120]⟩ : ByteArray)) = some ([], 4098, 25)) (p3 : f15 B = some ([], 0, 3)) (p4 : f15 C = some (D, 0, 0)) (hl : (D.length : Int) = 4096)
  (hsl : f12 (List.replicate (4097 : Int).toNat (⟨0, 0, 0, 0, 0⟩ : Instr)) = some (⟨#[]⟩ : ByteArray)) (h16 : f12 ([(⟨0, 16, 0, 0, 0⟩ : Instr)] : List Instr) = some (⟨#[]⟩ : ByteArray)) (hn : f12n = some (⟨#[]⟩ : ByteArray)) (h9 : f9 (⟨#[]⟩ : ByteArray) = some true) (h10 : f10 = some true) :
  (Option.bind (f20 (⟨#[101, 120, 105, 116, 10]⟩ : ByteArray) 4097) fun v614 => (frk1 (f15 v614) (fun v616 => Option.bind (f20 (⟨#[101, 120, 105, 116, 10]⟩ : ByteArray) 4097) fun v618 => (bif decide (v618.size + (⟨#[120]⟩ : ByteArray).size ≤ 9223372036854775807) then (frk1 (f15 (v618 ++ (⟨#[120]⟩ : ByteArray))) (fun v621 => Option.bind (f20 (⟨#[10]⟩ : ByteArray) 262145) fun v623 => (frk1 (f15 v623) (fun v625 => Option.bind (f20 (⟨#[101, 120, 105, 116, 10]⟩ : ByteArray) 4096) fun v627 => (frk1 (f15 v627) (fun v629 => bif v616.2.1 == 0 then (bif v616.2.2 == 3 then (bif v621.2.1 == 4098 then (bif v621.2.2 == 25 then (bif v625.2.1 == 0 then (bif v625.2.2 == 3 then (bif (v629.1.length : Int) == 4096 then (bif v629.2.2 == 0 then (bif decide ((0 : Int) ≤ 4097) && decide ((4097 : Int) ≤ 4097) && decide ((12 : Int) * 4097 ≤ 281474976710656) && decide ((4097 : Int) ≤ 9223372036854775807) then (Option.bind (f12 (List.replicate (4097 : Int).toNat (⟨0, 0, 0, 0, 0⟩ : Instr))) fun v640 => (bif v640.toList == (⟨#[]⟩ : ByteArray).toList then (Option.bind (f12 ([(⟨0, 16, 0, 0, 0⟩ : Instr)] : List Instr)) fun v643 => (Option.bind (bif bif v643.toList == (⟨#[]⟩ : ByteArray).toList then true else false then f12n else some default) fun v645 => (Option.bind (bif bif (v643.toList == (⟨#[]⟩ : ByteArray).toList) && (v645.toList == (⟨#[]⟩ : ByteArray).toList) then true else false then f9 (⟨#[]⟩ : ByteArray) else some false) fun v647 => (Option.bind (bif bif ((v643.toList == (⟨#[]⟩ : ByteArray).toList) && (v645.toList == (⟨#[]⟩ : ByteArray).toList)) && v647 then true else false then f10 else some false) fun v649 => (some ((((v643.toList == (⟨#[]⟩ : ByteArray).toList) && (v645.toList == (⟨#[]⟩ : ByteArray).toList)) && v647) && v649)))))) else (some (false)))) else none) else (some (false))) else (some (false))) else (some (false))) else (some (false))) else (some (false))) else (some (false))) else (some (false))) else (some (false)))))))) else none)))) = some true := by
 rw [a1, a2, a3]
 simp only [Option.bind_some]
 rw [p1, p3, p4, decide_eq_true hz, frk1_some, cond_true, p2, frk1_some, frk1_some, frk1_some]
 simp only [hl, beq_self_eq_true, cond_true, show (decide ((0 : Int) ≤ 4097) && decide ((4097 : Int) ≤ 4097) && decide ((12 : Int) * 4097 ≤ 281474976710656) && decide ((4097 : Int) ≤ 9223372036854775807)) = true from by decide]
 rw [hsl, Option.bind_some, eqL, decide_eq_true rfl, cond_true, h16, Option.bind_some, eqL, decide_eq_true rfl, cond_true, cond_true, hn, Option.bind_some, eqL, decide_eq_true rfl, h9, h10]
 rfl
theorem num_k5 : fn8_k5 300000 = some true := by
 unfold fn8_k5
 exact k5_gen ka1 ka2 ka3 (rep_z (n := 4097) (by decide)) kp1 kp2 kp3 kp4 (by rw [List.length_replicate]; rfl) show_long show_16 show_nil (fn9_ok tabP_ok tabD_ok (by decide) (by decide) (by decide)) awake_ok
theorem str18_ok : str_23.size ≤ 200 := by decide
theorem bindL {a : Option Bool} {x : Option (Unit ⊕ Bool)} (h : x = some (.inl ())) (h2 : a = some true) : (Option.bind x fun o => (match o with | .inl u => a | .inr u => some u)) = some true := by
 subst h; exact h2
theorem fn17_bar {s : ByteArray} (hs : s.size < 4294967281) : fn17 s (⟨#[124]⟩ : ByteArray) = some (parts 124 s) := by
 show (bif decide (s.size < 4294967281) then _ else none) = _
 rw [decide_eq_true hs]; rfl
theorem num_k1 : fn8_k1 300000 = some true := by
 have h5 := num_l5 256 0 300000 (by omega) (by omega) (by omega)
 rw [show ((0 : Nat) : Int) = 0 from rfl] at h5
 unfold fn8_k1
 exact bindL h5 num_k5
theorem num_main {s : ByteArray} (hs : s.size ≤ 200) {a : Option Bool} (ha : a = some true) : (Option.bind (fn17 s (⟨#[124]⟩ : ByteArray)) fun v1 => (Option.bind (fn8_l1 300000 v1 300000 0) fun o358 => (match o358 with | .inl u => a | .inr u => some u))) = some true := by
 have hl := parts_len 124 s
 have h1 := num_l1 (v1 := parts 124 s) (by omega) (fun w hw => by have := parts_size hw; omega) 22 0 300000 (by omega) (by omega) (by omega)
 rw [show ((0 : Nat) : Int) = 0 from rfl] at h1
 rw [fn17_bar (by omega), Option.bind_some]
 exact bindL h1 ha
theorem asmNumbers_plain : fn8 300000 = some true := by
 unfold fn8
 exact num_main str18_ok num_k1
end Go.Proofs.YtfjefnnbodgfbaaGreatDoor
namespace Go.HW
open Go Go.RowKit Go.ChangeShapes
set_option linter.unusedVariables false
variable {H : Type} {enc : TypeId × Value → H} {P : Program}
theorem post_below {f : Func} {s : ChangeSpec} {apart fresh handsOn : Bool} {W W' : World} {args : Array Value} {v : Value} {ds gs : List (DataW H)} {before pa pv : List MemPlace}
  (hW : DataW.Whole enc P f.params.toList s.vars apart W args.toList ds gs before)
  (hres : ∀ (b : Nat) (sp : Nat → Bool) (hd : Bool), DataW.TrodAll enc P W' b sp hd f.resultTypes.toList (v.resultList f.resultTypes.size) (s.fn H (ds ++ gs)).results [])
  (hargs : ∀ sp : Nat → Bool, (∀ p ∈ before, sp p.block = true) → DataW.TrodAll enc P W' 0 sp true f.params.toList args.toList (s.fn H (ds ++ gs)).args pa)
  (hvars : ∀ sp : Nat → Bool, (∀ p ∈ before, sp p.block = true) → DataW.TrodVars enc P W' sp s.vars (s.fn H (ds ++ gs)).vars pv)
  (hps : before = pa ++ pv) (hk : Below W.heap.size W W') : s.post enc P f apart fresh handsOn false W args v W' := by
 have hold : ∀ p ∈ before, (fun b => decide (b < W.heap.size)) p.block = true := fun p hp => by simpa using hW.lt p hp
 refine ⟨ds, gs, before, [], pa, pv, hW, hres _ _ _, hargs _ hold, hvars _ hold, World.keptBut_mono (fun p hp => ⟨hp, ?_⟩) (hk.frame (· ∈ before)), fun h => by cases h⟩
 rw [hps, List.mem_append] at hp
 exact Or.inr hp
end Go.HW
namespace Go.HW
open Go Go.RowKit Go.ChangeShapes
set_option linter.unusedVariables false
section
variable {H : Type} {enc : TypeId × Value → H} {P : Program} {W W' : World}
theorem TrodAll.stays (hl : laidOutB P = true) {sp : Nat → Bool} (hb : Below W.heap.size W W') : ∀ {ts : List TypeId} {vs : List Value} {ds : List (DataW H)} {ps : List MemPlace}, (ts.all fun t => P.readableRec t && decide (t < P.types.size)) = true →
  DataW.TrodAll enc P W 0 (fun _ => true) true ts vs ds ps → (∀ x ∈ ps, x.block < W.heap.size) → (∀ x ∈ ps, sp x.block = true) → DataW.TrodAll enc P W' 0 sp true ts vs ds ps
 | [], [], [], ps, _, h, _, _ => h
 | t :: ts, v :: vs, d :: ds, ps, hr, h, hlt, hs => by
  obtain ⟨p, q, h1, h2, rfl⟩ := h
  simp only [List.all_cons, Bool.and_eq_true, decide_eq_true_eq] at hr
  obtain ⟨⟨r1, r2⟩, r3⟩ := hr
  exact ⟨p, q, WideElems.Trod_stays hl r1 r2 h1 (fun x hx => hb.same (hlt x (by simp [hx]))) (fun x hx => hs x (by simp [hx])), TrodAll.stays hl hb (by simpa using r3) h2 (fun x hx => hlt x (by simp [hx])) (fun x hx => hs x (by simp [hx])), rfl⟩
 | [], [], _ :: _, _, _, h, _, _ => by simp [DataW.TrodAll] at h
 | [], _ :: _, _, _, _, h, _, _ => by simp [DataW.TrodAll] at h
 | _ :: _, [], _, _, _, h, _, _ => by simp [DataW.TrodAll] at h
 | _ :: _, _ :: _, [], _, _, h, _, _ => by simp [DataW.TrodAll] at h
end
end Go.HW
namespace Go.Proofs.YtfjefnnbodgfbaaGreatDoor
open Go Go.HW Go.Lib
set_option linter.unusedVariables false
set_option maxRecDepth 100000
theorem tab_at {P : Program} {W : World} {n : String} {g : Nat} {k : IntKind} {zs : List Int} (hg : P.globalNamed n = some g) (h : TabIs P W n k zs) : TabAt W g k zs := by
 unfold TabIs World.var? at h
 rw [hg] at h
 simp only [Option.bind_some] at h
 split at h
 ·rename_i cs T fz e
  exact ⟨T, fz, by rw [e]; cases h; rfl⟩
 ·cases h
theorem tab_of_reads {P : Program} {W : World} {name : String} {k : IntKind} {zs : List Int} {g : Nat} {t e : TypeId} {n : Nat}
  (hg : P.globalNamed name = some g) (hty : (P.globals[g]?).map (·.type) = some t) (ht : P.underlying t = some (.array n e)) (he : P.underlying e = some (.int k)) (hce : P.cellsOf e = 1) (hct : P.cellsOf t = n)
  (h : VarReads P W name (tabData k zs)) : TabAt W g k zs := by
 obtain ⟨g', t', cs, fuel, p, hg', ht', hvar, hd⟩ := h
 obtain rfl := Option.some.inj (hg.symm.trans hg')
 obtain rfl := Option.some.inj (hty.symm.trans ht')
 refine tab_at hg ?_
 unfold TabIs
 rw [hvar, ← cells_of_tab ht he hce hct hd]
theorem ifc_of_reads {P : Program} {W : World} {name nm : String} {d : DataW Unit} {g : Nat} {t : TypeId} {ms : Array (String × TypeId)}
  (hg : P.globalNamed name = some g) (hty : (P.globals[g]?).map (·.type) = some t) (ht : P.underlying t = some (.interface ms))
  (h : VarReads P W name (.iface nm d)) : IfcAt W g := by
 obtain ⟨g', t', cs, fuel, p, hg', ht', hvar, hd⟩ := h
 obtain rfl := Option.some.inj (hg.symm.trans hg')
 obtain rfl := Option.some.inj (hty.symm.trans ht')
 obtain ⟨f', u, v, hc, _, _⟩ := iface_of_trod ht hd
 refine ⟨.iface u v, ?_, .inr ⟨u, v, rfl⟩⟩
 rw [World.var?_cell hg hvar 0, ← Array.getElem?_toList, hc]; rfl
theorem glW_ok {W : World} {laid : List (String × DataW Unit)} (hsh : W.ShapedOpen Tryz.prog) (hL : laidMet Tryz.prog laid W)
  (m1 : ("internal/strconv.uint64pow10", Rows.laid_internal_strconv_uint64pow10) ∈ laid) (m2 : ("strings.asciiSpace", Rows.laid_strings_asciiSpace) ∈ laid)
  (m3 : ("strconv.ErrSyntax", Rows.laid_strconv_ErrSyntax) ∈ laid) (m4 : ("strconv.ErrRange", Rows.laid_strconv_ErrRange) ∈ laid) : GlW W := by
 refine ⟨cell_of_shapedOpen_int hsh (g := 2) (t := 3) (zero := #[.int .i64 0]) (of_decide_eq_true (by kernel_rfl)) (by kernel_rfl) rfl (by kernel_rfl) (by kernel_rfl) Tryz.underlying3, ?_, ?_, ?_, ?_⟩
 ·have h1 : Tryz.prog.globalNamed "strconv.ErrSyntax" = some 7 := by kernel_rfl
  have h2 : (Tryz.prog.globals[7]?).map (·.type) = some 57 := by kernel_rfl
  exact ifc_of_reads h1 h2 Tryz.underlying57 (laidMet.reads hL m3)
 ·have h1 : Tryz.prog.globalNamed "strconv.ErrRange" = some 8 := by kernel_rfl
  have h2 : (Tryz.prog.globals[8]?).map (·.type) = some 57 := by kernel_rfl
  exact ifc_of_reads h1 h2 Tryz.underlying57 (laidMet.reads hL m4)
 ·exact tab_of_reads (g := 6) (by kernel_rfl) (by kernel_rfl) Tryz.underlying216 Tryz.underlying120 (by kernel_rfl) (by kernel_rfl) (show VarReads Tryz.prog W _ (tabData .u64 pow10Tab) from (show (Rows.laid_internal_strconv_uint64pow10 : DataW Unit) = tabData .u64 pow10Tab by kernel_rfl) ▸ laidMet.reads hL m1)
 ·exact tab_of_reads (g := 1) (by kernel_rfl) (by kernel_rfl) Tryz.underlying170 Tryz.underlying5 (by kernel_rfl) (by kernel_rfl) (show VarReads Tryz.prog W _ (tabData .u8 asciiSpaceTab) from (show (Rows.laid_strings_asciiSpace : DataW Unit) = tabData .u8 asciiSpaceTab by kernel_rfl) ▸ laidMet.reads hL m2)
theorem tabAt_ext {w w' : World} {g : Nat} {k : IntKind} {zs : List Int} (hx : Ext w [] w') (h : TabAt w g k zs) : TabAt w' g k zs := by
 obtain ⟨T, fz, e⟩ := h
 exact ⟨T, fz, by rw [hx.same g (Array.getElem?_eq_some_iff.1 e).1 (by simp)]; exact e⟩
theorem cell_ext {w w' : World} {g : Nat} {v : Value} (hx : Ext w [] w') (h : w.cell? ⟨g, 0, none⟩ = some v) : w'.cell? ⟨g, 0, none⟩ = some v := by
 have hlt : g < w.heap.size := by
  rcases Nat.lt_or_ge g w.heap.size with h1 | h1
  ·exact h1
  ·unfold World.cell? at h
   rw [Array.getElem?_eq_none h1] at h
   cases h
 unfold World.cell? at h ⊢
 rw [hx.same g hlt (by simp)]
 exact h
theorem glF_ok {W : World} {laid : List (String × DataW Unit)} (hsh : W.ShapedOpen Tryz.prog) (hL : laidMet Tryz.prog laid W)
  (m1 : ("internal/strconv.uint64pow10", Rows.laid_internal_strconv_uint64pow10) ∈ laid) (m2 : ("strings.asciiSpace", Rows.laid_strings_asciiSpace) ∈ laid)
  (m3 : ("strconv.ErrSyntax", Rows.laid_strconv_ErrSyntax) ∈ laid) (m4 : ("strconv.ErrRange", Rows.laid_strconv_ErrRange) ∈ laid) : GlF W [] := fun w' hx => by
 obtain ⟨⟨m, h1⟩, ⟨v2, h2, g2⟩, ⟨v3, h3, g3⟩, h4, h5⟩ := glW_ok hsh hL m1 m2 m3 m4
 exact ⟨⟨m, cell_ext hx h1⟩, ⟨v2, cell_ext hx h2, g2⟩, ⟨v3, cell_ext hx h3, g3⟩, tabAt_ext hx h4, tabAt_ext hx h5⟩
theorem handed_laid {H : Type} {enc : TypeId × Value → H} {a : Assume} {C : Checked} {os : Os} {f : FuncId} {fn : Func} {s : ChangeSpec} {conds : List PathCond} {apart fresh handsOn again : Bool} {laid : List (String × DataW Unit)}
  (own : ownKnob C.prog.godebug = none) (started : os.Started) (noInit : C.prog.inits.idxOf? f = none) (hfn : C.prog.funcs[f]? = some fn)
  (witness : ∃ (w : World) (tape : Tape) (i : Input), w.os = os ∧ (w.forCall tape i).Shaped C.prog ∧ i.vars = [] ∧ Input.okWide C.prog (w.forCall tape i) .any w.heap.size f i ∧
   ((s.pre enc C.prog fn conds apart (w.forCall tape i).memory i.args ∧ laidMetH C.prog laid (w.forCall tape i).memory) ∧ sizedMet enc C.prog fn (OpenSpec.ofChange s) apart (w.forCall tape i).memory i.args) ∧ a.holds C.prog (lone (Frame.enter C.prog f i.args .normal) [] (w.forCall tape i)))
  (law : ∀ (W : World) (base : Nat) (args : Array Value) (ds gs : List (DataW H)) (before : List MemPlace),
   (∀ (j : Nat) t v, fn.params[j]? = some t → args[j]? = some v → Value.okWide C.prog W .any base t v) →
   DataW.Whole enc C.prog fn.params.toList s.vars apart W args.toList ds gs before →
   conds.all (PathCond.test C.prog ⟨fn.params.toList, ds, s.plain.varTypes C.prog, gs⟩) = true →
   (DataW.weightsEach C.prog (fn.params.toList ++ s.plain.varTypes C.prog) (ds ++ gs)).all (· ≤ reachBytes) = true → laidMetH C.prog laid W → W.ShapedOpen C.prog →
   Calls C.prog f args W fun e W' => ∃ v, e = .returned v ∧ s.post enc C.prog fn apart fresh handsOn again W args v W') :
  ReturnsInHanded a C os f .any (fun w args => (s.pre enc C.prog fn conds apart w args ∧ laidMetH C.prog laid w) ∧ sizedMet enc C.prog fn (OpenSpec.ofChange s) apart w args) (s.post enc C.prog fn apart fresh handsOn again) := by
 refine returnsInHanded_of_calls own started noInit witness fun w tape i _ hsh _ hok hpre _ => ?_
 obtain ⟨_, _, _, fn', hfn', _, _, _, _, hval⟩ := hok
 obtain rfl : fn' = fn := Option.some.inj (hfn'.symm.trans hfn)
 obtain ⟨⟨⟨ds, gs, before, hw, hc⟩, hx⟩, hz⟩ := hpre
 refine (law (w.forCall tape i) w.heap.size i.args ds gs before hval (DataW.Whole.of_heap (w' := w.forCall tape i) (by rfl) hw) hc (hz.weights hw) (laidMetH.of_heap (by rfl) hx) hsh).mono fun e W' h => ?_
 obtain ⟨v, rfl, hp⟩ := h
 exact ChangeSpec.post_blind hp
end Go.Proofs.YtfjefnnbodgfbaaGreatDoor
