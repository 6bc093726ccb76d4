/- Plain law of ShapeTells. -/
import Derived.Test.YtbpldfhehpjbaaaPlTarg
import Derived.Test.YtbpldfhehpjbaaaPlSKept
namespace Go.Proofs.Ytbpldfhehpjbaaa
open Go Go.HW
set_option maxRecDepth 8000
set_option linter.unusedVariables false

theorem awake03 : fn12 10000 = some true := by kernel_rfl

theorem ref_w1 {p : List Instr} (hp : p.length ≤ 5000) : ∀ (n : Nat) (x : List S__2_int) (k : Nat), k ≤ p.length → p.length - k < n → x.length = p.length → (∀ i : Nat, i < k → x[i]? = some (wayAt p (i : Int))) →
    fn32_l1 p (marks p) n x (k : Int) = some ((List.range p.length).map (fun i : Nat => wayAt p (i : Int)))
  | 0, x, k, _, h, _, _ => by omega
  | n + 1, x, k, hk, hn, hx, hi => by
    rw [fn32_l1_s]
    rcases Nat.lt_or_ge k p.length with h | h
    · have g1 : decide ((k : Int) < (p.length : Int)) = true := decide_eq_true (by omega)
      have g2 : inb (k : Int) (marks p).length = true := inb_iff.2 ⟨by omega, by rw [marks_length]; omega⟩
      have g3 : inb (k : Int) x.length = true := inb_iff.2 ⟨by omega, by omega⟩
      have g4 : IntKind.i64.wrap ((k : Int) + 1) = ((k + 1 : Nat) : Int) := w64 (by omega)
      have gn : ((k : Int)).toNat = k := by omega
      have step : ∀ x2 : List S__2_int, x2.length = p.length → (∀ i : Nat, x2[i]? = if i = k then some (wayAt p (k : Int)) else x[i]?) → fn32_l1 p (marks p) n x2 ((k + 1 : Nat) : Int) = some ((List.range p.length).map (fun i : Nat => wayAt p (i : Int))) := fun x2 h1 h2 => by
        refine ref_w1 hp n x2 (k + 1) (by omega) (by omega) h1 (fun i hik => ?_)
        rw [h2 i]
        by_cases e : i = k
        · subst e; simp
        · rw [if_neg e]; exact hi i (by omega)
      rw [g1, g2, g3, g4, gn]
      simp only [cond_true]
      cases hg : gt (marks p) (k : Int) with
      | false =>
        rw [cond_false]
        refine step _ (by simp [hx]) (fun i => ?_)
        have hw : wayAt p (k : Int) = ⟨-1, -1⟩ := by rw [wayAt, hg]; rfl
        rw [List.getElem?_set, hw]
        by_cases e : k = i
        · subst e; simp [hx, h]
        · rw [if_neg e, if_neg (fun h => e h.symm)]
      | true =>
        rw [cond_true, next1_eq hp (by omega) (by omega), Option.bind_some]
        refine step _ (by simp [hx]) (fun i => ?_)
        have hw : wayAt p (k : Int) = way p (k : Int) := by rw [wayAt, hg]; rfl
        rw [List.getElem?_set, hw]
        by_cases e : k = i
        · subst e; simp [hx, h]
        · rw [if_neg e, if_neg (fun h => e h.symm), List.getElem?_set, if_neg e]
    · have g1 : decide ((k : Int) < (p.length : Int)) = false := decide_eq_false (by omega)
      rw [g1, cond_false]
      have hk2 : k = p.length := by omega
      congr 1
      apply List.ext_getElem?
      intro i
      rw [List.getElem?_map]
      rcases Nat.lt_or_ge i p.length with h2 | h2
      · rw [hi i (by omega), List.getElem?_range h2]; rfl
      · rw [List.getElem?_eq_none (by omega), List.getElem?_eq_none (by simp; omega)]; rfl

theorem ways_ref {F : Nat} {p : List Instr} (hF : 6000 ≤ F) (hp : p.length ≤ 5000) : fn32 F p = some (ways p) := by
  rw [fn32, check_ref hF hp, Option.bind_some, ways]
  cases ho : okP p with
  | false =>
    have : ((chk p).2 != 0) = true := by unfold okP at ho; simpa [bne] using ho
    rw [this]; rfl
  | true =>
    have h0 : ((chk p).2 != 0) = false := by unfold okP at ho; simpa [bne] using ho
    have g0 : (decide (0 ≤ (p.length : Int)) && decide ((p.length : Int) ≤ (p.length : Int)) && decide ((16 : Int) * (p.length : Int) ≤ 281474976710656) && decide ((p.length : Int) ≤ 9223372036854775807)) = true := by
      simp only [Bool.and_eq_true, decide_eq_true_eq]; omega
    rw [h0, cond_false, cond_true, firsts_ref p hp hF, Option.bind_some, g0, cond_true]
    have := ref_w1 hp F (List.replicate p.length ⟨0, 0⟩) 0 (by omega) (by omega) (by simp) (fun i h => by omega)
    have e : ((p.length : Int)).toNat = p.length := by omega
    rw [e]
    have h1 : fn32_l1 p (marks p) F (List.replicate p.length ⟨0, 0⟩) 0 = _ := this
    rw [h1]; rfl

/-- Next -/
def nx (p : List Instr) (k : Int) : Int × Int := bif (decide (k < 0) || decide (((ways p).length : Int) ≤ k)) then (-1, -1) else ((gt (ways p) k).e0, (gt (ways p) k).e1)
theorem nx_prog {F : Nat} {p : List Instr} (hF : 6000 ≤ F) (hp : p.length ≤ 5000) (hw : WF p) (k : Int) : fn15 F p k = some (nx p k) := by
  rw [fn15, ways_prog hF hp hw, Option.bind_some, nx]
  cases h : (decide (k < 0) || decide (((ways p).length : Int) ≤ k)) with
  | true => rfl
  | false =>
    simp only [Bool.or_eq_false_iff, decide_eq_false_iff_not] at h
    have : inb k (ways p).length = true := inb_iff.2 ⟨by omega, by omega⟩
    rw [cond_false, this]; rfl
theorem nx_ref {F : Nat} {p : List Instr} (hF : 6000 ≤ F) (hp : p.length ≤ 5000) (k : Int) : fn30 F p k = some (nx p k) := by
  rw [fn30, check_ref hF hp, Option.bind_some, nx]
  have hl := ways_length p
  cases ho : okP p with
  | false =>
    have h0 : ((chk p).2 != 0) = true := by unfold okP at ho; simpa [bne] using ho
    rw [ho] at hl
    have hz : (ways p).length = 0 := by simpa using hl
    have hb : (decide (k < 0) || decide (((ways p).length : Int) ≤ k)) = true := by rw [hz]; simp only [Bool.or_eq_true, decide_eq_true_eq]; omega
    rw [h0, hb]; rfl
  | true =>
    have h0 : ((chk p).2 != 0) = false := by unfold okP at ho; simpa [bne] using ho
    rw [ho, if_pos rfl] at hl
    rw [h0, hl, Bool.false_or]
    cases hb : (decide (k < 0) || decide ((p.length : Int) ≤ k)) with
    | true => rfl
    | false =>
      simp only [Bool.or_eq_false_iff, decide_eq_false_iff_not] at hb
      have g : inb k (marks p).length = true := inb_iff.2 ⟨by omega, by rw [marks_length]; omega⟩
      have hk : k.toNat < p.length := by omega
      have e : ((k.toNat : Nat) : Int) = k := by omega
      have hg : gt (ways p) k = wayAt p k := by
        simp only [gt, ways, ho, cond_true, List.getD_eq_getElem?_getD, List.getElem?_map, List.getElem?_range hk, Option.map_some, Option.getD_some, e]
      rw [cond_false, firsts_ref p hp hF, Option.bind_some, cond_false, g, cond_true, Bool.false_or, cond_false, hg, wayAt]
      cases gt (marks p) k with
      | false => rfl
      | true => rw [Bool.not_true, cond_false, next1_eq hp (by omega) (by omega)]; rfl

theorem same_l1 (v : List S__2_int) (hv : v.length ≤ 5000) : ∀ (n k : Nat), k ≤ v.length → v.length - k < n → fn10_l1 v v n (k : Int) = some (.inl ())
  | 0, k, _, h => by omega
  | n + 1, k, hk, hn => by
    rw [fn10_l1_s]
    rcases Nat.lt_or_ge k v.length with h | h
    · have g1 : decide ((k : Int) < (v.length : Int)) = true := decide_eq_true (by omega)
      have g2 : inb (k : Int) v.length = true := inb_iff.2 ⟨by omega, by omega⟩
      have g4 : IntKind.i64.wrap ((k : Int) + 1) = ((k + 1 : Nat) : Int) := w64 (by omega)
      simp only [g1, g2, g4, cond_true, beq_self_eq_true, Bool.and_true, Bool.not_true, cond_false]
      exact same_l1 v hv n (k + 1) (by omega) (by omega)
    · have g1 : decide ((k : Int) < (v.length : Int)) = false := decide_eq_false (by omega)
      rw [g1]; rfl
theorem same28_l1 (v : List Int) (hv : v.length ≤ 5000) : ∀ (n k : Nat), k ≤ v.length → v.length - k < n → fn28_l1 v v n (k : Int) = some (.inl ())
  | 0, k, _, h => by omega
  | n + 1, k, hk, hn => by
    rw [fn28_l1_s]
    rcases Nat.lt_or_ge k v.length with h | h
    · have g1 : decide ((k : Int) < (v.length : Int)) = true := decide_eq_true (by omega)
      have g2 : inb (k : Int) v.length = true := inb_iff.2 ⟨by omega, by omega⟩
      have g4 : IntKind.i64.wrap ((k : Int) + 1) = ((k + 1 : Nat) : Int) := w64 (by omega)
      have g5 : (gt v (k : Int) != gt v (k : Int)) = false := by simp
      simp only [g1, g2, g4, g5, cond_true, cond_false]
      exact same28_l1 v hv n (k + 1) (by omega) (by omega)
    · have g1 : decide ((k : Int) < (v.length : Int)) = false := decide_eq_false (by omega)
      rw [g1]; rfl
theorem same28 {F : Nat} (v : List Int) (hv : v.length ≤ 5000) (hF : 6000 ≤ F) : fn28 F v v = some true := by
  have g : ((v.length : Int) != (v.length : Int)) = false := by simp
  have h := same28_l1 v hv F 0 (by omega) (by omega)
  rw [show ((0 : Nat) : Int) = 0 from rfl] at h
  rw [fn28, g, cond_false, h]; rfl

theorem shapeTells (p : List Instr) (at' : Int) (hw : WF p) : fn10 10000 p at' = some true := by
  rw [fn10, awake03, Option.bind_some, Bool.not_true, cond_false, fn26]
  cases hs : decide ((p.length : Int) ≤ 300) with
  | false => rfl
  | true =>
    have hp : p.length ≤ 300 := by simp at hs; omega
    simp only [bindP, Bool.not_true, cond_false]
    have hwl := ways_length p
    have hwl2 : (ways p).length ≤ 5000 := by rw [hwl]; split <;> omega
    have htl := tg_len p
    have g1 : (((ways p).length : Int) != ((ways p).length : Int)) = false := by simp
    have hl := same_l1 (ways p) hwl2 10000 0 (by omega) (by omega)
    rw [show ((0 : Nat) : Int) = 0 from rfl] at hl
    rw [lent_eq (by omega) (by omega), Option.bind_some, lent_cut, check_prog (by omega) (by omega) hw, Option.bind_some, check_ref (by omega) (by omega), Option.bind_some, nx_prog (by omega) (by omega) hw, Option.bind_some,
      nx_ref (by omega) (by omega), Option.bind_some, ways_prog (by omega) (by omega) hw, Option.bind_some, ways_ref (by omega) (by omega), Option.bind_some, g1, cond_false, hl, Option.bind_some]
    simp only [fn10_k1, lent_cut, beq_self_eq_true, Bool.and_true, cond_true]
    rw [targets_prog (by omega) (by omega) hw, Option.bind_some, targets_ref (by omega) (by omega), Option.bind_some, same28 _ (by omega) (by omega), Option.bind_some]
    simp only [Bool.and_true, cond_true]
    rw [kept_eq (by omega) (by omega)]
    rfl
end Go.Proofs.Ytbpldfhehpjbaaa
