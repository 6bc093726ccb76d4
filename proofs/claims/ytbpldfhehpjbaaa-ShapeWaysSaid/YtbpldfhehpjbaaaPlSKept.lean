/- Plain: a list that is lent with marks behind it, and kept. -/
import Derived.Test.YtbpldfhehpjbaaaPlSBase
namespace Go.Proofs.Ytbpldfhehpjbaaa
open Go Go.HW
set_option maxRecDepth 8000
set_option linter.unusedVariables false

def markL (k n : Nat) : List Instr := (List.range' k n).map fun i : Nat => fn42 1 (i : Int)
theorem lent_loop : ∀ (n : Nat) (acc : List Instr) (k : Nat), k ≤ 12 → 12 - k < n → acc.length ≤ 1000000 + k → fn18_l1 n acc (k : Int) = some (acc ++ markL k (12 - k))
  | 0, acc, k, _, h, _ => by omega
  | n + 1, acc, k, hk, hn, ha => by
    rw [fn18_l1_s]
    rcases Nat.lt_or_ge k 12 with h | h
    · have g1 : decide ((k : Int) < 12) = true := by simp; omega
      have g4 : IntKind.i64.wrap ((k : Int) + 1) = ((k + 1 : Nat) : Int) := w64 (by omega)
      have g3 : decide ((acc.length + ([fn42 1 (k : Int)] : List Instr).length) * 12 ≤ 140737488355328 ∧ acc.length + ([fn42 1 (k : Int)] : List Instr).length ≤ 9223372036854775807) = true := by simp; omega
      simp only [g1, cond_true, bindP, g3, g4]
      rw [lent_loop n _ (k + 1) (by omega) (by omega) (by simp; omega)]
      have : markL k (12 - k) = fn42 1 (k : Int) :: markL (k + 1) (12 - (k + 1)) := by
        rw [show 12 - k = (12 - (k + 1)) + 1 from by omega, markL, List.range'_succ]; rfl
      rw [this]; simp
    · have g1 : decide ((k : Int) < 12) = false := by simp; omega
      have : k = 12 := by omega
      subst this
      simp only [g1, cond_false]; simp [markL]

def lentL (p : List Instr) : List Instr := p ++ markL 0 12
theorem lentL_length (p : List Instr) : (lentL p).length = p.length + 12 := by simp [lentL, markL]
theorem lent_eq {F : Nat} {p : List Instr} (hF : 20 ≤ F) (hp : p.length ≤ 5000) : fn18 F p = some (lentL p, p.length) := by
  have w1 : IntKind.i64.wrap ((p.length : Int) + 12) = (p.length : Int) + 12 := w64 (by omega)
  have g1 : (decide (0 ≤ 0) && decide (0 ≤ (p.length : Int) + 12) && decide ((12 : Int) * ((p.length : Int) + 12) ≤ 281474976710656) && decide ((p.length : Int) + 12 ≤ 9223372036854775807)) = true := by simp; omega
  have e0 : List.replicate (0 : Int).toNat (⟨0, 0, 0, 0, 0⟩ : Instr) = [] := rfl
  have g2 : decide ((([] : List Instr).length + p.length) * 12 ≤ 140737488355328 ∧ ([] : List Instr).length + p.length ≤ 9223372036854775807) = true := by simp; omega
  have hl := lent_loop F p 0 (by omega) (by omega) (by omega)
  rw [show ((0 : Nat) : Int) = 0 from rfl] at hl
  rw [fn18, w1, g1, cond_true, e0, g2, cond_true, List.nil_append, hl, Option.bind_some, fn18_k1]
  have g3 : sliceOk ((0 : Nat) : Int) (p.length : Int) (p ++ markL 0 (12 - 0)).length = true := sliceOk_iff.2 ⟨by omega, by omega, by simp; omega⟩
  rw [g3, cond_true]; rfl
theorem lent_cut (p : List Instr) : cutX (lentL p) 0 p.length = p := by simp [cutX, lentL]

theorem kept_loop {p : List Instr} (hp : p.length ≤ 5000) : ∀ (n k : Nat), k ≤ p.length + 12 → p.length + 12 - k < n → fn25_l1 (lentL p) p n (k : Int) = some (.inl ())
  | 0, k, _, h => by omega
  | n + 1, k, hk, hn => by
    have w1 : IntKind.i64.wrap ((p.length : Int) + 12) = ((p.length + 12 : Nat) : Int) := w64 (by omega)
    have hc : cutX (lentL p) ((0 : Nat) : Int).toNat (((p.length + 12 : Nat) : Int)).toNat = lentL p := by
      rw [show ((0 : Nat) : Int).toNat = 0 from rfl, show (((p.length + 12 : Nat) : Int)).toNat = p.length + 12 from by omega, cutX, List.drop_zero, List.take_of_length_le (by rw [lentL_length]; omega)]
    have hl := lentL_length p
    rw [fn25_l1_s, w1, hc]
    rcases Nat.lt_or_ge k (p.length + 12) with h | h
    · have g1 : decide ((k : Int) < ((lentL p).length : Int)) = true := by simp; omega
      have g2 : inb (k : Int) (lentL p).length = true := inb_iff.2 ⟨by omega, by omega⟩
      have g4 : IntKind.i64.wrap ((k : Int) + 1) = ((k + 1 : Nat) : Int) := w64 (by omega)
      have g5 : IntKind.i64.wrap ((k : Int) - (p.length : Int)) = (k : Int) - (p.length : Int) := w64 (by omega)
      have ih := kept_loop hp n (k + 1) (by omega) (by omega)
      rcases Nat.lt_or_ge k p.length with h2 | h2
      · have g6 : decide ((k : Int) < (p.length : Int)) = true := by simp; omega
        have g7 : inb (k : Int) p.length = true := inb_iff.2 ⟨by omega, by omega⟩
        have g8 : decide ((p.length : Int) ≤ (k : Int)) = false := by simp; omega
        have hg : gt (lentL p) (k : Int) = gt p (k : Int) := by simp [gt, lentL, List.getD_eq_getElem?_getD, List.getElem?_append_left h2]
        simp only [g1, g2, g4, g5, g6, g7, g8, hg, cond_true, bindP, beq_self_eq_true, Bool.and_true, Bool.not_true, Bool.false_and, Bool.false_or, cond_false]
        exact ih
      · have g6 : decide ((k : Int) < (p.length : Int)) = false := by simp; omega
        have g8 : decide ((p.length : Int) ≤ (k : Int)) = true := by simp; omega
        have hg : gt (lentL p) (k : Int) = fn42 1 ((k : Int) - (p.length : Int)) := by
          have h3 : k - p.length < 12 := by omega
          simp only [gt, lentL, List.getD_eq_getElem?_getD, Int.toNat_natCast, List.getElem?_append_right h2, markL, List.getElem?_map]
          rw [List.getElem?_range' h3]
          simp
          congr 1; omega
        simp only [g1, g2, g4, g5, g6, g8, hg, cond_true, bindP, beq_self_eq_true, Bool.and_true, Bool.not_true, Bool.and_false, cond_false]
        exact ih
    · have g1 : decide ((k : Int) < ((lentL p).length : Int)) = false := by simp; omega
      rw [g1]; rfl

theorem kept_eq {F : Nat} {p : List Instr} (hF : 6000 ≤ F) (hp : p.length ≤ 5000) : fn25 F (lentL p) p.length p = some true := by
  have w1 : IntKind.i64.wrap ((p.length : Int) + 12) = ((p.length + 12 : Nat) : Int) := w64 (by omega)
  have g1 : (((cutX (lentL p) 0 p.length).length : Int) != (p.length : Int)) = false := by rw [lent_cut]; simp
  have g2 : sliceOk ((0 : Nat) : Int) ((p.length + 12 : Nat) : Int) (lentL p).length = true := sliceOk_iff.2 ⟨by omega, by omega, by rw [lentL_length]; omega⟩
  have hl := kept_loop hp F 0 (by omega) (by omega)
  rw [show ((0 : Nat) : Int) = 0 from rfl] at hl
  rw [fn25, g1, cond_false, w1, g2, cond_true, hl]; rfl

end Go.Proofs.Ytbpldfhehpjbaaa
