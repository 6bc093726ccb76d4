/- Plain law of FlowJumps. -/
import Derived.Test.YtbpldfhehpjbaaaPlTells
namespace Go.Proofs.Ytbpldfhehpjbaaa
open Go Go.HW
set_option maxRecDepth 8000
set_option linter.unusedVariables false

theorem lit_len : lit_0.length = 11 := rfl
theorem lit_ok : ∀ x ∈ lit_0, OkI x := by
  intro x hx
  have h : lit_0.all (fun x => decide (0 ≤ x.fOp ∧ x.fOp < 256) && decide (-32768 ≤ x.fOff ∧ x.fOff < 32768) && decide (-2147483648 ≤ x.fImm ∧ x.fImm < 2147483648)) = true := by kernel_rfl
  have := List.all_eq_true.1 h x hx
  simp only [Bool.and_eq_true, decide_eq_true_eq] at this
  exact ⟨this.1.1, this.1.2, this.2⟩

theorem jumps_l2 (x : Nat) (hx : x < 1331) : ∀ (n k : Nat), k ≤ 11 → 11 - k < n → fn5_l2 10000 (x : Int) n (k : Int) = some (.inl ())
  | 0, k, _, h => by omega
  | n + 1, k, hk, hn => by
    rw [fn5_l2_s, lit_len]
    rcases Nat.lt_or_ge k 11 with h | h
    · have g1 : decide ((k : Int) < ((11 : Nat) : Int)) = true := by simp; omega
      have g2 : (((11 : Nat) : Int) != 0) = true := rfl
      have t1 : (x : Int).tmod ((11 : Nat) : Int) = ((x % 11 : Nat) : Int) := rfl
      have t2 : (x : Int).tdiv ((11 : Nat) : Int) = ((x / 11 : Nat) : Int) := rfl
      have w2 : IntKind.i64.wrap ((x / 11 : Nat) : Int) = ((x / 11 : Nat) : Int) := w64 (by omega)
      have t3 : ((x / 11 : Nat) : Int).tmod ((11 : Nat) : Int) = ((x / 11 % 11 : Nat) : Int) := rfl
      have t4 : ((x / 11 : Nat) : Int).tdiv ((11 : Nat) : Int) = ((x / 11 / 11 : Nat) : Int) := rfl
      have w4 : IntKind.i64.wrap ((x / 11 / 11 : Nat) : Int) = ((x / 11 / 11 : Nat) : Int) := w64 (by omega)
      have g4 : IntKind.i64.wrap ((k : Int) + 1) = ((k + 1 : Nat) : Int) := w64 (by omega)
      have i : ∀ j : Nat, j < 11 → inb (j : Int) 11 = true := fun j hj => inb_iff.2 ⟨by omega, by omega⟩
      have ok : ∀ j : Nat, j < 11 → OkI (gt lit_0 (j : Int)) := fun j hj => lit_ok _ (gt_mem (by omega) (by rw [lit_len]; omega))
      rw [g1, g2, t1, t2, w2, t3, t4, w4, i _ (Nat.mod_lt _ (by omega)), i _ (Nat.mod_lt _ (by omega)), i (x / 11 / 11) (by omega), i k h, g4]
      simp only [cond_true]
      rw [flowTells _ _ (fun y hy => by
        simp at hy
        rcases hy with rfl | rfl | rfl | rfl
        · exact ok _ (Nat.mod_lt _ (by omega))
        · exact ok _ (Nat.mod_lt _ (by omega))
        · exact ok (x / 11 / 11) (by omega)
        · exact ok k h)]
      simp only [Option.bind_some, Bool.not_true, cond_false]
      exact jumps_l2 x hx n (k + 1) (by omega) (by omega)
    · have g1 : decide ((k : Int) < ((11 : Nat) : Int)) = false := by simp; omega
      rw [g1]; rfl

theorem jumps_l1 : ∀ (n x : Nat), x ≤ 1331 → 1331 - x < n → fn5_l1 10000 n (x : Int) = some (.inl ())
  | 0, x, _, h => by omega
  | n + 1, x, hx, hn => by
    rw [fn5_l1_s, lit_len]
    have e : IntKind.i64.wrap (IntKind.i64.wrap (((11 : Nat) : Int) * ((11 : Nat) : Int)) * ((11 : Nat) : Int)) = 1331 := by decide
    rw [e]
    rcases Nat.lt_or_ge x 1331 with h | h
    · have g1 : decide ((x : Int) < 1331) = true := by simp; omega
      have g4 : IntKind.i64.wrap ((x : Int) + 1) = ((x + 1 : Nat) : Int) := w64 (by omega)
      have h2 := jumps_l2 x h 10000 0 (by omega) (by omega)
      rw [show ((0 : Nat) : Int) = 0 from rfl] at h2
      rw [g1, cond_true, h2]
      simp only [Option.bind_some, fn5_k2, g4]
      exact jumps_l1 n (x + 1) (by omega) (by omega)
    · have g1 : decide ((x : Int) < 1331) = false := by simp; omega
      rw [g1]; rfl

theorem flowJumps : fn5 10000 = some true := by
  have h := jumps_l1 10000 0 (by omega) (by omega)
  rw [show ((0 : Nat) : Int) = 0 from rfl] at h
  rw [fn5, awake24, Option.bind_some, Bool.not_true, cond_false, h]; rfl
end Go.Proofs.Ytbpldfhehpjbaaa
