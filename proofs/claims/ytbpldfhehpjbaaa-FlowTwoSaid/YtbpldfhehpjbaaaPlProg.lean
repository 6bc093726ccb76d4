/- Plain: what the program's flow tells. -/
import Derived.Test.YtbpldfhehpjbaaaPlRef2
namespace Go.Proofs.Ytbpldfhehpjbaaa
open Go Go.HW
set_option maxRecDepth 8000
set_option linter.unusedVariables false

theorem awake24 : fn16 10000 = some true := by kernel_rfl

theorem edgesNot {p : List Instr} (ho : okP p = false) : eds p = [] := by rw [eds, stp_nil ho]; rfl

theorem prog_reached {F : Nat} {p : List Instr} (hF : 9000 ≤ F) (hp : p.length ≤ 1000) (hw : WF p) : ∃ R, fn21 F p = some R ∧ IsR (stp p) R := by
  cases ho : okP p with
  | true => exact reached_prog hF hp hw ho (stp_valid p)
  | false =>
    have e : (stp p).isEmpty = true := by rw [stp_nil ho]; rfl
    rw [fn21, steps_prog (by omega) (by omega) hw, Option.bind_some, e]
    exact ⟨[], rfl, by rw [stp_nil ho]; exact ⟨rfl, fun i a b => by simp at b; omega⟩⟩
theorem rnd_nil : ¬ Rnd [] := by
  rintro ⟨X, hne, hX⟩
  cases X with
  | nil => exact hne rfl
  | cons x X => obtain ⟨_, t, ht, _⟩ := hX x (by simp); simp [gt] at ht; cases ht
theorem prog_loops {F : Nat} {p : List Instr} (hF : 9000 ≤ F) (hp : p.length ≤ 1000) (hw : WF p) : ∃ b, fn23 F p = some b ∧ (b = true ↔ Rnd (stp p)) := by
  cases ho : okP p with
  | true => exact loops_prog hF hp hw ho (stp_valid p)
  | false =>
    have e : (stp p).isEmpty = true := by rw [stp_nil ho]; rfl
    rw [fn23, steps_prog (by omega) (by omega) hw, Option.bind_some, e]
    refine ⟨false, rfl, fun h => (by cases h), fun h => ?_⟩
    rw [stp_nil ho] at h; exact absurd h rnd_nil

end Go.Proofs.Ytbpldfhehpjbaaa
