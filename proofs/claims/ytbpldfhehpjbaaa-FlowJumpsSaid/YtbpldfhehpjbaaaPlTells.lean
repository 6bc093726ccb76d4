/- Plain law of FlowTells. -/
import Derived.Test.YtbpldfhehpjbaaaPlKept
namespace Go.Proofs.Ytbpldfhehpjbaaa
open Go Go.HW
set_option maxRecDepth 8000
set_option linter.unusedVariables false

theorem awake24 : fn16 10000 = some true := by kernel_rfl

theorem edgesNot {p : List Instr} (ho : okP p = false) : eds p = [] := by rw [eds, stp_nil ho]; rfl

theorem prog_reached {F : Nat} {p : List Instr} (hF : 9000 ≤ F) (hp : p.length ≤ 1000) (hw : WF p) : ∃ R, fn21 F p = some R ∧ IsR (stp p) R := by
  cases ho : okP p with
  | true => exact reached_prog hF hp hw ho (stp_valid p)
  | false =>
    have e : (stp p).isEmpty = true := by rw [stp_nil ho]; rfl
    rw [fn21, steps_prog (by omega) (by omega) hw, Option.bind_some, e]
    exact ⟨[], rfl, by rw [stp_nil ho]; exact ⟨rfl, fun i a b => by simp at b; omega⟩⟩
theorem rnd_nil : ¬ Rnd [] := by
  rintro ⟨X, hne, hX⟩
  cases X with
  | nil => exact hne rfl
  | cons x X => obtain ⟨_, t, ht, _⟩ := hX x (by simp); simp [gt] at ht; cases ht
theorem prog_loops {F : Nat} {p : List Instr} (hF : 9000 ≤ F) (hp : p.length ≤ 1000) (hw : WF p) : ∃ b, fn23 F p = some b ∧ (b = true ↔ Rnd (stp p)) := by
  cases ho : okP p with
  | true => exact loops_prog hF hp hw ho (stp_valid p)
  | false =>
    have e : (stp p).isEmpty = true := by rw [stp_nil ho]; rfl
    rw [fn23, steps_prog (by omega) (by omega) hw, Option.bind_some, e]
    refine ⟨false, rfl, fun h => (by cases h), fun h => ?_⟩
    rw [stp_nil ho] at h; exact absurd h rnd_nil

theorem cmpE {e : Edge} : ((e.fFrom == e.fFrom) && ((e.fTo == e.fTo) && true)) = true := by simp

theorem tells_l1 (E : List Edge) (m : Nat) (hE : E.length ≤ 5000) : ∀ (n k : Nat), k ≤ E.length → E.length - k < n → fn4_l1 E (m : Int) (E.take m) E n (k : Int) = some (.inl ())
  | 0, k, _, h => by omega
  | n + 1, k, hk, hn => by
    rw [fn4_l1_s]
    rcases Nat.lt_or_ge k E.length with h | h
    · have g1 : decide ((k : Int) < (E.length : Int)) = true := by simp; omega
      have g2 : inb (k : Int) E.length = true := inb_iff.2 ⟨by omega, by omega⟩
      have g4 : IntKind.i64.wrap ((k : Int) + 1) = ((k + 1 : Nat) : Int) := w64 (by omega)
      have ih := tells_l1 E m hE n (k + 1) (by omega) (by omega)
      simp only [g1, g2, g4, cond_true, cmpE, Bool.not_true, cond_false, Bool.false_or]
      rcases Nat.lt_or_ge k m with h2 | h2
      · have g5 : decide ((k : Int) < (m : Int)) = true := by simp; omega
        have g6 : inb (k : Int) (E.take m).length = true := inb_iff.2 ⟨by omega, by simp; omega⟩
        have g7 : gt (E.take m) (k : Int) = gt E (k : Int) := by simp [gt, List.getD_eq_getElem?_getD, h2]
        simp only [g5, g6, g7, cmpE, cond_true, Bool.not_true, Bool.and_false, cond_false]
        exact ih
      · have g5 : decide ((k : Int) < (m : Int)) = false := by simp; omega
        simp only [g5, cond_true, Bool.false_and, cond_false]
        exact ih
    · have g1 : decide ((k : Int) < (E.length : Int)) = false := by simp; omega
      rw [g1]; rfl

theorem tells_l2 (R : List Bool) (hR : R.length ≤ 5000) : ∀ (n k : Nat), k ≤ R.length → R.length - k < n → fn4_l2 R R n (k : Int) = some (.inl ())
  | 0, k, _, h => by omega
  | n + 1, k, hk, hn => by
    rw [fn4_l2_s]
    rcases Nat.lt_or_ge k R.length with h | h
    · have g1 : decide ((k : Int) < (R.length : Int)) = true := by simp; omega
      have g2 : inb (k : Int) R.length = true := inb_iff.2 ⟨by omega, by omega⟩
      have g4 : IntKind.i64.wrap ((k : Int) + 1) = ((k + 1 : Nat) : Int) := w64 (by omega)
      have g5 : (gt R (k : Int) != gt R (k : Int)) = false := by simp
      simp only [g1, g2, g4, g5, cond_true, cond_false]
      exact tells_l2 R hR n (k + 1) (by omega) (by omega)
    · have g1 : decide ((k : Int) < (R.length : Int)) = false := by simp; omega
      rw [g1]; rfl

theorem flowTells (p : List Instr) (most : Int) (hw : WF p) : fn4 10000 p most = some true := by
  rw [fn4, awake24, Option.bind_some, Bool.not_true, cond_false, fn17]
  cases hs : decide ((p.length : Int) ≤ 200) with
  | false => rfl
  | true =>
    have hp : p.length ≤ 200 := by simp at hs; omega
    simp only [bindP, Bool.not_true, cond_false]
    rw [lent_eq (by omega) (by omega), Option.bind_some, lent_cut, edges_ref (by omega) (by omega), Option.bind_some]
    have hel := eds_len (p := p)
    have w1 : IntKind.i64.wrap ((((eds p).map mkE).length : Int) + 1) = (((eds p).length + 1 : Nat) : Int) := by rw [List.length_map]; exact w64 (by omega)
    obtain ⟨m, hm, hm2⟩ := pick_ok most ((eds p).length + 1) (by omega) (by omega)
    rw [w1, hm, Option.bind_some, edges20 (by omega) (by omega) hw m, Option.bind_some, show (1000 : Int) = ((1000 : Nat) : Int) from rfl, edges20 (by omega) (by omega) hw 1000, Option.bind_some]
    have e1 : (eds p).take 1000 = eds p := List.take_of_length_le (by omega)
    rw [e1]
    have g1 : (((((eds p).map mkE).length : Int) != (((eds p).map mkE).length : Int)) || (((((eds p).take m).map mkE).length : Int) != (m : Int))) = false := by
      simp; omega
    rw [g1, cond_false, List.map_take]
    have hl1 := tells_l1 ((eds p).map mkE) m (by rw [List.length_map]; omega) 10000 0 (by omega) (by rw [List.length_map]; omega)
    rw [show ((0 : Nat) : Int) = 0 from rfl] at hl1
    rw [hl1, Option.bind_some]
    simp only [fn4_k1, lent_cut]
    obtain ⟨R, r1, r2⟩ := prog_reached (F := 10000) (by omega) (by omega) hw
    obtain ⟨R', r3, r4⟩ := reached_ref (F := 10000) (p := p) (by omega) (by omega)
    have := r2.uniq r4
    subst this
    have hsl : (stp p).length ≤ p.length := by rw [stp_length]; split <;> omega
    have hR : R.length ≤ 5000 := by rw [r2.1]; omega
    have g2 : ((R.length : Int) != (R.length : Int)) = false := by simp
    have hl2 := tells_l2 R hR 10000 0 (by omega) (by omega)
    rw [show ((0 : Nat) : Int) = 0 from rfl] at hl2
    rw [r1, Option.bind_some, r3, Option.bind_some, g2, cond_false, hl2, Option.bind_some]
    simp only [fn4_k2, lent_cut]
    obtain ⟨b, b1, b2⟩ := prog_loops (F := 10000) (by omega) (by omega) hw
    obtain ⟨b', b3, b4⟩ := loops_ref (F := 10000) (p := p) (by omega) (by omega)
    have hb : b = b' := Bool.eq_iff_iff.2 (b2.trans b4.symm)
    subst hb
    rw [b1, Option.bind_some, b3, Option.bind_some, beq_self_eq_true, cond_true, kept_eq (by omega) (by omega)]
    rfl
end Go.Proofs.Ytbpldfhehpjbaaa
