/- Plain: the document's Check; where it goes on. -/
import Derived.Test.YtbpldfhehpjbaaaPlCheck2
namespace Go.Proofs.Ytbpldfhehpjbaaa
open Go Go.HW
set_option maxRecDepth 8000
set_option linter.unusedVariables false

theorem bd_step {p : List Instr} {k : Nat} (hb : (marks p).drop k = marks (p.drop k)) (hk : k < p.length) : gt (marks p) (k : Int) = true ∧
    (((gt p (k : Int)).fOp == 24) = false → (marks p).drop (k + 1) = marks (p.drop (k + 1))) ∧
    (((gt p (k : Int)).fOp == 24) = true → p.length ≤ k + 1 ∨ (k + 1 < p.length ∧ gt (marks p) ((k + 1 : Nat) : Int) = false ∧ (marks p).drop (k + 2) = marks (p.drop (k + 2)))) := by
  have hg : p.drop k = gt p (k : Int) :: p.drop (k + 1) := gt_drop (q := p) (x := (k : Int)) (by omega) (by omega)
  rw [hg, marks_cons] at hb
  obtain ⟨h1, h2, h3⟩ := drop_cons' hb
  have hget : ∀ (j : Nat) (b : Bool), (marks p)[j]? = some b → gt (marks p) (j : Int) = b := fun j b h => by simp [gt, h]
  refine ⟨hget k true h3, fun hw => ?_, fun hw => ?_⟩
  · rw [h2, hw, cond_false]
  · rw [hw, cond_true] at h2
    rcases Nat.lt_or_ge (k + 1) p.length with hl | hl
    · have hg2 : p.drop (k + 1) = gt p ((k + 1 : Nat) : Int) :: p.drop (k + 1 + 1) := gt_drop (q := p) (x := ((k + 1 : Nat) : Int)) (by omega) (by omega)
      rw [hg2] at h2
      obtain ⟨_, h4, h5⟩ := drop_cons' h2
      exact .inr ⟨hl, hget _ _ h5, h4⟩
    · exact .inl hl

theorem check_loop {p : List Instr} (hp : p.length ≤ 5000) : ∀ (n k : Nat) (last : Int), k ≤ p.length → p.length - k < n → (marks p).drop k = marks (p.drop k) →
    fn29_l1 p (marks p) n last (k : Int) = (match (firstsL (p.drop k) k).find? (bad p) with | some y => some (.inr (y.1, er p y.1)) | none => some (.inl (lastAt (firstsL (p.drop k) k) last)))
  | 0, k, last, h1, h2, h3 => by omega
  | 1, k, last, h1, h2, h3 => by
    have h0 : decide ((k : Int) < (p.length : Int)) = false := by simp; omega
    rw [fn29_l1_s, h0, List.drop_eq_nil_of_le (by omega)]; rfl
  | n + 2, k, last, h1, h2, h3 => by
    rw [fn29_l1_s]
    by_cases hk : k < p.length
    · obtain ⟨b1, b2, b3⟩ := bd_step h3 hk
      have g1 : decide ((k : Int) < (p.length : Int)) = true := by simp; omega
      have g2 : inb (k : Int) (marks p).length = true := by rw [marks_length]; exact inb_iff.2 ⟨by omega, by omega⟩
      have g3 : IntKind.i64.wrap ((k : Int) + 1) = ((k + 1 : Nat) : Int) := w64 (by omega)
      have g4 : IntKind.i64.wrap (((k + 1 : Nat) : Int) + 1) = ((k + 2 : Nat) : Int) := w64 (by omega)
      have hg : p.drop k = gt p (k : Int) :: p.drop (k + 1) := gt_drop (q := p) (x := (k : Int)) (by omega) (by omega)
      simp only [g1, g2, cond_true, b1, Bool.not_true, cond_false, fn53_er hp (show (0 : Int) ≤ (k : Int) by omega) (show (k : Int) < (p.length : Int) by omega), Option.bind_some, g3]
      rw [hg, firstsL_cons, List.find?_cons]
      cases hbad : (er p (k : Int) != 0) with
      | true =>
        have : bad p ((k : Int), fn60 (gt p (k : Int))) = true := hbad
        rw [this]; rfl
      | false =>
        have : bad p ((k : Int), fn60 (gt p (k : Int))) = false := hbad
        rw [this]
        simp only [cond_false]
        have la : ∀ (l : List (Int × Slot)) (s : Slot) (d : Int), lastAt (((k : Int), s) :: l) d = lastAt l (k : Int) := fun _ _ _ => rfl
        cases hw : ((gt p (k : Int)).fOp == 24) with
        | false =>
          rw [check_loop hp (n + 1) (k + 1) (k : Int) (by omega) (by omega) (b2 hw)]
          simp only [cond_false, la]
          rfl
        | true =>
          simp only [cond_true, la]
          rcases b3 hw with hl | ⟨hl, c1, c2⟩
          · have h0 : decide (((k + 1 : Nat) : Int) < (p.length : Int)) = false := by simp; omega
            rw [fn29_l1_s, h0, List.drop_eq_nil_of_le hl]; rfl
          · have q1 : decide (((k + 1 : Nat) : Int) < (p.length : Int)) = true := by simp; omega
            have q2 : inb ((k + 1 : Nat) : Int) (marks p).length = true := by rw [marks_length]; exact inb_iff.2 ⟨by omega, by omega⟩
            have hg2 : p.drop (k + 1) = gt p ((k + 1 : Nat) : Int) :: p.drop (k + 2) := gt_drop (q := p) (x := ((k + 1 : Nat) : Int)) (by omega) (by omega)
            rw [fn29_l1_s, q1, q2, c1, g4]
            simp only [cond_true, Bool.not_false]
            rw [check_loop hp n (k + 2) (k : Int) (by omega) (by omega) c2, hg2]
            rfl
    · have h0 : decide ((k : Int) < (p.length : Int)) = false := by simp; omega
      rw [h0, List.drop_eq_nil_of_le (by omega)]; rfl

theorem lastAt_mem : ∀ (l : List (Int × Slot)) (d : Int), l ≠ [] → ∃ y ∈ l, y.1 = lastAt l d
  | [], _, h => absurd rfl h
  | [y], d, _ => ⟨y, by simp, rfl⟩
  | y :: z :: l, d, _ => by
    obtain ⟨w, h1, h2⟩ := lastAt_mem (z :: l) y.1 (by simp)
    exact ⟨w, by simp at h1 ⊢; exact .inr h1, h2⟩

theorem last_in {p : List Instr} (h : p ≠ []) : 0 ≤ lastAt (firstsL p 0) 0 ∧ lastAt (firstsL p 0) 0 < p.length := by
  obtain ⟨y, h1, h2⟩ := lastAt_mem (firstsL p 0) 0 (by intro e; have := firsts_ne h; rw [e] at this; cases this)
  rw [← h2]
  exact ⟨(first_slot h1).1, (first_slot h1).2.1⟩

theorem check_ref {F : Nat} {p : List Instr} (hF : 6000 ≤ F) (hp : p.length ≤ 5000) : fn29 F p = some (chk p) := by
  rw [fn29, chk]
  cases hl : (((p.length : Int) == 0) || (decide ((4096 : Int) < (p.length : Int)))) with
  | true => rfl
  | false =>
    simp only [cond_false]
    have hne : p ≠ [] := by rintro rfl; simp at hl
    rw [firsts_ref p hp hF, Option.bind_some]
    have := check_loop hp F 0 0 (by omega) (by omega) rfl
    rw [show ((0 : Nat) : Int) = 0 from rfl, List.drop_zero] at this
    rw [this]
    cases (firstsL p 0).find? (bad p) with
    | some y => rfl
    | none =>
      obtain ⟨l0, l1⟩ := last_in hne
      have g : inb (lastAt (firstsL p 0) 0) p.length = true := inb_iff.2 ⟨l0, l1⟩
      have hw' : IntKind.i64.wrap ((p.length : Int) - 1) = (p.length : Int) - 1 := w64 (by omega)
      simp only [Option.bind_some, fn29_k1, g, cond_true, bindP, hw']
      have : refEnds (gt p (lastAt (firstsL p 0) 0)) = (((fn54 (gt p (lastAt (firstsL p 0) 0)) == 5) && ((fn55 (gt p (lastAt (firstsL p 0) 0)) == 144) || (fn55 (gt p (lastAt (firstsL p 0) 0)) == 0))) || ((fn54 (gt p (lastAt (firstsL p 0) 0)) == 6) && (fn55 (gt p (lastAt (firstsL p 0) 0)) == 0))) := rfl
      rw [← this]
      cases refEnds (gt p (lastAt (firstsL p 0) 0)) <;> rfl

/-! ### what Check's OK says -/
def okP (p : List Instr) : Bool := (chk p).2 == 0
theorem ok_len {p : List Instr} (h : okP p = true) : p ≠ [] ∧ p.length ≤ 4096 := by
  unfold okP chk at h
  cases hl : (((p.length : Int) == 0) || (decide ((4096 : Int) < (p.length : Int)))) with
  | true => rw [hl] at h; simp at h
  | false =>
    simp at hl
    exact ⟨hl.1, by omega⟩
theorem ok_er {p : List Instr} (h : okP p = true) : ∀ y ∈ firstsL p 0, er p y.1 = 0 := by
  obtain ⟨h1, h2⟩ := ok_len h
  unfold okP chk at h
  cases hl : (((p.length : Int) == 0) || (decide ((4096 : Int) < (p.length : Int)))) with
  | true => simp at hl; rcases hl with e | e; exact absurd e h1; omega
  | false =>
    rw [hl] at h
    simp only [cond_false] at h
    cases hf : (firstsL p 0).find? (bad p) with
    | some y =>
      rw [hf] at h
      have := List.find?_some hf
      simp [bad] at this
      simp at h
      exact absurd h this
    | none =>
      intro y hy
      have := List.find?_eq_none.1 hf y hy
      simpa [bad] using this
theorem er_known {p : List Instr} {k : Int} (h : er p k = 0) : fn76 (gt p k) = true := by
  unfold er at h
  cases hk : fn76 (gt p k) with
  | true => rfl
  | false => rw [hk] at h; simp at h
end Go.Proofs.Ytbpldfhehpjbaaa
