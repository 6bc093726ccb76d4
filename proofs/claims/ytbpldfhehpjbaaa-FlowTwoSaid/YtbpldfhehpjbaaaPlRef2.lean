/- Plain: the document's Loops. -/
import Derived.Test.YtbpldfhehpjbaaaPlRef
namespace Go.Proofs.Ytbpldfhehpjbaaa
open Go Go.HW
set_option maxRecDepth 8000
set_option linter.unusedVariables false

def onB (E : List Edge) (left : List Bool) (a : Int) : Bool := E.any fun e => (e.fFrom == a) && gt left e.fTo
theorem on_loop {E : List Edge} {left : List Bool} {N : Nat} (hN : left.length = N) (hE : ∀ e ∈ E, 0 ≤ e.fTo ∧ e.fTo < (N : Int)) (hl : E.length ≤ 8000) (a : Int) : ∀ (n : Nat) (on : Bool) (k : Nat), k ≤ E.length → E.length - k < n →
    fn24_l3 E left a n on (k : Int) = some (on || onB (E.drop k) left a)
  | 0, on, k, _, h => by omega
  | n + 1, on, k, hk, hn => by
    rw [fn24_l3_s]
    rcases Nat.lt_or_ge k E.length with h | h
    · have g1 : decide ((k : Int) < (E.length : Int)) = true := by simp; omega
      have g2 : inb (k : Int) E.length = true := inb_iff.2 ⟨by omega, by omega⟩
      have hd : E.drop k = gt E (k : Int) :: E.drop (k + 1) := drop_gt h
      have hm : gt E (k : Int) ∈ E := gt_mem (by omega) (by omega)
      have g3 : inb (gt E (k : Int)).fTo left.length = true := by rw [hN]; exact inb_iff.2 (hE _ hm)
      have g4 : IntKind.i64.wrap ((k : Int) + 1) = ((k + 1 : Nat) : Int) := w64 (by omega)
      have a2 : ∀ b : Bool, (bif b then true else true) = true := fun b => by cases b <;> rfl
      simp only [g1, g2, g3, a2, g4, cond_true]
      rw [on_loop hN hE hl a n _ (k + 1) (by omega) (by omega), hd]
      have : onB (gt E (k : Int) :: E.drop (k + 1)) left a = (((gt E (k : Int)).fFrom == a && gt left (gt E (k : Int)).fTo) || onB (E.drop (k + 1)) left a) := rfl
      rw [this, Bool.or_assoc]
    · have g1 : decide ((k : Int) < (E.length : Int)) = false := by simp; omega
      rw [g1, List.drop_eq_nil_of_le (by omega)]; simp [onB]

theorem prune_loop {F : Nat} (hF : 9000 ≤ F) {E : List Edge} {N : Nat} (hNb : N ≤ 1000) (hE : ∀ e ∈ E, 0 ≤ e.fTo ∧ e.fTo < (N : Int)) (hl : E.length ≤ 8000) : ∀ (n : Nat) (left : List Bool) (ch : Bool) (k : Nat), left.length = N → k ≤ N → N - k < n →
    ∃ left' ch', fn24_l2 F E n left ch (k : Int) = some (left', ch') ∧ left'.length = N ∧ Sub N left' left ∧
      (∀ X : List Int, (∀ x ∈ X, (0 ≤ x ∧ x < (N : Int)) ∧ ∃ e ∈ E, e.fFrom = x ∧ e.fTo ∈ X) → (∀ x ∈ X, gt left x = true) → ∀ x ∈ X, gt left' x = true) ∧
      ((cnt (fun i => !gt left' i) N < cnt (fun i => !gt left i) N ∧ ch' = true) ∨ (left' = left ∧ ch' = ch ∧ ∀ i : Int, (k : Int) ≤ i → i < (N : Int) → gt left i = true → onB E left i = true))
  | 0, left, ch, k, _, _, h => by omega
  | n + 1, left, ch, k, hN, hk, hn => by
    rw [fn24_l2_s]
    rcases Nat.lt_or_ge k N with h | h
    · have g1 : decide ((k : Int) < (left.length : Int)) = true := by simp; omega
      have g2 : inb (k : Int) left.length = true := inb_iff.2 ⟨by omega, by omega⟩
      have g4 : IntKind.i64.wrap ((k : Int) + 1) = ((k + 1 : Nat) : Int) := w64 (by omega)
      have hon := on_loop hN hE hl (k : Int) F false 0 (by omega) (by omega)
      rw [show ((0 : Nat) : Int) = 0 from rfl, List.drop_zero, Bool.false_or] at hon
      simp only [g1, g2, cond_true, g4, hon, Option.bind_some, fn24_k3]
      have skip : ∀ (hk2 : gt left (k : Int) = true → onB E left (k : Int) = true), ∃ left' ch', fn24_l2 F E n left ch ((k + 1 : Nat) : Int) = some (left', ch') ∧ left'.length = N ∧ Sub N left' left ∧
          (∀ X : List Int, (∀ x ∈ X, (0 ≤ x ∧ x < (N : Int)) ∧ ∃ e ∈ E, e.fFrom = x ∧ e.fTo ∈ X) → (∀ x ∈ X, gt left x = true) → ∀ x ∈ X, gt left' x = true) ∧
          ((cnt (fun i => !gt left' i) N < cnt (fun i => !gt left i) N ∧ ch' = true) ∨ (left' = left ∧ ch' = ch ∧ ∀ i : Int, (k : Int) ≤ i → i < (N : Int) → gt left i = true → onB E left i = true)) := fun hk2 => by
        obtain ⟨left', ch', e1, e2, e3, e4, e5⟩ := prune_loop hF hNb hE hl n left ch (k + 1) hN (by omega) (by omega)
        refine ⟨left', ch', e1, e2, e3, e4, ?_⟩
        rcases e5 with h5 | ⟨q1, q2, q3⟩
        · exact .inl h5
        · refine .inr ⟨q1, q2, fun i h0 h1 h2 => ?_⟩
          by_cases hi : i = (k : Int)
          · subst hi; exact hk2 h2
          · exact q3 i (by omega) h1 h2
      cases hg : gt left (k : Int) with
      | false =>
        simp only [Bool.not_false, cond_true]
        exact skip (fun h => by rw [hg] at h; cases h)
      | true =>
        simp only [Bool.not_true, cond_false]
        cases ho : onB E left (k : Int) with
        | true =>
          simp only [Bool.not_true, cond_false]
          exact skip (fun _ => ho)
        | false =>
          simp only [Bool.not_false, cond_true]
          have hset : ∀ i : Int, 0 ≤ i → gt (left.set ((k : Int)).toNat false) i = if (k : Int) = i then false else gt left i := fun i hi => gt_set (by omega) (by omega) hi
          obtain ⟨left', ch', e1, e2, e3, e4, e5⟩ := prune_loop hF hNb hE hl n (left.set ((k : Int)).toNat false) true (k + 1) (by simp [hN]) (by omega) (by omega)
          have hs2 : Sub N (left.set ((k : Int)).toNat false) left := fun i h0 h1 h2 => by
            rw [hset i h0] at h2; split at h2
            · cases h2
            · exact h2
          have hlt : cnt (fun i => !gt (left.set ((k : Int)).toNat false) i) N < cnt (fun i => !gt left i) N := cnt_lt N (fun i h0 h1 h2 => by
            rw [hset i h0]; split
            · rfl
            · exact h2) (k : Int) (by omega) (by omega) (by rw [hg]; rfl) (by rw [hset _ (by omega)]; simp)
          refine ⟨left', ch', e1, e2, fun i h0 h1 h2 => hs2 i h0 h1 (e3 i h0 h1 h2), fun X hX hXl => e4 X hX (fun x hx => ?_), .inl ?_⟩
          · obtain ⟨⟨x0, x1⟩, e, he, h3, h4⟩ := hX x hx
            rw [hset x x0]
            split
            · rename_i hkx
              exfalso
              have : onB E left (k : Int) = true := List.any_eq_true.2 ⟨e, he, by rw [h3, hkx]; simp [hXl _ h4]⟩
              rw [ho] at this; cases this
            · exact hXl x hx
          · rcases e5 with ⟨q1, q2⟩ | ⟨q1, q2, _⟩
            · exact ⟨by omega, q2⟩
            · rw [q1]; exact ⟨hlt, q2⟩
    · have g1 : decide ((k : Int) < (left.length : Int)) = false := by simp; omega
      rw [g1]
      exact ⟨left, ch, rfl, hN, fun _ _ _ h => h, fun X _ h => h, .inr ⟨rfl, rfl, fun i h0 h1 _ => by omega⟩⟩

theorem prune_all {F : Nat} (hF : 9000 ≤ F) {E : List Edge} {N : Nat} (hNb : N ≤ 1000) (hE : ∀ e ∈ E, 0 ≤ e.fTo ∧ e.fTo < (N : Int)) (hl : E.length ≤ 8000) : ∀ (n : Nat) (left : List Bool) (ch : Bool), left.length = N → cnt (fun i => !gt left i) N + 1 < n →
    (ch = false → ∀ i : Int, 0 ≤ i → i < (N : Int) → gt left i = true → onB E left i = true) →
    ∃ L, fn24_l1 F E n left ch = some L ∧ L.length = N ∧ Sub N L left ∧
      (∀ X : List Int, (∀ x ∈ X, (0 ≤ x ∧ x < (N : Int)) ∧ ∃ e ∈ E, e.fFrom = x ∧ e.fTo ∈ X) → (∀ x ∈ X, gt left x = true) → ∀ x ∈ X, gt L x = true) ∧
      ∀ i : Int, 0 ≤ i → i < (N : Int) → gt L i = true → onB E L i = true
  | 0, left, ch, _, h, _ => by omega
  | n + 1, left, ch, hN, hn, hcl => by
    rw [fn24_l1_s]
    cases ch with
    | false => exact ⟨left, rfl, hN, fun _ _ _ h => h, fun X _ h => h, hcl rfl⟩
    | true =>
      obtain ⟨left', ch', e1, e2, e3, e4, e5⟩ := prune_loop hF hNb hE hl F left false 0 hN (by omega) (by omega)
      rw [show ((0 : Nat) : Int) = 0 from rfl] at e1 e5
      simp only [cond_true, e1, Option.bind_some, fn24_k2]
      rcases e5 with ⟨q1, q2⟩ | ⟨q1, q2, q3⟩
      · obtain ⟨L, r1, r2, r3, r4, r5⟩ := prune_all hF hNb hE hl n left' ch' e2 (by omega) (fun h => by rw [q2] at h; cases h)
        exact ⟨L, r1, r2, fun i h0 h1 h2 => e3 i h0 h1 (r3 i h0 h1 h2), fun X hX hl => r4 X hX (e4 X hX hl), r5⟩
      · subst q1
        cases n with
        | zero => omega
        | succ n =>
          rw [q2, fn24_l1_s]
          exact ⟨left', rfl, e2, fun _ _ _ h => h, fun X _ h => h, q3⟩

theorem any_loop {L : List Bool} (hL : L.length ≤ 5000) : ∀ (n k : Nat), k ≤ L.length → L.length - k < n → fn24_l4 L n (k : Int) = some (bif (L.drop k).any id then .inr true else .inl ())
  | 0, k, _, h => by omega
  | n + 1, k, hk, hn => by
    rw [fn24_l4_s]
    rcases Nat.lt_or_ge k L.length with h | h
    · have g1 : decide ((k : Int) < (L.length : Int)) = true := by simp; omega
      have g2 : inb (k : Int) L.length = true := inb_iff.2 ⟨by omega, by omega⟩
      have g4 : IntKind.i64.wrap ((k : Int) + 1) = ((k + 1 : Nat) : Int) := w64 (by omega)
      have hd : L.drop k = gt L (k : Int) :: L.drop (k + 1) := drop_gt h
      simp only [g1, g2, cond_true, g4]
      rw [any_loop hL n (k + 1) (by omega) (by omega), hd, List.any_cons]
      cases gt L (k : Int) <;> rfl
    · have g1 : decide ((k : Int) < (L.length : Int)) = false := by simp; omega
      rw [g1, List.drop_eq_nil_of_le (by omega)]; rfl

theorem loops_ref {F : Nat} {p : List Instr} (hF : 9000 ≤ F) (hp : p.length ≤ 1000) : ∃ b, fn24 F p = some b ∧ (b = true ↔ Rnd (stp p)) := by
  obtain ⟨R, h1, h2, h3⟩ := reached_ref hF hp
  have hv := stp_valid p
  have hsl : (stp p).length ≤ p.length := by rw [stp_length]; split <;> omega
  rw [fn24, h1, Option.bind_some, edges_ref (by omega) (by omega), Option.bind_some]
  have hc := cnt_le (fun i => !gt R i) (stp p).length
  obtain ⟨L, l1, l2, l3, l4, l5⟩ := prune_all hF (E := EE p) (N := (stp p).length) (by omega) (fun e he => (EE_in he).2) (by rw [List.length_map]; have := eds_len (p := p); omega) F R true h2 (by omega) (fun h => by cases h)
  rw [l1, Option.bind_some, fn24_k1]
  have ha := any_loop (L := L) (by omega) F 0 (by omega) (by omega)
  rw [show ((0 : Nat) : Int) = 0 from rfl, List.drop_zero] at ha
  rw [ha]
  refine ⟨L.any id, by cases L.any id <;> rfl, ?_⟩
  have hin : ∀ i : Int, 0 ≤ i → i < ((stp p).length : Int) → gt L i = true → Rch (stp p) i := fun i a b h => (h3 i a b).1 (l3 i a b h)
  constructor
  · intro h
    obtain ⟨b, hb, hb'⟩ := List.any_eq_true.1 h
    obtain ⟨j, hj, e⟩ := List.mem_iff_getElem.1 hb
    have hgj : gt L (j : Int) = true := by
      have e1 : gt L (j : Int) = L[j] := by simp [gt, hj]
      rw [e1, e]; exact hb'
    refine ⟨((List.range (stp p).length).map (fun i : Nat => (i : Int))).filter (fun i => gt L i), ?_, fun x hx => ?_⟩
    · intro hn
      have : (j : Int) ∈ ((List.range (stp p).length).map (fun i : Nat => (i : Int))).filter (fun i => gt L i) :=
        List.mem_filter.2 ⟨List.mem_map.2 ⟨j, by simp; omega, rfl⟩, hgj⟩
      rw [hn] at this; simp at this
    · obtain ⟨m1, m2⟩ := List.mem_filter.1 hx
      obtain ⟨i, hi, rfl⟩ := List.mem_map.1 m1
      have hi' : i < (stp p).length := by simpa using hi
      have hon := l5 (i : Int) (by omega) (by omega) m2
      obtain ⟨e, he, h5⟩ := List.any_eq_true.1 hon
      simp at h5
      obtain ⟨h6, h7⟩ := h5
      obtain ⟨_, ht⟩ := mem_EE.1 he
      rw [h6] at ht
      obtain ⟨t0, t1⟩ := hv.at ht
      refine ⟨hin _ (by omega) (by omega) m2, e.fTo, ht, List.mem_filter.2 ⟨List.mem_map.2 ⟨e.fTo.toNat, by simp; omega, by omega⟩, h7⟩⟩
  · rintro ⟨X, hne, hX⟩
    cases X with
    | nil => exact absurd rfl hne
    | cons x X =>
      have hlt : ∀ y ∈ x :: X, 0 ≤ y ∧ y < ((stp p).length : Int) := fun y hy => by
        obtain ⟨hr, t, ht, _⟩ := hX y hy
        have hpos : 0 < (stp p).length := by
          rcases Nat.eq_zero_or_pos (stp p).length with h | h
          · have : stp p = [] := List.eq_nil_of_length_eq_zero h
            rw [this] at ht; simp [gt] at ht; cases ht
          · exact h
        exact hr.lt hv hpos
      have := l4 (x :: X) (fun y hy => by
        obtain ⟨_, t, ht, htX⟩ := hX y hy
        exact ⟨hlt y hy, ⟨y, t⟩, mem_EE.2 ⟨(hlt y hy).1, ht⟩, rfl, htX⟩) (fun y hy => (h3 y (hlt y hy).1 (hlt y hy).2).2 (hX y hy).1) x (by simp)
      obtain ⟨x0, x1⟩ := hlt x (by simp)
      exact List.any_eq_true.2 ⟨gt L x, gt_mem x0 (by omega), by simpa using this⟩
end Go.Proofs.Ytbpldfhehpjbaaa
