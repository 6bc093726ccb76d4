/- Plain: the document's Reached and Loops. -/
import Derived.Test.YtbpldfhehpjbaaaPlValid
namespace Go.Proofs.Ytbpldfhehpjbaaa
open Go Go.HW
set_option maxRecDepth 8000
set_option linter.unusedVariables false

theorem mem_edgesOf : ∀ (l : List (List Int)) (k a b : Int), (a, b) ∈ edgesOf l k ↔ k ≤ a ∧ b ∈ l.getD (a - k).toNat []
  | [], k, a, b => by simp [edgesOf]
  | x :: l, k, a, b => by
    rw [edgesOf, List.mem_append, mem_edgesOf l (k + 1) a b]
    constructor
    · rintro (h | ⟨h1, h2⟩)
      · obtain ⟨t, h1, h2⟩ := List.mem_map.1 h
        injection h2 with h2 h3
        subst h2; subst h3
        refine ⟨Int.le_refl _, ?_⟩
        rw [show (k - k).toNat = 0 from by omega]; exact h1
      · refine ⟨by omega, ?_⟩
        rw [show (a - k).toNat = (a - (k + 1)).toNat + 1 from by omega]; exact h2
    · rintro ⟨h1, h2⟩
      by_cases hk : a = k
      · subst hk
        rw [show (a - a).toNat = 0 from by omega] at h2
        exact .inl (List.mem_map.2 ⟨b, h2, rfl⟩)
      · rw [show (a - k).toNat = (a - (k + 1)).toNat + 1 from by omega] at h2
        exact .inr ⟨by omega, h2⟩
theorem mem_eds {p : List Instr} {a b : Int} : (a, b) ∈ eds p ↔ 0 ≤ a ∧ b ∈ gt (stp p) a := by
  rw [eds, mem_edgesOf, show a - 0 = a from by omega]; rfl

abbrev EE (p : List Instr) : List Edge := (eds p).map mkE
theorem mem_EE {p : List Instr} {e : Edge} : e ∈ EE p ↔ 0 ≤ e.fFrom ∧ e.fTo ∈ gt (stp p) e.fFrom := by
  rw [List.mem_map]
  constructor
  · rintro ⟨⟨a, b⟩, h, rfl⟩; exact mem_eds.1 h
  · intro h; exact ⟨(e.fFrom, e.fTo), mem_eds.2 h, rfl⟩
theorem EE_in {p : List Instr} {e : Edge} (he : e ∈ EE p) : (0 ≤ e.fFrom ∧ e.fFrom < ((stp p).length : Int)) ∧ (0 ≤ e.fTo ∧ e.fTo < ((stp p).length : Int)) := by
  obtain ⟨h1, h2⟩ := mem_EE.1 he
  refine ⟨⟨h1, ?_⟩, (stp_valid p).at h2⟩
  rcases Int.lt_or_le e.fFrom ((stp p).length : Int) with h | h
  · exact h
  · have : gt (stp p) e.fFrom = [] := by
      have : (stp p).length ≤ e.fFrom.toNat := by omega
      simp [gt, this]; rfl
    rw [this] at h2; simp at h2

theorem init_loop (N : Nat) (set : List Bool) (hs : set.length = N) (hN : N ≤ 5000) : ∀ (n : Nat) (m : List Bool) (k : Nat), m.length = N → k ≤ N → N - k < n → fn49_l1 (N : Int) set true n m (k : Int) = some (m.take k ++ set.drop k)
  | 0, m, k, _, _, h => by omega
  | n + 1, m, k, hm, hk, hn => by
    rw [fn49_l1_s]
    rcases Nat.lt_or_ge k N with h | h
    · have g1 : decide ((k : Int) < (N : Int)) = true := by simp; omega
      have g2 : inb (k : Int) set.length = true := inb_iff.2 ⟨by omega, by omega⟩
      have g3 : inb (k : Int) m.length = true := inb_iff.2 ⟨by omega, by omega⟩
      have g4 : IntKind.i64.wrap ((k : Int) + 1) = ((k + 1 : Nat) : Int) := w64 (by omega)
      have hd : set.drop k = gt set (k : Int) :: set.drop (k + 1) := drop_gt (by omega)
      simp only [g1, g2, g3, cond_true, Bool.true_and, g4]
      rw [show ((k : Int)).toNat = k from rfl, init_loop N set hs hN n _ (k + 1) (by simp [hm]) (by omega) (by omega), hd]
      rw [List.take_add_one, List.getElem?_set_self (by omega), List.take_set_of_le (by omega)]
      simp
    · have g1 : decide ((k : Int) < (N : Int)) = false := by simp; omega
      rw [g1, List.drop_eq_nil_of_le (by omega), List.take_of_length_le (by omega)]; simp

def Sub (N : Nat) (a b : List Bool) : Prop := ∀ i : Int, 0 ≤ i → i < (N : Int) → gt a i = true → gt b i = true

theorem grow_loop {E : List Edge} {set : List Bool} {N : Nat} {G : List (List Int)} (hs : set.length = N) (hE : ∀ e ∈ E, (0 ≤ e.fFrom ∧ e.fFrom < (N : Int)) ∧ (0 ≤ e.fTo ∧ e.fTo < (N : Int)) ∧ e.fTo ∈ gt G e.fFrom) (hl : E.length ≤ 20000) :
    ∀ (n : Nat) (out : List Bool) (ch : Bool) (k : Nat), out.length = N → Sub N set out → k ≤ E.length → E.length - k < n →
    ∃ out' ch', fn49_l3 E set n out ch (k : Int) = some (out', ch') ∧ out'.length = N ∧ Sub N out out' ∧ ((∀ i : Int, 0 ≤ i → i < (N : Int) → gt out i = true → Rch G i) → ∀ i : Int, 0 ≤ i → i < (N : Int) → gt out' i = true → Rch G i) ∧
      ((cnt (gt out') N < cnt (gt out) N ∧ ch' = true) ∨ (out' = out ∧ ch' = ch ∧ ∀ e ∈ E.drop k, gt out e.fFrom = true → gt out e.fTo = true))
  | 0, out, ch, k, _, _, _, h => by omega
  | n + 1, out, ch, k, ho, hsub, hk, hn => by
    rw [fn49_l3_s]
    rcases Nat.lt_or_ge k E.length with h | h
    · have g1 : decide ((k : Int) < (E.length : Int)) = true := by simp; omega
      have g2 : inb (k : Int) E.length = true := inb_iff.2 ⟨by omega, by omega⟩
      have hd : E.drop k = gt E (k : Int) :: E.drop (k + 1) := drop_gt h
      have hm : gt E (k : Int) ∈ E := gt_mem (by omega) (by omega)
      obtain ⟨⟨f0, f1⟩, ⟨t0, t1⟩, ht⟩ := hE _ hm
      have g3 : inb (gt E (k : Int)).fFrom set.length = true := by rw [hs]; exact inb_iff.2 ⟨f0, f1⟩
      have g5 : inb (gt E (k : Int)).fFrom out.length = true := by rw [ho]; exact inb_iff.2 ⟨f0, f1⟩
      have g6 : inb (gt E (k : Int)).fTo out.length = true := by rw [ho]; exact inb_iff.2 ⟨t0, t1⟩
      have g4 : IntKind.i64.wrap ((k : Int) + 1) = ((k + 1 : Nat) : Int) := w64 (by omega)
      have hor : ((gt set (gt E (k : Int)).fFrom) || (gt out (gt E (k : Int)).fFrom)) = gt out (gt E (k : Int)).fFrom := by
        cases h1 : gt set (gt E (k : Int)).fFrom with
        | false => rfl
        | true => rw [hsub _ f0 f1 h1]; rfl
      have a1 : (bif gt set (gt E (k : Int)).fFrom then true else inb (gt E (k : Int)).fFrom out.length) = true := by rw [g5]; cases gt set (gt E (k : Int)).fFrom <;> rfl
      have a2 : ∀ b : Bool, (bif b then true else true) = true := fun b => by cases b <;> rfl
      simp only [g1, g2, g3, a1, a2, hor, g4, g6, cond_true]
      rw [hd]
      cases hc : (gt out (gt E (k : Int)).fFrom && !(gt out (gt E (k : Int)).fTo)) with
      | true =>
        simp at hc
        obtain ⟨c1, c2⟩ := hc
        simp only [cond_true]
        have hset : ∀ i : Int, 0 ≤ i → gt (out.set (gt E (k : Int)).fTo.toNat true) i = if (gt E (k : Int)).fTo = i then true else gt out i := fun i hi => gt_set t0 (by rw [ho]; exact t1) hi
        have hs2 : Sub N out (out.set (gt E (k : Int)).fTo.toNat true) := fun i h0 h1 h2 => by rw [hset i h0]; split; rfl; exact h2
        obtain ⟨out', ch', e1, e2, e3, e4, e5⟩ := grow_loop hs hE hl n (out.set (gt E (k : Int)).fTo.toNat true) true (k + 1) (by simp [ho]) (fun i h0 h1 h2 => hs2 i h0 h1 (hsub i h0 h1 h2)) (by omega) (by omega)
        have hlt : cnt (gt (out.set (gt E (k : Int)).fTo.toNat true)) N < cnt (gt out) N := cnt_lt N (fun i h0 h1 h2 => hs2 i h0 h1 h2) _ t0 t1 c2 (by rw [hset _ t0]; simp)
        refine ⟨out', ch', e1, e2, fun i h0 h1 h2 => e3 i h0 h1 (hs2 i h0 h1 h2), fun hr i h0 h1 h2 => e4 (fun i h0 h1 h2 => ?_) i h0 h1 h2, .inl ?_⟩
        · rw [hset i h0] at h2
          by_cases hi : (gt E (k : Int)).fTo = i
          · rw [← hi]; exact (hr _ f0 f1 c1).step ht
          · rw [if_neg hi] at h2; exact hr i h0 h1 h2
        · rcases e5 with ⟨q1, q2⟩ | ⟨q1, q2, _⟩
          · exact ⟨by omega, q2⟩
          · rw [q1]; exact ⟨hlt, q2⟩
      | false =>
        simp only [cond_false]
        obtain ⟨out', ch', e1, e2, e3, e4, e5⟩ := grow_loop hs hE hl n out ch (k + 1) ho hsub (by omega) (by omega)
        refine ⟨out', ch', e1, e2, e3, e4, ?_⟩
        rcases e5 with h5 | ⟨q1, q2, q3⟩
        · exact .inl h5
        · refine .inr ⟨q1, q2, fun e he => ?_⟩
          rcases List.mem_cons.1 he with rfl | he
          · intro h1; rw [h1] at hc; simpa using hc
          · exact q3 e he
    · have g1 : decide ((k : Int) < (E.length : Int)) = false := by simp; omega
      rw [g1, List.drop_eq_nil_of_le (by omega)]
      exact ⟨out, ch, rfl, ho, fun _ _ _ h => h, fun h => h, .inr ⟨rfl, rfl, fun e he => by simp at he⟩⟩

theorem grow_all {F : Nat} (hF : 25000 ≤ F ∨ 9000 ≤ F) {E : List Edge} {set : List Bool} {N : Nat} {G : List (List Int)} (hs : set.length = N) (hE : ∀ e ∈ E, (0 ≤ e.fFrom ∧ e.fFrom < (N : Int)) ∧ (0 ≤ e.fTo ∧ e.fTo < (N : Int)) ∧ e.fTo ∈ gt G e.fFrom) (hl : E.length ≤ 8000) :
    ∀ (n : Nat) (out : List Bool) (ch : Bool), out.length = N → Sub N set out → cnt (gt out) N + 1 < n → (∀ i : Int, 0 ≤ i → i < (N : Int) → gt out i = true → Rch G i) → (ch = false → ∀ e ∈ E, gt out e.fFrom = true → gt out e.fTo = true) →
    ∃ R, fn49_l2 F E set n out ch = some R ∧ R.length = N ∧ Sub N out R ∧ (∀ i : Int, 0 ≤ i → i < (N : Int) → gt R i = true → Rch G i) ∧ ∀ e ∈ E, gt R e.fFrom = true → gt R e.fTo = true
  | 0, out, ch, _, _, h, _, _ => by omega
  | n + 1, out, ch, ho, hsub, hn, hr, hcl => by
    rw [fn49_l2_s]
    cases ch with
    | false => exact ⟨out, rfl, ho, fun _ _ _ h => h, hr, hcl rfl⟩
    | true =>
      have hF' : 9000 ≤ F := by rcases hF with h | h <;> omega
      obtain ⟨out', ch', e1, e2, e3, e4, e5⟩ := grow_loop hs hE (by omega) F out false 0 ho hsub (by omega) (by omega)
      rw [show ((0 : Nat) : Int) = 0 from rfl] at e1
      simp only [cond_true, e1, Option.bind_some, fn49_k3]
      rcases e5 with ⟨q1, q2⟩ | ⟨q1, q2, q3⟩
      · obtain ⟨R, r1, r2, r3, r4, r5⟩ := grow_all hF hs hE hl n out' ch' e2 (fun i h0 h1 h2 => e3 i h0 h1 (hsub i h0 h1 h2)) (by omega) (e4 hr) (fun h => by rw [q2] at h; cases h)
        exact ⟨R, r1, r2, fun i h0 h1 h2 => r3 i h0 h1 (e3 i h0 h1 h2), r4, r5⟩
      · subst q1
        rw [List.drop_zero] at q3
        cases n with
        | zero => omega
        | succ n =>
          rw [q2, fn49_l2_s]
          exact ⟨out', rfl, e2, fun _ _ _ h => h, hr, q3⟩

theorem reached_ref {F : Nat} {p : List Instr} (hF : 9000 ≤ F) (hp : p.length ≤ 1000) : ∃ R, fn22 F p = some R ∧ IsR (stp p) R := by
  rw [fn22, check_ref (by omega) (by omega), Option.bind_some]
  cases ho : okP p with
  | false =>
    rw [not_ok ho, cond_true]
    exact ⟨[], rfl, by rw [stp_nil ho]; exact ⟨rfl, fun i a b => by simp at b; omega⟩⟩
  | true =>
    have hl : (stp p).length = p.length := by rw [stp_length, ho]; rfl
    obtain ⟨hne, hlen⟩ := ok_len ho
    have hpos : 0 < p.length := List.length_pos_iff.2 hne
    have g : (decide (0 ≤ (p.length : Int)) && decide ((p.length : Int) ≤ (p.length : Int)) && decide ((1 : Int) * (p.length : Int) ≤ 281474976710656) && decide ((p.length : Int) ≤ 9223372036854775807)) = true := by simp; omega
    have g2 : inb 0 (List.replicate (p.length : Int).toNat false).length = true := inb_iff.2 ⟨by omega, by simp; omega⟩
    rw [is_ok ho, cond_false, g, cond_true, g2, cond_true, edges_ref (by omega) (by omega), Option.bind_some]
    rw [show ((p.length : Int)).toNat = p.length from by omega, show ((0 : Int)).toNat = 0 from rfl]
    have hset : ((List.replicate p.length false).set 0 true).length = p.length := by simp
    have hin := init_loop p.length ((List.replicate p.length false).set 0 true) hset (by omega) F (List.replicate p.length false) 0 (by simp) (by omega) (by omega)
    rw [show ((0 : Nat) : Int) = 0 from rfl, List.take_zero, List.nil_append, List.drop_zero] at hin
    rw [fn49, g, cond_true, show ((p.length : Int)).toNat = p.length from by omega, hin, Option.bind_some, fn49_k1]
    have hgs : ∀ i : Int, 0 ≤ i → i < (p.length : Int) → (gt ((List.replicate p.length false).set 0 true) i = true ↔ i = 0) := fun i h0 h1 => by
      have := gt_set (v := List.replicate p.length false) (i := 0) (k := i) (a := true) (by omega) (by simp; omega) h0
      rw [show ((0 : Int)).toNat = 0 from rfl] at this
      rw [this]
      have e0 : gt (List.replicate p.length false) i = false := by simp [gt, List.getD_eq_getElem?_getD, List.getElem?_replicate]; split <;> rfl
      rw [e0]
      constructor
      · intro h; split at h
        · omega
        · cases h
      · intro h; simp [h]
    have hc := cnt_le (gt ((List.replicate p.length false).set 0 true)) p.length
    obtain ⟨R, r1, r2, r3, r4, r5⟩ := grow_all (F := F) (.inr hF) (E := (eds p).map mkE) (G := stp p) hset (fun e he => by
      obtain ⟨a, b⟩ := EE_in he
      rw [hl] at a b
      exact ⟨a, b, (mem_EE.1 he).2⟩) (by rw [List.length_map]; have := eds_len (p := p); omega) F _ true hset (fun _ _ _ h => h) (by omega) (fun i h0 h1 h2 => by rw [(hgs i h0 h1).1 h2]; exact .base) (fun h => by cases h)
    rw [r1]
    refine ⟨R, rfl, by rw [r2, hl], fun i h0 h1 => ⟨fun h => r4 i h0 (by omega) h, fun h => ?_⟩⟩
    clear h0 h1
    have hv := stp_valid p
    induction h with
    | base => exact r3 0 (by omega) (by omega) ((hgs 0 (by omega) (by omega)).2 rfl)
    | @step a b ha hb ih => exact r5 ⟨a, b⟩ (mem_EE.2 ⟨(ha.lt hv (by omega)).1, hb⟩) ih
end Go.Proofs.Ytbpldfhehpjbaaa
