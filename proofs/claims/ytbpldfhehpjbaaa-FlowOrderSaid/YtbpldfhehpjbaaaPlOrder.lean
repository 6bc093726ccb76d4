/- Plain law of FlowOrder. -/
import Derived.Test.YtbpldfhehpjbaaaPlProg
namespace Go.Proofs.Ytbpldfhehpjbaaa
open Go Go.HW
set_option maxRecDepth 8000
set_option linter.unusedVariables false

theorem bltI {a b : Nat} : Nat.blt a b = true ↔ a < b := by rw [Nat.blt_eq]
theorem blt_succ {j k : Nat} (h : j ≠ k) : Nat.blt j (k + 1) = Nat.blt j k := by
  apply Bool.eq_iff_iff.2; rw [bltI, bltI]; omega
theorem gt_set' {v : List Int} {i k : Int} {a : Int} (h0 : 0 ≤ i) (h1 : i < (v.length : Int)) (k0 : 0 ≤ k) : gt (v.set i.toNat a) k = if i = k then a else gt v k := gt_set h0 h1 k0

/-- one round -/
theorem order_l2 {E : List Edge} {is : List Bool} {N : Nat} (hN : N ≤ 1000) (his : is.length = N) (hE : ∀ e ∈ E, (0 ≤ e.fFrom ∧ e.fFrom < (N : Int)) ∧ (0 ≤ e.fTo ∧ e.fTo < (N : Int))) (hl : E.length ≤ 8000) (r : Nat) (hr : r ≤ 1000) :
    ∀ (n : Nat) (lo : List Int) (ch : Bool) (k : Nat), k ≤ E.length → E.length - k < n → lo.length = N → (∀ i : Int, 0 ≤ i → i < (N : Int) → 0 ≤ gt lo i ∧ gt lo i ≤ 8001 * r + k) →
      -- of the edges: those behind are as the last round left them; those ahead are done in this one
      (∀ (j : Nat) (e : Edge), E[j]? = some e → gt is e.fFrom = true → gt lo e.fTo ≥ gt lo e.fFrom + 1 ∨ gt lo e.fFrom ≥ (bif Nat.blt j k then (r : Int) + 1 else (r : Int))) →
    ∃ lo' ch', fn6_l2 is E n lo ch (k : Int) = some (lo', ch') ∧ lo'.length = N ∧ (∀ i : Int, 0 ≤ i → i < (N : Int) → 0 ≤ gt lo' i ∧ gt lo' i ≤ 8001 * r + 8000) ∧
      (∀ e ∈ E, gt is e.fFrom = true → gt lo' e.fTo ≥ gt lo' e.fFrom + 1 ∨ gt lo' e.fFrom ≥ (r : Int) + 1) ∧
      (∀ i : Int, 0 ≤ i → gt lo i ≤ gt lo' i) ∧
      ((ch' = true ∧ ∃ i : Int, 0 ≤ i ∧ i < (N : Int) ∧ gt lo' i ≥ (r : Int) + 1) ∨ (lo' = lo ∧ ch' = ch ∧ ∀ (j : Nat) (e : Edge), k ≤ j → E[j]? = some e → gt is e.fFrom = true → gt lo e.fTo ≥ gt lo e.fFrom + 1)) ∧
      (∀ c : Int → Int, (∀ e ∈ E, gt is e.fFrom = true → 0 ≤ c e.fFrom ∧ c e.fFrom + 1 ≤ c e.fTo) → (∀ i : Int, 0 ≤ i → i < (N : Int) → gt lo i ≤ max 0 (c i)) → ∀ i : Int, 0 ≤ i → i < (N : Int) → gt lo' i ≤ max 0 (c i))
  | 0, lo, ch, k, _, h, _, _, _ => by omega
  | n + 1, lo, ch, k, hk, hn, hlo, hb, hst => by
    rw [fn6_l2_s]
    rcases Nat.lt_or_ge k E.length with h | h
    · have g1 : decide ((k : Int) < (E.length : Int)) = true := by simp; omega
      have g2 : inb (k : Int) E.length = true := inb_iff.2 ⟨by omega, by omega⟩
      have hm : gt E (k : Int) ∈ E := gt_mem (by omega) (by omega)
      have hget : E[k]? = some (gt E (k : Int)) := by simp [gt, h]
      generalize gt E (k : Int) = e at hm hget ⊢
      obtain ⟨⟨f0, f1⟩, ⟨t0, t1⟩⟩ := hE _ hm
      have g3 : inb e.fFrom is.length = true := by rw [his]; exact inb_iff.2 ⟨f0, f1⟩
      have g5 : inb e.fFrom lo.length = true := by rw [hlo]; exact inb_iff.2 ⟨f0, f1⟩
      have g6 : inb e.fTo lo.length = true := by rw [hlo]; exact inb_iff.2 ⟨t0, t1⟩
      have g4 : IntKind.i64.wrap ((k : Int) + 1) = ((k + 1 : Nat) : Int) := w64 (by omega)
      have a2 : ∀ b : Bool, (bif b then true else true) = true := fun b => by cases b <;> rfl
      obtain ⟨b0, b1⟩ := hb e.fFrom f0 f1
      have w1 : IntKind.i64.wrap (gt lo e.fFrom + 1) = gt lo e.fFrom + 1 := w64 (by omega)
      simp only [g1, g2, g3, g5, g6, a2, g4, w1, cond_true]
      cases hi : gt is e.fFrom with
      | false =>
        simp only [Bool.false_and, cond_false]
        have hst' : ∀ (j : Nat) (e : Edge), E[j]? = some e → gt is e.fFrom = true → gt lo e.fTo ≥ gt lo e.fFrom + 1 ∨ gt lo e.fFrom ≥ (bif Nat.blt j (k + 1) then (r : Int) + 1 else (r : Int)) := fun j e' hj he' => by
          rcases hst j e' hj he' with h1 | h1
          · exact .inl h1
          · right
            have : j ≠ k := by rintro rfl; rw [hget] at hj; cases hj; rw [hi] at he'; cases he'
            have : Nat.blt j (k + 1) = Nat.blt j k := blt_succ (by assumption)
            rw [this]; exact h1
        obtain ⟨lo', ch', e1, e2, e3, e4, e7, e5, e6⟩ := order_l2 hN his hE hl r hr n lo ch (k + 1) (by omega) (by omega) hlo (fun i a b => by have := hb i a b; omega) hst'
        refine ⟨lo', ch', e1, e2, e3, e4, e7, ?_, e6⟩
        rcases e5 with h5 | ⟨q1, q2, q3⟩
        · exact .inl h5
        · refine .inr ⟨q1, q2, fun j e' hkj hj he' => ?_⟩
          by_cases hjk : j = k
          · subst hjk; rw [hget] at hj; cases hj; rw [hi] at he'; cases he'
          · exact q3 j e' (by omega) hj he'
      | true =>
        simp only [Bool.true_and]
        cases hc : decide (gt lo e.fTo < gt lo e.fFrom + 1) with
        | false =>
          simp only [cond_false]
          simp at hc
          have hst' : ∀ (j : Nat) (e : Edge), E[j]? = some e → gt is e.fFrom = true → gt lo e.fTo ≥ gt lo e.fFrom + 1 ∨ gt lo e.fFrom ≥ (bif Nat.blt j (k + 1) then (r : Int) + 1 else (r : Int)) := fun j e' hj he' => by
            by_cases hjk : j = k
            · subst hjk; rw [hget] at hj; cases hj; exact .inl (by omega)
            · rcases hst j e' hj he' with h1 | h1
              · exact .inl h1
              · right
                have : Nat.blt j (k + 1) = Nat.blt j k := blt_succ (by assumption)
                rw [this]; exact h1
          obtain ⟨lo', ch', e1, e2, e3, e4, e7, e5, e6⟩ := order_l2 hN his hE hl r hr n lo ch (k + 1) (by omega) (by omega) hlo (fun i a b => by have := hb i a b; omega) hst'
          refine ⟨lo', ch', e1, e2, e3, e4, e7, ?_, e6⟩
          rcases e5 with h5 | ⟨q1, q2, q3⟩
          · exact .inl h5
          · refine .inr ⟨q1, q2, fun j e' hkj hj he' => ?_⟩
            by_cases hjk : j = k
            · subst hjk; rw [hget] at hj; cases hj; omega
            · exact q3 j e' (by omega) hj he'
        | true =>
          simp only [cond_true]
          simp at hc
          have hset : ∀ i : Int, 0 ≤ i → gt (lo.set e.fTo.toNat (gt lo e.fFrom + 1)) i = if e.fTo = i then gt lo e.fFrom + 1 else gt lo i := fun i hi => gt_set t0 (by rw [hlo]; exact t1) hi
          -- why it is taken anew: its beginning was set of late
          have hr1 : gt lo e.fFrom ≥ (r : Int) := by
            rcases hst k e hget hi with h1 | h1
            · omega
            · have : Nat.blt k k = false := by cases hh : Nat.blt k k with | false => rfl | true => have := bltI.1 hh; omega
              rw [this] at h1; exact h1
          have hmono : ∀ i : Int, 0 ≤ i → gt lo i ≤ gt (lo.set e.fTo.toNat (gt lo e.fFrom + 1)) i := fun i h0 => by
            rw [hset i h0]; split
            · rename_i he; subst he; omega
            · omega
          have hst' : ∀ (j : Nat) (e' : Edge), E[j]? = some e' → gt is e'.fFrom = true → gt (lo.set e.fTo.toNat (gt lo e.fFrom + 1)) e'.fTo ≥ gt (lo.set e.fTo.toNat (gt lo e.fFrom + 1)) e'.fFrom + 1 ∨ gt (lo.set e.fTo.toNat (gt lo e.fFrom + 1)) e'.fFrom ≥ (bif Nat.blt j (k + 1) then (r : Int) + 1 else (r : Int)) := fun j e' hj he' => by
            have hm' : e' ∈ E := List.mem_of_getElem? hj
            obtain ⟨⟨f0', f1'⟩, ⟨t0', t1'⟩⟩ := hE _ hm'
            by_cases hff : e.fTo = e'.fFrom
            · right
              rw [hset _ f0', if_pos hff]
              cases Nat.blt j (k + 1) <;> simp <;> omega
            · have hf : gt (lo.set e.fTo.toNat (gt lo e.fFrom + 1)) e'.fFrom = gt lo e'.fFrom := by rw [hset _ f0', if_neg hff]
              by_cases hjk : j = k
              · subst hjk; rw [hget] at hj; cases hj
                left
                rw [hf, hset _ t0, if_pos rfl]; omega
              · rcases hst j e' hj he' with h1 | h1
                · left; rw [hf]; have := hmono e'.fTo t0'; omega
                · right
                  rw [hf]
                  have : Nat.blt j (k + 1) = Nat.blt j k := blt_succ (by assumption)
                  rw [this]; exact h1
          obtain ⟨lo', ch', e1, e2, e3, e4, e7, e5, e6⟩ := order_l2 hN his hE hl r hr n (lo.set e.fTo.toNat (gt lo e.fFrom + 1)) true (k + 1) (by omega) (by omega) (by simp [hlo]) (fun i a b => by
            rw [hset i a]; split
            · have := hb e.fFrom f0 f1; omega
            · have := hb i a b; omega) hst'
          have hgrow : ∃ i : Int, 0 ≤ i ∧ i < (N : Int) ∧ gt (lo.set e.fTo.toNat (gt lo e.fFrom + 1)) i ≥ (r : Int) + 1 := ⟨e.fTo, t0, t1, by rw [hset _ t0, if_pos rfl]; omega⟩
          refine ⟨lo', ch', e1, e2, e3, e4, fun i a => Int.le_trans (hmono i a) (e7 i a), .inl ?_, fun c hc1 hc2 => e6 c hc1 (fun i a b => ?_)⟩
          · obtain ⟨i, a, b, c⟩ := hgrow
            refine ⟨?_, i, a, b, by have := e7 i a; omega⟩
            rcases e5 with ⟨h5, _⟩ | ⟨_, h5, _⟩ <;> exact h5
          · rw [hset i a]; split
            · rename_i he; subst he
              have q1 := hc2 e.fFrom f0 f1
              have q2 := hc1 e hm hi
              omega
            · exact hc2 i a b
    · have g1 : decide ((k : Int) < (E.length : Int)) = false := by simp; omega
      have hk' : k = E.length := by omega
      rw [g1]
      refine ⟨lo, ch, rfl, hlo, fun i a b => by have := hb i a b; omega, fun e he hi => ?_, fun i _ => Int.le_refl _, .inr ⟨rfl, rfl, fun j e hj he => ?_⟩, fun c _ h => h⟩
      · obtain ⟨j, hj, rfl⟩ := List.mem_iff_getElem.1 he
        have := hst j _ (List.getElem?_eq_getElem hj) hi
        have hb' : Nat.blt j k = true := bltI.2 (by omega)
        rw [hb'] at this; exact this
      · have := (List.getElem?_eq_some_iff.1 he).1; omega

/-- all rounds -/
theorem order_l1 {F : Nat} (hF : 9000 ≤ F) {E : List Edge} {is : List Bool} {N : Nat} {p : List Instr} (hp : p.length = N) (hN : N ≤ 900) (his : is.length = N) (hE : ∀ e ∈ E, (0 ≤ e.fFrom ∧ e.fFrom < (N : Int)) ∧ (0 ≤ e.fTo ∧ e.fTo < (N : Int))) (hl : E.length ≤ 8000) (yes : Bool)
    (c : Int → Int) (hno : yes = false → (∀ e ∈ E, gt is e.fFrom = true → 0 ≤ c e.fFrom ∧ c e.fFrom + 1 ≤ c e.fTo) ∧ ∀ i : Int, c i ≤ N)
    (hyes : yes = true → ∃ X : List Int, X ≠ [] ∧ ∀ x ∈ X, 0 ≤ x ∧ x < (N : Int) ∧ ∃ e ∈ E, e.fFrom = x ∧ gt is x = true ∧ e.fTo ∈ X) :
    ∀ (n : Nat) (lo : List Int) (gr : Bool) (r : Nat), r ≤ N + 1 → N + 1 - r < n → lo.length = N → (∀ i : Int, 0 ≤ i → i < (N : Int) → 0 ≤ gt lo i ∧ gt lo i ≤ 8001 * r) →
      (∀ e ∈ E, gt is e.fFrom = true → gt lo e.fTo ≥ gt lo e.fFrom + 1 ∨ gt lo e.fFrom ≥ (r : Int)) → (yes = false → ∀ i : Int, 0 ≤ i → i < (N : Int) → gt lo i ≤ max 0 (c i)) → (r = N + 1 → gr = yes) →
    ∃ lo', fn6_l1 F p is E n lo gr (r : Int) = some (lo', yes)
  | 0, lo, gr, r, _, h, _, _, _, _, _ => by omega
  | n + 1, lo, gr, r, hr, hn, hlo, hb, hst, hc, hend => by
    rw [fn6_l1_s]
    rcases Nat.lt_or_ge N r with h | h
    · have g1 : decide ((r : Int) ≤ (p.length : Int)) = false := by simp; omega
      have := hend (by omega)
      subst this
      rw [g1]; exact ⟨lo, rfl⟩
    · have g1 : decide ((r : Int) ≤ (p.length : Int)) = true := by simp; omega
      have g4 : IntKind.i64.wrap ((r : Int) + 1) = ((r + 1 : Nat) : Int) := w64 (by omega)
      obtain ⟨lo', ch', e1, e2, e3, e4, e7, e5, e6⟩ := order_l2 (by omega) his hE hl r (by omega) F lo false 0 (by omega) (by omega) hlo (fun i a b => by have := hb i a b; omega) (fun j e hj he => by
        have : Nat.blt j 0 = false := by cases hh : Nat.blt j 0 with | false => rfl | true => have := bltI.1 hh; omega
        rw [this]; exact hst e (List.mem_of_getElem? hj) he)
      rw [show ((0 : Nat) : Int) = 0 from rfl] at e1
      rw [g1, cond_true, e1]
      simp only [Option.bind_some, fn6_k2, g4]
      refine order_l1 hF hp hN his hE hl yes c hno hyes n lo' ch' (r + 1) (by omega) (by omega) e2 (fun i a b => by have := e3 i a b; omega) (fun e he hi => by have := e4 e he hi; omega) (fun hy => e6 c (hno hy).1 (hc hy)) (fun hrN => ?_)
      have hrN : r = N := by omega
      subst hrN
      rcases e5 with ⟨q1, i, a, b, q2⟩ | ⟨q1, q2, q3⟩
      · rw [q1]
        cases hy : yes with
        | true => rfl
        | false =>
          have h1 := e6 c (hno hy).1 (hc hy) i a b
          have h2 := (hno hy).2 i
          omega
      · rw [q2]
        cases hy : yes with
        | false => rfl
        | true =>
          exfalso
          obtain ⟨X, hne, hX⟩ := hyes hy
          have key : ∀ m : Nat, ∃ x ∈ X, gt lo x ≥ (m : Int) := by
            intro m
            induction m with
            | zero =>
              cases X with
              | nil => exact absurd rfl hne
              | cons x X => obtain ⟨a, b, _⟩ := hX x (by simp); exact ⟨x, by simp, by have := (hb x a b).1; omega⟩
            | succ m ih =>
              obtain ⟨x, hx, hm⟩ := ih
              obtain ⟨a, b, e, he, h1, h2, h3⟩ := hX x hx
              obtain ⟨j, hj, hje⟩ := List.mem_iff_getElem.1 he
              have := q3 j e (by omega) (by rw [List.getElem?_eq_some_iff]; exact ⟨hj, hje⟩) (by rw [h1]; exact h2)
              rw [h1] at this
              exact ⟨e.fTo, h3, by omega⟩
          obtain ⟨x, hx, hm⟩ := key (8001 * (r + 1) + 1)
          obtain ⟨a, b, _⟩ := hX x hx
          have := (hb x a b).2
          omega

/-- how far a slot stands from the end of those that are done -/
def rank (D : List (Int × U)) (i : Int) : Int := (D.length : Int) - 1 - (D.findIdx (fun q => q.1 == i) : Nat)
theorem rank_le (D : List (Int × U)) (i : Int) : rank D i ≤ D.length := by unfold rank; omega
theorem rank_step {G : List (List Int)} {D : List (Int × U)} (h : Topo G D) {i t : Int} (hi : mhas D i = true) (ht : t ∈ gt G i) : 0 ≤ rank D i ∧ rank D i + 1 ≤ rank D t := by
  obtain ⟨q, h1, h2⟩ := (mhas_iff D i).1 hi
  have hlt : D.findIdx (fun q => q.1 == i) < D.length := List.findIdx_lt_length_of_exists ⟨q, h1, by simp [h2]⟩
  have hq := List.findIdx_getElem (p := fun q : Int × U => q.1 == i) (xs := D) (w := hlt)
  have hq' : (D[D.findIdx (fun q => q.1 == i)]).1 = i := by simpa using hq
  obtain ⟨m, r, h3, h4, h5⟩ := h _ _ (List.getElem?_eq_getElem hlt) t (by rw [hq']; exact ht)
  have h6 : D.findIdx (fun q => q.1 == t) ≤ m := by
    rcases Nat.lt_or_ge m (D.findIdx (fun q => q.1 == t)) with h | h
    · have hm : m < D.length := (List.getElem?_eq_some_iff.1 h4).1
      have := List.not_of_lt_findIdx h
      have e : D[m] = r := by rw [List.getElem?_eq_getElem hm] at h4; exact Option.some.inj h4
      rw [e] at this
      simp [h5] at this
    · exact h
  unfold rank
  omega

theorem flowOrder (p : List Instr) (hw : WF p) : fn6 10000 p = some true := by
  rw [fn6, awake24, Option.bind_some, Bool.not_true, cond_false, fn17]
  cases hs : decide ((p.length : Int) ≤ 200) with
  | false => rfl
  | true =>
    have hp : p.length ≤ 200 := by simp at hs; omega
    simp only [bindP, Bool.not_true, cond_false]
    obtain ⟨R, r1, r2⟩ := prog_reached (F := 10000) (by omega) (by omega) hw
    rw [r1, Option.bind_some]
    cases ho : okP p with
    | false =>
      have : R.length = 0 := by rw [r2.1, stp_nil ho]; rfl
      rw [this]; rfl
    | true =>
      have hl : (stp p).length = p.length := by rw [stp_length, ho]; rfl
      obtain ⟨hne, _⟩ := ok_len ho
      have hpos : 0 < p.length := List.length_pos_iff.2 hne
      have g0 : ((R.length : Int) == 0) = false := by rw [r2.1, hl]; simp; omega
      have hel := eds_len (p := p)
      have e1 : (eds p).take 1000 = eds p := List.take_of_length_le (by omega)
      have g1 : (decide (0 ≤ (p.length : Int)) && decide ((p.length : Int) ≤ (p.length : Int)) && decide ((8 : Int) * (p.length : Int) ≤ 281474976710656) && decide ((p.length : Int) ≤ 9223372036854775807)) = true := by simp; omega
      rw [g0, cond_false, show (1000 : Int) = ((1000 : Nat) : Int) from rfl, edges20 (by omega) (by omega) hw 1000, Option.bind_some, e1, g1, cond_true]
      obtain ⟨b, b1, b2, b3⟩ := loops_prog' (F := 10000) (by omega) (by omega) hw ho (stp_valid p)
      have hv := stp_valid p
      have hE : ∀ e ∈ EE p, (0 ≤ e.fFrom ∧ e.fFrom < (p.length : Int)) ∧ (0 ≤ e.fTo ∧ e.fTo < (p.length : Int)) := fun e he => by
        have := EE_in he; rw [hl] at this; exact this
      have hlo : ∀ i : Int, gt (List.replicate p.length (0 : Int)) i = 0 := fun i => by simp [gt, List.getD_eq_getElem?_getD, List.getElem?_replicate]; split <;> rfl
      have hpot : ∃ c : Int → Int, b = false → (∀ e ∈ EE p, gt R e.fFrom = true → 0 ≤ c e.fFrom ∧ c e.fFrom + 1 ≤ c e.fTo) ∧ ∀ i : Int, c i ≤ p.length := by
        cases hb : b with
        | true => exact ⟨fun _ => 0, fun h => by cases h⟩
        | false =>
          obtain ⟨D, d1, d2, d3⟩ := b3 hb
          refine ⟨rank D, fun _ => ⟨fun e he hi => ?_, fun i => by have := rank_le D i; omega⟩⟩
          obtain ⟨a, ht⟩ := mem_EE.1 he
          have hr : Rch (stp p) e.fFrom := (r2.2 _ a (by rw [hl]; exact (hE e he).1.2)).1 hi
          have hall : ∀ i, Rch (stp p) i → mhas D i = true := fun i hi => by
            induction hi with
            | base => exact d2
            | step _ ht ih => exact d1.succ ih ht
          exact rank_step d1 (hall _ hr) ht
      obtain ⟨c, hc⟩ := hpot
      obtain ⟨lo', h1⟩ := order_l1 (F := 10000) (by omega) (p := p) rfl (by omega) (by rw [r2.1, hl]) hE (by rw [List.length_map]; omega) b c hc (fun hb => by
        obtain ⟨X, x1, x2⟩ := b2.1 hb
        refine ⟨X, x1, fun x hx => ?_⟩
        obtain ⟨y1, t, y2, y3⟩ := x2 x hx
        have hlt := y1.lt hv (by omega)
        rw [hl] at hlt
        exact ⟨hlt.1, hlt.2, ⟨x, t⟩, mem_EE.2 ⟨hlt.1, y2⟩, rfl, (r2.2 x hlt.1 (by rw [hl]; exact hlt.2)).2 y1, y3⟩) 10000 (List.replicate p.length 0) false 0 (by omega) (by omega) (by simp) (fun i a b => by rw [hlo]; omega) (fun e he hi => by right; rw [hlo]; omega) (fun _ i a b => by rw [hlo]; omega) (fun h => by omega)
      rw [show ((0 : Nat) : Int) = 0 from rfl] at h1
      rw [show ((p.length : Int)).toNat = p.length from by omega, h1]
      simp only [Option.bind_some, fn6_k1, b1, beq_self_eq_true]
end Go.Proofs.Ytbpldfhehpjbaaa
