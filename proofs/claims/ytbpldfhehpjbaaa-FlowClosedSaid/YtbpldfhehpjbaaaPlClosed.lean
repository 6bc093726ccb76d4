/- Plain law of FlowClosed. -/
import Derived.Test.YtbpldfhehpjbaaaPlProg
namespace Go.Proofs.Ytbpldfhehpjbaaa
open Go Go.HW
set_option maxRecDepth 8000
set_option linter.unusedVariables false

theorem next15 {F : Nat} {p : List Instr} (hF : 6000 ≤ F) (hp : p.length ≤ 5000) (hw : WF p) (ho : okP p = true) {k : Int} (h0 : 0 ≤ k) (h1 : k < p.length) : fn15 F p k = some ((wayAt p k).e0, (wayAt p k).e1) := by
  have hl := ways_length p
  rw [ho, if_pos rfl] at hl
  have g1 : (decide (k < 0) || decide (((ways p).length : Int) ≤ k)) = false := by simp; omega
  have g2 : inb k (ways p).length = true := inb_iff.2 ⟨h0, by omega⟩
  have hg : gt (ways p) k = wayAt p k := by
    have hk : k.toNat < p.length := by omega
    have e : ((k.toNat : Nat) : Int) = k := by omega
    simp only [gt, ways, ho, cond_true, List.getD_eq_getElem?_getD, List.getElem?_map, List.getElem?_range hk, Option.map_some, Option.getD_some, e]
  rw [fn15, ways_prog hF hp hw, Option.bind_some, g1, cond_false, g2, cond_true, hg]

theorem outs_mem {w : S__2_int} {t : Int} : t ∈ outs w ↔ (t = w.e0 ∨ t = w.e1) ∧ 0 ≤ t := by simp [outs]

theorem closed_l1 {F : Nat} (hF : 9000 ≤ F) {p : List Instr} {is : List Bool} (hw : WF p) (hp : p.length ≤ 1000) (ho : okP p = true) (his : IsR (stp p) is) : ∀ (n : Nat) (fr : List Bool) (k : Nat), k ≤ (EE p).length → (EE p).length - k < n → fr.length = p.length →
    (∀ (j : Nat) (e : Edge), j < k → (EE p)[j]? = some e → gt is e.fFrom = true → gt fr e.fTo = true) →
    ∃ fr', fn8_l1 F p is (EE p) n fr (k : Int) = some (.inl fr') ∧ fr'.length = p.length ∧ ∀ e ∈ EE p, gt is e.fFrom = true → gt fr' e.fTo = true
  | 0, fr, k, _, h, _, _ => by omega
  | n + 1, fr, k, hk, hn, hf, hd => by
    have hl : (stp p).length = p.length := by rw [stp_length, ho]; rfl
    have hil : is.length = p.length := by rw [his.1, hl]
    have hlE : (EE p).length ≤ 2000 := by rw [List.length_map]; have := eds_len (p := p); omega
    rw [fn8_l1_s]
    rcases Nat.lt_or_ge k (EE p).length with h | h
    · have g1 : decide ((k : Int) < ((EE p).length : Int)) = true := decide_eq_true (by omega)
      have g2 : inb (k : Int) (EE p).length = true := inb_iff.2 ⟨by omega, by omega⟩
      have hm : gt (EE p) (k : Int) ∈ EE p := gt_mem (by omega) (by omega)
      have hget : (EE p)[k]? = some (gt (EE p) (k : Int)) := by simp only [gt, Int.toNat_natCast, List.getD_eq_getElem?_getD]; rw [List.getElem?_eq_getElem h]; rfl
      have g4 : IntKind.i64.wrap ((k : Int) + 1) = ((k + 1 : Nat) : Int) := w64 (by omega)
      rw [g1, g2, g4]
      generalize gt (EE p) (k : Int) = e at hm hget ⊢
      obtain ⟨⟨f0, f1⟩, ⟨t0, t1⟩⟩ := EE_in hm
      rw [hl] at f1 t1
      obtain ⟨_, ht⟩ := mem_EE.1 hm
      have ht' := ht
      rw [gt_stp ho f0 f1, outs_mem] at ht'
      rw [next15 (by omega) (by omega) hw ho f0 f1]
      have g3 : inb e.fFrom is.length = true := by rw [hil]; exact inb_iff.2 ⟨f0, f1⟩
      have g5 : inb e.fTo is.length = true := by rw [hil]; exact inb_iff.2 ⟨t0, t1⟩
      have g6 : inb e.fTo fr.length = true := by rw [hf]; exact inb_iff.2 ⟨t0, t1⟩
      have hne : ((e.fTo != (wayAt p e.fFrom).e0) && (e.fTo != (wayAt p e.fFrom).e1)) = false := by
        rcases ht'.1 with h | h <;> simp [h]
      have hcl : (gt is e.fFrom && !(gt is e.fTo)) = false := by
        cases hi : gt is e.fFrom with
        | false => rfl
        | true =>
          have := (his.2 e.fTo t0 (by omega)).2 (((his.2 e.fFrom f0 (by omega)).1 hi).step ht)
          rw [this]; rfl
      have a2 : ∀ b : Bool, (bif b then true else true) = true := fun b => by cases b <;> rfl
      simp only [cond_true, Option.bind_some, hne, cond_false, g3, g5, g6, a2, hcl, Bool.or_false]
      cases hi : gt is e.fFrom with
      | false =>
        simp only [cond_false]
        refine closed_l1 hF hw hp ho his n fr (k + 1) (by omega) (by omega) hf (fun j e' hj he' hi' => ?_)
        by_cases hjk : j = k
        · subst hjk; rw [hget] at he'; cases he'; rw [hi] at hi'; cases hi'
        · exact hd j e' (by omega) he' hi'
      | true =>
        simp only [cond_true]
        refine closed_l1 hF hw hp ho his n _ (k + 1) (by omega) (by omega) (by simp [hf]) (fun j e' hj he' hi' => ?_)
        have ht0' : 0 ≤ e'.fTo := (EE_in (List.mem_of_getElem? he')).2.1
        rw [gt_set t0 (by omega) ht0']
        split
        · rfl
        · rename_i hne'
          by_cases hjk : j = k
          · subst hjk; rw [hget] at he'; cases he'; exact absurd rfl hne'
          · exact hd j e' (by omega) he' hi'
    · have g1 : decide ((k : Int) < ((EE p).length : Int)) = false := decide_eq_false (by omega)
      rw [g1]
      refine ⟨fr, rfl, hf, fun e he hi => ?_⟩
      obtain ⟨j, hj, rfl⟩ := List.mem_iff_getElem.1 he
      exact hd j _ (by omega) (List.getElem?_eq_getElem hj) hi

theorem closed_l2 {p : List Instr} {is fr : List Bool} (hp : p.length ≤ 1000) (hil : is.length = p.length) (hf : fr.length = p.length) (hall : ∀ i : Int, 1 ≤ i → i < (p.length : Int) → gt is i = true → gt fr i = true) : ∀ (n k : Nat), 1 ≤ k → p.length + 1 - k < n → fn8_l2 p is fr n (k : Int) = some (.inl ())
  | 0, k, _, h => by omega
  | n + 1, k, hk, hn => by
    rw [fn8_l2_s]
    rcases Nat.lt_or_ge k p.length with h | h
    · have g1 : decide ((k : Int) < (p.length : Int)) = true := by simp; omega
      have g2 : inb (k : Int) is.length = true := inb_iff.2 ⟨by omega, by omega⟩
      have g3 : inb (k : Int) fr.length = true := inb_iff.2 ⟨by omega, by omega⟩
      have g4 : IntKind.i64.wrap ((k : Int) + 1) = ((k + 1 : Nat) : Int) := w64 (by omega)
      have a2 : ∀ b : Bool, (bif b then true else true) = true := fun b => by cases b <;> rfl
      have hc : (gt is (k : Int) && !(gt fr (k : Int))) = false := by
        cases hi : gt is (k : Int) with
        | false => rfl
        | true => rw [hall _ (by omega) (by omega) hi]; rfl
      rw [g1, g2, g3, g4, a2, hc]
      simp only [cond_true, cond_false]
      exact closed_l2 hp hil hf hall n (k + 1) (by omega) (by omega)
    · have g1 : decide ((k : Int) < (p.length : Int)) = false := by simp; omega
      rw [g1]; rfl

theorem closed_l3 {F : Nat} (hF : 9000 ≤ F) {p : List Instr} {is tn : List Bool} (hw : WF p) (hp : p.length ≤ 1000) (ho : okP p = true) (his : IsR (stp p) is) (ht : tn.length ≤ 5000) : ∀ (n k : Nat) (a : Int), k ≤ tn.length → tn.length - k < n → Rch (stp p) a →
    fn8_l3 F p tn is n a (k : Int) = some (.inl ())
  | 0, k, a, _, h, _ => by omega
  | n + 1, k, a, hk, hn, hr => by
    have hl : (stp p).length = p.length := by rw [stp_length, ho]; rfl
    have hil : is.length = p.length := by rw [his.1, hl]
    obtain ⟨hne, _⟩ := ok_len ho
    have hpos : 0 < p.length := List.length_pos_iff.2 hne
    have hv := stp_valid p
    obtain ⟨a0, a1⟩ := hr.lt hv (by omega)
    rw [fn8_l3_s]
    rcases Nat.lt_or_ge k tn.length with h | h
    · have g1 : decide ((k : Int) < (tn.length : Int)) = true := by simp; omega
      have g2 : inb a is.length = true := inb_iff.2 ⟨a0, by omega⟩
      have g3 : inb (k : Int) tn.length = true := inb_iff.2 ⟨by omega, by omega⟩
      have g4 : IntKind.i64.wrap ((k : Int) + 1) = ((k + 1 : Nat) : Int) := w64 (by omega)
      have gi : gt is a = true := (his.2 a a0 (by omega)).2 hr
      have a2 : ∀ b : Bool, (bif b then true else true) = true := fun b => by cases b <;> rfl
      have hgo : ∀ t, (t = (wayAt p a).e0 ∨ t = (wayAt p a).e1) → 0 ≤ t → fn8_l3 F p tn is n t ((k + 1 : Nat) : Int) = some (.inl ()) := fun t h1 h2 =>
        closed_l3 hF hw hp ho his ht n (k + 1) t (by omega) (by omega) (hr.step (by rw [gt_stp ho a0 (by omega), outs_mem]; exact ⟨h1, h2⟩))
      rw [g1, g2, gi, next15 (by omega) (by omega) hw ho a0 (by omega), g3, g4]
      simp only [cond_true, Bool.not_true, cond_false, Option.bind_some, a2]
      cases (decide ((wayAt p a).e0 < 0) || (decide (0 ≤ (wayAt p a).e1) && gt tn (k : Int))) with
      | true =>
        simp only [cond_true]
        cases hj : decide ((wayAt p a).e1 < 0) with
        | true => rfl
        | false => simp at hj; simp only [cond_false]; exact hgo _ (.inr rfl) hj
      | false =>
        simp only [cond_false]
        cases hj : decide ((wayAt p a).e0 < 0) with
        | true => rfl
        | false => simp at hj; simp only [cond_false]; exact hgo _ (.inl rfl) hj
    · have g1 : decide ((k : Int) < (tn.length : Int)) = false := by simp; omega
      rw [g1]; rfl

theorem flowClosed (p : List Instr) (tn : List Bool) (hw : WF p) : fn8 10000 p tn = some true := by
  rw [fn8, awake24, Option.bind_some, Bool.not_true, cond_false, fn17]
  simp only [bindP]
  cases hs : decide ((p.length : Int) ≤ 200) with
  | false => rfl
  | true =>
    cases ht : decide ((400 : Int) < (tn.length : Int)) with
    | true => rfl
    | false =>
      have hp : p.length ≤ 200 := by simp at hs; omega
      have htl : tn.length ≤ 400 := by simp at ht; omega
      obtain ⟨R, r1, r2⟩ := prog_reached (F := 10000) (by omega) (by omega) hw
      simp only [Bool.not_true, Bool.or_false, cond_false]
      rw [r1, Option.bind_some, check_prog (by omega) (by omega) hw, Option.bind_some]
      cases ho : okP p with
      | false =>
        have hR : R.length = 0 := by rw [r2.1, stp_nil ho]; rfl
        obtain ⟨b, b1, b2⟩ := prog_loops (F := 10000) (by omega) (by omega) hw
        have hb : b = false := by
          cases hb : b with
          | false => rfl
          | true => have := b2.1 hb; rw [stp_nil ho] at this; exact absurd this rnd_nil
        subst hb
        rw [not_ok ho, cond_true, hR, show (9 : Int) = ((9 : Nat) : Int) from rfl, edges20 (by omega) (by omega) hw 9, edgesNot ho, b1]; rfl
      | true =>
        have hl : (stp p).length = p.length := by rw [stp_length, ho]; rfl
        obtain ⟨hne, _⟩ := ok_len ho
        have hpos : 0 < p.length := List.length_pos_iff.2 hne
        have hv := stp_valid p
        have hel := eds_len (p := p)
        have e1 : (eds p).take 1000 = eds p := List.take_of_length_le (by omega)
        have g1 : (decide (0 ≤ (p.length : Int)) && decide ((p.length : Int) ≤ (p.length : Int)) && decide ((1 : Int) * (p.length : Int) ≤ 281474976710656) && decide ((p.length : Int) ≤ 9223372036854775807)) = true := by simp; omega
        rw [is_ok ho, cond_false, show (1000 : Int) = ((1000 : Nat) : Int) from rfl, edges20 (by omega) (by omega) hw 1000, Option.bind_some, e1, g1, cond_true, show ((p.length : Int)).toNat = p.length from by omega]
        obtain ⟨fr, f1, f2, f3⟩ := closed_l1 (F := 10000) (by omega) hw (by omega) ho r2 10000 (List.replicate p.length false) 0 (by omega) (by rw [List.length_map]; omega) (by simp) (fun j e hj => by omega)
        rw [show ((0 : Nat) : Int) = 0 from rfl] at f1
        have h2 := closed_l2 (p := p) (is := R) (fr := fr) (by omega) (by rw [r2.1, hl]) f2 (fun i h0 h1 hi => by
          have hr := (r2.2 i (by omega) (by omega)).1 hi
          cases hr with
          | base => omega
          | @step a b ha hb =>
            obtain ⟨a0, a1⟩ := ha.lt hv (by omega)
            exact f3 ⟨a, i⟩ (mem_EE.2 ⟨a0, hb⟩) ((r2.2 a a0 a1).2 ha)) 10000 1 (by omega) (by omega)
        rw [show ((1 : Nat) : Int) = 1 from rfl] at h2
        have h3 := closed_l3 (F := 10000) (by omega) hw (by omega) ho r2 (tn := tn) (by omega) 10000 0 0 (by omega) (by omega) .base
        rw [show ((0 : Nat) : Int) = 0 from rfl] at h3
        have g5 : inb 0 R.length = true := by rw [r2.1, hl]; exact inb_iff.2 ⟨by omega, by omega⟩
        have g6 : gt R 0 = true := (r2.2 0 (by omega) (by omega)).2 .base
        rw [f1]
        simp only [Option.bind_some, fn8_k1, h2, fn8_k2, h3, fn8_k3, g5, g6, cond_true]
end Go.Proofs.Ytbpldfhehpjbaaa
