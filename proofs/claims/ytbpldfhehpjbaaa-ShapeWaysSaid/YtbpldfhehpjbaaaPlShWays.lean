/- Plain law of ShapeWays. -/
import Derived.Test.YtbpldfhehpjbaaaPlShMore
namespace Go.Proofs.Ytbpldfhehpjbaaa
open Go Go.HW
set_option maxRecDepth 8000
set_option linter.unusedVariables false

theorem known_ne {x : Instr} (h : OkI x) (hk : fn76 x = true) : (x.fOp == 0) = false := by
  cases hb : (x.fOp == 0) with
  | false => rfl
  | true =>
    have e : x.fOp = 0 := by simpa using hb
    have : fn76 x = fn76 ⟨x.fOp, 0, 0, 0, 0⟩ := rfl
    rw [this, e] at hk; exact absurd hk (by decide)
theorem exit_op {x : Instr} (h : OkI x) (hk : fn76 x = true) (hr : refEnds x = true) {k : Int} (hj : (fn58 x k).2 = false) : (x.fOp == 149) = true := by
  have h1 : fn76 x = fn76 ⟨x.fOp, 0, 0, 0, 0⟩ := rfl
  have h2 : refEnds x = refEnds ⟨x.fOp, 0, 0, 0, 0⟩ := rfl
  have h3 : (fn58 x k).2 = (fn58 ⟨x.fOp, 0, 0, 0, 0⟩ 0).2 := by
    simp only [fn58, bindP]
    have e1 : fn54 x = fn54 ⟨x.fOp, 0, 0, 0, 0⟩ := rfl
    have e2 : fn55 x = fn55 ⟨x.fOp, 0, 0, 0, 0⟩ := rfl
    rw [← e1, ← e2]
    cases (((fn54 x != 5) && (fn54 x != 6)) || (fn55 x == 128)) || (fn55 x == 144) <;> cases ((fn55 x == 0) && (fn54 x == 6)) <;> rfl
  rw [h1] at hk; rw [h2] at hr; rw [h3] at hj
  have := all256 (fun n => !(fn76 ⟨n, 0, 0, 0, 0⟩) || !(refEnds ⟨n, 0, 0, 0, 0⟩) || (fn58 ⟨n, 0, 0, 0, 0⟩ 0).2 || (n == 149)) (by kernel_rfl) h.op
  simpa [hk, hr, hj] using this
theorem jump_ne {x : Instr} {k : Int} (hj : (fn58 x k).2 = true) : (x.fOp == 24) = false := by
  cases hb : (x.fOp == 24) with
  | false => rfl
  | true =>
    have e : x.fOp = 24 := by simpa using hb
    have e1 : fn54 x = 0 := by
      have : fn54 x = fn54 ⟨x.fOp, 0, 0, 0, 0⟩ := rfl
      rw [this, e]; rfl
    simp [fn58, bindP, e1] at hj

theorem find_l2 (v : List Int) (hv : v.length ≤ 5000) (w : Int × Int) : ∀ (n : Nat) (b : Bool) (k : Nat), k ≤ v.length → v.length - k < n → fn11_l2 v w n b (k : Int) = some (b || (v.drop k).any (fun t => t == w.2))
  | 0, b, k, _, h => by omega
  | n + 1, b, k, hk, hn => by
    rw [fn11_l2_s]
    rcases Nat.lt_or_ge k v.length with h | h
    · have g1 : decide ((k : Int) < (v.length : Int)) = true := decide_eq_true (by omega)
      have g2 : inb (k : Int) v.length = true := inb_iff.2 ⟨by omega, by omega⟩
      have g4 : IntKind.i64.wrap ((k : Int) + 1) = ((k + 1 : Nat) : Int) := w64 (by omega)
      have g5 : (bif b then true else true) = true := by cases b <;> rfl
      rw [g1, g2, g4, cond_true, g5, cond_true, find_l2 v hv w n _ (k + 1) (by omega) (by omega), drop_gt h, List.any_cons, Bool.or_assoc]
    · have g1 : decide ((k : Int) < (v.length : Int)) = false := decide_eq_false (by omega)
      rw [g1, cond_false, List.drop_eq_nil_of_le h]; simp

theorem ways_l1 {p : List Instr} (hp : p.length ≤ 300) (hw : WF p) (ho : okP p = true) (bs : List Bool) (hb : bs.length ≤ 600) : ∀ (n : Nat) (k : Int) (i : Nat), pl p k = true → i ≤ bs.length → bs.length - i < n →
    fn11_l1 10000 p bs (tg p) n k (i : Int) = some (.inl ()) ∨ fn11_l1 10000 p bs (tg p) n k (i : Int) = some (.inr true)
  | 0, k, i, _, _, h => by omega
  | n + 1, k, i, hk, hi, hn => by
    rw [fn11_l1_s]
    rcases Nat.lt_or_ge i bs.length with h | h
    · have hin := pl_in hk
      have g1 : decide ((i : Int) < (bs.length : Int)) = true := decide_eq_true (by omega)
      have g2 : inb (i : Int) bs.length = true := inb_iff.2 ⟨by omega, by omega⟩
      have g4 : IntKind.i64.wrap ((i : Int) + 1) = ((i + 1 : Nat) : Int) := w64 (by omega)
      have g5 : IntKind.i64.wrap (k + 1) = k + 1 := w64 (by omega)
      have g6 : inb k p.length = true := inb_iff.2 hin
      have hgm : gt (marks p) k = true := by rw [← pl_marks hin.1 hin.2]; exact hk
      have hwy : wayAt p k = way p k := by rw [wayAt, hgm]; rfl
      have her := ok_er_pl ho hk
      have hkn : fn76 (gt p k) = true := er_known her
      obtain ⟨w0, w1⟩ := way_pl ho hk
      -- a placed slot may be gone to
      have go : ∀ t : Int, pl p t = true → ((gt p (t - 1)).fOp == 24 && (t == k + 1)) = false →
          (decide (t < 0) = false ∧ decide ((p.length : Int) ≤ t) = false ∧ (bif decide ((0 : Int) < t) then (inb (IntKind.i64.wrap (t - 1)) p.length) else true) = true ∧ ((decide ((0 : Int) < t)) && ((((gt p (IntKind.i64.wrap (t - 1))).fOp) == 24) && (t == (IntKind.i64.wrap (k + 1))))) = false ∧
            inb t p.length = true ∧ ((gt p t).fOp == 0) = false) := fun t ht h24 => by
        have ht2 := pl_in ht
        have e : IntKind.i64.wrap (t - 1) = t - 1 := w64 (by omega)
        refine ⟨decide_eq_false (by omega), decide_eq_false (by omega), ?_, by rw [e, g5, h24]; simp, inb_iff.2 ht2, known_ne (hw.gt ht2.1 ht2.2) (er_known (ok_er_pl ho ht))⟩
        cases hd : decide ((0 : Int) < t) with
        | false => rfl
        | true => rw [cond_true, e]; exact inb_iff.2 (by have := of_decide_eq_true hd; omega)
      rw [g1, cond_true, next15 (by omega) (by omega) hw ho hin.1 hin.2, Option.bind_some, hwy, g2, g4]
      -- the jump
      have jump : pl p (way p k).e1 = true → (Option.bind (fn11_l2 (tg p) ((way p k).e0, (way p k).e1) 10000 false 0) fun o81 => (fn11_k2 p k (i : Int) (fn11_l1 10000 p bs (tg p) n) ((way p k).e0, (way p k).e1) o81)) = fn11_l1 10000 p bs (tg p) n (way p k).e1 ((i + 1 : Nat) : Int) := fun h1 => by
        have hin1 := pl_in h1
        have hj : (fn58 (gt p k) k).2 = true := by
          cases hj : (fn58 (gt p k) k).2 with
          | true => rfl
          | false => simp [way, hj] at hin1
        have he1 : (way p k).e1 = (fn58 (gt p k) k).1 := by simp [way, hj]
        have htg : tgt p (way p k).e1 = true := tgt_iff.2 ⟨k, hk, Prod.ext he1.symm hj⟩
        have hf := find_l2 (tg p) (by have := tg_len p; omega) ((way p k).e0, (way p k).e1) 10000 false 0 (by omega) (by have := tg_len p; omega)
        have ha : (tg p).any (fun t => t == (way p k).e1) = true := List.any_eq_true.2 ⟨_, by rw [tg, ho, cond_true]; exact mem_idxL.2 ⟨hin1, htg⟩, by simp⟩
        rw [show ((0 : Nat) : Int) = 0 from rfl, List.drop_zero, Bool.false_or] at hf
        have h24 : ((gt p ((way p k).e1 - 1)).fOp == 24 && ((way p k).e1 == k + 1)) = false := by
          cases hb : ((way p k).e1 == k + 1) with
          | false => simp
          | true =>
            have e : (way p k).e1 - 1 = k := by have : (way p k).e1 = k + 1 := by simpa using hb
                                                omega
            rw [e, jump_ne hj]; rfl
        obtain ⟨q1, q2, q3, q4, q5, q6⟩ := go _ h1 h24
        rw [hf]
        have ha' : (List.any (tg p) fun t => t == ((way p k).e0, (way p k).e1).2) = true := ha
        rw [ha', Option.bind_some, fn11_k2]
        simp only [Bool.not_true, cond_false, q1, q2, Bool.or_self, q3, cond_true, q4, q5, q6, g4]
      cases d0 : decide ((way p k).e0 < 0) with
      | true =>
        have e0 : (way p k).e0 = -1 := by
          rcases w0 with h | ⟨h, h2⟩
          · exact h
          · have := of_decide_eq_true d0; have := pl_in h2; omega
        cases d1 : decide ((way p k).e1 < 0) with
        | true =>
          have e1 : (way p k).e1 = -1 := by
            rcases w1 with h | h
            · exact h
            · have := of_decide_eq_true d1; have := pl_in h; omega
          have hr : refEnds (gt p k) = true := by
            cases hr : refEnds (gt p k) with
            | true => rfl
            | false => simp only [way, hr, cond_false] at e0; cases h24 : ((gt p k).fOp == 24) <;> rw [h24] at e0 <;> simp at e0 <;> omega
          have hj : (fn58 (gt p k) k).2 = false := by
            cases hj : (fn58 (gt p k) k).2 with
            | false => rfl
            | true =>
              have h1 := er_target her hj
              have h2 := pl_in h1
              simp only [way, hj, cond_true] at e1; omega
          right
          simp only [Bool.and_true, cond_true, g6, exit_op (hw.gt hin.1 hin.2) hkn hr hj]
        | false =>
          have h1 : pl p (way p k).e1 = true := by
            rcases w1 with h | h
            · rw [h] at d1; simp at d1
            · exact h
          simp only [Bool.and_false, cond_false, cond_true, Bool.true_or]
          rw [jump h1]
          exact ways_l1 hp hw ho bs hb n _ (i + 1) h1 (by omega) (by omega)
      | false =>
        obtain ⟨e0, h0⟩ : (way p k).e0 = nxt p k ∧ pl p (nxt p k) = true := by
          rcases w0 with h | h
          · rw [h] at d0; simp at d0
          · exact h
        have g7 : (bif decide ((0 : Int) ≤ (way p k).e1) then true else true) = true := by cases decide ((0 : Int) ≤ (way p k).e1) <;> rfl
        simp only [Bool.false_and, cond_false, g7, cond_true, Bool.false_or]
        cases dj : (decide ((0 : Int) ≤ (way p k).e1) && gt bs (i : Int)) with
        | true =>
          simp only [Bool.and_eq_true, decide_eq_true_eq] at dj
          have h1 : pl p (way p k).e1 = true := by
            rcases w1 with h | h
            · rw [h] at dj; omega
            · exact h
          rw [cond_true, jump h1]
          exact ways_l1 hp hw ho bs hb n _ (i + 1) h1 (by omega) (by omega)
        | false =>
          have h24 : ((gt p ((way p k).e0 - 1)).fOp == 24 && ((way p k).e0 == k + 1)) = false := by
            cases hb : ((way p k).e0 == k + 1) with
            | false => simp
            | true =>
              have h2 : (way p k).e0 = k + 1 := by simpa using hb
              have e : (way p k).e0 - 1 = k := by omega
              rw [e]
              cases hq : ((gt p k).fOp == 24) with
              | false => rfl
              | true => rw [e0, nxt, hq, cond_true] at h2; omega
          obtain ⟨q1, q2, q3, q4, q5, q6⟩ := go (way p k).e0 (by rw [e0]; exact h0) h24
          simp only [cond_false, q2, Bool.or_self, q3, cond_true, q4, q5, q6]
          exact ways_l1 hp hw ho bs hb n _ (i + 1) (by rw [e0]; exact h0) (by omega) (by omega)
    · have g1 : decide ((i : Int) < (bs.length : Int)) = false := decide_eq_false (by omega)
      rw [g1]; exact .inl rfl

theorem shapeWays (p : List Instr) (bs : List Bool) (hw : WF p) : fn11 10000 p bs = some true := by
  rw [fn11, awake03, Option.bind_some, Bool.not_true, cond_false, fn26]
  simp only [bindP]
  cases hs : (!decide ((p.length : Int) ≤ 300) || decide ((600 : Int) < (bs.length : Int))) with
  | true => rfl
  | false =>
    simp only [Bool.or_eq_false_iff, Bool.not_eq_false', decide_eq_true_eq, decide_eq_false_iff_not] at hs
    rw [cond_false, check_prog (by omega) (by omega) hw, Option.bind_some]
    rw [targets_prog (by omega) (by omega) hw, Option.bind_some, Option.bind_some]
    cases ho : okP p with
    | false =>
      have : ((chk p).2 != 0) = true := by unfold okP at ho; simpa [bne] using ho
      rw [this, cond_true, tg, ho]; rfl
    | true =>
      have h0 : ((chk p).2 != 0) = false := by unfold okP at ho; simpa [bne] using ho
      obtain ⟨hne, _⟩ := ok_len ho
      have hpl : pl p 0 = true := by
        cases p with
        | nil => exact absurd rfl hne
        | cons x l => rw [pl_marks (by omega) (by simp), marks_cons]; rfl
      rw [h0, cond_false]
      rcases ways_l1 (by omega) hw ho bs (by omega) 10000 0 0 hpl (by omega) (by omega) with h | h
      · rw [show ((0 : Nat) : Int) = 0 from rfl] at h; rw [h]; rfl
      · rw [show ((0 : Nat) : Int) = 0 from rfl] at h; rw [h]; rfl
end Go.Proofs.Ytbpldfhehpjbaaa
