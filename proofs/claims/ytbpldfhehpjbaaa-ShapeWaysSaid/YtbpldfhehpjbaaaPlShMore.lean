/- Plain law of ShapeMore. -/
import Derived.Test.YtbpldfhehpjbaaaPlShTells
namespace Go.Proofs.Ytbpldfhehpjbaaa
open Go Go.HW
set_option maxRecDepth 8000
set_option linter.unusedVariables false

theorem idxL_add (a : Nat) (f : Int → Bool) : ∀ b : Nat, idxL (a + b) f = idxL a f ++ (idxL b (fun s => f ((a : Int) + s))).map (fun t => t + (a : Int))
  | 0 => by simp [idxL]
  | b + 1 => by
    rw [← Nat.add_assoc, idxL_succ, idxL_add a f b, idxL_succ b, List.map_append, List.append_assoc]
    have e : ((a + b : Nat) : Int) = (a : Int) + (b : Int) := by omega
    rw [e]
    congr 2
    cases f ((a : Int) + (b : Int)) with
    | false => rfl
    | true => simp only [cond_true, List.map_cons, List.map_nil]; congr 1; omega

theorem tg_app {p q : List Instr} (hp : okP p = true) (hq : okP q = true) (wq : WF q) (hlen : p.length + q.length ≤ 4096) : tg (p ++ q) = tg p ++ (tg q).map (fun t => t + (p.length : Int)) := by
  have hb := ok_app hp hq wq hlen
  simp only [tg, hp, hq, hb, cond_true, List.length_append]
  have hiff : ∀ t : Int, tgt (p ++ q) t = true ↔ tgt p t = true ∨ ∃ s, t = (p.length : Int) + s ∧ tgt q s = true := fun t => by
    rw [tgt_iff]
    constructor
    · rintro ⟨j, hj, hf⟩
      have hj2 := pl_in hj
      rcases Int.lt_or_le j (p.length : Int) with h | h
      · rw [pl_l hp hj2.1 h] at hj
        rw [gt_app_l hj2.1 h] at hf
        exact .inl (tgt_iff.2 ⟨j, hj, hf⟩)
      · have e : j = (p.length : Int) + (j - (p.length : Int)) := by omega
        rw [e] at hj hf
        rw [pl_r hp (by omega)] at hj
        rw [gt_app_r (by omega)] at hf
        have hi := pl_in hj
        obtain ⟨s1, s2⟩ := jump_shift (wq.gt hi.1 hi.2) (k := j - (p.length : Int)) (d := (p.length : Int)) (by omega) (by omega) (by omega) (by omega)
        rw [hf] at s1 s2
        have h2 := s2 s1.symm
        exact .inr ⟨_, h2, tgt_iff.2 ⟨_, hj, Prod.ext rfl s1.symm⟩⟩
    · rintro (h | ⟨s, rfl, h⟩)
      · obtain ⟨j, hj, hf⟩ := tgt_iff.1 h
        have hj2 := pl_in hj
        exact ⟨j, by rw [pl_l hp hj2.1 hj2.2]; exact hj, by rw [gt_app_l hj2.1 hj2.2]; exact hf⟩
      · obtain ⟨j, hj, hf⟩ := tgt_iff.1 h
        have hi := pl_in hj
        obtain ⟨s1, s2⟩ := jump_shift (wq.gt hi.1 hi.2) (k := j) (d := (p.length : Int)) (by omega) (by omega) (by omega) (by omega)
        rw [hf] at s1 s2
        have h2 := s2 rfl
        refine ⟨(p.length : Int) + j, by rw [pl_r hp (by omega)]; exact hj, ?_⟩
        rw [gt_app_r (by omega)]
        exact Prod.ext h2 s1
  rw [idxL_add]
  congr 1
  · refine idxL_congr (fun t h0 h1 => Bool.eq_iff_iff.2 ?_)
    rw [hiff t]
    constructor
    · rintro (h | ⟨s, e, h⟩)
      · exact h
      · have := pl_in (tgt_pl hq h); omega
    · exact .inl
  · congr 1
    refine idxL_congr (fun t h0 h1 => Bool.eq_iff_iff.2 ?_)
    rw [hiff]
    constructor
    · rintro (h | ⟨s, e, h⟩)
      · have := pl_in (tgt_pl hp h); omega
      · have : t = s := by omega
        subst this; exact h
    · exact fun h => .inr ⟨t, rfl, h⟩

theorem more_l1 {p : List Instr} (hp : p.length ≤ 5000) (v : List Int) (hv : v.length ≤ 5000) (hb : ∀ t ∈ v, 0 ≤ t ∧ t ≤ 5000) : ∀ (n : Nat) (x : List Int) (k : Nat), k ≤ v.length → v.length - k < n → x.length ≤ 5000 + k →
    fn9_l1 p v n x (k : Int) = some (x ++ (v.drop k).map (fun t => t + (p.length : Int)))
  | 0, x, k, _, h, _ => by omega
  | n + 1, x, k, hk, hn, hx => by
    rw [fn9_l1_s]
    rcases Nat.lt_or_ge k v.length with h | h
    · have g1 : decide ((k : Int) < (v.length : Int)) = true := decide_eq_true (by omega)
      have g2 : inb (k : Int) v.length = true := inb_iff.2 ⟨by omega, by omega⟩
      have g4 : IntKind.i64.wrap ((k : Int) + 1) = ((k + 1 : Nat) : Int) := w64 (by omega)
      have hm : gt v (k : Int) ∈ v := gt_mem (by omega) (by omega)
      have g5 : IntKind.i64.wrap (gt v (k : Int) + (p.length : Int)) = gt v (k : Int) + (p.length : Int) := w64 (by have := hb _ hm; omega)
      have g3 : ∀ y : Int, decide ((x.length + ([y] : List Int).length) * 8 ≤ 140737488355328 ∧ x.length + ([y] : List Int).length ≤ 9223372036854775807) = true := fun y => by
        simp only [List.length_singleton, decide_eq_true_eq]; omega
      rw [g1, g2, g3, g4, g5]
      simp only [cond_true]
      rw [more_l1 hp v hv hb n _ (k + 1) (by omega) (by omega) (by simp; omega), drop_gt h, List.map_cons, List.append_assoc]
      rfl
    · have g1 : decide ((k : Int) < (v.length : Int)) = false := decide_eq_false (by omega)
      rw [g1, cond_false, List.drop_eq_nil_of_le h]; simp

theorem shapeMore (p q : List Instr) (wp : WF p) (wq : WF q) : fn9 10000 p q = some true := by
  rw [fn9, awake03, Option.bind_some, Bool.not_true, cond_false, fn26, fn26]
  simp only [bindP]
  cases hs : (!decide ((p.length : Int) ≤ 300) || !decide ((q.length : Int) ≤ 300)) with
  | true => rfl
  | false =>
    simp only [Bool.or_eq_false_iff, Bool.not_eq_false', decide_eq_true_eq] at hs
    rw [cond_false, check_prog (by omega) (by omega) wp, Option.bind_some, check_prog (by omega) (by omega) wq, Option.bind_some]
    cases hc : (((chk p).2 != 0) || ((chk q).2 != 0)) with
    | true => rfl
    | false =>
      simp only [Bool.or_eq_false_iff] at hc
      have hp : okP p = true := by unfold okP; simpa [bne] using hc.1
      have hq : okP q = true := by unfold okP; simpa [bne] using hc.2
      have hb := ok_app hp hq wq (by omega)
      have wpq : WF (p ++ q) := fun x hx => by
        rcases List.mem_append.1 hx with h | h
        · exact wp x h
        · exact wq x h
      have hl : (p ++ q).length = p.length + q.length := List.length_append
      have h0 : ((chk (p ++ q)).2 == 0) = true := hb
      have t1 := tg_len p
      have t2 := tg_len q
      have htq : ∀ t ∈ tg q, 0 ≤ t ∧ t ≤ 5000 := fun t ht => by
        rw [tg, hq, cond_true] at ht
        have := (mem_idxL.1 ht).1; omega
      have g1 : decide ((([] : List Instr).length + p.length) * 12 ≤ 140737488355328 ∧ ([] : List Instr).length + p.length ≤ 9223372036854775807) = true := decide_eq_true (by simp only [List.length_nil]; omega)
      have g2 : decide ((p.length + q.length) * 12 ≤ 140737488355328 ∧ p.length + q.length ≤ 9223372036854775807) = true := decide_eq_true (by omega)
      have g3 : decide ((([] : List Int).length + (tg p).length) * 8 ≤ 140737488355328 ∧ ([] : List Int).length + (tg p).length ≤ 9223372036854775807) = true := decide_eq_true (by simp only [List.length_nil]; omega)
      have hm := more_l1 (p := p) (by omega) (tg q) (by omega) htq 10000 (tg p) 0 (by omega) (by omega) (by omega)
      rw [show ((0 : Nat) : Int) = 0 from rfl, List.drop_zero, ← tg_app hp hq wq (by omega)] at hm
      rw [cond_false, g1, cond_true]
      simp only [List.nil_append]
      rw [g2, cond_true, check_prog (by omega) (by omega) wpq, Option.bind_some, targets_prog (by omega) (by omega) wp, Option.bind_some, g3, cond_true, targets_prog (by omega) (by omega) wq, Option.bind_some, hm, Option.bind_some, fn9_k1]
      simp only [List.nil_append, h0, cond_true]
      have t3 := tg_len (p ++ q)
      rw [targets_prog (by omega) (by omega) wpq, Option.bind_some, same28 _ (by omega) (by omega)]
      rfl
end Go.Proofs.Ytbpldfhehpjbaaa
