/- Plain law of FlowTwo. -/
import Derived.Test.YtbpldfhehpjbaaaPlJoin
namespace Go.Proofs.Ytbpldfhehpjbaaa
open Go Go.HW
set_option maxRecDepth 8000
set_option linter.unusedVariables false

section
variable {p q : List Instr} (hp : okP p = true) (hq : okP q = true) (wq : WF q) (hlen : p.length + q.length ≤ 4096)
include hp hq wq hlen
theorem gt_both {i : Int} (h0 : 0 ≤ i) (h1 : i < (p.length : Int)) : gt (stp (p ++ q)) i = gt (stp p) i := by
  have l1 := stp_length p; rw [hp, if_pos rfl] at l1
  rw [stp_app hp hq wq hlen]; exact gt_app_l h0 (by omega)
theorem rch_both (i : Int) : Rch (stp (p ++ q)) i ↔ Rch (stp p) i := by
  have l1 := stp_length p; rw [hp, if_pos rfl] at l1
  have hpos : 0 < p.length := List.length_pos_iff.2 (ok_len hp).1
  have hv := stp_valid p
  constructor
  · intro h
    induction h with
    | base => exact .base
    | step _ ht ih =>
      obtain ⟨a, b⟩ := ih.lt hv (by omega)
      rw [gt_both hp hq wq hlen a (by omega)] at ht
      exact ih.step ht
  · intro h
    induction h with
    | base => exact .base
    | step hr ht ih =>
      obtain ⟨a, b⟩ := hr.lt hv (by omega)
      exact ih.step (by rw [gt_both hp hq wq hlen a (by omega)]; exact ht)
theorem rnd_both : Rnd (stp (p ++ q)) ↔ Rnd (stp p) := by
  have l1 := stp_length p; rw [hp, if_pos rfl] at l1
  have hpos : 0 < p.length := List.length_pos_iff.2 (ok_len hp).1
  have hv := stp_valid p
  constructor
  · rintro ⟨X, h1, h2⟩
    refine ⟨X, h1, fun x hx => ?_⟩
    obtain ⟨a, t, b, c⟩ := h2 x hx
    have a' := (rch_both hp hq wq hlen x).1 a
    obtain ⟨x0, x1⟩ := a'.lt hv (by omega)
    exact ⟨a', t, by rw [← gt_both hp hq wq hlen x0 (by omega)]; exact b, c⟩
  · rintro ⟨X, h1, h2⟩
    refine ⟨X, h1, fun x hx => ?_⟩
    obtain ⟨a, t, b, c⟩ := h2 x hx
    obtain ⟨x0, x1⟩ := a.lt hv (by omega)
    exact ⟨(rch_both hp hq wq hlen x).2 a, t, by rw [gt_both hp hq wq hlen x0 (by omega)]; exact b, c⟩
def shE (d : Int) (e : Edge) : Edge := ⟨e.fFrom + d, e.fTo + d⟩
theorem EE_app : EE (p ++ q) = EE p ++ (EE q).map (shE (p.length : Int)) := by
  have l1 := stp_length p; rw [hp, if_pos rfl] at l1
  have h := edgesOf_shift (p.length : Int) (stp q) 0
  rw [EE, eds, stp_app hp hq wq hlen, edgesOf_app, l1, show (0 : Int) + (p.length : Int) = (p.length : Int) + 0 from by omega, h]
  simp only [EE, eds, List.map_append, List.map_map]
  congr 1
  apply List.map_congr_left
  intro e _
  simp [mkE, shE, Int.add_comm]
end

theorem two_l1 {A B : List Edge} {p : List Instr} (hp : p.length ≤ 1000) (hA : A.length ≤ 2000) (hB : B.length ≤ 2000) (hb : ∀ e ∈ B, (0 ≤ e.fFrom ∧ e.fFrom ≤ 1000) ∧ (0 ≤ e.fTo ∧ e.fTo ≤ 1000)) : ∀ (n k : Nat), k ≤ A.length + B.length → A.length + B.length - k < n →
    fn7_l1 p A B (A ++ B.map (shE (p.length : Int))) n (k : Int) = some (.inl ())
  | 0, k, _, h => by omega
  | n + 1, k, hk, hn => by
    rw [fn7_l1_s]
    have hlen : (A ++ B.map (shE (p.length : Int))).length = A.length + B.length := by simp
    rw [hlen]
    rcases Nat.lt_or_ge k (A.length + B.length) with h | h
    · have g1 : decide ((k : Int) < ((A.length + B.length : Nat) : Int)) = true := decide_eq_true (by omega)
      have g2 : inb (k : Int) (A.length + B.length) = true := inb_iff.2 ⟨by omega, by omega⟩
      have g4 : IntKind.i64.wrap ((k : Int) + 1) = ((k + 1 : Nat) : Int) := w64 (by omega)
      have ih := two_l1 (p := p) hp hA hB hb n (k + 1) (by omega) (by omega)
      rw [g1, g2, g4]
      simp only [cond_true]
      rcases Nat.lt_or_ge k A.length with h2 | h2
      · have g3 : decide ((k : Int) < (A.length : Int)) = true := decide_eq_true (by omega)
        have g5 : inb (k : Int) A.length = true := inb_iff.2 ⟨by omega, by omega⟩
        have hg : gt (A ++ B.map (shE (p.length : Int))) (k : Int) = gt A (k : Int) := gt_app_l (by omega) (by omega)
        rw [g3, g5, hg]
        simp only [cond_true, beq_self_eq_true, Bool.and_true, Bool.not_true, cond_false]
        exact ih
      · have g3 : decide ((k : Int) < (A.length : Int)) = false := decide_eq_false (by omega)
        have w1 : IntKind.i64.wrap ((k : Int) - (A.length : Int)) = (k : Int) - (A.length : Int) := w64 (by omega)
        have g5 : inb ((k : Int) - (A.length : Int)) B.length = true := inb_iff.2 ⟨by omega, by omega⟩
        have hm : gt B ((k : Int) - (A.length : Int)) ∈ B := gt_mem (by omega) (by omega)
        have hg : gt (A ++ B.map (shE (p.length : Int))) (k : Int) = shE (p.length : Int) (gt B ((k : Int) - (A.length : Int))) := by
          have := gt_app_r (a := A) (b := B.map (shE (p.length : Int))) (k := (k : Int) - (A.length : Int)) (by omega)
          rw [show (A.length : Int) + ((k : Int) - (A.length : Int)) = (k : Int) from by omega] at this
          rw [this]
          have hj : ((k : Int) - (A.length : Int)).toNat < B.length := by omega
          simp only [gt, List.getD_eq_getElem?_getD, List.getElem?_map, List.getElem?_eq_getElem hj, Option.map_some, Option.getD_some]
        obtain ⟨⟨f0, f1⟩, ⟨t0, t1⟩⟩ := hb _ hm
        rw [w1, g3, g5, hg]
        generalize gt B ((k : Int) - (A.length : Int)) = e at *
        have w2 : IntKind.i64.wrap (e.fFrom + (p.length : Int)) = e.fFrom + (p.length : Int) := w64 (by omega)
        have w3 : IntKind.i64.wrap (e.fTo + (p.length : Int)) = e.fTo + (p.length : Int) := w64 (by omega)
        rw [w2, w3]
        simp only [cond_true, cond_false, shE, beq_self_eq_true, Bool.and_true, Bool.not_true]
        exact ih
    · have g1 : decide ((k : Int) < ((A.length + B.length : Nat) : Int)) = false := decide_eq_false (by omega)
      rw [g1]; rfl

theorem two_l2 {x y : List Bool} {p : List Instr} (hx : x.length ≤ 5000) (hy : y.length = p.length) (hl : ∀ i : Int, 0 ≤ i → i < (x.length : Int) → gt x i = (bif decide (i < (p.length : Int)) then gt y i else false)) : ∀ (n k : Nat), k ≤ x.length → x.length - k < n → fn7_l2 p x y n (k : Int) = some (.inl ())
  | 0, k, _, h => by omega
  | n + 1, k, hk, hn => by
    rw [fn7_l2_s]
    rcases Nat.lt_or_ge k x.length with h | h
    · have g1 : decide ((k : Int) < (x.length : Int)) = true := decide_eq_true (by omega)
      have g2 : inb (k : Int) x.length = true := inb_iff.2 ⟨by omega, by omega⟩
      have g4 : IntKind.i64.wrap ((k : Int) + 1) = ((k + 1 : Nat) : Int) := w64 (by omega)
      have hg := hl (k : Int) (by omega) (by omega)
      rw [g1, g2, g4, hg]
      simp only [cond_true]
      cases hd : decide ((k : Int) < (p.length : Int)) with
      | true =>
        have g3 : inb (k : Int) y.length = true := by simp at hd; exact inb_iff.2 ⟨by omega, by omega⟩
        rw [g3]
        simp only [cond_true, bne_self_eq_false, cond_false]
        exact two_l2 hx hy hl n (k + 1) (by omega) (by omega)
      | false =>
        simp only [cond_true, bne_self_eq_false, cond_false]
        exact two_l2 hx hy hl n (k + 1) (by omega) (by omega)
    · have g1 : decide ((k : Int) < (x.length : Int)) = false := decide_eq_false (by omega)
      rw [g1]; rfl

theorem flowTwo (p q : List Instr) (hwp : WF p) (hwq : WF q) : fn7 10000 p q = some true := by
  rw [fn7, awake24, Option.bind_some, Bool.not_true, cond_false, fn17, fn17]
  simp only [bindP]
  cases hs : decide ((p.length : Int) ≤ 200) with
  | false => rfl
  | true =>
    cases hs2 : decide ((q.length : Int) ≤ 200) with
    | false => rfl
    | true =>
      have hp : p.length ≤ 200 := by simp at hs; omega
      have hq : q.length ≤ 200 := by simp at hs2; omega
      simp only [Bool.not_true, Bool.or_false, cond_false]
      rw [check_prog (by omega) (by omega) hwp, Option.bind_some, check_prog (by omega) (by omega) hwq, Option.bind_some]
      cases hop : okP p with
      | false => rw [not_ok hop]; rfl
      | true =>
        cases hoq : okP q with
        | false => rw [not_ok hoq, Bool.or_true]; rfl
        | true =>
          have hlen : p.length + q.length ≤ 4096 := by omega
          have hwb : WF (p ++ q) := fun x hx => by
            rcases List.mem_append.1 hx with h | h
            · exact hwp x h
            · exact hwq x h
          have hb := ok_app hop hoq hwq hlen
          have g1 : decide ((([] : List Instr).length + p.length) * 12 ≤ 140737488355328 ∧ ([] : List Instr).length + p.length ≤ 9223372036854775807) = true := by simp; omega
          have g2 : decide (((([] : List Instr) ++ p).length + q.length) * 12 ≤ 140737488355328 ∧ (([] : List Instr) ++ p).length + q.length ≤ 9223372036854775807) = true := by simp; omega
          have lp := eds_len (p := p); have lq := eds_len (p := q); have lb := eds_len (p := p ++ q)
          have e1 : (eds p).take 1000 = eds p := List.take_of_length_le (by omega)
          have e2 : (eds q).take 1000 = eds q := List.take_of_length_le (by omega)
          have e3 : (eds (p ++ q)).take 2000 = eds (p ++ q) := List.take_of_length_le (by simp at lb; omega)
          rw [is_ok hop, is_ok hoq, Bool.or_false, cond_false, g1, cond_true, g2, cond_true, List.nil_append, show (1000 : Int) = ((1000 : Nat) : Int) from rfl, show (2000 : Int) = ((2000 : Nat) : Int) from rfl,
            edges20 (by omega) (by omega) hwp 1000, Option.bind_some, edges20 (by omega) (by omega) hwq 1000, Option.bind_some, edges20 (by omega) (by simp; omega) hwb 2000, Option.bind_some, e1, e2, e3]
          have hEE : (eds (p ++ q)).map mkE = (eds p).map mkE ++ ((eds q).map mkE).map (shE (p.length : Int)) := EE_app hop hoq hwq hlen
          have w1 : IntKind.i64.wrap ((((eds p).map mkE).length : Int) + (((eds q).map mkE).length : Int)) = (((eds p).map mkE).length : Int) + (((eds q).map mkE).length : Int) := by
            rw [List.length_map, List.length_map]; exact w64 (by omega)
          have g3 : ((((eds (p ++ q)).map mkE).length : Int) != (((eds p).map mkE).length : Int) + (((eds q).map mkE).length : Int)) = false := by
            rw [hEE]; simp
          have hlq : (stp q).length = q.length := by rw [stp_length, hoq]; rfl
          have h1 := two_l1 (A := (eds p).map mkE) (B := (eds q).map mkE) (p := p) (by omega) (by rw [List.length_map]; omega) (by rw [List.length_map]; omega) (fun e he => by
            obtain ⟨a, b⟩ := EE_in he
            rw [hlq] at a b
            omega) 10000 0 (by omega) (by rw [List.length_map, List.length_map]; omega)
          rw [show ((0 : Nat) : Int) = 0 from rfl] at h1
          rw [w1, g3, cond_false, hEE, h1, Option.bind_some]
          simp only [fn7_k1, List.nil_append]
          obtain ⟨x, x1, x2⟩ := prog_reached (F := 10000) (by omega) (by simp; omega) hwb
          obtain ⟨y, y1, y2⟩ := prog_reached (F := 10000) (by omega) (by omega) hwp
          have hlp : (stp p).length = p.length := by rw [stp_length, hop]; rfl
          have hlb : (stp (p ++ q)).length = p.length + q.length := by rw [stp_length, hb]; simp
          have hxl : x.length = p.length + q.length := by rw [x2.1, hlb]
          have hpos : 0 < p.length := List.length_pos_iff.2 (ok_len hop).1
          have h2 := two_l2 (x := x) (y := y) (p := p) (by omega) (by rw [y2.1, hlp]) (fun i h0 h1 => by
            apply Bool.eq_iff_iff.2
            rw [x2.2 i h0 (by omega), rch_both hop hoq hwq hlen]
            cases hd : decide (i < (p.length : Int)) with
            | true => simp at hd; simp only [cond_true]; rw [y2.2 i h0 (by omega)]
            | false =>
              simp at hd
              constructor
              · intro h; have := h.lt (stp_valid p) (by omega); omega
              · intro h; cases h) 10000 0 (by omega) (by omega)
          rw [show ((0 : Nat) : Int) = 0 from rfl] at h2
          rw [x1, Option.bind_some, y1, Option.bind_some, h2, Option.bind_some]
          have g4 : ((x.length : Int) == (((p ++ q)).length : Int)) = true := by rw [hxl]; simp
          obtain ⟨b, b1, b2⟩ := prog_loops (F := 10000) (by omega) (by simp; omega) hwb
          obtain ⟨c, c1, c2⟩ := prog_loops (F := 10000) (by omega) (by omega) hwp
          have hbc : b = c := Bool.eq_iff_iff.2 (b2.trans ((rnd_both hop hoq hwq hlen).trans c2.symm))
          subst hbc
          simp only [fn7_k2, List.nil_append, g4, cond_true, b1, c1, Option.bind_some, beq_self_eq_true, Bool.and_true]
end Go.Proofs.Ytbpldfhehpjbaaa
