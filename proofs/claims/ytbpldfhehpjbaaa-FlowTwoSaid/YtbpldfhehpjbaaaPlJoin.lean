/- Plain: two programs, one behind the other. -/
import Derived.Test.YtbpldfhehpjbaaaPlProg
namespace Go.Proofs.Ytbpldfhehpjbaaa
open Go Go.HW
set_option maxRecDepth 8000
set_option linter.unusedVariables false

theorem ok_er_pl {q : List Instr} (h : okP q = true) {k : Int} (hk : pl q k = true) : er q k = 0 := by
  rw [← pos_pl, posIn, List.any_eq_true] at hk
  obtain ⟨y, h1, h2⟩ := hk
  have := ok_er h y h1
  simp at h2
  rw [← h2]; exact this

/-- no wide instruction is cut off at the end -/
def closedL : List Instr → Prop
  | [] => True
  | x :: l => if (x.fOp == 24) = true then (match l with | [] => False | _ :: l' => closedL l') else closedL l

theorem closedL_of : ∀ (n : Nat) (l : List Instr) (k : Int), l.length ≤ n → (∀ y ∈ firstsL l k, (y.2.fInstr.fOp == 24) = true → y.1 + 1 < k + l.length) → closedL l
  | _, [], _, _, _ => by simp [closedL]
  | 0, x :: l, k, h, _ => by simp at h
  | n + 1, x :: l, k, h, hy => by
    simp only [List.length_cons] at h
    rw [firstsL_cons] at hy
    rw [closedL.eq_def]
    simp only []
    split
    · rename_i hw
      rw [hw, cond_true] at hy
      cases l with
      | nil => have := hy (k, fn60 x) (by simp) hw; simp at this
      | cons z l' =>
        simp only [List.length_cons] at h
        refine closedL_of n l' (k + 2) (by omega) (fun y h1 h2 => ?_)
        have := hy y (by simp [h1]) h2
        simp at this; omega
    · rename_i hw
      have hw' : (x.fOp == 24) = false := by simpa using hw
      rw [hw', cond_false] at hy
      refine closedL_of n l (k + 1) (by omega) (fun y h1 h2 => ?_)
      have := hy y (by simp [h1]) h2
      simp at this; omega

theorem firsts_app : ∀ (n : Nat) (l m : List Instr) (k : Int), l.length ≤ n → closedL l → firstsL (l ++ m) k = firstsL l k ++ firstsL m (k + l.length) ∧ marks (l ++ m) = marks l ++ marks m
  | _, [], m, k, _, _ => by simp [firstsL, marks]
  | 0, x :: l, m, k, h, _ => by simp at h
  | n + 1, x :: l, m, k, h, hc => by
    simp only [List.length_cons] at h
    rw [closedL.eq_def] at hc
    simp only [] at hc
    rw [List.cons_append, firstsL_cons, firstsL_cons, marks_cons, marks_cons]
    split at hc
    · rename_i hw
      rw [hw]
      simp only [cond_true]
      cases l with
      | nil => exact absurd hc (by simp)
      | cons z l' =>
        simp only [List.length_cons] at h
        simp only [List.cons_append]
        obtain ⟨e1, e2⟩ := firsts_app n l' m (k + 2) (by omega) hc
        rw [e1, e2]
        constructor
        · simp; congr 1; omega
        · simp
    · rename_i hw
      have hw' : (x.fOp == 24) = false := by simpa using hw
      rw [hw']
      simp only [cond_false]
      obtain ⟨e1, e2⟩ := firsts_app n l m (k + 1) (by omega) hc
      rw [e1, e2]
      constructor
      · simp; congr 1; omega
      · simp

theorem firsts_shift (d : Int) : ∀ (n : Nat) (m : List Instr) (k : Int), m.length ≤ n → firstsL m (k + d) = (firstsL m k).map fun y => (y.1 + d, y.2)
  | _, [], k, _ => rfl
  | 0, x :: l, k, h => by simp at h
  | n + 1, x :: l, k, h => by
    simp only [List.length_cons] at h
    rw [firstsL_cons, firstsL_cons]
    cases (x.fOp == 24) with
    | false =>
      simp only [cond_false, List.map_cons]
      rw [← firsts_shift d n l (k + 1) (by omega), show k + d + 1 = k + 1 + d from by omega]
    | true =>
      cases l with
      | nil => rfl
      | cons z l' =>
        simp only [List.length_cons] at h
        simp only [cond_true, List.map_cons]
        rw [← firsts_shift d n l' (k + 2) (by omega), show k + d + 2 = k + 2 + d from by omega]

theorem gt_app_l {α : Type} [Inhabited α] {a b : List α} {k : Int} (h0 : 0 ≤ k) (h1 : k < (a.length : Int)) : gt (a ++ b) k = gt a k := by
  have : k.toNat < a.length := by omega
  simp [gt, List.getD_eq_getElem?_getD, List.getElem?_append_left this]
theorem gt_app_r {α : Type} [Inhabited α] {a b : List α} {k : Int} (h0 : 0 ≤ k) : gt (a ++ b) ((a.length : Int) + k) = gt b k := by
  have h1 : ((a.length : Int) + k).toNat = a.length + k.toNat := by omega
  simp only [gt, h1, List.getD_eq_getElem?_getD]
  rw [List.getElem?_append_right (by omega)]
  congr 2; omega

section
variable {p q : List Instr} (hp : okP p = true) (hq : okP q = true)
include hp
theorem ok_closed : closedL p := by
  refine closedL_of _ p 0 (Nat.le_refl _) (fun y hy hw => ?_)
  have her := ok_er hp y hy
  obtain ⟨h0, h1, h2⟩ := first_slot hy
  rw [h2, fn60_instr] at hw
  unfold er at her
  cases h1 : fn76 (gt p y.1) <;> rw [h1] at her <;> simp only [Bool.not_true, Bool.not_false, cond_true, cond_false] at her
  · cases her
  cases h2 : fn36 (fn60 (gt p y.1)) <;> rw [h2] at her <;> simp only [Bool.not_true, Bool.not_false, cond_true, cond_false] at her
  · cases her
  cases h3 : fn78 (gt p y.1) <;> rw [h3] at her <;> simp only [Bool.not_true, Bool.not_false, cond_true, cond_false] at her
  · cases her
  rw [hw, Bool.true_and] at her
  rcases Int.lt_or_le (y.1 + 1) (p.length : Int) with h | h
  · omega
  · have : sec p y.1 = 23 := by simp [sec, h]
    rw [this] at her; simp at her

theorem marks_app : marks (p ++ q) = marks p ++ marks q := (firsts_app _ p q 0 (Nat.le_refl _) (ok_closed hp)).2
theorem pl_l {t : Int} (h0 : 0 ≤ t) (h1 : t < (p.length : Int)) : pl (p ++ q) t = pl p t := by
  rw [pl_marks h0 h1, pl_marks h0 (by simp; omega), marks_app hp, gt_app_l h0 (by rw [marks_length]; exact h1)]
theorem pl_r {t : Int} (h0 : 0 ≤ t) : pl (p ++ q) ((p.length : Int) + t) = pl q t := by
  rcases Int.lt_or_le t (q.length : Int) with h | h
  · rw [pl_marks h0 h, pl_marks (by omega) (by simp; omega), marks_app hp]
    have := gt_app_r (a := marks p) (b := marks q) (k := t) h0
    rw [marks_length] at this; exact this
  · have a : pl q t = false := by
      have : decide (t < (q.length : Int)) = false := by simp; omega
      simp [pl, this]
    have b : pl (p ++ q) ((p.length : Int) + t) = false := by
      have : decide ((p.length : Int) + t < ((p ++ q).length : Int)) = false := by simp; omega
      simp only [pl, this, Bool.and_false, Bool.false_and]
    rw [a, b]

theorem er_l {k : Int} (h0 : 0 ≤ k) (h1 : k < (p.length : Int)) (he : er p k = 0) : er (p ++ q) k = 0 := by
  have hg : gt (p ++ q) k = gt p k := gt_app_l h0 h1
  have ht := er_target he
  unfold er at he ⊢
  rw [hg]
  cases a1 : fn76 (gt p k) <;> rw [a1] at he <;> simp only [Bool.not_true, Bool.not_false, cond_true, cond_false] at he ⊢
  · cases he
  cases a2 : fn36 (fn60 (gt p k)) <;> rw [a2] at he <;> simp only [Bool.not_true, Bool.not_false, cond_true, cond_false] at he ⊢
  · cases he
  cases a3 : fn78 (gt p k) <;> rw [a3] at he <;> simp only [Bool.not_true, Bool.not_false, cond_true, cond_false] at he ⊢
  · cases he
  have hs : (((gt p k).fOp == 24) && (sec (p ++ q) k != 0)) = false := by
    cases hw : ((gt p k).fOp == 24) with
    | false => rfl
    | true =>
      rw [hw, Bool.true_and] at he
      have hs0 : sec p k = 0 := by
        cases hh : (sec p k != 0) with
        | false => simpa using hh
        | true => rw [hh] at he; simp at he hh; exact absurd he hh
      have hk : k + 1 < (p.length : Int) := by
        rcases Int.lt_or_le (k + 1) (p.length : Int) with h | h
        · exact h
        · have : sec p k = 23 := by simp [sec, h]
          omega
      have : sec (p ++ q) k = sec p k := by
        have d1 : decide (((p ++ q).length : Int) ≤ k + 1) = false := by simp; omega
        have d2 : decide ((p.length : Int) ≤ k + 1) = false := by simp; omega
        simp only [sec, d1, d2, hg, gt_app_l (a := p) (b := q) (show 0 ≤ k + 1 by omega) hk]
      rw [this, hs0]; rfl
  rw [hs]
  simp only [cond_false]
  cases hj : (fn58 (gt p k) k).2 with
  | false => rfl
  | true =>
    have := ht hj
    obtain ⟨t0, t1⟩ := pl_lt this
    rw [pl_l hp t0 t1, this]; rfl
end

theorem jump_shift {x : Instr} (hx : OkI x) {k d : Int} (h0 : 0 ≤ k) (h1 : k ≤ 10000) (d0 : 0 ≤ d) (d1 : d ≤ 10000) : (fn58 x (d + k)).2 = (fn58 x k).2 ∧ ((fn58 x k).2 = true → (fn58 x (d + k)).1 = d + (fn58 x k).1) := by
  have b1 := hx.off; have b2 := hx.imm
  have e1 : IntKind.i64.wrap (k + 1) = k + 1 := w64 (by omega)
  have e2 : IntKind.i64.wrap (d + k + 1) = d + k + 1 := w64 (by omega)
  have e3 : IntKind.i64.wrap x.fImm = x.fImm := w64 (by omega)
  have e4 : IntKind.i64.wrap x.fOff = x.fOff := w64 (by omega)
  have e5 : IntKind.i64.wrap (k + 1 + x.fImm) = k + 1 + x.fImm := w64 (by omega)
  have e6 : IntKind.i64.wrap (k + 1 + x.fOff) = k + 1 + x.fOff := w64 (by omega)
  have e7 : IntKind.i64.wrap (d + k + 1 + x.fImm) = d + k + 1 + x.fImm := w64 (by omega)
  have e8 : IntKind.i64.wrap (d + k + 1 + x.fOff) = d + k + 1 + x.fOff := w64 (by omega)
  simp only [fn58, bindP, e1, e2, e3, e4, e5, e6, e7, e8]
  cases (((fn54 x != 5) && (fn54 x != 6)) || (fn55 x == 128)) || (fn55 x == 144) with
  | true => exact ⟨rfl, fun h => by cases h⟩
  | false =>
    cases ((fn55 x == 0) && (fn54 x == 6)) with
    | true => exact ⟨rfl, fun _ => by simp only [cond_false, cond_true]; omega⟩
    | false => exact ⟨rfl, fun _ => by simp only [cond_false]; omega⟩

section
variable {p q : List Instr} (hp : okP p = true) (hq : okP q = true) (wq : WF q)
include hp hq wq
theorem er_r {k : Int} (h0 : 0 ≤ k) (h1 : k < (q.length : Int)) (he : er q k = 0) : er (p ++ q) ((p.length : Int) + k) = 0 := by
  have hpl := (ok_len hp).2; have hql := (ok_len hq).2
  have hg : gt (p ++ q) ((p.length : Int) + k) = gt q k := gt_app_r h0
  have ht := er_target he
  have ok := wq.gt h0 h1
  obtain ⟨j1, j2⟩ := jump_shift ok (k := k) (d := (p.length : Int)) h0 (by omega) (by omega) (by omega)
  unfold er at he ⊢
  rw [hg]
  cases a1 : fn76 (gt q k) <;> rw [a1] at he <;> simp only [Bool.not_true, Bool.not_false, cond_true, cond_false] at he ⊢
  · cases he
  cases a2 : fn36 (fn60 (gt q k)) <;> rw [a2] at he <;> simp only [Bool.not_true, Bool.not_false, cond_true, cond_false] at he ⊢
  · cases he
  cases a3 : fn78 (gt q k) <;> rw [a3] at he <;> simp only [Bool.not_true, Bool.not_false, cond_true, cond_false] at he ⊢
  · cases he
  have hs : sec (p ++ q) ((p.length : Int) + k) = sec q k := by
    have hg1 : gt (p ++ q) ((p.length : Int) + k + 1) = gt q (k + 1) := by rw [show (p.length : Int) + k + 1 = (p.length : Int) + (k + 1) from by omega]; exact gt_app_r (by omega)
    have d1 : decide (((p ++ q).length : Int) ≤ (p.length : Int) + k + 1) = decide ((q.length : Int) ≤ k + 1) := by simp; omega
    simp only [sec, d1, hg, hg1]
  rw [hs]
  cases hw : (((gt q k).fOp == 24) && (sec q k != 0)) with
  | true => rw [hw] at he; exact he
  | false =>
    simp only [cond_false]
    rw [j1]
    cases hj : (fn58 (gt q k) k).2 with
    | false => rfl
    | true =>
      have := ht hj
      rw [j2 hj, pl_r hp (pl_lt this).1, this]; rfl

omit hp hq wq in
theorem lastAt_app : ∀ (a b : List (Int × Slot)) (d : Int), lastAt (a ++ b) d = lastAt b (lastAt a d)
  | [], b, d => rfl
  | x :: a, b, d => lastAt_app a b x.1
omit hp hq wq in
theorem lastAt_map (d : Int) : ∀ (b : List (Int × Slot)) (c : Int), b ≠ [] → lastAt (b.map fun y => (y.1 + d, y.2)) c = lastAt b 0 + d
  | [], _, h => absurd rfl h
  | [y], c, _ => rfl
  | y :: z :: b, c, _ => lastAt_map d (z :: b) (y.1 + d) (by simp)

theorem ok_app (hlen : p.length + q.length ≤ 4096) : okP (p ++ q) = true := by
  have hf := (firsts_app _ p q 0 (Nat.le_refl _) (ok_closed hp)).1
  have hs := firsts_shift (p.length : Int) _ q 0 (Nat.le_refl _)
  rw [hs] at hf
  obtain ⟨hpne, _⟩ := ok_len hp
  obtain ⟨hqne, _⟩ := ok_len hq
  have h1 : (((((p ++ q).length : Int) == 0)) || (decide ((4096 : Int) < ((p ++ q).length : Int)))) = false := by
    have := List.length_pos_iff.2 hpne
    simp; omega
  have h2 : (firstsL (p ++ q) 0).find? (bad (p ++ q)) = none := by
    rw [List.find?_eq_none]
    intro y hy
    rw [hf, List.mem_append] at hy
    rcases hy with hy | hy
    · obtain ⟨a, b, _⟩ := first_slot hy
      simp [bad, er_l (q := q) hp a b (ok_er hp y hy)]
    · obtain ⟨z, hz, rfl⟩ := List.mem_map.1 hy
      obtain ⟨a, b, _⟩ := first_slot hz
      have := er_r hp hq wq a b (ok_er hq z hz)
      rw [Int.add_comm] at this
      simp [bad, this]
  have hne : firstsL q 0 ≠ [] := by intro e; have := firsts_ne hqne; rw [e] at this; cases this
  have h3 : lastAt (firstsL (p ++ q) 0) 0 = (p.length : Int) + lastAt (firstsL q 0) 0 := by
    rw [hf, lastAt_app, lastAt_map _ _ _ hne, Int.add_comm]
  have h4 : refEnds (gt (p ++ q) ((p.length : Int) + lastAt (firstsL q 0) 0)) = true := by
    rw [gt_app_r (last_in hqne).1]; exact ok_end hq
  unfold okP chk
  rw [h1, h2, h3, h4]; rfl

theorem stp_app (hlen : p.length + q.length ≤ 4096) : stp (p ++ q) = stp p ++ (stp q).map (fun a => a.map (fun t => (p.length : Int) + t)) := by
  have hb := ok_app hp hq wq hlen
  have l1 := stp_length p; rw [hp, if_pos rfl] at l1
  have l2 := stp_length q; rw [hq, if_pos rfl] at l2
  have l3 := stp_length (p ++ q); rw [hb, if_pos rfl] at l3
  apply List.ext_getElem
  · simp [l1, l2, l3]
  · intro i h1 h2
    have e1 : (stp (p ++ q))[i] = gt (stp (p ++ q)) (i : Int) := by simp [gt, h1]
    have hi : i < p.length + q.length := by rw [l3] at h1; simpa using h1
    rw [e1, gt_stp hb (by omega) (by simp; omega)]
    rcases Nat.lt_or_ge i p.length with h | h
    · rw [List.getElem_append_left (by omega)]
      have e2 : (stp p)[i]'(by omega) = gt (stp p) (i : Int) := by
        have : i < (stp p).length := by omega
        simp [gt, this]
      rw [e2, gt_stp hp (by omega) (by omega)]
      have hm : gt (marks (p ++ q)) (i : Int) = gt (marks p) (i : Int) := by rw [marks_app hp]; exact gt_app_l (by omega) (by rw [marks_length]; omega)
      have hg : gt (p ++ q) (i : Int) = gt p (i : Int) := gt_app_l (by omega) (by omega)
      simp only [wayAt, hm, way, hg]
    · rw [List.getElem_append_right (by omega), List.getElem_map]
      have hj : i - p.length < q.length := by omega
      have e2 : (stp q)[i - (stp p).length]'(by omega) = gt (stp q) ((i - p.length : Nat) : Int) := by
        have : i - p.length < (stp q).length := by omega
        simp [gt, l1, this]
      rw [e2, gt_stp hq (by omega) (by omega)]
      have ei : (i : Int) = (p.length : Int) + ((i - p.length : Nat) : Int) := by omega
      rw [ei]
      generalize ((i - p.length : Nat) : Int) = k at *
      have k0 : 0 ≤ k := by omega
      have k1 : k < (q.length : Int) := by omega
      have hpl := (ok_len hp).2; have hql := (ok_len hq).2
      have hm : gt (marks (p ++ q)) ((p.length : Int) + k) = gt (marks q) k := by
        rw [marks_app hp]
        have := gt_app_r (a := marks p) (b := marks q) (k := k) k0
        rw [marks_length] at this; exact this
      simp only [wayAt, hm]
      rw [← pl_marks k0 k1]
      cases hk : pl q k with
      | false =>
        have h0 : outs (⟨-1, -1⟩ : S__2_int) = [] := by decide
        simp only [cond_false, h0]; rfl
      | true =>
        simp only [cond_true]
        obtain ⟨w0, w1⟩ := way_pl hq hk
        have hg : gt (p ++ q) ((p.length : Int) + k) = gt q k := gt_app_r k0
        obtain ⟨j1, j2⟩ := jump_shift (wq.gt k0 k1) (k := k) (d := (p.length : Int)) k0 (by omega) (by omega) (by omega)
        have c0 : (way (p ++ q) ((p.length : Int) + k)).e0 = -1 ∧ (way q k).e0 = -1 ∨ (way (p ++ q) ((p.length : Int) + k)).e0 = (p.length : Int) + (way q k).e0 ∧ 0 ≤ (way q k).e0 := by
          simp only [way, hg]
          cases refEnds (gt q k) with
          | true => left; exact ⟨rfl, rfl⟩
          | false => right; cases ((gt q k).fOp == 24) <;> simp <;> omega
        have c1 : (way (p ++ q) ((p.length : Int) + k)).e1 = -1 ∧ (way q k).e1 = -1 ∨ (way (p ++ q) ((p.length : Int) + k)).e1 = (p.length : Int) + (way q k).e1 ∧ 0 ≤ (way q k).e1 := by
          have hw1 : (way q k).e1 = (bif (fn58 (gt q k) k).2 then (fn58 (gt q k) k).1 else -1) := rfl
          have hw2 : (way (p ++ q) ((p.length : Int) + k)).e1 = (bif (fn58 (gt q k) ((p.length : Int) + k)).2 then (fn58 (gt q k) ((p.length : Int) + k)).1 else -1) := by simp only [way, hg]
          rw [hw1] at w1 ⊢
          rw [hw2, j1]
          cases hj : (fn58 (gt q k) k).2 with
          | false => left; exact ⟨rfl, rfl⟩
          | true =>
            rw [hj, cond_true] at w1
            right
            simp only [cond_true]
            refine ⟨j2 hj, ?_⟩
            rcases w1 with w1 | w1
            · have := er_target (ok_er_pl hq hk) hj
              exact (pl_lt this).1
            · exact (pl_lt w1).1
        rcases c0 with ⟨c0, d0⟩ | ⟨c0, d0⟩ <;> rcases c1 with ⟨c1, d1⟩ | ⟨c1, d1⟩
        · simp [outs, c0, d0, c1, d1]
        · have : 0 ≤ (p.length : Int) + (way q k).e1 := by omega
          simp [outs, c0, d0, c1, d1, this]
        · have : 0 ≤ (p.length : Int) + (way q k).e0 := by omega
          simp [outs, c0, d0, c1, d1, this]
        · have t0 : 0 ≤ (p.length : Int) + (way q k).e0 := by omega
          have t1 : 0 ≤ (p.length : Int) + (way q k).e1 := by omega
          simp [outs, c0, d0, c1, d1, t0, t1]
end

theorem edgesOf_app : ∀ (a b : List (List Int)) (k : Int), edgesOf (a ++ b) k = edgesOf a k ++ edgesOf b (k + a.length)
  | [], b, k => by simp [edgesOf]
  | x :: a, b, k => by
    rw [List.cons_append, edgesOf, edgesOf, edgesOf_app a b (k + 1), List.append_assoc]
    congr 3; simp; omega
theorem edgesOf_shift (d : Int) : ∀ (b : List (List Int)) (k : Int), edgesOf (b.map (fun a => a.map (fun t => d + t))) (d + k) = (edgesOf b k).map fun e => (d + e.1, d + e.2)
  | [], k => rfl
  | x :: b, k => by
    rw [List.map_cons, edgesOf, edgesOf, List.map_append, ← edgesOf_shift d b (k + 1), show d + k + 1 = d + (k + 1) from by omega]
    simp
end Go.Proofs.Ytbpldfhehpjbaaa
