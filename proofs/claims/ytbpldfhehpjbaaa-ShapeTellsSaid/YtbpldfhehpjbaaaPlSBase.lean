/- Plain: of slots, of ways, of two programs in a row. -/
import Derived.Test.YtbpldfhehpjbaaaPlWays
namespace Go.Proofs.Ytbpldfhehpjbaaa
open Go Go.HW
set_option maxRecDepth 8000
set_option linter.unusedVariables false

theorem ways_length (p : List Instr) : (ways p).length = if okP p then p.length else 0 := by
  unfold ways; cases okP p <;> simp
theorem drop_gt {α : Type} [Inhabited α] {v : List α} {k : Nat} (h : k < v.length) : v.drop k = gt v (k : Int) :: v.drop (k + 1) := by
  rw [List.drop_eq_getElem_cons h]; congr 1; simp [gt, h]

theorem mhas_put {κ α : Type} [DecidableEq κ] (k : κ) (v : α) (t : κ) : ∀ xs : List (κ × α), mhas (mput xs k v) t = (decide (k = t) || mhas xs t)
  | [] => by by_cases h : k = t <;> simp [mhas, mput, mfind, h]
  | p :: xs => by
    have ih := mhas_put k v t xs
    simp only [mhas] at ih ⊢
    by_cases hp : p.1 = k
    · by_cases h : k = t
      · simp [mput, mfind, hp, h]
      · have : ¬ p.1 = t := by rw [hp]; exact h
        simp [mput, mfind, hp, h]
    · by_cases h : p.1 = t
      · have : ¬ k = t := by intro e; exact hp (h.trans e.symm)
        have h2 : ¬ t = k := fun e => this e.symm
        simp [mput, mfind, h, this, h2]
      · simp only [mput, hp, decide_false, cond_false, mfind, h]
        exact ih

/-- how many numbers below n are not told -/
theorem gt_mem {α : Type} [Inhabited α] {v : List α} {k : Int} (h0 : 0 ≤ k) (h1 : k < (v.length : Int)) : gt v k ∈ v := by
  have : k.toNat < v.length := by omega
  simp [gt, this]
theorem gt_set {α : Type} [Inhabited α] {v : List α} {i k : Int} {a : α} (h0 : 0 ≤ i) (h1 : i < (v.length : Int)) (k0 : 0 ≤ k) : gt (v.set i.toNat a) k = if i = k then a else gt v k := by
  have : i.toNat < v.length := by omega
  simp only [gt, List.getD_eq_getElem?_getD, List.getElem?_set]
  by_cases h : i = k
  · subst h; simp [this]
  · have : ¬ i.toNat = k.toNat := by omega
    simp [h, this]

section
variable {κ α : Type} [DecidableEq κ]
theorem mhas_iff (xs : List (κ × α)) (k : κ) : mhas xs k = true ↔ ∃ q ∈ xs, q.1 = k := by
  induction xs with
  | nil => simp [mhas, mfind]
  | cons p xs ih =>
    by_cases h : p.1 = k
    · constructor
      · intro _; exact ⟨p, by simp, h⟩
      · intro _; simp [mhas, mfind, h]
    · have e : mhas (p :: xs) k = mhas xs k := by simp [mhas, mfind, h]
      rw [e, ih]
      constructor
      · rintro ⟨q, h1, h2⟩; exact ⟨q, by simp [h1], h2⟩
      · rintro ⟨q, h1, h2⟩
        rcases List.mem_cons.1 h1 with rfl | h1
        · exact absurd h2 h
        · exact ⟨q, h1, h2⟩
theorem mput_new : ∀ (xs : List (κ × α)) (k : κ) (v : α), mhas xs k = false → mput xs k v = xs ++ [(k, v)]
  | [], k, v, _ => rfl
  | p :: xs, k, v, h => by
    by_cases hp : p.1 = k
    · simp [mhas, mfind, hp] at h
    · have : mhas xs k = false := by simpa [mhas, mfind, hp] using h
      simp [mput, hp, mput_new xs k v this]
def KND (xs : List (κ × α)) : Prop := (xs.map (·.1)).Nodup
theorem KND.push {xs : List (κ × α)} {k : κ} {v : α} (h : KND xs) (hk : mhas xs k = false) : KND (mput xs k v) := by
  rw [mput_new xs k v hk, KND, List.map_append, List.nodup_append]
  refine ⟨h, by simp, fun a ha b hb => ?_⟩
  simp at hb; subst hb
  obtain ⟨q, h1, rfl⟩ := List.mem_map.1 ha
  intro e
  have := (mhas_iff xs b).2 ⟨q, h1, e⟩
  rw [hk] at this; cases this
end
def nxt (p : List Instr) (k : Int) : Int := bif (gt p k).fOp == 24 then k + 2 else k + 1

def restL (i : Instr) (l : List Instr) (k : Int) : List (Int × Slot) := (firstsL (i :: l) k).tail
theorem firstsL_rest (i : Instr) (l : List Instr) (k : Int) : firstsL (i :: l) k = (k, fn60 i) :: restL i l k := by rw [restL, firstsL_cons]; rfl

/-- the next first slot behind one that is not the last -/
theorem next_first {p : List Instr} : ∀ (n k : Nat) (d : Int), p.length - k < n → ∀ y ∈ firstsL (p.drop k) k, y.1 = lastAt (firstsL (p.drop k) k) d ∨ posIn (firstsL (p.drop k) k) (nxt p y.1) = true
  | 0, k, d, h, y, hy => by omega
  | n + 1, k, d, h, y, hy => by
    rcases Nat.lt_or_ge k p.length with hk | hk
    · have hg : p.drop k = gt p (k : Int) :: p.drop (k + 1) := drop_gt hk
      rw [hg, firstsL_rest] at hy ⊢
      -- what lies behind
      have hc : restL (gt p (k : Int)) (p.drop (k + 1)) (k : Int) = [] ∨ ∃ j : Nat, restL (gt p (k : Int)) (p.drop (k + 1)) (k : Int) = firstsL (p.drop j) (j : Int) ∧ k < j ∧ (j : Int) = nxt p (k : Int) ∧ p.drop j ≠ [] := by
        rw [restL, firstsL_cons, List.tail_cons]
        cases hw : ((gt p (k : Int)).fOp == 24) with
        | false =>
          simp only [cond_false]
          by_cases hd : p.drop (k + 1) = []
          · rw [hd]; exact .inl rfl
          · exact .inr ⟨k + 1, by simp, by omega, by simp [nxt, hw], hd⟩
        | true =>
          simp only [cond_true]
          cases hd : p.drop (k + 1) with
          | nil => exact .inl rfl
          | cons z l' =>
            obtain ⟨_, h2, _⟩ := drop_cons' hd
            by_cases hl : l' = []
            · rw [hl]; exact .inl rfl
            · refine .inr ⟨k + 2, ?_, by omega, by simp [nxt, hw], by rw [show k + 2 = k + 1 + 1 from rfl, h2]; exact hl⟩
              rw [show k + 2 = k + 1 + 1 from rfl, h2]
              congr 1
      generalize restL (gt p (k : Int)) (p.drop (k + 1)) (k : Int) = l at hc hy ⊢
      have hla : ∀ d, lastAt (((k : Int), fn60 (gt p (k : Int))) :: l) d = lastAt l (k : Int) := fun _ => rfl
      have hpi : ∀ t, posIn (((k : Int), fn60 (gt p (k : Int))) :: l) t = (((k : Int) == t) || posIn l t) := fun _ => rfl
      rw [hla, hpi]
      rcases hc with rfl | ⟨j, rfl, hkj, hj, hne⟩
      · rcases List.mem_cons.1 hy with rfl | hy
        · exact .inl rfl
        · simp at hy
      · have ih := next_first (p := p) n j (k : Int) (by omega)
        rcases List.mem_cons.1 hy with rfl | hy
        · refine .inr ?_
          show (((k : Int) == nxt p (k : Int)) || posIn (firstsL (p.drop j) (j : Int)) (nxt p (k : Int))) = true
          rw [← hj]
          have : posIn (firstsL (p.drop j) (j : Int)) (j : Int) = true := by
            cases hd : p.drop j with
            | nil => exact absurd hd hne
            | cons z r => rw [firstsL_cons]; simp [posIn]
          rw [this]; simp
        · rcases ih y hy with h | h
          · exact .inl h
          · exact .inr (by rw [h]; simp)
    · rw [List.drop_eq_nil_of_le hk] at hy; simp [firstsL] at hy

theorem ok_end {p : List Instr} (h : okP p = true) : refEnds (gt p (lastAt (firstsL p 0) 0)) = true := by
  have her := ok_er h
  obtain ⟨h1, h2⟩ := ok_len h
  unfold okP chk at h
  cases hl : (((p.length : Int) == 0) || (decide ((4096 : Int) < (p.length : Int)))) with
  | true => simp at hl; rcases hl with e | e; exact absurd e h1; omega
  | false =>
    rw [hl] at h
    simp only [cond_false] at h
    cases hf : (firstsL p 0).find? (bad p) with
    | some y =>
      have hy := List.find?_some hf
      have := her y (List.mem_of_find?_eq_some hf)
      simp [bad, this] at hy
    | none =>
      rw [hf] at h
      cases hr : refEnds (gt p (lastAt (firstsL p 0) 0)) with
      | true => rfl
      | false => rw [hr] at h; simp at h

theorem er_target {p : List Instr} {k : Int} (h : er p k = 0) (ht : (fn58 (gt p k) k).2 = true) : pl p (fn58 (gt p k) k).1 = true := by
  unfold er at h
  cases h1 : fn76 (gt p k) <;> rw [h1] at h <;> simp only [Bool.not_true, Bool.not_false, cond_true, cond_false] at h
  · cases h
  cases h2 : fn36 (fn60 (gt p k)) <;> rw [h2] at h <;> simp only [Bool.not_true, Bool.not_false, cond_true, cond_false] at h
  · cases h
  cases h3 : fn78 (gt p k) <;> rw [h3] at h <;> simp only [Bool.not_true, Bool.not_false, cond_true, cond_false] at h
  · cases h
  cases h4 : (((gt p k).fOp == 24) && (sec p k != 0)) <;> rw [h4] at h <;> simp only [cond_true, cond_false] at h
  · rw [ht] at h
    cases h5 : pl p (fn58 (gt p k) k).1 with
    | true => rfl
    | false => rw [h5] at h; simp at h
  · simp at h4; exact absurd h h4.2

/-- each way leads to a first slot, or nowhere -/
theorem way_pl {p : List Instr} (ho : okP p = true) {k : Int} (hk : pl p k = true) : ((way p k).e0 = -1 ∨ ((way p k).e0 = nxt p k ∧ pl p (nxt p k) = true)) ∧ ((way p k).e1 = -1 ∨ pl p (way p k).e1 = true) := by
  have hpos : ∃ y ∈ firstsL p 0, y.1 = k := by
    rw [← pos_pl, posIn, List.any_eq_true] at hk
    obtain ⟨y, h1, h2⟩ := hk
    exact ⟨y, h1, by simpa using h2⟩
  obtain ⟨y, hy, rfl⟩ := hpos
  have her := ok_er ho y hy
  refine ⟨?_, ?_⟩
  · have hn := next_first (p := p) (p.length + 1) 0 0 (by omega) y (by simpa using hy)
    simp only [List.drop_zero, show ((0 : Nat) : Int) = 0 from rfl] at hn
    rcases hn with h | h
    · left
      have := ok_end ho
      rw [← h] at this
      simp [way, this]
    · rw [pos_pl] at h
      cases hr : refEnds (gt p y.1) with
      | true => left; simp [way, hr]
      | false => right; exact ⟨by simp [way, hr, nxt], h⟩
  · cases ht : (fn58 (gt p y.1) y.1).2 with
    | false => left; simp [way, ht]
    | true => right; simp only [way, ht, cond_true]; exact er_target her ht

theorem pl_lt {p : List Instr} {t : Int} (h : pl p t = true) : 0 ≤ t ∧ t < (p.length : Int) := by
  simp [pl] at h; exact ⟨h.1.1, h.1.2⟩

theorem pl_marks {p : List Instr} {k : Int} (h0 : 0 ≤ k) (h1 : k < p.length) : pl p k = gt (marks p) k := by
  have a : decide (0 ≤ k) = true := by simp; omega
  have b : decide (k < (p.length : Int)) = true := by simp; omega
  rw [pl, a, b]; rfl

/-- an edge leads from a first slot to one -/
theorem next15 {F : Nat} {p : List Instr} (hF : 6000 ≤ F) (hp : p.length ≤ 5000) (hw : WF p) (ho : okP p = true) {k : Int} (h0 : 0 ≤ k) (h1 : k < p.length) : fn15 F p k = some ((wayAt p k).e0, (wayAt p k).e1) := by
  have hl := ways_length p
  rw [ho, if_pos rfl] at hl
  have g1 : (decide (k < 0) || decide (((ways p).length : Int) ≤ k)) = false := by simp; omega
  have g2 : inb k (ways p).length = true := inb_iff.2 ⟨h0, by omega⟩
  have hg : gt (ways p) k = wayAt p k := by
    have hk : k.toNat < p.length := by omega
    have e : ((k.toNat : Nat) : Int) = k := by omega
    simp only [gt, ways, ho, cond_true, List.getD_eq_getElem?_getD, List.getElem?_map, List.getElem?_range hk, Option.map_some, Option.getD_some, e]
  rw [fn15, ways_prog hF hp hw, Option.bind_some, g1, cond_false, g2, cond_true, hg]

theorem ok_er_pl {q : List Instr} (h : okP q = true) {k : Int} (hk : pl q k = true) : er q k = 0 := by
  rw [← pos_pl, posIn, List.any_eq_true] at hk
  obtain ⟨y, h1, h2⟩ := hk
  have := ok_er h y h1
  simp at h2
  rw [← h2]; exact this

/-- no wide instruction is cut off at the end -/
def closedL : List Instr → Prop
  | [] => True
  | x :: l => if (x.fOp == 24) = true then (match l with | [] => False | _ :: l' => closedL l') else closedL l

theorem closedL_of : ∀ (n : Nat) (l : List Instr) (k : Int), l.length ≤ n → (∀ y ∈ firstsL l k, (y.2.fInstr.fOp == 24) = true → y.1 + 1 < k + l.length) → closedL l
  | _, [], _, _, _ => by simp [closedL]
  | 0, x :: l, k, h, _ => by simp at h
  | n + 1, x :: l, k, h, hy => by
    simp only [List.length_cons] at h
    rw [firstsL_cons] at hy
    rw [closedL.eq_def]
    simp only []
    split
    · rename_i hw
      rw [hw, cond_true] at hy
      cases l with
      | nil => have := hy (k, fn60 x) (by simp) hw; simp at this
      | cons z l' =>
        simp only [List.length_cons] at h
        refine closedL_of n l' (k + 2) (by omega) (fun y h1 h2 => ?_)
        have := hy y (by simp [h1]) h2
        simp at this; omega
    · rename_i hw
      have hw' : (x.fOp == 24) = false := by simpa using hw
      rw [hw', cond_false] at hy
      refine closedL_of n l (k + 1) (by omega) (fun y h1 h2 => ?_)
      have := hy y (by simp [h1]) h2
      simp at this; omega

theorem firsts_app : ∀ (n : Nat) (l m : List Instr) (k : Int), l.length ≤ n → closedL l → firstsL (l ++ m) k = firstsL l k ++ firstsL m (k + l.length) ∧ marks (l ++ m) = marks l ++ marks m
  | _, [], m, k, _, _ => by simp [firstsL, marks]
  | 0, x :: l, m, k, h, _ => by simp at h
  | n + 1, x :: l, m, k, h, hc => by
    simp only [List.length_cons] at h
    rw [closedL.eq_def] at hc
    simp only [] at hc
    rw [List.cons_append, firstsL_cons, firstsL_cons, marks_cons, marks_cons]
    split at hc
    · rename_i hw
      rw [hw]
      simp only [cond_true]
      cases l with
      | nil => exact absurd hc (by simp)
      | cons z l' =>
        simp only [List.length_cons] at h
        simp only [List.cons_append]
        obtain ⟨e1, e2⟩ := firsts_app n l' m (k + 2) (by omega) hc
        rw [e1, e2]
        constructor
        · simp; congr 1; omega
        · simp
    · rename_i hw
      have hw' : (x.fOp == 24) = false := by simpa using hw
      rw [hw']
      simp only [cond_false]
      obtain ⟨e1, e2⟩ := firsts_app n l m (k + 1) (by omega) hc
      rw [e1, e2]
      constructor
      · simp; congr 1; omega
      · simp

theorem firsts_shift (d : Int) : ∀ (n : Nat) (m : List Instr) (k : Int), m.length ≤ n → firstsL m (k + d) = (firstsL m k).map fun y => (y.1 + d, y.2)
  | _, [], k, _ => rfl
  | 0, x :: l, k, h => by simp at h
  | n + 1, x :: l, k, h => by
    simp only [List.length_cons] at h
    rw [firstsL_cons, firstsL_cons]
    cases (x.fOp == 24) with
    | false =>
      simp only [cond_false, List.map_cons]
      rw [← firsts_shift d n l (k + 1) (by omega), show k + d + 1 = k + 1 + d from by omega]
    | true =>
      cases l with
      | nil => rfl
      | cons z l' =>
        simp only [List.length_cons] at h
        simp only [cond_true, List.map_cons]
        rw [← firsts_shift d n l' (k + 2) (by omega), show k + d + 2 = k + 2 + d from by omega]

theorem gt_app_l {α : Type} [Inhabited α] {a b : List α} {k : Int} (h0 : 0 ≤ k) (h1 : k < (a.length : Int)) : gt (a ++ b) k = gt a k := by
  have : k.toNat < a.length := by omega
  simp [gt, List.getD_eq_getElem?_getD, List.getElem?_append_left this]
theorem gt_app_r {α : Type} [Inhabited α] {a b : List α} {k : Int} (h0 : 0 ≤ k) : gt (a ++ b) ((a.length : Int) + k) = gt b k := by
  have h1 : ((a.length : Int) + k).toNat = a.length + k.toNat := by omega
  simp only [gt, h1, List.getD_eq_getElem?_getD]
  rw [List.getElem?_append_right (by omega)]
  congr 2; omega

section
variable {p q : List Instr} (hp : okP p = true) (hq : okP q = true)
include hp
theorem ok_closed : closedL p := by
  refine closedL_of _ p 0 (Nat.le_refl _) (fun y hy hw => ?_)
  have her := ok_er hp y hy
  obtain ⟨h0, h1, h2⟩ := first_slot hy
  rw [h2, fn60_instr] at hw
  unfold er at her
  cases h1 : fn76 (gt p y.1) <;> rw [h1] at her <;> simp only [Bool.not_true, Bool.not_false, cond_true, cond_false] at her
  · cases her
  cases h2 : fn36 (fn60 (gt p y.1)) <;> rw [h2] at her <;> simp only [Bool.not_true, Bool.not_false, cond_true, cond_false] at her
  · cases her
  cases h3 : fn78 (gt p y.1) <;> rw [h3] at her <;> simp only [Bool.not_true, Bool.not_false, cond_true, cond_false] at her
  · cases her
  rw [hw, Bool.true_and] at her
  rcases Int.lt_or_le (y.1 + 1) (p.length : Int) with h | h
  · omega
  · have : sec p y.1 = 23 := by simp [sec, h]
    rw [this] at her; simp at her

theorem marks_app : marks (p ++ q) = marks p ++ marks q := (firsts_app _ p q 0 (Nat.le_refl _) (ok_closed hp)).2
theorem pl_l {t : Int} (h0 : 0 ≤ t) (h1 : t < (p.length : Int)) : pl (p ++ q) t = pl p t := by
  rw [pl_marks h0 h1, pl_marks h0 (by simp; omega), marks_app hp, gt_app_l h0 (by rw [marks_length]; exact h1)]
theorem pl_r {t : Int} (h0 : 0 ≤ t) : pl (p ++ q) ((p.length : Int) + t) = pl q t := by
  rcases Int.lt_or_le t (q.length : Int) with h | h
  · rw [pl_marks h0 h, pl_marks (by omega) (by simp; omega), marks_app hp]
    have := gt_app_r (a := marks p) (b := marks q) (k := t) h0
    rw [marks_length] at this; exact this
  · have a : pl q t = false := by
      have : decide (t < (q.length : Int)) = false := by simp; omega
      simp [pl, this]
    have b : pl (p ++ q) ((p.length : Int) + t) = false := by
      have : decide ((p.length : Int) + t < ((p ++ q).length : Int)) = false := by simp; omega
      simp only [pl, this, Bool.and_false, Bool.false_and]
    rw [a, b]

theorem er_l {k : Int} (h0 : 0 ≤ k) (h1 : k < (p.length : Int)) (he : er p k = 0) : er (p ++ q) k = 0 := by
  have hg : gt (p ++ q) k = gt p k := gt_app_l h0 h1
  have ht := er_target he
  unfold er at he ⊢
  rw [hg]
  cases a1 : fn76 (gt p k) <;> rw [a1] at he <;> simp only [Bool.not_true, Bool.not_false, cond_true, cond_false] at he ⊢
  · cases he
  cases a2 : fn36 (fn60 (gt p k)) <;> rw [a2] at he <;> simp only [Bool.not_true, Bool.not_false, cond_true, cond_false] at he ⊢
  · cases he
  cases a3 : fn78 (gt p k) <;> rw [a3] at he <;> simp only [Bool.not_true, Bool.not_false, cond_true, cond_false] at he ⊢
  · cases he
  have hs : (((gt p k).fOp == 24) && (sec (p ++ q) k != 0)) = false := by
    cases hw : ((gt p k).fOp == 24) with
    | false => rfl
    | true =>
      rw [hw, Bool.true_and] at he
      have hs0 : sec p k = 0 := by
        cases hh : (sec p k != 0) with
        | false => simpa using hh
        | true => rw [hh] at he; simp at he hh; exact absurd he hh
      have hk : k + 1 < (p.length : Int) := by
        rcases Int.lt_or_le (k + 1) (p.length : Int) with h | h
        · exact h
        · have : sec p k = 23 := by simp [sec, h]
          omega
      have : sec (p ++ q) k = sec p k := by
        have d1 : decide (((p ++ q).length : Int) ≤ k + 1) = false := by simp; omega
        have d2 : decide ((p.length : Int) ≤ k + 1) = false := by simp; omega
        simp only [sec, d1, d2, hg, gt_app_l (a := p) (b := q) (show 0 ≤ k + 1 by omega) hk]
      rw [this, hs0]; rfl
  rw [hs]
  simp only [cond_false]
  cases hj : (fn58 (gt p k) k).2 with
  | false => rfl
  | true =>
    have := ht hj
    obtain ⟨t0, t1⟩ := pl_lt this
    rw [pl_l hp t0 t1, this]; rfl
end

theorem jump_shift {x : Instr} (hx : OkI x) {k d : Int} (h0 : 0 ≤ k) (h1 : k ≤ 10000) (d0 : 0 ≤ d) (d1 : d ≤ 10000) : (fn58 x (d + k)).2 = (fn58 x k).2 ∧ ((fn58 x k).2 = true → (fn58 x (d + k)).1 = d + (fn58 x k).1) := by
  have b1 := hx.off; have b2 := hx.imm
  have e1 : IntKind.i64.wrap (k + 1) = k + 1 := w64 (by omega)
  have e2 : IntKind.i64.wrap (d + k + 1) = d + k + 1 := w64 (by omega)
  have e3 : IntKind.i64.wrap x.fImm = x.fImm := w64 (by omega)
  have e4 : IntKind.i64.wrap x.fOff = x.fOff := w64 (by omega)
  have e5 : IntKind.i64.wrap (k + 1 + x.fImm) = k + 1 + x.fImm := w64 (by omega)
  have e6 : IntKind.i64.wrap (k + 1 + x.fOff) = k + 1 + x.fOff := w64 (by omega)
  have e7 : IntKind.i64.wrap (d + k + 1 + x.fImm) = d + k + 1 + x.fImm := w64 (by omega)
  have e8 : IntKind.i64.wrap (d + k + 1 + x.fOff) = d + k + 1 + x.fOff := w64 (by omega)
  simp only [fn58, bindP, e1, e2, e3, e4, e5, e6, e7, e8]
  cases (((fn54 x != 5) && (fn54 x != 6)) || (fn55 x == 128)) || (fn55 x == 144) with
  | true => exact ⟨rfl, fun h => by cases h⟩
  | false =>
    cases ((fn55 x == 0) && (fn54 x == 6)) with
    | true => exact ⟨rfl, fun _ => by simp only [cond_false, cond_true]; omega⟩
    | false => exact ⟨rfl, fun _ => by simp only [cond_false]; omega⟩

section
variable {p q : List Instr} (hp : okP p = true) (hq : okP q = true) (wq : WF q)
include hp hq wq
theorem er_r {k : Int} (h0 : 0 ≤ k) (h1 : k < (q.length : Int)) (he : er q k = 0) : er (p ++ q) ((p.length : Int) + k) = 0 := by
  have hpl := (ok_len hp).2; have hql := (ok_len hq).2
  have hg : gt (p ++ q) ((p.length : Int) + k) = gt q k := gt_app_r h0
  have ht := er_target he
  have ok := wq.gt h0 h1
  obtain ⟨j1, j2⟩ := jump_shift ok (k := k) (d := (p.length : Int)) h0 (by omega) (by omega) (by omega)
  unfold er at he ⊢
  rw [hg]
  cases a1 : fn76 (gt q k) <;> rw [a1] at he <;> simp only [Bool.not_true, Bool.not_false, cond_true, cond_false] at he ⊢
  · cases he
  cases a2 : fn36 (fn60 (gt q k)) <;> rw [a2] at he <;> simp only [Bool.not_true, Bool.not_false, cond_true, cond_false] at he ⊢
  · cases he
  cases a3 : fn78 (gt q k) <;> rw [a3] at he <;> simp only [Bool.not_true, Bool.not_false, cond_true, cond_false] at he ⊢
  · cases he
  have hs : sec (p ++ q) ((p.length : Int) + k) = sec q k := by
    have hg1 : gt (p ++ q) ((p.length : Int) + k + 1) = gt q (k + 1) := by rw [show (p.length : Int) + k + 1 = (p.length : Int) + (k + 1) from by omega]; exact gt_app_r (by omega)
    have d1 : decide (((p ++ q).length : Int) ≤ (p.length : Int) + k + 1) = decide ((q.length : Int) ≤ k + 1) := by simp; omega
    simp only [sec, d1, hg, hg1]
  rw [hs]
  cases hw : (((gt q k).fOp == 24) && (sec q k != 0)) with
  | true => rw [hw] at he; exact he
  | false =>
    simp only [cond_false]
    rw [j1]
    cases hj : (fn58 (gt q k) k).2 with
    | false => rfl
    | true =>
      have := ht hj
      rw [j2 hj, pl_r hp (pl_lt this).1, this]; rfl

omit hp hq wq in
theorem lastAt_app : ∀ (a b : List (Int × Slot)) (d : Int), lastAt (a ++ b) d = lastAt b (lastAt a d)
  | [], b, d => rfl
  | x :: a, b, d => lastAt_app a b x.1
omit hp hq wq in
theorem lastAt_map (d : Int) : ∀ (b : List (Int × Slot)) (c : Int), b ≠ [] → lastAt (b.map fun y => (y.1 + d, y.2)) c = lastAt b 0 + d
  | [], _, h => absurd rfl h
  | [y], c, _ => rfl
  | y :: z :: b, c, _ => lastAt_map d (z :: b) (y.1 + d) (by simp)

theorem ok_app (hlen : p.length + q.length ≤ 4096) : okP (p ++ q) = true := by
  have hf := (firsts_app _ p q 0 (Nat.le_refl _) (ok_closed hp)).1
  have hs := firsts_shift (p.length : Int) _ q 0 (Nat.le_refl _)
  rw [hs] at hf
  obtain ⟨hpne, _⟩ := ok_len hp
  obtain ⟨hqne, _⟩ := ok_len hq
  have h1 : (((((p ++ q).length : Int) == 0)) || (decide ((4096 : Int) < ((p ++ q).length : Int)))) = false := by
    have := List.length_pos_iff.2 hpne
    simp; omega
  have h2 : (firstsL (p ++ q) 0).find? (bad (p ++ q)) = none := by
    rw [List.find?_eq_none]
    intro y hy
    rw [hf, List.mem_append] at hy
    rcases hy with hy | hy
    · obtain ⟨a, b, _⟩ := first_slot hy
      simp [bad, er_l (q := q) hp a b (ok_er hp y hy)]
    · obtain ⟨z, hz, rfl⟩ := List.mem_map.1 hy
      obtain ⟨a, b, _⟩ := first_slot hz
      have := er_r hp hq wq a b (ok_er hq z hz)
      rw [Int.add_comm] at this
      simp [bad, this]
  have hne : firstsL q 0 ≠ [] := by intro e; have := firsts_ne hqne; rw [e] at this; cases this
  have h3 : lastAt (firstsL (p ++ q) 0) 0 = (p.length : Int) + lastAt (firstsL q 0) 0 := by
    rw [hf, lastAt_app, lastAt_map _ _ _ hne, Int.add_comm]
  have h4 : refEnds (gt (p ++ q) ((p.length : Int) + lastAt (firstsL q 0) 0)) = true := by
    rw [gt_app_r (last_in hqne).1]; exact ok_end hq
  unfold okP chk
  rw [h1, h2, h3, h4]; rfl

end
end Go.Proofs.Ytbpldfhehpjbaaa
