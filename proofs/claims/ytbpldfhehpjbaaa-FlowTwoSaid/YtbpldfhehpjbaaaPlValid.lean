/- Plain: the ways of a program that is taken stay within it; the document's edges. -/
import Derived.Test.YtbpldfhehpjbaaaPlLoops2
namespace Go.Proofs.Ytbpldfhehpjbaaa
open Go Go.HW
set_option maxRecDepth 8000
set_option linter.unusedVariables false

def nxt (p : List Instr) (k : Int) : Int := bif (gt p k).fOp == 24 then k + 2 else k + 1

def restL (i : Instr) (l : List Instr) (k : Int) : List (Int × Slot) := (firstsL (i :: l) k).tail
theorem firstsL_rest (i : Instr) (l : List Instr) (k : Int) : firstsL (i :: l) k = (k, fn60 i) :: restL i l k := by rw [restL, firstsL_cons]; rfl

/-- the next first slot behind one that is not the last -/
theorem next_first {p : List Instr} : ∀ (n k : Nat) (d : Int), p.length - k < n → ∀ y ∈ firstsL (p.drop k) k, y.1 = lastAt (firstsL (p.drop k) k) d ∨ posIn (firstsL (p.drop k) k) (nxt p y.1) = true
  | 0, k, d, h, y, hy => by omega
  | n + 1, k, d, h, y, hy => by
    rcases Nat.lt_or_ge k p.length with hk | hk
    · have hg : p.drop k = gt p (k : Int) :: p.drop (k + 1) := drop_gt hk
      rw [hg, firstsL_rest] at hy ⊢
      -- what lies behind
      have hc : restL (gt p (k : Int)) (p.drop (k + 1)) (k : Int) = [] ∨ ∃ j : Nat, restL (gt p (k : Int)) (p.drop (k + 1)) (k : Int) = firstsL (p.drop j) (j : Int) ∧ k < j ∧ (j : Int) = nxt p (k : Int) ∧ p.drop j ≠ [] := by
        rw [restL, firstsL_cons, List.tail_cons]
        cases hw : ((gt p (k : Int)).fOp == 24) with
        | false =>
          simp only [cond_false]
          by_cases hd : p.drop (k + 1) = []
          · rw [hd]; exact .inl rfl
          · exact .inr ⟨k + 1, by simp, by omega, by simp [nxt, hw], hd⟩
        | true =>
          simp only [cond_true]
          cases hd : p.drop (k + 1) with
          | nil => exact .inl rfl
          | cons z l' =>
            obtain ⟨_, h2, _⟩ := drop_cons' hd
            by_cases hl : l' = []
            · rw [hl]; exact .inl rfl
            · refine .inr ⟨k + 2, ?_, by omega, by simp [nxt, hw], by rw [show k + 2 = k + 1 + 1 from rfl, h2]; exact hl⟩
              rw [show k + 2 = k + 1 + 1 from rfl, h2]
              congr 1
      generalize restL (gt p (k : Int)) (p.drop (k + 1)) (k : Int) = l at hc hy ⊢
      have hla : ∀ d, lastAt (((k : Int), fn60 (gt p (k : Int))) :: l) d = lastAt l (k : Int) := fun _ => rfl
      have hpi : ∀ t, posIn (((k : Int), fn60 (gt p (k : Int))) :: l) t = (((k : Int) == t) || posIn l t) := fun _ => rfl
      rw [hla, hpi]
      rcases hc with rfl | ⟨j, rfl, hkj, hj, hne⟩
      · rcases List.mem_cons.1 hy with rfl | hy
        · exact .inl rfl
        · simp at hy
      · have ih := next_first (p := p) n j (k : Int) (by omega)
        rcases List.mem_cons.1 hy with rfl | hy
        · refine .inr ?_
          show (((k : Int) == nxt p (k : Int)) || posIn (firstsL (p.drop j) (j : Int)) (nxt p (k : Int))) = true
          rw [← hj]
          have : posIn (firstsL (p.drop j) (j : Int)) (j : Int) = true := by
            cases hd : p.drop j with
            | nil => exact absurd hd hne
            | cons z r => rw [firstsL_cons]; simp [posIn]
          rw [this]; simp
        · rcases ih y hy with h | h
          · exact .inl h
          · exact .inr (by rw [h]; simp)
    · rw [List.drop_eq_nil_of_le hk] at hy; simp [firstsL] at hy

theorem ok_end {p : List Instr} (h : okP p = true) : refEnds (gt p (lastAt (firstsL p 0) 0)) = true := by
  have her := ok_er h
  obtain ⟨h1, h2⟩ := ok_len h
  unfold okP chk at h
  cases hl : (((p.length : Int) == 0) || (decide ((4096 : Int) < (p.length : Int)))) with
  | true => simp at hl; rcases hl with e | e; exact absurd e h1; omega
  | false =>
    rw [hl] at h
    simp only [cond_false] at h
    cases hf : (firstsL p 0).find? (bad p) with
    | some y =>
      have hy := List.find?_some hf
      have := her y (List.mem_of_find?_eq_some hf)
      simp [bad, this] at hy
    | none =>
      rw [hf] at h
      cases hr : refEnds (gt p (lastAt (firstsL p 0) 0)) with
      | true => rfl
      | false => rw [hr] at h; simp at h

theorem er_target {p : List Instr} {k : Int} (h : er p k = 0) (ht : (fn58 (gt p k) k).2 = true) : pl p (fn58 (gt p k) k).1 = true := by
  unfold er at h
  cases h1 : fn76 (gt p k) <;> rw [h1] at h <;> simp only [Bool.not_true, Bool.not_false, cond_true, cond_false] at h
  · cases h
  cases h2 : fn36 (fn60 (gt p k)) <;> rw [h2] at h <;> simp only [Bool.not_true, Bool.not_false, cond_true, cond_false] at h
  · cases h
  cases h3 : fn78 (gt p k) <;> rw [h3] at h <;> simp only [Bool.not_true, Bool.not_false, cond_true, cond_false] at h
  · cases h
  cases h4 : (((gt p k).fOp == 24) && (sec p k != 0)) <;> rw [h4] at h <;> simp only [cond_true, cond_false] at h
  · rw [ht] at h
    cases h5 : pl p (fn58 (gt p k) k).1 with
    | true => rfl
    | false => rw [h5] at h; simp at h
  · simp at h4; exact absurd h h4.2

/-- each way leads to a first slot, or nowhere -/
theorem way_pl {p : List Instr} (ho : okP p = true) {k : Int} (hk : pl p k = true) : ((way p k).e0 = -1 ∨ ((way p k).e0 = nxt p k ∧ pl p (nxt p k) = true)) ∧ ((way p k).e1 = -1 ∨ pl p (way p k).e1 = true) := by
  have hpos : ∃ y ∈ firstsL p 0, y.1 = k := by
    rw [← pos_pl, posIn, List.any_eq_true] at hk
    obtain ⟨y, h1, h2⟩ := hk
    exact ⟨y, h1, by simpa using h2⟩
  obtain ⟨y, hy, rfl⟩ := hpos
  have her := ok_er ho y hy
  refine ⟨?_, ?_⟩
  · have hn := next_first (p := p) (p.length + 1) 0 0 (by omega) y (by simpa using hy)
    simp only [List.drop_zero, show ((0 : Nat) : Int) = 0 from rfl] at hn
    rcases hn with h | h
    · left
      have := ok_end ho
      rw [← h] at this
      simp [way, this]
    · rw [pos_pl] at h
      cases hr : refEnds (gt p y.1) with
      | true => left; simp [way, hr]
      | false => right; exact ⟨by simp [way, hr, nxt], h⟩
  · cases ht : (fn58 (gt p y.1) y.1).2 with
    | false => left; simp [way, ht]
    | true => right; simp only [way, ht, cond_true]; exact er_target her ht

theorem pl_lt {p : List Instr} {t : Int} (h : pl p t = true) : 0 ≤ t ∧ t < (p.length : Int) := by
  simp [pl] at h; exact ⟨h.1.1, h.1.2⟩

theorem gt_stp {p : List Instr} (ho : okP p = true) {k : Int} (h0 : 0 ≤ k) (h1 : k < p.length) : gt (stp p) k = outs (wayAt p k) := by
  have hk : k.toNat < p.length := by omega
  have e : ((k.toNat : Nat) : Int) = k := by omega
  simp only [gt, stp, ways, ho, cond_true, List.getD_eq_getElem?_getD, List.getElem?_map, List.getElem?_range hk, Option.map_some, Option.getD_some, e]

theorem pl_marks {p : List Instr} {k : Int} (h0 : 0 ≤ k) (h1 : k < p.length) : pl p k = gt (marks p) k := by
  have a : decide (0 ≤ k) = true := by simp; omega
  have b : decide (k < (p.length : Int)) = true := by simp; omega
  rw [pl, a, b]; rfl

/-- an edge leads from a first slot to one -/
theorem stp_pl {p : List Instr} (ho : okP p = true) {k t : Int} (ht : t ∈ gt (stp p) k) (h0 : 0 ≤ k) (h1 : k < p.length) : pl p k = true ∧ pl p t = true ∧ (t = (way p k).e0 ∨ t = (way p k).e1) ∧ 0 ≤ t := by
  rw [gt_stp ho h0 h1, wayAt, ← pl_marks h0 h1] at ht
  cases hk : pl p k with
  | false => rw [hk] at ht; simp [outs] at ht
  | true =>
    rw [hk, cond_true, outs, List.mem_filter] at ht
    obtain ⟨h2, h3⟩ := ht
    simp at h3
    obtain ⟨w0, w1⟩ := way_pl ho hk
    refine ⟨rfl, ?_, ?_, h3⟩
    · simp at h2
      rcases h2 with rfl | rfl
      · rcases w0 with w | ⟨w, w'⟩
        · omega
        · rw [w]; exact w'
      · rcases w1 with w | w
        · omega
        · exact w
    · simpa using h2

theorem stp_valid (p : List Instr) : Valid (stp p) := by
  intro a ha
  refine ⟨stp_in a ha, fun t ht => ?_⟩
  cases ho : okP p with
  | false =>
    have := stp_length p
    rw [ho] at this
    have h0 : stp p = [] := List.eq_nil_of_length_eq_zero (by simpa using this)
    rw [h0] at ha; simp at ha
  | true =>
    obtain ⟨i, hi, rfl⟩ := List.mem_iff_getElem.1 ha
    have hl := stp_length p
    rw [ho, if_pos rfl] at hl
    have hg : gt (stp p) (i : Int) = (stp p)[i] := by simp [gt, hi]
    rw [← hg] at ht
    obtain ⟨_, h, _⟩ := stp_pl ho ht (by omega) (by omega)
    have := pl_lt h
    rw [hl]; exact this

/-! ### the document's edges -/
theorem ref_edges_loop {p : List Instr} (ho : okP p = true) (hp : p.length ≤ 5000) : ∀ (n k : Nat) (acc : List Edge), k ≤ p.length → acc.length ≤ 2 * k → p.length - k < n →
    fn19_l1 p (marks p) n acc (k : Int) = some (acc ++ (edgesOf ((stp p).drop k) k).map mkE)
  | 0, k, acc, h1, h2, h3 => by omega
  | n + 1, k, acc, h1, h2, h3 => by
    rw [fn19_l1_s]
    have hl := stp_length p
    rw [ho, if_pos rfl] at hl
    rcases Nat.lt_or_ge k p.length with hk | hk
    · have g1 : decide ((k : Int) < (p.length : Int)) = true := by simp; omega
      have g2 : inb (k : Int) (marks p).length = true := by rw [marks_length]; exact inb_iff.2 ⟨by omega, by omega⟩
      have g4 : IntKind.i64.wrap ((k : Int) + 1) = ((k + 1 : Nat) : Int) := w64 (by omega)
      have hd : (stp p).drop k = gt (stp p) (k : Int) :: (stp p).drop (k + 1) := drop_gt (by omega)
      rw [hd, edgesOf, gt_stp ho (by omega) (by omega), wayAt]
      simp only [g1, g2, cond_true, g4]
      cases hm : gt (marks p) (k : Int) with
      | false =>
        simp only [Bool.not_false, cond_true, cond_false]
        rw [ref_edges_loop ho hp n (k + 1) acc (by omega) (by omega) (by omega)]
        have : outs (⟨-1, -1⟩ : S__2_int) = [] := by decide
        rw [this]; simp
      | true =>
        simp only [Bool.not_true, cond_false, cond_true, next1_eq hp (show (0 : Int) ≤ (k : Int) by omega) (show (k : Int) < (p.length : Int) by omega), Option.bind_some]
        have c1 : ∀ (ac : List Edge) (e : Edge), ac.length ≤ 20000 → decide ((ac.length + ([e] : List Edge).length) * 16 ≤ 140737488355328 ∧ ac.length + ([e] : List Edge).length ≤ 9223372036854775807) = true := fun ac e h => by simp; omega
        cases h0 : decide ((0 : Int) ≤ (way p (k : Int)).e0) with
        | true =>
          rw [cond_true, c1 _ _ (by omega), cond_true]
          cases h1 : decide ((0 : Int) ≤ (way p (k : Int)).e1) with
          | true =>
            rw [cond_true, c1 _ _ (by simp; omega), cond_true, ref_edges_loop ho hp n (k + 1) _ (by omega) (by simp; omega) (by omega)]
            simp at h0 h1
            simp [outs, h0, h1, mkE]
          | false =>
            rw [cond_false, ref_edges_loop ho hp n (k + 1) _ (by omega) (by simp; omega) (by omega)]
            simp at h0 h1
            have : ¬ 0 ≤ (way p (k : Int)).e1 := by omega
            simp [outs, h0, this, mkE]
        | false =>
          rw [cond_false]
          simp at h0
          have n0 : ¬ 0 ≤ (way p (k : Int)).e0 := by omega
          cases h1 : decide ((0 : Int) ≤ (way p (k : Int)).e1) with
          | true =>
            rw [cond_true, c1 _ _ (by omega), cond_true, ref_edges_loop ho hp n (k + 1) _ (by omega) (by simp; omega) (by omega)]
            simp at h1
            simp [outs, n0, h1, mkE]
          | false =>
            rw [cond_false, ref_edges_loop ho hp n (k + 1) _ (by omega) (by omega) (by omega)]
            simp at h1
            have : ¬ 0 ≤ (way p (k : Int)).e1 := by omega
            simp [outs, n0, this]
    · have g1 : decide ((k : Int) < (p.length : Int)) = false := by simp; omega
      rw [g1, List.drop_eq_nil_of_le (by omega)]; simp [edgesOf]

theorem not_ok {p : List Instr} (h : okP p = false) : ((chk p).2 != 0) = true := by unfold okP at h; simpa [bne] using h
theorem is_ok {p : List Instr} (h : okP p = true) : ((chk p).2 != 0) = false := by unfold okP at h; simpa [bne] using h
theorem stp_nil {p : List Instr} (h : okP p = false) : stp p = [] := by
  have := stp_length p
  rw [h] at this
  exact List.eq_nil_of_length_eq_zero (by simpa using this)

theorem edges_ref {F : Nat} {p : List Instr} (hF : 6000 ≤ F) (hp : p.length ≤ 5000) : fn19 F p = some ((eds p).map mkE) := by
  rw [fn19, check_ref hF hp, Option.bind_some]
  cases ho : okP p with
  | false => rw [not_ok ho, eds, stp_nil ho]; rfl
  | true =>
    rw [is_ok ho, cond_false, firsts_ref p hp hF, Option.bind_some]
    have := ref_edges_loop ho hp F 0 [] (by omega) (by simp) (by omega)
    rw [show ((0 : Nat) : Int) = 0 from rfl, List.drop_zero] at this
    rw [this]; rfl
end Go.Proofs.Ytbpldfhehpjbaaa
