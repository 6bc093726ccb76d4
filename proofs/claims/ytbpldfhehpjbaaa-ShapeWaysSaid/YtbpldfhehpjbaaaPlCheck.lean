/- Plain: a program's Check, and where it goes on, by the program's own text and by the document's. -/
import Derived.Test.YtbpldfhehpjbaaaPlShape
namespace Go.Proofs.Ytbpldfhehpjbaaa
open Go Go.HW
set_option maxRecDepth 8000
set_option linter.unusedVariables false

/-- which slots are first ones -/
def marks : List Instr → List Bool
  | [] => []
  | x :: l => true :: (bif x.fOp == 24 then (match l with | [] => [] | _ :: l' => false :: marks l') else marks l)

theorem marks_cons (x : Instr) (l : List Instr) : marks (x :: l) = true :: (bif x.fOp == 24 then (match l with | [] => [] | _ :: l' => false :: marks l') else marks l) := by cases l <;> rfl

theorem marks_len : ∀ (n : Nat) (l : List Instr), l.length ≤ n → (marks l).length = l.length
  | _, [], _ => rfl
  | 0, x :: l, h => by simp at h
  | n + 1, x :: l, h => by
    rw [marks_cons]
    simp only [List.length_cons] at h ⊢
    cases (x.fOp == 24) with
    | false => simp only [cond_false]; rw [marks_len n l (by omega)]
    | true =>
      simp only [cond_true]
      cases l with
      | nil => rfl
      | cons y l' => simp only [List.length_cons] at h ⊢; rw [marks_len n l' (by omega)]
theorem marks_length (l : List Instr) : (marks l).length = l.length := marks_len _ l (Nat.le_refl _)

theorem drop_cons' {α : Type} {q : List α} {k : Nat} {y : α} {r : List α} (h : q.drop k = y :: r) : k < q.length ∧ q.drop (k + 1) = r ∧ q[k]? = some y := by
  have h1 : k < q.length := by
    rcases Nat.lt_or_ge k q.length with h' | h'
    · exact h'
    · rw [List.drop_eq_nil_of_le h'] at h; cases h
  rw [List.drop_eq_getElem_cons h1] at h
  injection h with h2 h3
  exact ⟨h1, h3, by rw [List.getElem?_eq_getElem h1, h2]⟩

theorem firsts_loop (p : List Instr) (hp : p.length ≤ 1000000) : ∀ (n : Nat) (m : List Bool) (k : Nat), k ≤ p.length + 1 → m.length = p.length → m.drop k = List.replicate (p.length - k) false → p.length + 1 - k < n →
    fn43_l1 p n m (k : Int) = some (m.take k ++ marks (p.drop k))
  | 0, m, k, _, _, _, h => by omega
  | n + 1, m, k, hk, hm, hd, hn => by
    rw [fn43_l1_s]
    by_cases hx : k < p.length
    · have h1 : decide ((k : Int) < (p.length : Int)) = true := by simp; omega
      have h2 : inb (k : Int) m.length = true := inb_iff.2 ⟨by omega, by omega⟩
      have h3 : inb (k : Int) p.length = true := inb_iff.2 ⟨by omega, by omega⟩
      simp only [h1, h2, h3, cond_true, bindP, fn71]
      have hg : p.drop k = gt p (k : Int) :: p.drop (k + 1) := gt_drop (q := p) (x := (k : Int)) (by omega) (by omega)
      rw [hg, marks_cons]
      have e1 : IntKind.i64.wrap ((k : Int) + 1) = ((k + 1 : Nat) : Int) := w64 (by omega)
      have e2 : IntKind.i64.wrap (((k + 1 : Nat) : Int) + 1) = ((k + 2 : Nat) : Int) := w64 (by omega)
      rw [e1, e2]
      have hs : ∀ j, k + 1 ≤ j → (m.set k true).drop j = List.replicate (p.length - j) false := by
        intro j hj
        rw [List.drop_set_of_lt (by omega)]
        have : m.drop j = (m.drop k).drop (j - k) := by rw [List.drop_drop]; congr 1; omega
        rw [this, hd, List.drop_replicate]; congr 1; omega
      have ht : (m.set k true).take (k + 1) = m.take k ++ [true] := by
        rw [List.take_add_one, List.getElem?_set_self (by omega), List.take_set_of_le (by omega)]; rfl
      cases hw : ((gt p (k : Int)).fOp == 24) with
      | false =>
        simp only [cond_false]
        rw [show ((k : Int)).toNat = k from rfl, firsts_loop p hp n (m.set k true) (k + 1) (by omega) (by simp [hm]) (hs _ (by omega)) (by omega), ht]
        simp
      | true =>
        simp only [cond_true]
        rw [show ((k : Int)).toNat = k from rfl, firsts_loop p hp n (m.set k true) (k + 2) (by omega) (by simp [hm]) (hs _ (by omega)) (by omega)]
        by_cases hl : k + 1 < p.length
        · have hg2 : p.drop (k + 1) = gt p ((k + 1 : Nat) : Int) :: p.drop (k + 1 + 1) := gt_drop (q := p) (x := ((k + 1 : Nat) : Int)) (by omega) (by omega)
          rw [hg2]
          have h0 := hs (k + 1) (by omega)
          rw [show p.length - (k + 1) = (p.length - (k + 2)) + 1 from by omega, List.replicate_succ] at h0
          obtain ⟨_, _, h0⟩ := drop_cons' h0
          rw [show k + 2 = (k + 1) + 1 from rfl, List.take_add_one, h0, ht]
          simp
        · rw [List.drop_eq_nil_of_le (by omega), List.drop_eq_nil_of_le (by omega)]
          have : (m.set k true).take (k + 2) = (m.set k true).take (k + 1) := by rw [List.take_of_length_le (by simp; omega), List.take_of_length_le (by simp; omega)]
          rw [this, ht]; simp [marks]
    · have h1 : decide ((k : Int) < (p.length : Int)) = false := by simp; omega
      simp only [h1, cond_false]
      rw [List.drop_eq_nil_of_le (by omega), List.take_of_length_le (by omega)]; simp [marks]

theorem firsts_ref {F : Nat} (p : List Instr) (hp : p.length ≤ 5000) (hF : 6000 ≤ F) : fn43 F p = some (marks p) := by
  have h1 : (decide (0 ≤ (p.length : Int)) && decide ((p.length : Int) ≤ (p.length : Int)) && decide ((1 : Int) * (p.length : Int) ≤ 281474976710656) && decide ((p.length : Int) ≤ 9223372036854775807)) = true := by simp; omega
  rw [fn43, h1, cond_true]
  have := firsts_loop p (by omega) F (List.replicate p.length false) 0 (by omega) (by simp) (by simp) (by omega)
  rw [show ((0 : Nat) : Int) = 0 from rfl] at this
  rw [show ((p.length : Int)).toNat = p.length from by omega, this]; rfl

/-- is it a first slot's number? -/
def pl (p : List Instr) (t : Int) : Bool := decide (0 ≤ t) && decide (t < (p.length : Int)) && gt (marks p) t

def posIn (l : List (Int × Slot)) (t : Int) : Bool := l.any fun y => y.1 == t

theorem pos_marks : ∀ (n : Nat) (l : List Instr) (k t : Int), l.length ≤ n → posIn (firstsL l k) t = (decide (k ≤ t) && decide (t < k + l.length) && (marks l).getD (t - k).toNat false)
  | _, [], k, t, _ => by
    have : (decide (k ≤ t) && decide (t < k + (([] : List Instr).length : Int))) = false := by simp
    rw [this]; rfl
  | 0, x :: l, k, t, h => by simp at h
  | n + 1, x :: l, k, t, h => by
    rw [firstsL_cons, marks_cons]
    simp only [List.length_cons] at h
    have hsplit : ∀ r : List (Int × Slot), posIn ((k, fn60 x) :: r) t = ((k == t) || posIn r t) := fun r => rfl
    rw [hsplit]
    by_cases hkt : k = t
    · subst hkt; simp; omega
    · have e0 : (k == t) = false := by simp [hkt]
      rw [e0, Bool.false_or]
      by_cases hk : k < t
      · have hs : (t - k).toNat = (t - (k + 1)).toNat + 1 := by omega
        cases (x.fOp == 24) with
        | false =>
          simp only [cond_false]
          rw [pos_marks n l (k + 1) t (by omega), hs, List.getD_cons_succ]
          have a1 : decide (k + 1 ≤ t) = decide (k ≤ t) := by simp; omega
          have a2 : decide (t < k + 1 + (l.length : Int)) = decide (t < k + ((x :: l).length : Int)) := by simp; omega
          rw [a1, a2]
        | true =>
          simp only [cond_true]
          cases l with
          | nil =>
            simp only [posIn, List.any_nil]
            have : decide (t < k + (([x] : List Instr).length : Int)) = false := by simp; omega
            rw [this]; simp
          | cons y l' =>
            simp only [List.length_cons] at h
            simp only []
            rw [pos_marks n l' (k + 2) t (by omega), hs, List.getD_cons_succ]
            by_cases hk2 : t = k + 1
            · subst hk2
              have b1 : decide (k + 2 ≤ k + 1) = false := by simp
              rw [b1, show (k + 1 - (k + 1)).toNat = 0 from by omega]; simp
            · have hs2 : (t - (k + 1)).toNat = (t - (k + 2)).toNat + 1 := by omega
              rw [hs2, List.getD_cons_succ]
              have a1 : decide (k + 2 ≤ t) = decide (k ≤ t) := by simp; omega
              have a2 : decide (t < k + 2 + (l'.length : Int)) = decide (t < k + ((x :: y :: l').length : Int)) := by simp; omega
              rw [a1, a2]
      · have b1 : decide (k ≤ t) = false := by simp; omega
        rw [b1]
        have : ∀ (l' : List Instr) (k' : Int), l'.length ≤ n → k < k' → posIn (firstsL l' k') t = false := fun l' k' h1 h2 => by
          rw [pos_marks n l' k' t h1]
          have : decide (k' ≤ t) = false := by simp; omega
          rw [this]; rfl
        cases (x.fOp == 24) with
        | false => simp only [cond_false]; rw [this l (k + 1) (by omega) (by omega)]; rfl
        | true =>
          simp only [cond_true]
          cases l with
          | nil => rfl
          | cons y l' => simp only [List.length_cons] at h; simp only []; rw [this l' (k + 2) (by omega) (by omega)]; rfl

theorem pos_pl (p : List Instr) (t : Int) : posIn (firstsL p 0) t = pl p t := by
  rw [pos_marks _ p 0 t (Nat.le_refl _), pl, gt, show t - 0 = t from by omega, show (0 : Int) + (p.length : Int) = p.length from by omega]
  rfl

theorem mem_firsts : ∀ (n : Nat) (l : List Instr) (k : Int), l.length ≤ n → 0 ≤ k → ∀ y ∈ firstsL l k, k ≤ y.1 ∧ y.1 < k + l.length ∧ ∃ j : Nat, y.1 = k + j ∧ ∃ x, l[j]? = some x ∧ y.2 = fn60 x
  | _, [], k, _, _, y, hy => by simp [firstsL] at hy
  | 0, x :: l, k, h, _, y, hy => by simp at h
  | n + 1, x :: l, k, h, h0, y, hy => by
    rw [firstsL_cons] at hy
    simp only [List.length_cons] at h
    rcases List.mem_cons.1 hy with rfl | hy
    · exact ⟨Int.le_refl _, by simp; omega, 0, by simp, x, rfl, rfl⟩
    · cases hw : (x.fOp == 24) with
      | false =>
        rw [hw] at hy; simp only [cond_false] at hy
        obtain ⟨h1, h2, j, h3, z, h4, h5⟩ := mem_firsts n l (k + 1) (by omega) (by omega) y hy
        exact ⟨by omega, by simp; omega, j + 1, by omega, z, by simpa using h4, h5⟩
      | true =>
        rw [hw] at hy; simp only [cond_true] at hy
        cases l with
        | nil => simp at hy
        | cons x2 l' =>
          simp only [List.length_cons] at h
          obtain ⟨h1, h2, j, h3, z, h4, h5⟩ := mem_firsts n l' (k + 2) (by omega) (by omega) y hy
          exact ⟨by omega, by simp; omega, j + 2, by omega, z, by simpa using h4, h5⟩

theorem first_slot {p : List Instr} {y : Int × Slot} (hy : y ∈ firstsL p 0) : 0 ≤ y.1 ∧ y.1 < p.length ∧ y.2 = fn60 (gt p y.1) := by
  obtain ⟨h1, h2, j, h3, x, h4, h5⟩ := mem_firsts _ p 0 (Nat.le_refl _) (Int.le_refl _) y hy
  refine ⟨h1, by omega, ?_⟩
  rw [h5, h3]
  simp [gt, h4]
end Go.Proofs.Ytbpldfhehpjbaaa
