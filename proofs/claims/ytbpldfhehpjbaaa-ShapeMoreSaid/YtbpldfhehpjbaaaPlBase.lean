/- Plain: the first slots, gone through. -/
import Derived.Test.YtbpldfhehpjbaaaGenC
namespace Go.Proofs.Ytbpldfhehpjbaaa
open Go Go.HW
set_option maxRecDepth 20000
set_option linter.unusedVariables false
theorem w64 {n : Int} (h : -9223372036854775808 ≤ n ∧ n ≤ 9223372036854775807) : IntKind.i64.wrap n = n := by rw [IntKind.wrap_i64]; omega

def runL {σ α : Type} (step : σ → α → Option σ) (go : σ → Bool) : List α → σ → Option σ
  | [], s => some s
  | x :: xs, s => (step s x).bind fun u => bif go u then runL step go xs u else some u

/-- the first slots from k on, with their numbers -/
def firstsL : List Instr → Int → List (Int × Slot)
  | [], _ => []
  | i :: l, k => (k, fn60 i) :: (bif i.fOp == 24 then (match l with | [] => [] | _ :: l' => firstsL l' (k + 2)) else firstsL l (k + 1))

theorem firstsL_cons (i : Instr) (l : List Instr) (k : Int) : firstsL (i :: l) k = (k, fn60 i) :: (bif i.fOp == 24 then (match l with | [] => [] | _ :: l' => firstsL l' (k + 2)) else firstsL l (k + 1)) := by
  cases l <;> rfl

theorem gt_drop {q : List Instr} {x : Int} (h0 : 0 ≤ x) (h : x < q.length) : q.drop x.toNat = gt q x :: q.drop (x.toNat + 1) := by
  have hlt : x.toNat < q.length := by omega
  rw [List.drop_eq_getElem_cons hlt]
  congr 1
  simp [gt, hlt]

theorem fn60_instr (i : Instr) : (fn60 i).fInstr = i := rfl

theorem fn59_l1_run {σ : Type} (step : σ → (Int × Slot) → Option σ) (go : σ → Bool) (q : List Instr) (hq : q.length ≤ 4611686018427387904) : ∀ (n : Nat) (s : σ) (x : Int), 0 ≤ x → x ≤ q.length + 1 → (q.length : Int) + 1 - x < n →
    ((fn59_l1 step go q n s x).bind fun o => match o with | .inl u => some u | .inr u => some u) = runL step go (firstsL (q.drop x.toNat) x) s
  | 0, s, x, h0, h1, h2 => by omega
  | n + 1, s, x, h0, h1, h2 => by
    rw [fn59_l1_s]
    by_cases hx : x < (q.length : Int)
    · have hi : inb x q.length = true := inb_iff.2 ⟨h0, hx⟩
      simp only [hx, decide_true, cond_true, hi, bindP]
      rw [gt_drop h0 hx]
      rw [firstsL_cons]
      simp only [runL]
      cases hs : step s (x, fn60 (gt q x)) with
      | none => rfl
      | some u =>
        simp only [Option.bind_some]
        cases hg : go u with
        | false => simp
        | true =>
          simp only [Bool.not_true, cond_false, cond_true]
          have e1 : IntKind.i64.wrap (x + 1) = x + 1 := w64 (by omega)
          have e2 : IntKind.i64.wrap (x + 1 + 1) = x + 1 + 1 := w64 (by omega)
          rw [e1, e2, fn60_instr]
          cases hw : ((gt q x).fOp == 24) with
          | true =>
            simp only [cond_true]
            by_cases hl : x + 1 < (q.length : Int)
            · have hd := gt_drop (q := q) (x := x + 1) (by omega) hl
              rw [show (x + 1).toNat = x.toNat + 1 from by omega] at hd
              rw [hd]
              simp only []
              have ih := fn59_l1_run step go q hq n u (x + 1 + 1) (by omega) (by omega) (by omega)
              rw [show (x + 1 + 1).toNat = x.toNat + 1 + 1 from by omega] at ih
              rw [ih, show x + 1 + 1 = x + 2 from by omega]
            · have hd : q.drop (x.toNat + 1) = [] := List.drop_eq_nil_of_le (by omega)
              rw [hd]
              simp only [runL]
              have ih := fn59_l1_run step go q hq n u (x + 1 + 1) (by omega) (by omega) (by omega)
              rw [ih, List.drop_eq_nil_of_le (by omega)]
              simp [firstsL, runL]
          | false =>
            simp only [cond_false]
            have ih := fn59_l1_run step go q hq n u (x + 1) (by omega) (by omega) (by omega)
            rw [ih, show (x + 1).toNat = x.toNat + 1 from by omega]
    · simp only [hx, decide_false, cond_false, Option.bind_some]
      rw [List.drop_eq_nil_of_le (by omega)]
      simp [firstsL, runL]

theorem fn59_run {σ : Type} {F : Nat} (step : σ → (Int × Slot) → Option σ) (go : σ → Bool) (q : List Instr) (s : σ) (hq : q.length ≤ 4611686018427387904) (hF : q.length + 1 < F) :
    fn59 F step go q s = runL step go (firstsL q 0) s := by
  have := fn59_l1_run step go q hq F s 0 (by omega) (by omega) (by omega)
  simp only [Int.toNat_zero, List.drop_zero] at this
  rw [← this]
  rfl

/-- the rounds of a body that always goes on -/
theorem runL_all {σ α : Type} {stepB : σ → α → Option (σ × Nat)} {f : σ → α → σ} : ∀ (l : List α) (s : σ), (∀ s x, x ∈ l → stepB s x = some (f s x, 0)) → runL (stepR stepB) goR l (s, 0) = some (l.foldl f s, 0)
  | [], s, h => rfl
  | x :: l, s, h => by
    have h1 : stepR stepB (s, 0) x = some (f s x, 0) := by simp [stepR, h s x (by simp)]
    simp only [runL, h1, Option.bind_some, goR]
    rw [runL_all l (f s x) (fun s y hy => h s y (by simp [hy]))]
    rfl

/-- the rounds of a body that goes on as long as something holds -/
theorem runL_inv {σ α : Type} {stepB : σ → α → Option (σ × Nat)} {f : σ → α → σ} {P : σ → Prop} : ∀ (l : List α) (s : σ), P s → (∀ s x, x ∈ l → P s → stepB s x = some (f s x, 0) ∧ P (f s x)) → runL (stepR stepB) goR l (s, 0) = some (l.foldl f s, 0) ∧ P (l.foldl f s)
  | [], s, h, _ => ⟨rfl, h⟩
  | x :: l, s, hs, h => by
    obtain ⟨h1, h2⟩ := h s x (by simp) hs
    have h3 : stepR stepB (s, 0) x = some (f s x, 0) := by simp [stepR, h1]
    simp only [runL, h3, Option.bind_some, goR]
    exact runL_inv l (f s x) h2 (fun s y hy => h s y (by simp [hy]))

end Go.Proofs.Ytbpldfhehpjbaaa
