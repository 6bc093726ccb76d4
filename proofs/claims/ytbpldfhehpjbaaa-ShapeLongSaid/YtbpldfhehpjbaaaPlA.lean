/- Plain law: the plain function of ShapeLong tells true at every number. -/
import Derived.Test.YtbpldfhehpjbaaaGenB
import Derived.Laws.BitsLemmas
namespace Go.Proofs.Ytbpldfhehpjbaaa
open Go Go.HW
set_option maxRecDepth 20000
set_option linter.unusedVariables false

theorem w64 {n : Int} (h : -9223372036854775808 ≤ n ∧ n ≤ 9223372036854775807) : IntKind.i64.wrap n = n := by rw [IntKind.wrap_i64]; omega

def runL {σ α : Type} (step : σ → α → Option σ) (go : σ → Bool) : List α → σ → Option σ
  | [], s => some s
  | x :: xs, s => (step s x).bind fun u => bif go u then runL step go xs u else some u

/-- the first slots from k on, with their numbers -/
def firstsL : List Instr → Int → List (Int × Slot)
  | [], _ => []
  | i :: l, k => (k, fn60 i) :: (bif i.fOp == 24 then (match l with | [] => [] | _ :: l' => firstsL l' (k + 2)) else firstsL l (k + 1))

theorem firstsL_cons (i : Instr) (l : List Instr) (k : Int) : firstsL (i :: l) k = (k, fn60 i) :: (bif i.fOp == 24 then (match l with | [] => [] | _ :: l' => firstsL l' (k + 2)) else firstsL l (k + 1)) := by
  cases l <;> rfl

theorem gt_drop {q : List Instr} {x : Int} (h0 : 0 ≤ x) (h : x < q.length) : q.drop x.toNat = gt q x :: q.drop (x.toNat + 1) := by
  have hlt : x.toNat < q.length := by omega
  rw [List.drop_eq_getElem_cons hlt]
  congr 1
  simp [gt, hlt]

theorem fn60_instr (i : Instr) : (fn60 i).fInstr = i := rfl

theorem fn59_l1_run {σ : Type} (step : σ → (Int × Slot) → Option σ) (go : σ → Bool) (q : List Instr) (hq : q.length ≤ 4611686018427387904) : ∀ (n : Nat) (s : σ) (x : Int), 0 ≤ x → x ≤ q.length + 1 → (q.length : Int) + 1 - x < n →
    ((fn59_l1 step go q n s x).bind fun o => match o with | .inl u => some u | .inr u => some u) = runL step go (firstsL (q.drop x.toNat) x) s
  | 0, s, x, h0, h1, h2 => by omega
  | n + 1, s, x, h0, h1, h2 => by
    rw [fn59_l1_s]
    by_cases hx : x < (q.length : Int)
    · have hi : inb x q.length = true := inb_iff.2 ⟨h0, hx⟩
      simp only [hx, decide_true, cond_true, hi, bindP]
      rw [gt_drop h0 hx]
      rw [firstsL_cons]
      simp only [runL]
      cases hs : step s (x, fn60 (gt q x)) with
      | none => rfl
      | some u =>
        simp only [Option.bind_some]
        cases hg : go u with
        | false => simp
        | true =>
          simp only [Bool.not_true, cond_false, cond_true]
          have e1 : IntKind.i64.wrap (x + 1) = x + 1 := w64 (by omega)
          have e2 : IntKind.i64.wrap (x + 1 + 1) = x + 1 + 1 := w64 (by omega)
          rw [e1, e2, fn60_instr]
          cases hw : ((gt q x).fOp == 24) with
          | true =>
            simp only [cond_true]
            by_cases hl : x + 1 < (q.length : Int)
            · have hd := gt_drop (q := q) (x := x + 1) (by omega) hl
              rw [show (x + 1).toNat = x.toNat + 1 from by omega] at hd
              rw [hd]
              simp only []
              have ih := fn59_l1_run step go q hq n u (x + 1 + 1) (by omega) (by omega) (by omega)
              rw [show (x + 1 + 1).toNat = x.toNat + 1 + 1 from by omega] at ih
              rw [ih, show x + 1 + 1 = x + 2 from by omega]
            · have hd : q.drop (x.toNat + 1) = [] := List.drop_eq_nil_of_le (by omega)
              rw [hd]
              simp only [runL]
              have ih := fn59_l1_run step go q hq n u (x + 1 + 1) (by omega) (by omega) (by omega)
              rw [ih, List.drop_eq_nil_of_le (by omega)]
              simp [firstsL, runL]
          | false =>
            simp only [cond_false]
            have ih := fn59_l1_run step go q hq n u (x + 1) (by omega) (by omega) (by omega)
            rw [ih, show (x + 1).toNat = x.toNat + 1 from by omega]
    · simp only [hx, decide_false, cond_false, Option.bind_some]
      rw [List.drop_eq_nil_of_le (by omega)]
      simp [firstsL, runL]

theorem fn59_run {σ : Type} {F : Nat} (step : σ → (Int × Slot) → Option σ) (go : σ → Bool) (q : List Instr) (s : σ) (hq : q.length ≤ 4611686018427387904) (hF : q.length + 1 < F) :
    fn59 F step go q s = runL step go (firstsL q 0) s := by
  have := fn59_l1_run step go q hq F s 0 (by omega) (by omega) (by omega)
  simp only [Int.toNat_zero, List.drop_zero] at this
  rw [← this]
  rfl

/-- the rounds of a body that always goes on -/
theorem runL_all {σ α : Type} {stepB : σ → α → Option (σ × Nat)} {f : σ → α → σ} : ∀ (l : List α) (s : σ), (∀ s x, x ∈ l → stepB s x = some (f s x, 0)) → runL (stepR stepB) goR l (s, 0) = some (l.foldl f s, 0)
  | [], s, h => rfl
  | x :: l, s, h => by
    have h1 : stepR stepB (s, 0) x = some (f s x, 0) := by simp [stepR, h s x (by simp)]
    simp only [runL, h1, Option.bind_some, goR]
    rw [runL_all l (f s x) (fun s y hy => h s y (by simp [hy]))]
    rfl

/-! ### ShapeLong -/
def mov : Instr := ⟨183, 0, 0, 0, 0⟩
def exi : Instr := ⟨149, 0, 0, 0, 0⟩
def longP (k : Nat) : List Instr := List.replicate k mov ++ [exi]

theorem firstsL_mov : ∀ (k : Nat) (x : Int), ∀ y ∈ firstsL (longP k) x, y.2 = fn60 mov ∨ y.2 = fn60 exi
  | 0, x, y, h => by
    simp [longP, firstsL, exi] at h
    right; rw [h]; rfl
  | k + 1, x, y, h => by
    have e : longP (k + 1) = mov :: longP k := rfl
    rw [e] at h
    have : (mov.fOp == 24) = false := rfl
    rw [firstsL_cons, this] at h
    simp only [cond_false, List.mem_cons] at h
    rcases h with rfl | h
    · exact .inl rfl
    · exact firstsL_mov k (x + 1) y h

theorem fn37_mov : fn37 10000 (fn60 mov) = some true := by rfl
theorem fn37_exi : fn37 10000 (fn60 exi) = some true := by rfl

theorem r2_mov (p : List Instr) (m : List (Int × Bool)) (a b : Int) (c : Bool) (k : Int) : fn14_r2 10000 p m a b c k (fn60 mov) = some ((a, b, false), 0) := by
  simp only [fn14_r2, fn37_mov, bindP]
  rfl
theorem r2_exi (p : List Instr) (m : List (Int × Bool)) (a b : Int) (c : Bool) (k : Int) : fn14_r2 10000 p m a b c k (fn60 exi) = some ((a, b, true), 0) := by
  simp only [fn14_r2, fn37_exi, bindP]
  rfl

theorem longP_length (k : Nat) : (longP k).length = k + 1 := by simp [longP]

theorem fold_ends : ∀ (k : Nat) (x a b : Int) (c : Bool), (firstsL (longP k) x).foldl (fun (s : Int × Int × Bool) (y : Int × Slot) => (s.1, s.2.1, y.2.fInstr.fOp == 149)) (a, b, c) = (a, b, true)
  | 0, x, a, b, c => rfl
  | k + 1, x, a, b, c => by
    have e : longP (k + 1) = mov :: longP k := rfl
    rw [e, firstsL_cons]
    have : (mov.fOp == 24) = false := rfl
    rw [this]
    simp only [cond_false, List.foldl_cons]
    exact fold_ends k (x + 1) a b _

theorem check_long (k : Nat) (hk : k + 1 ≤ 4096) : fn14 10000 (longP k) = some (0, 0) := by
  have hl := longP_length k
  have h1 : ((((longP k).length : Int) == 0) || (decide ((4096 : Int) < ((longP k).length : Int)))) = false := by
    rw [hl]; simp; omega
  rw [fn14, h1]
  simp only [cond_false]
  rw [fn59_run _ _ _ _ (by rw [hl]; omega) (by rw [hl]; omega), runL_all (stepB := fun (s : List (Int × Bool)) (y : Int × Slot) => fn14_r1 s y.1 y.2) (f := fun s y => mput s y.1 true) _ _ (fun s y _ => rfl)]
  rw [Option.bind_some, show Nat.beq 0 0 = true from rfl, cond_true]
  rw [fn14_k1_0, fn59_run _ _ _ _ (by rw [hl]; omega) (by rw [hl]; omega), runL_all (f := fun (s : Int × Int × Bool) (y : Int × Slot) => (s.1, s.2.1, y.2.fInstr.fOp == 149)) _ _ ?_]
  · rw [fold_ends]; rfl
  · intro s y hy
    rcases firstsL_mov k 0 y hy with h | h
    · rw [h, r2_mov]; rfl
    · rw [h, r2_exi]; rfl

theorem check_too (F : Nat) : fn14 F (longP 4096) = some (0, 3) := by
  have h1 : ((((longP 4096).length : Int) == 0) || (decide ((4096 : Int) < ((longP 4096).length : Int)))) = true := by
    rw [longP_length]; rfl
  rw [fn14, h1]; rfl

/-- the rounds of a body that goes on as long as something holds -/
theorem runL_inv {σ α : Type} {stepB : σ → α → Option (σ × Nat)} {f : σ → α → σ} {P : σ → Prop} : ∀ (l : List α) (s : σ), P s → (∀ s x, x ∈ l → P s → stepB s x = some (f s x, 0) ∧ P (f s x)) → runL (stepR stepB) goR l (s, 0) = some (l.foldl f s, 0) ∧ P (l.foldl f s)
  | [], s, h, _ => ⟨rfl, h⟩
  | x :: l, s, hs, h => by
    obtain ⟨h1, h2⟩ := h s x (by simp) hs
    have h3 : stepR stepB (s, 0) x = some (f s x, 0) := by simp [stepR, h1]
    simp only [runL, h3, Option.bind_some, goR]
    exact runL_inv l (f s x) h2 (fun s y hy => h s y (by simp [hy]))

theorem rep_len : ∀ (n : Nat) (ys : List S__2_int) (m : Int), 1 ≤ m → m ≤ ys.length → ys.length ≤ 4611686018427387904 → (ys.length : Int) + 1 - m < n + 1 → ∃ zs, fn56_l1 n ys m = some zs ∧ zs.length = ys.length
  | 0, ys, m, h0, h1, hb, h2 => by omega
  | n + 1, ys, m, h0, h1, hb, h2 => by
    rw [fn56_l1_s]
    by_cases hm : m < (ys.length : Int)
    · have k1 : sliceOk m ((ys.length : Nat) : Int) ys.length = true := sliceOk_iff.2 ⟨by omega, by omega, by omega⟩
      have k2 : sliceOk ((0 : Nat) : Int) m ys.length = true := sliceOk_iff.2 ⟨by omega, by omega, by omega⟩
      simp only [hm, decide_true, cond_true, k1, k2]
      have hc : (cutX ys ((0 : Nat) : Int).toNat m.toNat).length = m.toNat := by rw [cutX_length (by omega)]; simp
      have hp := pasteX_len (xs := ys) (ys := cutX ys ((0 : Nat) : Int).toNat m.toNat) (lo := m.toNat) (hi := ((ys.length : Nat) : Int).toNat) (by omega)
      rw [hc]
      have hw : IntKind.i64.wrap (m + ((min m.toNat (((ys.length : Nat) : Int).toNat - m.toNat) : Nat) : Int)) = m + ((min m.toNat (((ys.length : Nat) : Int).toNat - m.toNat) : Nat) : Int) := w64 (by omega)
      rw [hw]
      obtain ⟨zs, e1, e2⟩ := rep_len n _ (m + ((min m.toNat (((ys.length : Nat) : Int).toNat - m.toNat) : Nat) : Int)) (by omega) (by rw [hp]; omega) (by rw [hp]; exact hb) (by rw [hp]; omega)
      exact ⟨zs, e1, by rw [e2, hp]⟩
    · simp only [hm, decide_false, cond_false]
      exact ⟨ys, rfl, rfl⟩

theorem mul1 (N : Nat) (h : N = 4095 ∨ N = 4096) : fn79 (IntKind.u64.wrap (([(⟨(-1), (-1)⟩ : S__2_int)] : List S__2_int).length : Int)) (IntKind.u64.wrap (N : Int)) = (0, (N : Int)) := by
  rcases h with rfl | rfl <;> decide

theorem repeat_len (N : Nat) (h : N = 4095 ∨ N = 4096) : ∃ zs, fn56 10000 ([(⟨(-1), (-1)⟩ : S__2_int)] : List S__2_int) (N : Int) = some zs ∧ zs.length = N := by
  rw [fn56, mul1 N h]
  have h0 : decide ((N : Int) < 0) = false := by simp
  have h1 : (decide ((0 : Int) < (0, (N : Int)).1) || decide ((9223372036854775807 : Int) < (0, (N : Int)).2)) = false := by simp; omega
  have hw : IntKind.i64.wrap (0, (N : Int)).2 = (N : Int) := w64 (by simp; omega)
  simp only [h0, cond_false, bindP, h1, hw]
  have h2 : (decide (0 ≤ (N : Int)) && decide ((N : Int) ≤ (N : Int)) && decide ((16 : Int) * (N : Int) ≤ 281474976710656) && decide ((N : Int) ≤ 9223372036854775807)) = true := by simp; omega
  rw [h2]
  simp only [cond_true, Int.toNat_natCast, List.length_replicate]
  have hp := pasteX_len (xs := List.replicate N (⟨0, 0⟩ : S__2_int)) (ys := [(⟨(-1), (-1)⟩ : S__2_int)]) (lo := 0) (hi := N) (by simp)
  rw [List.length_replicate] at hp
  have hm : ((min ([(⟨(-1), (-1)⟩ : S__2_int)] : List S__2_int).length (N - 0) : Nat) : Int) = 1 := by simp; omega
  rw [hm]
  obtain ⟨zs, e1, e2⟩ := rep_len 10000 _ 1 (by omega) (by rw [hp]; omega) (by rw [hp]; omega) (by rw [hp]; omega)
  exact ⟨zs, by rw [e1]; rfl, by rw [e2, hp]⟩

theorem set_ge : ∀ (j : Nat) (x : Int) (ws : List S__2_int), 6 ≤ x → gt ((firstsL (longP j) x).foldl (fun (s : List S__2_int) (y : Int × Slot) => s.set y.1.toNat (fn57 y.2 y.1)) ws) 5 = gt ws 5
  | 0, x, ws, h => by
    simp only [longP, List.replicate_zero, List.nil_append, firstsL_cons]
    have : (exi.fOp == 24) = false := rfl
    rw [this]
    simp only [cond_false, firstsL, List.foldl_cons, List.foldl_nil]
    simp only [gt, List.getD, show (5 : Int).toNat = 5 from rfl]
    rw [List.getElem?_set_ne (by omega)]
  | j + 1, x, ws, h => by
    have e : longP (j + 1) = mov :: longP j := rfl
    rw [e, firstsL_cons]
    have : (mov.fOp == 24) = false := rfl
    rw [this]
    simp only [cond_false, List.foldl_cons]
    rw [set_ge j (x + 1) _ (by omega)]
    simp only [gt, List.getD, show (5 : Int).toNat = 5 from rfl]
    rw [List.getElem?_set_ne (by omega)]

theorem firstsL_six (j : Nat) : firstsL (longP (j + 6)) 0 = (0, fn60 mov) :: (1, fn60 mov) :: (2, fn60 mov) :: (3, fn60 mov) :: (4, fn60 mov) :: (5, fn60 mov) :: firstsL (longP j) 6 := by
  have e : longP (j + 6) = mov :: mov :: mov :: mov :: mov :: mov :: longP j := rfl
  have : (mov.fOp == 24) = false := rfl
  rw [e]
  simp only [firstsL_cons, this, cond_false]
  rfl

theorem firstsL_lt : ∀ (j : Nat) (x : Int), 0 ≤ x → ∀ y ∈ firstsL (longP j) x, x ≤ y.1 ∧ y.1 ≤ x + j
  | 0, x, h, y, hy => by
    simp only [longP, List.replicate_zero, List.nil_append, firstsL_cons] at hy
    have : (exi.fOp == 24) = false := rfl
    rw [this] at hy
    simp [firstsL] at hy
    subst hy; simp
  | j + 1, x, h, y, hy => by
    have e : longP (j + 1) = mov :: longP j := rfl
    rw [e, firstsL_cons] at hy
    have : (mov.fOp == 24) = false := rfl
    rw [this] at hy
    simp only [cond_false, List.mem_cons] at hy
    rcases hy with rfl | hy
    · simp; omega
    · have := firstsL_lt j (x + 1) (by omega) y hy
      omega

theorem ways_long (j : Nat) (hj : j + 7 = 4095 ∨ j + 7 = 4096) : ∃ ws, fn31 10000 (longP (j + 6)) = some ws ∧ ws.length = j + 7 ∧ gt ws 5 = ⟨6, -1⟩ := by
  have hl : (longP (j + 6)).length = j + 7 := longP_length _
  obtain ⟨zs, e1, e2⟩ := repeat_len (j + 7) hj
  rw [fn31, check_long (j + 6) (by omega)]
  rw [Option.bind_some, show (((0, 0) : Int × Int).2 != 0) = false from rfl, cond_false, hl, e1, Option.bind_some]
  rw [fn59_run _ _ _ _ (by rw [hl]; omega) (by rw [hl]; omega)]
  obtain ⟨r1, r2⟩ := runL_inv (stepB := fun (s : List S__2_int) (y : Int × Slot) => fn31_r1 s y.1 y.2) (f := fun (s : List S__2_int) (y : Int × Slot) => s.set y.1.toNat (fn57 y.2 y.1)) (P := fun s => s.length = j + 7)
    (firstsL (longP (j + 6)) 0) zs e2 (fun s y hy hs => by
      obtain ⟨k0, k1⟩ := firstsL_lt _ _ (by omega) y hy
      have : inb y.1 s.length = true := inb_iff.2 ⟨k0, by omega⟩
      exact ⟨by simp only [fn31_r1, bindP, this, cond_true], by simpa using hs⟩)
  rw [r1, Option.bind_some]
  refine ⟨_, rfl, r2, ?_⟩
  rw [firstsL_six]
  simp only [List.foldl_cons]
  rw [set_ge j 6 _ (by omega)]
  simp only [gt, List.getD, show (5 : Int).toNat = 5 from rfl]
  rw [List.getElem?_set_self (by simp; omega)]
  rfl

theorem awake : fn12 10000 = some true := by rfl

theorem pick3 (n : Int) : ∃ v, fn13 n 3 = some v ∧ (v = 0 ∨ v = 1 ∨ v = 2) := by
  have h1 : decide ((3 : Int) < 1) = false := rfl
  have h2 : ((3 : Int) != 0) = true := rfl
  simp only [fn13, h1, h2, cond_false, cond_true]
  have h3 : -3 < n.tmod 3 ∧ n.tmod 3 < 3 := by
    refine ⟨?_, Int.tmod_lt_of_pos n (by omega)⟩
    have := Int.tmod_lt_of_pos (-n) (b := 3) (by omega)
    rw [Int.neg_tmod] at this; omega
  by_cases h : n.tmod 3 < 0
  · simp only [h, decide_true, cond_true]
    refine ⟨_, rfl, ?_⟩
    rw [w64 (by omega)]
    omega
  · simp only [h, decide_false, cond_false]
    exact ⟨_, rfl, by omega⟩

theorem fill : ∀ (n : Nat) (k : Nat) (j : Nat) (v3 : Int), IntKind.i64.wrap ((4095 : Int) + v3) = k → j ≤ k → k - j < n → k ≤ 5000 →
    fn3_l1 v3 n (List.replicate j mov ++ List.replicate (k - j) (⟨0, 0, 0, 0, 0⟩ : Instr)) j = some (List.replicate k mov)
  | 0, k, j, v3, hv, h1, h2, h3 => by omega
  | n + 1, k, j, v3, hv, h1, h2, h3 => by
    rw [fn3_l1_s, hv]
    by_cases hj : (j : Int) < (k : Int)
    · have hl : (List.replicate j mov ++ List.replicate (k - j) (⟨0, 0, 0, 0, 0⟩ : Instr)).length = k := by simp; omega
      have hi : inb (j : Int) (List.replicate j mov ++ List.replicate (k - j) (⟨0, 0, 0, 0, 0⟩ : Instr)).length = true := inb_iff.2 ⟨by omega, by rw [hl]; omega⟩
      simp only [hj, decide_true, cond_true, hi]
      have e : (List.replicate j mov ++ List.replicate (k - j) (⟨0, 0, 0, 0, 0⟩ : Instr)).set (j : Int).toNat (⟨183, 0, 0, 0, 0⟩ : Instr) = List.replicate (j + 1) mov ++ List.replicate (k - (j + 1)) (⟨0, 0, 0, 0, 0⟩ : Instr) := by
        obtain ⟨m, hm⟩ : ∃ m, k - j = m + 1 := ⟨k - j - 1, by omega⟩
        rw [show k - (j + 1) = m from by omega, hm, Int.toNat_natCast, List.set_append_right _ _ (by simp), List.length_replicate, Nat.sub_self, List.replicate_succ, List.set_cons_zero, List.replicate_succ']
        simp [mov]
      rw [e, w64 (by omega), show (j : Int) + 1 = ((j + 1 : Nat) : Int) from by omega]
      exact fill n k (j + 1) v3 hv (by omega) (by omega) h3
    · simp only [hj, decide_false, cond_false]
      have : j = k := by omega
      subst this
      simp

theorem shapeLong (n : Int) : fn3 10000 n = some true := by
  obtain ⟨v, hv, hv3⟩ := pick3 n
  rw [fn3, awake, Option.bind_some, show (!true) = false from rfl, cond_false, hv, Option.bind_some]
  have hw : IntKind.i64.wrap ((4095 : Int) + v) = ((4095 + v.toNat : Nat) : Int) := by rw [w64 (by omega)]; omega
  have hk : (decide (0 ≤ IntKind.i64.wrap ((4095 : Int) + v)) && decide (IntKind.i64.wrap ((4095 : Int) + v) ≤ IntKind.i64.wrap ((4095 : Int) + v)) && decide ((12 : Int) * (IntKind.i64.wrap ((4095 : Int) + v)) ≤ 281474976710656) && decide (IntKind.i64.wrap ((4095 : Int) + v) ≤ 9223372036854775807)) = true := by
    rw [hw]; simp; omega
  rw [hk, cond_true]
  have hf := fill 10000 (4095 + v.toNat) 0 v hw (by omega) (by omega) (by omega)
  rw [hw, Int.toNat_natCast]
  simp only [List.replicate_zero, List.nil_append, Nat.sub_zero] at hf
  rw [show ((0 : Nat) : Int) = 0 from rfl] at hf
  rw [hf, Option.bind_some, fn3_k1, hw]
  have hw2 : IntKind.i64.wrap (((4095 + v.toNat : Nat) : Int) - 1) = ((4094 + v.toNat : Nat) : Int) := by rw [w64 (by omega)]; omega
  rw [hw2]
  have hi : inb ((4094 + v.toNat : Nat) : Int) (List.replicate (4095 + v.toNat) mov).length = true := inb_iff.2 ⟨by omega, by rw [List.length_replicate]; omega⟩
  rw [hi, cond_true]
  have hs : (List.replicate (4095 + v.toNat) mov).set ((4094 + v.toNat : Nat) : Int).toNat (⟨149, 0, 0, 0, 0⟩ : Instr) = longP (4094 + v.toNat) := by
    rw [Int.toNat_natCast, show 4095 + v.toNat = (4094 + v.toNat) + 1 from by omega, List.replicate_succ', List.set_append_right _ _ (by simp), List.length_replicate, Nat.sub_self]
    rfl
  rw [hs]
  have hnil : fn14 10000 ([] : List Instr) = some (0, 3) := rfl
  rw [hnil]
  rcases hv3 with rfl | rfl | rfl
  · obtain ⟨ws, e1, e2, e3⟩ := ways_long 4088 (by omega)
    have hc := check_long 4094 (by omega)
    simp only [Int.toNat_zero, Nat.add_zero]
    rw [hc, Option.bind_some, Option.bind_some, fn15, e1, Option.bind_some]
    have h5 : (decide ((5 : Int) < 0) || decide ((ws.length : Int) ≤ 5)) = false := by rw [e2]; rfl
    have h6 : inb 5 ws.length = true := by rw [e2]; rfl
    rw [h5, h6, e3]; rfl
  · obtain ⟨ws, e1, e2, e3⟩ := ways_long 4089 (by omega)
    have hc := check_long 4095 (by omega)
    simp only [show (1 : Int).toNat = 1 from rfl, Nat.reduceAdd]
    rw [hc, Option.bind_some, Option.bind_some, fn15, e1, Option.bind_some]
    have h5 : (decide ((5 : Int) < 0) || decide ((ws.length : Int) ≤ 5)) = false := by rw [e2]; rfl
    have h6 : inb 5 ws.length = true := by rw [e2]; rfl
    rw [h5, h6, e3]; rfl
  · simp only [show (2 : Int).toNat = 2 from rfl, Nat.reduceAdd]
    rw [check_too, Option.bind_some, Option.bind_some, fn15, fn31, check_too]
    rfl
end Go.Proofs.Ytbpldfhehpjbaaa
