/- Targets: what the program and the document tell. -/
import Derived.Test.YtbpldfhehpjbaaaGenC
import Derived.Test.YtbpldfhehpjbaaaPlSBase
namespace Go.Proofs.Ytbpldfhehpjbaaa
open Go Go.HW
set_option linter.unusedVariables false

def idxL (n : Nat) (f : Int → Bool) : List Int := ((List.range n).map (fun i : Nat => (i : Int))).filter f
theorem idxL_succ (n : Nat) (f : Int → Bool) : idxL (n + 1) f = idxL n f ++ (bif f (n : Int) then [(n : Int)] else []) := by
  simp only [idxL, List.range_succ, List.map_append, List.filter_append, List.map_cons, List.map_nil]
  cases h : f (n : Int) <;> simp [h]
theorem mem_idxL {n : Nat} {f : Int → Bool} {t : Int} : t ∈ idxL n f ↔ (0 ≤ t ∧ t < (n : Int)) ∧ f t = true := by
  simp only [idxL, List.mem_filter, List.mem_map, List.mem_range]
  constructor
  · rintro ⟨⟨i, hi, rfl⟩, h⟩; exact ⟨by omega, h⟩
  · rintro ⟨⟨h0, h1⟩, h⟩; exact ⟨⟨t.toNat, by omega, by omega⟩, h⟩
theorem idxL_len (n : Nat) (f : Int → Bool) : (idxL n f).length ≤ n := by
  have := List.length_filter_le f ((List.range n).map (fun i : Nat => (i : Int)))
  simpa [idxL] using this
theorem idxL_lt (n : Nat) (f : Int → Bool) : (idxL n f).Pairwise (fun a b => a < b) := by
  induction n with
  | zero => simp [idxL]
  | succ n ih =>
    rw [idxL_succ, List.pairwise_append]
    refine ⟨ih, by cases f (n : Int) <;> simp, fun a ha b hb => ?_⟩
    have h1 := (mem_idxL.1 ha).1
    cases hf : f (n : Int) <;> rw [hf] at hb <;> simp at hb
    omega
theorem idxL_congr {n : Nat} {f g : Int → Bool} (h : ∀ t : Int, 0 ≤ t → t < (n : Int) → f t = g t) : idxL n f = idxL n g := by
  induction n with
  | zero => rfl
  | succ n ih => rw [idxL_succ, idxL_succ, ih (fun t h0 h1 => h t h0 (by omega)), h n (by omega) (by omega)]

/-- a list without doubles, sorted, is the list of its members in order -/
theorem sort_idx {K : List Int} (hn : K.Nodup) {n : Nat} {f : Int → Bool} (hm : ∀ t, t ∈ K ↔ (0 ≤ t ∧ t < (n : Int)) ∧ f t = true) : K.mergeSort (fun x y => decide (x ≤ y)) = idxL n f := by
  have tr : ∀ a b c : Int, decide (a ≤ b) = true → decide (b ≤ c) = true → decide (a ≤ c) = true := fun a b c h1 h2 => by simp only [decide_eq_true_eq] at *; omega
  have to : ∀ a b : Int, (decide (a ≤ b) || decide (b ≤ a)) = true := fun a b => by simp only [Bool.or_eq_true, decide_eq_true_eq]; omega
  have nd : (idxL n f).Nodup := (idxL_lt n f).imp (fun h => by omega)
  have hp : (K.mergeSort (fun x y => decide (x ≤ y))).Perm (idxL n f) :=
    (List.mergeSort_perm K _).trans ((List.perm_ext_iff_of_nodup hn nd).2 (fun t => (hm t).trans mem_idxL.symm))
  refine List.Perm.eq_of_pairwise (le := fun a b => decide (a ≤ b) = true) (fun a b _ _ h1 h2 => ?_) (List.pairwise_mergeSort tr to K) ((idxL_lt n f).imp (fun h => by simp only [decide_eq_true_eq]; omega)) hp
  simp only [decide_eq_true_eq] at h1 h2; omega

/-- t is a target of p -/
def tgt (p : List Instr) (t : Int) : Bool := (firstsL p 0).any fun y => (fn58 (gt p y.1) y.1).2 && ((fn58 (gt p y.1) y.1).1 == t)
theorem tgt_iff {p : List Instr} {t : Int} : tgt p t = true ↔ ∃ j : Int, pl p j = true ∧ fn58 (gt p j) j = (t, true) := by
  simp only [tgt, List.any_eq_true, Bool.and_eq_true, beq_iff_eq]
  constructor
  · rintro ⟨y, hy, h1, h2⟩
    refine ⟨y.1, ?_, by rw [← h1, ← h2]⟩
    rw [← pos_pl, posIn, List.any_eq_true]; exact ⟨y, hy, by simp⟩
  · rintro ⟨j, hj, h⟩
    rw [← pos_pl, posIn, List.any_eq_true] at hj
    obtain ⟨y, hy, h1⟩ := hj
    have h1 : y.1 = j := by simpa using h1
    exact ⟨y, hy, by rw [h1, h], by rw [h1, h]⟩
def tg (p : List Instr) : List Int := bif okP p then idxL p.length (tgt p) else []
theorem tg_len (p : List Instr) : (tg p).length ≤ p.length := by
  unfold tg; cases okP p
  · simp
  · exact idxL_len _ _
theorem tgt_pl {p : List Instr} (ho : okP p = true) {t : Int} (h : tgt p t = true) : pl p t = true := by
  obtain ⟨j, hj, hf⟩ := tgt_iff.1 h
  have := er_target (ok_er_pl ho hj) (by rw [hf])
  rw [hf] at this; exact this
theorem pl_in {p : List Instr} {t : Int} (h : pl p t = true) : 0 ≤ t ∧ t < (p.length : Int) := by
  simp only [pl, Bool.and_eq_true, decide_eq_true_eq] at h; exact h.1

/-! ### the document's -/
theorem ref_l1 {p : List Instr} (hp : p.length ≤ 5000) (ho : okP p = true) : ∀ (n : Nat) (x : List Bool) (k : Nat), k ≤ p.length → p.length - k < n → x.length = p.length →
    (∀ t : Int, 0 ≤ t → t < (p.length : Int) → (gt x t = true ↔ ∃ j : Int, j < (k : Int) ∧ pl p j = true ∧ fn58 (gt p j) j = (t, true))) →
    ∃ x', fn33_l1 p (marks p) n x (k : Int) = some x' ∧ x'.length = p.length ∧ ∀ t : Int, 0 ≤ t → t < (p.length : Int) → gt x' t = tgt p t := by
  intro n
  induction n with
  | zero => intro x k _ h; omega
  | succ n ih =>
    intro x k hk hn hx hi
    rw [fn33_l1_s]
    have e1 : IntKind.i64.wrap ((k : Int) + 1) = ((k + 1 : Nat) : Int) := by rw [w64 (by omega)]; omega
    by_cases hlt : k < p.length
    · have g1 : decide ((k : Int) < (p.length : Int)) = true := by simp; omega
      have g2 : inb (k : Int) (marks p).length = true := inb_iff.2 ⟨by omega, by rw [marks_length]; omega⟩
      have g3 : inb (k : Int) p.length = true := inb_iff.2 ⟨by omega, by omega⟩
      have hpl : pl p (k : Int) = gt (marks p) (k : Int) := pl_marks (by omega) (by omega)
      have step : ∀ x2 : List Bool, x2.length = p.length → (∀ t : Int, 0 ≤ t → t < (p.length : Int) → (gt x2 t = true ↔ (gt x t = true ∨ (pl p (k : Int) = true ∧ fn58 (gt p (k : Int)) (k : Int) = (t, true))))) →
          ∃ x', fn33_l1 p (marks p) n x2 ((k + 1 : Nat) : Int) = some x' ∧ x'.length = p.length ∧ ∀ t : Int, 0 ≤ t → t < (p.length : Int) → gt x' t = tgt p t := fun x2 h1 h2 => by
        refine ih x2 (k + 1) (by omega) (by omega) h1 (fun t h0 h3 => ?_)
        rw [h2 t h0 h3, hi t h0 h3]
        constructor
        · rintro (⟨j, a, b⟩ | ⟨a, b⟩)
          · exact ⟨j, by omega, b⟩
          · exact ⟨k, by omega, a, b⟩
        · rintro ⟨j, a, b, c⟩
          by_cases hj : j = (k : Int)
          · subst hj; exact .inr ⟨b, c⟩
          · exact .inl ⟨j, by omega, b, c⟩
      rw [g1, cond_true, g2, cond_true, e1]
      cases hg : gt (marks p) (k : Int) with
      | false =>
        rw [Bool.not_false, cond_true]
        exact step x hx (fun t _ _ => by rw [hpl, hg]; simp)
      | true =>
        rw [Bool.not_true, cond_false, g3, cond_true]
        simp only [bindP]
        rcases hf : fn58 (gt p (k : Int)) (k : Int) with ⟨t0, b⟩
        cases b with
        | false => rw [cond_false]; exact step x hx (fun t _ _ => by rw [hf]; simp)
        | true =>
          have ht := pl_in (tgt_pl ho (tgt_iff.2 ⟨k, by rw [hpl, hg], hf⟩))
          have g4 : inb t0 x.length = true := inb_iff.2 ⟨ht.1, by rw [hx]; exact ht.2⟩
          rw [cond_true, g4, cond_true]
          refine step _ (by simp [hx]) (fun t h0 h3 => ?_)
          rw [gt_set ht.1 (by rw [hx]; exact ht.2) h0]
          by_cases h : t0 = t
          · subst h; simp [hpl, hg, hf]
          · simp only [h, if_false]; rw [hf]; simp [h]
    · have g1 : decide ((k : Int) < (p.length : Int)) = false := by simp; omega
      rw [g1, cond_false]
      have hkk : k = p.length := by omega
      refine ⟨x, rfl, hx, fun t h0 h3 => ?_⟩
      have : gt x t = true ↔ tgt p t = true := by
        rw [hi t h0 h3, tgt_iff]
        constructor
        · rintro ⟨j, _, b⟩; exact ⟨j, b⟩
        · rintro ⟨j, b, c⟩; exact ⟨j, by have := pl_in b; omega, b, c⟩
      exact Bool.eq_iff_iff.2 this

theorem ref_l2 (x : List Bool) (hx : x.length ≤ 5000) : ∀ (n : Nat) (acc : List Int) (k : Nat), k ≤ x.length → x.length - k < n → acc = idxL k (gt x) → fn33_l2 x n acc (k : Int) = some (idxL x.length (gt x)) := by
  intro n
  induction n with
  | zero => intro acc k _ h; omega
  | succ n ih =>
    intro acc k hk hn ha
    subst ha
    rw [fn33_l2_s]
    have e1 : IntKind.i64.wrap ((k : Int) + 1) = ((k + 1 : Nat) : Int) := by rw [w64 (by omega)]; omega
    by_cases hlt : k < x.length
    · have g1 : decide ((k : Int) < (x.length : Int)) = true := by simp; omega
      have g2 : inb (k : Int) x.length = true := inb_iff.2 ⟨by omega, by omega⟩
      have hl := idxL_len k (gt x)
      have g3 : decide (((idxL k (gt x)).length + ([(k : Int)] : List Int).length) * 8 ≤ 140737488355328 ∧ (idxL k (gt x)).length + ([(k : Int)] : List Int).length ≤ 9223372036854775807) = true := by
        simp only [List.length_singleton, decide_eq_true_eq]; omega
      rw [g1, cond_true, g2, cond_true, e1, g3, cond_true]
      have hs := idxL_succ k (gt x)
      cases hg : gt x (k : Int) with
      | true => rw [cond_true]; exact ih _ (k + 1) (by omega) (by omega) (by rw [hs, hg]; rfl)
      | false => rw [cond_false]; exact ih _ (k + 1) (by omega) (by omega) (by rw [hs, hg]; simp)
    · have g1 : decide ((k : Int) < (x.length : Int)) = false := by simp; omega
      have hkk : k = x.length := by omega
      rw [g1, cond_false, hkk]

theorem targets_ref {F : Nat} {p : List Instr} (hF : 6000 ≤ F) (hp : p.length ≤ 5000) : fn33 F p = some (tg p) := by
  rw [fn33, check_ref hF hp, Option.bind_some, tg]
  cases ho : okP p with
  | false =>
    have : ((chk p).2 != 0) = true := by unfold okP at ho; simpa [bne] using ho
    rw [this]; rfl
  | true =>
    have h0 : ((chk p).2 != 0) = false := by unfold okP at ho; simpa [bne] using ho
    have g0 : (decide (0 ≤ (p.length : Int)) && decide ((p.length : Int) ≤ (p.length : Int)) && decide ((1 : Int) * (p.length : Int) ≤ 281474976710656) && decide ((p.length : Int) ≤ 9223372036854775807)) = true := by
      simp only [Bool.and_eq_true, decide_eq_true_eq]; omega
    rw [h0, cond_false, cond_true, g0, cond_true, firsts_ref p hp hF, Option.bind_some]
    obtain ⟨x', h1, h2, h3⟩ := ref_l1 hp ho F (List.replicate p.length false) 0 (by omega) (by omega) (by simp) (fun t a b => by
      have : gt (List.replicate p.length false) t = false := by
        have : t.toNat < p.length := by omega
        simp [gt, this]
      rw [this]; simp only [Bool.false_eq_true, false_iff]
      rintro ⟨j, c, d, _⟩
      have := pl_in d; omega)
    have : ((p.length : Int)).toNat = p.length := by omega
    rw [this]
    have h1' : fn33_l1 p (marks p) F (List.replicate p.length false) 0 = some x' := h1
    rw [h1', Option.bind_some, fn33_k1]
    have h4 := ref_l2 x' (by omega) F [] 0 (by omega) (by omega) (by rfl)
    have h4' : fn33_l2 x' F ([] : List Int) 0 = some (idxL x'.length (gt x')) := h4
    rw [h4', Option.bind_some, fn33_k2, h2]
    congr 1
    exact idxL_congr h3

/-! ### the program's -/
theorem firstsL_len : ∀ (n : Nat) (l : List Instr) (k : Int), l.length ≤ n → (firstsL l k).length ≤ l.length := by
  intro n
  induction n with
  | zero => intro l k h; cases l with | nil => simp [firstsL] | cons x l => simp at h
  | succ n ih =>
    intro l k h
    cases l with
    | nil => simp [firstsL]
    | cons x l =>
      rw [firstsL_cons]
      have hl : l.length ≤ n := by simpa using h
      cases (x.fOp == 24) with
      | false => simp only [cond_false, List.length_cons]; have := ih l (k + 1) hl; omega
      | true =>
        simp only [cond_true, List.length_cons]
        cases l with
        | nil => simp
        | cons y l => have := ih l (k + 2) (by simp at hl; omega); simp; omega

theorem mput_old {α : Type} : ∀ (xs : List (Int × α)) (k : Int) (v : α), mhas xs k = true → (mput xs k v).map (·.1) = xs.map (·.1)
  | [], k, v, h => by simp [mhas, mfind] at h
  | p :: xs, k, v, h => by
    by_cases hp : p.1 = k
    · simp [mput, hp]
    · have h' : mhas xs k = true := by simpa [mhas, mfind, hp] using h
      simp [mput, hp, mput_old xs k v h']
theorem mput_len {α : Type} : ∀ (xs : List (Int × α)) (k : Int) (v : α), (mput xs k v).length ≤ xs.length + 1
  | [], k, v => by simp [mput]
  | p :: xs, k, v => by
    by_cases hp : p.1 = k
    · simp [mput, hp]
    · have := mput_len xs k v
      simp [mput, hp]; omega
theorem KND_put {α : Type} {xs : List (Int × α)} {k : Int} {v : α} (h : KND xs) : KND (mput xs k v) := by
  cases hm : mhas xs k with
  | false => exact h.push hm
  | true => unfold KND; rw [mput_old xs k v hm]; exact h
/-- what Targets does with one instruction -/
def putT (p : List Instr) (s : List (Int × Bool)) (y : Int × Slot) : List (Int × Bool) := bif (fn58 (gt p y.1) y.1).2 then mput s (fn58 (gt p y.1) y.1).1 true else s
theorem putT_fold {p : List Instr} : ∀ (l : List (Int × Slot)) (m : List (Int × Bool)), KND m → KND (l.foldl (putT p) m) ∧ (l.foldl (putT p) m).length ≤ m.length + l.length ∧
    ∀ t, mhas (l.foldl (putT p) m) t = ((l.any fun y => (fn58 (gt p y.1) y.1).2 && ((fn58 (gt p y.1) y.1).1 == t)) || mhas m t)
  | [], m, h => ⟨h, by simp, fun t => by simp⟩
  | y :: l, m, h => by
    have h2 : KND (putT p m y) := by unfold putT; cases (fn58 (gt p y.1) y.1).2; exact h; exact KND_put h
    obtain ⟨a, b, c⟩ := putT_fold l (putT p m y) h2
    have h3 : (putT p m y).length ≤ m.length + 1 := by
      unfold putT; cases (fn58 (gt p y.1) y.1).2
      · simp
      · exact mput_len _ _ _
    refine ⟨a, by simp only [List.foldl_cons, List.length_cons]; omega, fun t => ?_⟩
    rw [List.foldl_cons, c t, List.any_cons]
    have : mhas (putT p m y) t = (((fn58 (gt p y.1) y.1).2 && ((fn58 (gt p y.1) y.1).1 == t)) || mhas m t) := by
      unfold putT
      cases (fn58 (gt p y.1) y.1).2 with
      | false => simp
      | true => rw [cond_true, mhas_put, Bool.true_and]; congr 1
    rw [this]
    cases (l.any fun y => (fn58 (gt p y.1) y.1).2 && ((fn58 (gt p y.1) y.1).1 == t)) <;> cases ((fn58 (gt p y.1) y.1).2 && ((fn58 (gt p y.1) y.1).1 == t)) <;> rfl

theorem targets_prog {F : Nat} {p : List Instr} (hF : 6000 ≤ F) (hp : p.length ≤ 5000) (hw : WF p) : fn27 F p = some (tg p) := by
  rw [fn27, check_prog hF hp hw, Option.bind_some, tg]
  cases ho : okP p with
  | false =>
    have : ((chk p).2 != 0) = true := by unfold okP at ho; simpa [bne] using ho
    rw [this]; rfl
  | true =>
    have h0 : ((chk p).2 != 0) = false := by unfold okP at ho; simpa [bne] using ho
    rw [h0, cond_false, cond_true, fn59_run _ _ _ _ (by omega) (by omega)]
    rw [runL_all (stepB := fun (s : List (Int × Bool)) (y : Int × Slot) => fn27_r1 s y.1 y.2) (f := putT p) (firstsL p 0) ([] : List (Int × Bool)) (fun s y hy => by
      obtain ⟨a, b, c⟩ := first_slot hy
      have hk := er_known (ok_er ho y hy)
      simp only [fn27_r1, bindP, c, tg_eq (hw.gt a b) hk, putT]
      cases (fn58 (gt p y.1) y.1).2 <;> rfl)]
    simp only [Option.bind_some, show Nat.beq 0 0 = true from rfl, cond_true, fn27_k1_0]
    obtain ⟨q1, q2, q3⟩ := putT_fold (p := p) (firstsL p 0) [] (by simp [KND])
    have hl := firstsL_len _ p 0 (Nat.le_refl _)
    have hmem : ∀ t, t ∈ ((firstsL p 0).foldl (putT p) []).map (·.1) ↔ tgt p t = true := fun t => by
      have : t ∈ ((firstsL p 0).foldl (putT p) []).map (·.1) ↔ mhas ((firstsL p 0).foldl (putT p) []) t = true := by
        rw [mhas_iff, List.mem_map]
      rw [this, q3 t]
      have : mhas ([] : List (Int × Bool)) t = false := rfl
      rw [this, Bool.or_false]; rfl
    have hin : ∀ t, tgt p t = true → 0 ≤ t ∧ t < (p.length : Int) := fun t h => pl_in (tgt_pl ho h)
    have g1 : (decide (((((firstsL p 0).foldl (putT p) []).length : Nat) : Int) ≤ 17592186044416) && ((firstsL p 0).foldl (putT p) []).all (fun q => okKey q.1)) = true := by
      simp only [Bool.and_eq_true, decide_eq_true_eq, List.all_eq_true]
      simp only [List.length_nil] at q2
      refine ⟨by omega, fun q hq => ?_⟩
      have := hin q.1 ((hmem q.1).1 (List.mem_map.2 ⟨q, hq, rfl⟩))
      have h1 : IntKind.i64.min = -9223372036854775808 := rfl
      have h2 : IntKind.i64.max = 9223372036854775807 := rfl
      simp only [okKey, Lit.wf, h1, h2, Bool.and_eq_true, decide_eq_true_eq]
      omega
    rw [fn52, g1, cond_true, Option.bind_some]
    congr 1
    exact sort_idx q1 (fun t => by rw [hmem t]; exact ⟨fun h => ⟨hin t h, h⟩, fun h => h.2⟩)
end Go.Proofs.Ytbpldfhehpjbaaa
