/- Plain: steps and edges. -/
import Derived.Test.YtbpldfhehpjbaaaPlWays
namespace Go.Proofs.Ytbpldfhehpjbaaa
open Go Go.HW
set_option maxRecDepth 8000
set_option linter.unusedVariables false

def outs (w : S__2_int) : List Int := [w.e0, w.e1].filter (fun t => decide (0 ≤ t))
def stp (p : List Instr) : List (List Int) := (ways p).map outs
def edgesOf : List (List Int) → Int → List (Int × Int)
  | [], _ => []
  | a :: l, k => a.map (fun t => (k, t)) ++ edgesOf l (k + 1)
def mkE (e : Int × Int) : Edge := ⟨e.1, e.2⟩
/-- all edges -/
def eds (p : List Instr) : List (Int × Int) := edgesOf (stp p) 0

theorem ways_length (p : List Instr) : (ways p).length = if okP p then p.length else 0 := by
  unfold ways; cases okP p <;> simp
theorem stp_length (p : List Instr) : (stp p).length = if okP p then p.length else 0 := by rw [stp, List.length_map, ways_length]

theorem l2_outs {n : Nat} (v : List S__2_int) (k : Int) (hn : 3 ≤ n) : fn45_l2 v k n [] 0 = some (outs (gt v k)) := by
  obtain ⟨m, rfl⟩ : ∃ m, n = m + 3 := ⟨n - 3, by omega⟩
  have w1 : IntKind.i64.wrap (0 + 1) = 1 := by decide
  have w2 : IntKind.i64.wrap (1 + 1) = 2 := by decide
  have g0 : gt ([(gt v k).e0, (gt v k).e1] : List Int) 0 = (gt v k).e0 := rfl
  have g1 : gt ([(gt v k).e0, (gt v k).e1] : List Int) 1 = (gt v k).e1 := rfl
  have i0 : inb 0 ([(gt v k).e0, (gt v k).e1] : List Int).length = true := rfl
  have i1 : inb 1 ([(gt v k).e0, (gt v k).e1] : List Int).length = true := rfl
  have l0 : decide ((0 : Int) < 2) = true := rfl
  have l1 : decide ((1 : Int) < 2) = true := rfl
  have l2 : decide ((2 : Int) < 2) = false := rfl
  rw [fn45_l2_s, l0, i0, g0, w1]
  simp only [cond_true]
  cases h0 : decide ((0 : Int) ≤ (gt v k).e0) with
  | true =>
    have c1 : decide ((([] : List Int).length + ([(gt v k).e0] : List Int).length) * 8 ≤ 140737488355328 ∧ ([] : List Int).length + ([(gt v k).e0] : List Int).length ≤ 9223372036854775807) = true := by simp
    rw [cond_true, c1, cond_true, fn45_l2_s, l1, i1, g1, w2]
    simp only [cond_true]
    cases h1 : decide ((0 : Int) ≤ (gt v k).e1) with
    | true =>
      have c2 : decide ((([] ++ [(gt v k).e0] : List Int).length + ([(gt v k).e1] : List Int).length) * 8 ≤ 140737488355328 ∧ ([] ++ [(gt v k).e0] : List Int).length + ([(gt v k).e1] : List Int).length ≤ 9223372036854775807) = true := by simp
      rw [cond_true, c2, cond_true, fn45_l2_s, l2]
      simp [outs]
      simp at h0 h1; simp [h0, h1]
    | false =>
      rw [cond_false, fn45_l2_s, l2]
      simp at h0 h1
      have : ¬ 0 ≤ (gt v k).e1 := by omega
      simp [outs, h0, this]
  | false =>
    rw [cond_false, fn45_l2_s, l1, i1, g1, w2]
    simp only [cond_true]
    simp at h0
    have n0 : ¬ 0 ≤ (gt v k).e0 := by omega
    cases h1 : decide ((0 : Int) ≤ (gt v k).e1) with
    | true =>
      have c2 : decide ((([] : List Int).length + ([(gt v k).e1] : List Int).length) * 8 ≤ 140737488355328 ∧ ([] : List Int).length + ([(gt v k).e1] : List Int).length ≤ 9223372036854775807) = true := by simp
      rw [cond_true, c2, cond_true, fn45_l2_s, l2]
      simp at h1
      simp [outs, n0, h1]
    | false =>
      rw [cond_false, fn45_l2_s, l2]
      simp at h1
      have : ¬ 0 ≤ (gt v k).e1 := by omega
      simp [outs, n0, this]

theorem drop_gt {α : Type} [Inhabited α] {v : List α} {k : Nat} (h : k < v.length) : v.drop k = gt v (k : Int) :: v.drop (k + 1) := by
  rw [List.drop_eq_getElem_cons h]; congr 1; simp [gt, h]

theorem l1_steps {F : Nat} (hF : 6000 ≤ F) (v : List S__2_int) (hv : v.length ≤ 5000) : ∀ (n : Nat) (acc : List (List Int)) (k : Nat), k ≤ v.length → acc.length = k → v.length - k < n →
    fn45_l1 F v n acc (k : Int) = some (acc ++ (v.drop k).map outs)
  | 0, acc, k, h1, h2, h3 => by omega
  | n + 1, acc, k, h1, h2, h3 => by
    rw [fn45_l1_s]
    by_cases hk : k < v.length
    · have g1 : decide ((k : Int) < (v.length : Int)) = true := by simp; omega
      have g2 : inb (k : Int) v.length = true := inb_iff.2 ⟨by omega, by omega⟩
      have g3 : decide ((acc.length + 1) * 24 ≤ 140737488355328 ∧ acc.length + 1 ≤ 9223372036854775807) = true := by simp; omega
      have g4 : IntKind.i64.wrap ((k : Int) + 1) = ((k + 1 : Nat) : Int) := w64 (by omega)
      rw [g1, g2, l2_outs v (k : Int) (by omega)]
      simp only [cond_true, Option.bind_some, fn45_k2, g3, g4]
      rw [l1_steps hF v hv n (acc ++ [outs (gt v (k : Int))]) (k + 1) (by omega) (by simp; omega) (by omega), drop_gt hk]
      simp
    · have g1 : decide ((k : Int) < (v.length : Int)) = false := by simp; omega
      rw [g1, List.drop_eq_nil_of_le (by omega)]; simp

theorem steps_prog {F : Nat} {p : List Instr} (hF : 6000 ≤ F) (hp : p.length ≤ 5000) (hw : WF p) : fn45 F p = some (stp p) := by
  have hl := ways_length p
  have hl' : (ways p).length ≤ 5000 := by rw [hl]; split <;> omega
  rw [fn45, ways_prog hF hp hw, Option.bind_some]
  have := l1_steps hF (ways p) hl' F [] 0 (by omega) rfl (by omega)
  rw [show ((0 : Nat) : Int) = 0 from rfl] at this
  rw [this]; rfl

/-! ### going through, told whether one left -/
def runX {σ α : Type} (step : σ → α → Option σ) (go : σ → Bool) : List α → σ → Option (σ ⊕ σ)
  | [], s => some (.inl s)
  | x :: xs, s => (step s x).bind fun u => bif go u then runX step go xs u else some (.inr u)
def both {σ : Type} : σ ⊕ σ → σ | .inl u => u | .inr u => u
theorem runL_runX {σ α : Type} (step : σ → α → Option σ) (go : σ → Bool) : ∀ (l : List α) (s : σ), runL step go l s = (runX step go l s).map both
  | [], s => rfl
  | x :: xs, s => by
    rw [runL, runX]
    cases step s x with
    | none => rfl
    | some u =>
      simp only [Option.bind_some]
      cases go u with
      | true => simp only [cond_true]; exact runL_runX step go xs u
      | false => rfl
theorem runX_append {σ α : Type} (step : σ → α → Option σ) (go : σ → Bool) : ∀ (l m : List α) (s : σ), runX step go (l ++ m) s = (runX step go l s).bind fun o => match o with | .inl u => runX step go m u | .inr u => some (.inr u)
  | [], m, s => rfl
  | x :: xs, m, s => by
    rw [List.cons_append, runX, runX]
    cases step s x with
    | none => rfl
    | some u =>
      simp only [Option.bind_some]
      cases go u with
      | true => simp only [cond_true]; exact runX_append step go xs m u
      | false => rfl

def lift2 {σ : Type} : σ ⊕ σ → σ ⊕ (σ ⊕ σ) | .inl u => .inl u | .inr u => .inr (.inr u)
theorem e_l2 {σ : Type} (step : σ → (Int × Int) → Option σ) (go : σ → Bool) (v : List (List Int)) (k : Int) (hv : (gt v k).length ≤ 5000) : ∀ (n : Nat) (s : σ) (x : Nat), x ≤ (gt v k).length → (gt v k).length - x < n →
    fn69_l2 step go v k n s (x : Int) = (runX step go (((gt v k).drop x).map fun t => (k, t)) s).map lift2
  | 0, s, x, h1, h2 => by omega
  | n + 1, s, x, h1, h2 => by
    rw [fn69_l2_s]
    by_cases hx : x < (gt v k).length
    · have g1 : decide ((x : Int) < ((gt v k).length : Int)) = true := by simp; omega
      have g2 : inb (x : Int) (gt v k).length = true := inb_iff.2 ⟨by omega, by omega⟩
      have g4 : IntKind.i64.wrap ((x : Int) + 1) = ((x + 1 : Nat) : Int) := w64 (by omega)
      rw [g1, g2, drop_gt hx, List.map_cons, runX, g4]
      simp only [cond_true]
      cases step s (k, gt (gt v k) (x : Int)) with
      | none => rfl
      | some u =>
        simp only [Option.bind_some]
        cases go u with
        | true => simp only [Bool.not_true, cond_false, cond_true]; exact e_l2 step go v k hv n u (x + 1) (by omega) (by omega)
        | false => rfl
    · have g1 : decide ((x : Int) < ((gt v k).length : Int)) = false := by simp; omega
      rw [g1, List.drop_eq_nil_of_le (by omega)]; rfl

theorem e_l1 {σ : Type} {F : Nat} (hF : 6000 ≤ F) (step : σ → (Int × Int) → Option σ) (go : σ → Bool) (v : List (List Int)) (hv : v.length ≤ 5000) (hi : ∀ a ∈ v, a.length ≤ 5000) : ∀ (n : Nat) (s : σ) (k : Nat), k ≤ v.length → v.length - k < n →
    fn69_l1 F step go v n s (k : Int) = runX step go (edgesOf (v.drop k) k) s
  | 0, s, k, h1, h2 => by omega
  | n + 1, s, k, h1, h2 => by
    rw [fn69_l1_s]
    by_cases hk : k < v.length
    · have g1 : decide ((k : Int) < (v.length : Int)) = true := by simp; omega
      have g2 : inb (k : Int) v.length = true := inb_iff.2 ⟨by omega, by omega⟩
      have g4 : IntKind.i64.wrap ((k : Int) + 1) = ((k + 1 : Nat) : Int) := w64 (by omega)
      have hm : gt v (k : Int) ∈ v := by simp [gt, hk]
      have := e_l2 step go v (k : Int) (hi _ hm) F s 0 (by omega) (by have := hi _ hm; omega)
      rw [show ((0 : Nat) : Int) = 0 from rfl, List.drop_zero] at this
      rw [g1, g2, this, drop_gt hk, edgesOf, runX_append]
      simp only [cond_true]
      cases runX step go ((gt v (k : Int)).map fun t => ((k : Int), t)) s with
      | none => rfl
      | some o =>
        cases o with
        | inl u =>
          simp only [Option.map_some, Option.bind_some, lift2, fn69_k2, g4]
          exact e_l1 hF step go v hv hi n u (k + 1) (by omega) (by omega)
        | inr u => rfl
    · have g1 : decide ((k : Int) < (v.length : Int)) = false := by simp; omega
      rw [g1, List.drop_eq_nil_of_le (by omega)]; rfl

theorem outs_len (w : S__2_int) : (outs w).length ≤ 2 := List.length_filter_le _ _
theorem stp_in {p : List Instr} : ∀ a ∈ stp p, a.length ≤ 2 := by
  intro a ha
  obtain ⟨w, _, rfl⟩ := List.mem_map.1 ha
  exact outs_len w

theorem edges_run {σ : Type} {F : Nat} {p : List Instr} (hF : 6000 ≤ F) (hp : p.length ≤ 5000) (hw : WF p) (step : σ → (Int × Int) → Option σ) (go : σ → Bool) (s : σ) :
    fn69 F step go p s = runL step go (eds p) s := by
  have hl : (stp p).length ≤ 5000 := by rw [stp_length]; split <;> omega
  rw [fn69, steps_prog hF hp hw, Option.bind_some, runL_runX]
  have := e_l1 hF step go (stp p) hl (fun a ha => by have := stp_in a ha; omega) F s 0 (by omega) (by omega)
  rw [show ((0 : Nat) : Int) = 0 from rfl, List.drop_zero] at this
  rw [this, eds]
  cases runX step go (edgesOf (stp p) 0) s with
  | none => rfl
  | some o => cases o <;> rfl

theorem edgesOf_len : ∀ (l : List (List Int)) (k : Int), (∀ a ∈ l, a.length ≤ 2) → (edgesOf l k).length ≤ 2 * l.length
  | [], _, _ => by simp [edgesOf]
  | a :: l, k, h => by
    have h1 := h a (by simp)
    have h2 := edgesOf_len l (k + 1) (fun b hb => h b (by simp [hb]))
    rw [edgesOf, List.length_append, List.length_map, List.length_cons]; omega
theorem eds_len {p : List Instr} : (eds p).length ≤ 2 * p.length := by
  have := edgesOf_len (stp p) 0 stp_in
  rw [stp_length] at this
  split at this
  · exact this
  · have h : (eds p).length ≤ 2 * 0 := this
    omega

theorem runR_go {σ α : Type} {stepB : σ → α → Option (σ × Nat)} {s s' : σ} {x : α} {l : List α} (h : stepB s x = some (s', 0)) : runL (stepR stepB) goR (x :: l) (s, 0) = runL (stepR stepB) goR l (s', 0) := by
  simp only [runL, stepR, show Nat.beq 0 0 = true from rfl, cond_true, h, Option.bind_some, goR]
theorem runR_stop {σ α : Type} {stepB : σ → α → Option (σ × Nat)} {s s' : σ} {x : α} {l : List α} {m : Nat} (h : stepB s x = some (s', m + 1)) : runL (stepR stepB) goR (x :: l) (s, 0) = some (s', m + 1) := by
  simp only [runL, stepR, show Nat.beq 0 0 = true from rfl, cond_true, h, Option.bind_some, goR]; rfl

theorem run20 (m : Nat) : ∀ (l : List (Int × Int)) (acc : List Edge), acc.length ≤ m → acc.length + l.length ≤ 1000000 →
    ∃ c, (c = 0 ∨ c = 2) ∧ runL (stepR (fun (s : List Edge) (y : Int × Int) => fn20_r1 (m : Int) s y.1 y.2)) goR l (acc, 0) = some (acc ++ (l.take (m - acc.length)).map mkE, c)
  | [], acc, h1, h2 => ⟨0, .inl rfl, by simp [runL]⟩
  | y :: l, acc, h1, h2 => by
    simp only [List.length_cons] at h2
    by_cases he : acc.length = m
    · have g : ((acc.length : Int) == (m : Int)) = true := by simp [he]
      refine ⟨2, .inr rfl, ?_⟩
      rw [runR_stop (m := 1) (s' := acc) (by simp only [fn20_r1, g, cond_true]), he]
      simp
    · have g : ((acc.length : Int) == (m : Int)) = false := by simp; omega
      have g2 : decide ((acc.length + ([(⟨y.1, y.2⟩ : Edge)] : List Edge).length) * 16 ≤ 140737488355328 ∧ acc.length + ([(⟨y.1, y.2⟩ : Edge)] : List Edge).length ≤ 9223372036854775807) = true := by simp; omega
      obtain ⟨c, hc, e⟩ := run20 m l (acc ++ [⟨y.1, y.2⟩]) (by simp; omega) (by simp; omega)
      refine ⟨c, hc, ?_⟩
      rw [runR_go (s' := acc ++ [⟨y.1, y.2⟩]) (by simp only [fn20_r1, g, g2, cond_true, cond_false]), e]
      have : m - acc.length = (m - (acc ++ [(⟨y.1, y.2⟩ : Edge)]).length) + 1 := by simp; omega
      rw [this, List.take_succ_cons]
      simp [mkE]

theorem edges20 {F : Nat} {p : List Instr} (hF : 6000 ≤ F) (hp : p.length ≤ 5000) (hw : WF p) (m : Nat) : fn20 F p (m : Int) = some (((eds p).take m).map mkE) := by
  have hl := eds_len (p := p)
  rw [fn20, edges_run hF hp hw]
  obtain ⟨c, hc, e⟩ := run20 m (eds p) [] (by simp) (by simp; omega)
  rw [e]
  rcases hc with rfl | rfl <;> simp [fn20_k1_0, fn20_k1_2]
end Go.Proofs.Ytbpldfhehpjbaaa
