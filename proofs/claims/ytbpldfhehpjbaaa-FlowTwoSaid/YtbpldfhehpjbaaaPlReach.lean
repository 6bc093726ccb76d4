/- Plain: what is reached. -/
import Derived.Test.YtbpldfhehpjbaaaPlEdges
namespace Go.Proofs.Ytbpldfhehpjbaaa
open Go Go.HW
set_option maxRecDepth 8000
set_option linter.unusedVariables false

abbrev U := S_struct___
theorem mhas_put {κ α : Type} [DecidableEq κ] (k : κ) (v : α) (t : κ) : ∀ xs : List (κ × α), mhas (mput xs k v) t = (decide (k = t) || mhas xs t)
  | [] => by by_cases h : k = t <;> simp [mhas, mput, mfind, h]
  | p :: xs => by
    have ih := mhas_put k v t xs
    simp only [mhas] at ih ⊢
    by_cases hp : p.1 = k
    · by_cases h : k = t
      · simp [mput, mfind, hp, h]
      · have : ¬ p.1 = t := by rw [hp]; exact h
        simp [mput, mfind, hp, h]
    · by_cases h : p.1 = t
      · have : ¬ k = t := by intro e; exact hp (h.trans e.symm)
        have h2 : ¬ t = k := fun e => this e.symm
        simp [mput, mfind, h, this, h2]
      · simp only [mput, hp, decide_false, cond_false, mfind, h]
        exact ih

/-- how many numbers below n are not told -/
def cnt (f : Int → Bool) : Nat → Nat
  | 0 => 0
  | n + 1 => cnt f n + (bif f (n : Int) then 0 else 1)
theorem cnt_le (f : Int → Bool) : ∀ n, cnt f n ≤ n
  | 0 => Nat.le_refl _
  | n + 1 => by have := cnt_le f n; rw [cnt]; cases f (n : Int) <;> simp <;> omega
theorem cnt_mono {f g : Int → Bool} : ∀ n : Nat, (∀ i : Int, 0 ≤ i → i < (n : Int) → f i = true → g i = true) → cnt g n ≤ cnt f n
  | 0, _ => Nat.le_refl _
  | n + 1, h => by
    have ih := cnt_mono (f := f) (g := g) n (fun i h0 h1 hf => h i h0 (by omega) hf)
    have := h (n : Int) (by omega) (by omega)
    rw [cnt, cnt]
    cases hf : f (n : Int) with
    | false => cases g (n : Int) <;> simp <;> omega
    | true => rw [this hf]; simp; exact ih
theorem cnt_lt {f g : Int → Bool} : ∀ n : Nat, (∀ i : Int, 0 ≤ i → i < (n : Int) → f i = true → g i = true) → ∀ x : Int, 0 ≤ x → x < (n : Int) → f x = false → g x = true → cnt g n < cnt f n
  | 0, _, x, h0, h1, _, _ => by omega
  | n + 1, h, x, h0, h1, hf, hg => by
    rw [cnt, cnt]
    by_cases hx : x = (n : Int)
    · subst hx
      have := cnt_mono (f := f) (g := g) n (fun i h0 h1 hf => h i h0 (by omega) hf)
      rw [hf, hg]; simp; omega
    · have ih := cnt_lt n (fun i h0 h1 hf => h i h0 (by omega) hf) x h0 (by omega) hf hg
      have := h (n : Int) (by omega) (by omega)
      cases hf : f (n : Int) with
      | false => cases g (n : Int) <;> simp <;> omega
      | true => rw [this hf]; simp; exact ih

/-! ### graphs -/
def Valid (G : List (List Int)) : Prop := ∀ a ∈ G, a.length ≤ 2 ∧ ∀ t ∈ a, 0 ≤ t ∧ t < (G.length : Int)
inductive Rch (G : List (List Int)) : Int → Prop
  | base : Rch G 0
  | step {i t : Int} : Rch G i → t ∈ gt G i → Rch G t

theorem gt_mem {α : Type} [Inhabited α] {v : List α} {k : Int} (h0 : 0 ≤ k) (h1 : k < (v.length : Int)) : gt v k ∈ v := by
  have : k.toNat < v.length := by omega
  simp [gt, this]
theorem Valid.at {G : List (List Int)} (h : Valid G) {i t : Int} (ht : t ∈ gt G i) : 0 ≤ t ∧ t < (G.length : Int) := by
  by_cases hi : i.toNat < G.length
  · have : gt G i ∈ G := by simp [gt, hi]
    exact (h _ this).2 t ht
  · have : gt G i = [] := by simp [gt, hi]; rfl
    rw [this] at ht; simp at ht
theorem Rch.lt {G : List (List Int)} (h : Valid G) (hp : 0 < G.length) {i : Int} (hr : Rch G i) : 0 ≤ i ∧ i < (G.length : Int) := by
  cases hr with
  | base => omega
  | step _ ht => exact h.at ht

def RInv (G : List (List Int)) (st : List Int) (met : List (Int × U)) (out : List Bool) : Prop :=
  out.length = G.length ∧ (∀ t ∈ st, 0 ≤ t ∧ t < (G.length : Int) ∧ Rch G t) ∧ (∀ i, mhas met i = true → Rch G i ∧ ∀ t ∈ gt G i, mhas met t = true ∨ t ∈ st) ∧ (mhas met 0 = true ∨ 0 ∈ st) ∧
    (∀ i : Int, 0 ≤ i → i < (G.length : Int) → gt out i = mhas met i)

abbrev stepV (G : List (List Int)) := stepR (fun (s : List Int × List (Int × U) × List Bool) (y : Int) => fn21_r1 G s.1 s.2.1 s.2.2 y)
abbrev getV := (fun s : ((List Int) × (List (Int × U)) × (List Bool)) × Nat => s.1.1)
abbrev putV := (fun (xs : List Int) (s : ((List Int) × (List (Int × U)) × (List Bool)) × Nat) => ((xs, s.1.2.1, s.1.2.2), s.2))

theorem gt_set {α : Type} [Inhabited α] {v : List α} {i k : Int} {a : α} (h0 : 0 ≤ i) (h1 : i < (v.length : Int)) (k0 : 0 ≤ k) : gt (v.set i.toNat a) k = if i = k then a else gt v k := by
  have : i.toNat < v.length := by omega
  simp only [gt, List.getD_eq_getElem?_getD, List.getElem?_set]
  by_cases h : i = k
  · subst h; simp [this]
  · have : ¬ i.toNat = k.toNat := by omega
    simp [h, this]

/-- popping -/
theorem split_last {α : Type} [Inhabited α] {st : List α} (h : 0 < st.length) : ∃ r, st = r ++ [gt st ((st.length : Int) - 1)] ∧ cutX st ((0 : Nat) : Int).toNat ((st.length : Int) - 1).toNat = r := by
  refine ⟨st.take (st.length - 1), ?_, ?_⟩
  · have e : gt st ((st.length : Int) - 1) = st[st.length - 1] := by
      have : ((st.length : Int) - 1).toNat = st.length - 1 := by omega
      simp only [gt, this]
      rw [List.getD_eq_getElem?_getD, List.getElem?_eq_getElem (by omega)]; rfl
    rw [e]
    conv => lhs; rw [← List.take_append_drop (st.length - 1) st]
    congr 1
    rw [List.drop_eq_getElem_cons (by omega), List.drop_eq_nil_of_le (by omega)]
  · rw [cutX, show ((0 : Nat) : Int).toNat = 0 from rfl, List.drop_zero]; congr 1; omega

theorem pop_step {α σ : Type} [Inhabited α] {st : List α} (h : 0 < st.length) (hb : st.length ≤ 1000000) : decide ((0 : Int) < (st.length : Int)) = true ∧ IntKind.i64.wrap ((st.length : Int) - 1) = (st.length : Int) - 1 ∧
    inb ((st.length : Int) - 1) st.length = true ∧ sliceOk ((0 : Nat) : Int) ((st.length : Int) - 1) st.length = true :=
  ⟨by simp; omega, w64 (by omega), inb_iff.2 ⟨by omega, by omega⟩, sliceOk_iff.2 ⟨by omega, by omega, by omega⟩⟩

theorem reach_loop {G : List (List Int)} (hG : Valid G) (hN : G.length ≤ 5000) (hp : 0 < G.length) : ∀ (n : Nat) (st : List Int) (met : List (Int × U)) (out : List Bool), RInv G st met out → 4 * cnt (mhas met) G.length + st.length < n → 4 * cnt (mhas met) G.length + st.length ≤ 100000 →
    ∃ met' out', fn72_l (stepV G) goR getV putV n ((st, met, out), 0) = some (([], met', out'), 0) ∧ RInv G [] met' out'
  | 0, st, met, out, _, h, _ => by omega
  | n + 1, st, met, out, hI, hn, hb => by
    rw [fn72_l_s]
    rcases Nat.eq_zero_or_pos st.length with h0 | h0
    · have : st = [] := List.eq_nil_of_length_eq_zero h0
      subst this
      exact ⟨met, out, rfl, hI⟩
    · obtain ⟨p1, p2, p3, p4⟩ := pop_step (α := Int) (σ := Unit) h0 (by omega)
      obtain ⟨r, e1, e2⟩ := split_last h0
      show ∃ met' out', (bif decide ((0 : Int) < (st.length : Int)) then _ else _) = _ ∧ _
      simp only [p1, cond_true]
      rw [show getV ((st, met, out), 0) = st from rfl, p2, p3, p4, e2]
      simp only [cond_true]
      generalize hx : gt st ((st.length : Int) - 1) = x at e1
      obtain ⟨i1, i2, i3, i4, i5⟩ := hI
      obtain ⟨x0, x1, xr⟩ := i2 x (by rw [e1]; simp)
      have hlr : st.length = r.length + 1 := by rw [e1]; simp
      have hmem : ∀ t, t ∈ st → t ∈ r ∨ t = x := fun t ht => by rw [e1] at ht; simpa using ht
      have hr1 : stepV G (putV r ((st, met, out), 0)) x = (fn21_r1 G r met out x) := rfl
      rw [hr1, fn21_r1]
      simp only [bindP, fn48]
      cases hm : mhas met x with
      | true =>
        simp only [Bool.not_true, cond_false, Option.bind_some, goR, show Nat.beq 0 0 = true from rfl]
        have hcov : ∀ t, mhas met t = true → mhas (mput met x (⟨⟩ : U)) t = true := fun t ht => by rw [mhas_put, ht]; simp
        have heq : ∀ t, mhas (mput met x (⟨⟩ : U)) t = mhas met t := fun t => by
          rw [mhas_put]; by_cases h : x = t
          · subst h; simp [hm]
          · simp [h]
        have hc : cnt (mhas (mput met x (⟨⟩ : U))) G.length = cnt (mhas met) G.length := by congr 1; funext t; exact heq t
        refine reach_loop hG hN hp n r _ out ⟨i1, fun t ht => i2 t (by rw [e1]; simp [ht]), fun i hi => ?_, ?_, fun i a b => ?_⟩ (by rw [hc]; omega) (by rw [hc]; omega)
        · rw [heq] at hi
          obtain ⟨q1, q2⟩ := i3 i hi
          refine ⟨q1, fun t ht => ?_⟩
          rw [heq]
          rcases q2 t ht with h | h
          · exact .inl h
          · rcases hmem t h with h | h
            · exact .inr h
            · subst h; exact .inl hm
        · rw [heq]
          rcases i4 with h | h
          · exact .inl h
          · rcases hmem 0 h with h | h
            · exact .inr h
            · exact .inl (by rw [h]; exact hm)
        · rw [heq]; exact i5 i a b
      | false =>
        have g1 : inb x out.length = true := by rw [i1]; exact inb_iff.2 ⟨x0, x1⟩
        have g2 : inb x G.length = true := inb_iff.2 ⟨x0, x1⟩
        have hga := (hG _ (gt_mem x0 x1)).1
        have g3 : decide ((r.length + (gt G x).length) * 8 ≤ 140737488355328 ∧ r.length + (gt G x).length ≤ 9223372036854775807) = true := by simp; omega
        simp only [Bool.not_false, cond_true, g1, g2, fn46, g3, Option.bind_some, goR, show Nat.beq 0 0 = true from rfl, Bool.not_true, cond_false]
        have hlt : cnt (mhas (mput met x (⟨⟩ : U))) G.length < cnt (mhas met) G.length := cnt_lt _ (fun i _ _ h => by rw [mhas_put, h]; simp) x x0 x1 hm (by rw [mhas_put]; simp)
        refine reach_loop hG hN hp n (r ++ gt G x) _ (out.set x.toNat true) ⟨by rw [List.length_set, i1], fun t ht => ?_, fun i hi => ?_, ?_, fun i a b => ?_⟩ (by simp; omega) (by simp; omega)
        · rcases List.mem_append.1 ht with h | h
          · exact i2 t (by rw [e1]; simp [h])
          · obtain ⟨a, b⟩ := hG.at h; exact ⟨a, b, xr.step h⟩
        · rw [mhas_put] at hi
          by_cases hxi : x = i
          · subst hxi; exact ⟨xr, fun t ht => .inr (by simp [ht])⟩
          · simp [hxi] at hi
            obtain ⟨q1, q2⟩ := i3 i hi
            refine ⟨q1, fun t ht => ?_⟩
            rw [mhas_put]
            rcases q2 t ht with h | h
            · exact .inl (by simp [h])
            · rcases hmem t h with h | h
              · exact .inr (by simp [h])
              · subst h; exact .inl (by simp)
        · rw [mhas_put]
          rcases i4 with h | h
          · exact .inl (by simp [h])
          · rcases hmem 0 h with h | h
            · exact .inr (by simp [h])
            · subst h; exact .inl (by simp)
        · rw [gt_set x0 (by rw [i1]; exact x1) a, mhas_put]
          by_cases h : x = i
          · simp [h]
          · simp [h]; exact i5 i a b

/-- the list that tells what is reached -/
def IsR (G : List (List Int)) (R : List Bool) : Prop := R.length = G.length ∧ ∀ i : Int, 0 ≤ i → i < (G.length : Int) → (gt R i = true ↔ Rch G i)

theorem IsR.uniq {G : List (List Int)} {R R' : List Bool} (h : IsR G R) (h' : IsR G R') : R = R' := by
  apply List.ext_getElem
  · rw [h.1, h'.1]
  · intro i h1 h2
    have hi : (i : Int) < (G.length : Int) := by have := h.1; omega
    have a := h.2 i (by omega) hi
    have b := h'.2 i (by omega) hi
    have e1 : gt R (i : Int) = R[i] := by simp [gt, h1]
    have e2 : gt R' (i : Int) = R'[i] := by simp [gt, h2]
    rw [e1] at a; rw [e2] at b
    exact Bool.eq_iff_iff.2 (a.trans b.symm)

theorem reached_prog {F : Nat} {p : List Instr} (hF : 9000 ≤ F) (hp : p.length ≤ 1000) (hw : WF p) (ho : okP p = true) (hv : Valid (stp p)) : ∃ R, fn21 F p = some R ∧ IsR (stp p) R := by
  have hl : (stp p).length = p.length := by rw [stp_length, ho]; rfl
  obtain ⟨hne, hlen⟩ := ok_len ho
  have hpos : 0 < p.length := List.length_pos_iff.2 hne
  have he : (stp p).isEmpty = false := by
    cases h : stp p with
    | nil => rw [h] at hl; simp at hl; omega
    | cons _ _ => rfl
  have g : (decide (0 ≤ (p.length : Int)) && decide ((p.length : Int) ≤ (p.length : Int)) && decide ((1 : Int) * (p.length : Int) ≤ 281474976710656) && decide ((p.length : Int) ≤ 9223372036854775807)) = true := by simp; omega
  rw [fn21, steps_prog (by omega) (by omega) hw, Option.bind_some, he, g]
  have hm0 : ∀ i : Int, mhas ([] : List (Int × U)) i = false := fun _ => rfl
  have hpush : fn46 (⟨([] : List Int)⟩ : S_flow_stack_int_) ([0] : List Int) = some ⟨[0]⟩ := by decide
  simp only [cond_true, cond_false, hpush, Option.bind_some]
  have hI : RInv (stp p) [0] [] (List.replicate p.length false) := by
    refine ⟨by simp [hl], fun t ht => ?_, fun i hi => (by rw [hm0] at hi; cases hi), .inr (by simp), fun i a b => ?_⟩
    · simp at ht; subst ht; exact ⟨by omega, by omega, .base⟩
    · rw [hm0]; simp [gt, List.getD_eq_getElem?_getD, List.getElem?_replicate]; split <;> rfl
  have hc := cnt_le (mhas ([] : List (Int × U))) (stp p).length
  obtain ⟨met', out', e1, j1, j2, j3, j4, j5⟩ := reach_loop hv (by omega) (by omega) F [0] [] (List.replicate p.length false) hI (by simp; omega) (by simp; omega)
  rw [show ((p.length : Int)).toNat = p.length from by omega, fn72]
  rw [e1]
  refine ⟨out', rfl, j1, fun i a b => ?_⟩
  rw [j5 i a b]
  refine ⟨fun h => (j3 i h).1, fun h => ?_⟩
  clear a b
  induction h with
  | base => simpa using j4
  | step h ht ih => simpa using (j3 _ ih).2 _ ht
end Go.Proofs.Ytbpldfhehpjbaaa
