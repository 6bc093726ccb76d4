/- Plain: is there a way round: the program's answer. -/
import Derived.Test.YtbpldfhehpjbaaaPlReach
namespace Go.Proofs.Ytbpldfhehpjbaaa
open Go Go.HW
set_option maxRecDepth 8000
set_option linter.unusedVariables false

/-- there is a way round: slots that are reached, each of which goes on to one of them -/
def Rnd (G : List (List Int)) : Prop := ∃ X : List Int, X ≠ [] ∧ ∀ x ∈ X, Rch G x ∧ ∃ t ∈ gt G x, t ∈ X

section
variable {κ α : Type} [DecidableEq κ]
theorem mhas_iff (xs : List (κ × α)) (k : κ) : mhas xs k = true ↔ ∃ q ∈ xs, q.1 = k := by
  induction xs with
  | nil => simp [mhas, mfind]
  | cons p xs ih =>
    by_cases h : p.1 = k
    · constructor
      · intro _; exact ⟨p, by simp, h⟩
      · intro _; simp [mhas, mfind, h]
    · have e : mhas (p :: xs) k = mhas xs k := by simp [mhas, mfind, h]
      rw [e, ih]
      constructor
      · rintro ⟨q, h1, h2⟩; exact ⟨q, by simp [h1], h2⟩
      · rintro ⟨q, h1, h2⟩
        rcases List.mem_cons.1 h1 with rfl | h1
        · exact absurd h2 h
        · exact ⟨q, h1, h2⟩
theorem mput_new : ∀ (xs : List (κ × α)) (k : κ) (v : α), mhas xs k = false → mput xs k v = xs ++ [(k, v)]
  | [], k, v, _ => rfl
  | p :: xs, k, v, h => by
    by_cases hp : p.1 = k
    · simp [mhas, mfind, hp] at h
    · have : mhas xs k = false := by simpa [mhas, mfind, hp] using h
      simp [mput, hp, mput_new xs k v this]
def KND (xs : List (κ × α)) : Prop := (xs.map (·.1)).Nodup
theorem KND.push {xs : List (κ × α)} {k : κ} {v : α} (h : KND xs) (hk : mhas xs k = false) : KND (mput xs k v) := by
  rw [mput_new xs k v hk, KND, List.map_append, List.nodup_append]
  refine ⟨h, by simp, fun a ha b hb => ?_⟩
  simp at hb; subst hb
  obtain ⟨q, h1, rfl⟩ := List.mem_map.1 ha
  intro e
  have := (mhas_iff xs b).2 ⟨q, h1, e⟩
  rw [hk] at this; cases this
theorem mdel_sub : ∀ (xs : List (κ × α)) (k : κ), (mdel xs k).Sublist xs
  | [], _ => List.Sublist.refl _
  | p :: xs, k => by
    by_cases h : p.1 = k
    · simp [mdel, h]
    · simp only [mdel, h, decide_false, cond_false]; exact (mdel_sub xs k).cons_cons p
theorem KND.del {xs : List (κ × α)} {k : κ} (h : KND xs) : KND (mdel xs k) := ((mdel_sub xs k).map _).nodup h
theorem mhas_del : ∀ (xs : List (κ × α)) (k t : κ), KND xs → mhas (mdel xs k) t = (!decide (k = t) && mhas xs t)
  | [], k, t, _ => by simp [mdel, mhas, mfind]
  | p :: xs, k, t, h => by
    have hn := List.nodup_cons.1 (show (p.1 :: xs.map (·.1)).Nodup from h)
    by_cases hp : p.1 = k
    · have e : mdel (p :: xs) k = xs := by simp [mdel, hp]
      rw [e]
      by_cases ht : k = t
      · subst ht
        have : mhas xs k = false := by
          cases hh : mhas xs k with
          | false => rfl
          | true => obtain ⟨q, h1, h2⟩ := (mhas_iff xs k).1 hh; exact absurd (List.mem_map.2 ⟨q, h1, h2.trans hp.symm⟩) hn.1
        simp [this]
      · have : ¬ p.1 = t := by rw [hp]; exact ht
        have e2 : mhas (p :: xs) t = mhas xs t := by simp [mhas, mfind, this]
        rw [e2]; simp [ht]
    · have e : mdel (p :: xs) k = p :: mdel xs k := by simp [mdel, hp]
      rw [e]
      have ih := mhas_del xs k t hn.2
      by_cases ht : p.1 = t
      · have : ¬ k = t := fun e => hp (ht.trans e.symm)
        simp [mhas, mfind, ht, this]
      · have e2 : mhas (p :: xs) t = mhas xs t := by simp [mhas, mfind, ht]
        have e3 : mhas (p :: mdel xs k) t = mhas (mdel xs k) t := by simp [mhas, mfind, ht]
        rw [e2, e3, ih]
end

/-- v may follow the way 'path', the youngest first -/
def Nxt (G : List (List Int)) (path : List Int) (v : Int) : Prop := match path with | [] => v = 0 | m :: _ => v ∈ gt G m
/-- the stack, the youngest first, and the way that its marks tell -/
def Stk (G : List (List Int)) : List Visit → List Int → Prop
  | [], path => path = []
  | e :: rs, path => if e.fleft = true then ∃ pt, path = e.fat :: pt ∧ Nxt G pt e.fat ∧ Stk G rs pt else Nxt G path e.fat ∧ Stk G rs path

theorem Stk.push {G : List (List Int)} {rs : List Visit} {path : List Int} (h : Stk G rs path) : ∀ l : List Visit, (∀ e ∈ l, e.fleft = false ∧ Nxt G path e.fat) → Stk G (l ++ rs) path
  | [], _ => h
  | e :: l, hl => by
    obtain ⟨h1, h2⟩ := hl e (by simp)
    rw [List.cons_append, Stk, if_neg (by rw [h1]; simp)]
    exact ⟨h2, Stk.push h l (fun x hx => hl x (by simp [hx]))⟩

/-- the way's slots are marks of the stack, and each is reached -/
theorem Stk.path {G : List (List Int)} : ∀ {rs : List Visit} {path : List Int}, Stk G rs path → (∀ v, v ∈ path ↔ (⟨v, true⟩ : Visit) ∈ rs) ∧ (∀ v ∈ path, Rch G v) ∧ (∀ e ∈ rs, Rch G e.fat)
  | [], path, h => by cases h; simp
  | e :: rs, path, h => by
    rw [Stk] at h
    have rn : ∀ {pt : List Int} {v : Int}, (∀ u ∈ pt, Rch G u) → Nxt G pt v → Rch G v := fun {pt v} hp hn => by
      cases pt with
      | nil => have : v = 0 := hn; subst this; exact .base
      | cons m r => exact (hp m (by simp)).step hn
    split at h
    · rename_i hl
      obtain ⟨pt, rfl, hn, hs⟩ := h
      obtain ⟨p1, p2, p3⟩ := hs.path
      have he : e = ⟨e.fat, true⟩ := by cases e; simp at hl; subst hl; rfl
      have hr := rn p2 hn
      refine ⟨fun v => ?_, fun v hv => ?_, fun x hx => ?_⟩
      · rw [List.mem_cons, List.mem_cons, p1 v]
        constructor
        · rintro (rfl | h)
          · exact .inl he.symm
          · exact .inr h
        · rintro (h | h)
          · exact .inl (congrArg Visit.fat h)
          · exact .inr h
      · rcases List.mem_cons.1 hv with rfl | hv
        · exact hr
        · exact p2 v hv
      · rcases List.mem_cons.1 hx with rfl | hx
        · exact hr
        · exact p3 x hx
    · rename_i hl
      obtain ⟨hn, hs⟩ := h
      obtain ⟨p1, p2, p3⟩ := hs.path
      refine ⟨fun v => ?_, p2, fun x hx => ?_⟩
      · rw [p1 v, List.mem_cons]
        constructor
        · exact .inr
        · rintro (h | h)
          · exact absurd (by rw [← h]) hl
          · exact h
      · rcases List.mem_cons.1 hx with rfl | hx
        · exact rn p2 hn
        · exact p3 x hx

/-- along the way each slot is one to which the elder one goes on -/
def Chn (G : List (List Int)) : List Int → Prop
  | [] => True
  | v :: pt => Nxt G pt v ∧ Chn G pt
theorem Stk.chn {G : List (List Int)} : ∀ {rs : List Visit} {path : List Int}, Stk G rs path → Chn G path
  | [], path, h => by cases h; trivial
  | e :: rs, path, h => by
    rw [Stk] at h
    split at h
    · obtain ⟨pt, rfl, hn, hs⟩ := h; exact ⟨hn, hs.chn⟩
    · exact h.2.chn

/-- the part of the way from its youngest down to v goes round, if its youngest goes on to v -/
theorem Chn.round {G : List (List Int)} : ∀ {path : List Int} {v : Int}, Chn G path → v ∈ path → ∃ X r, path = X ++ r ∧ X ≠ [] ∧ v ∈ X ∧ ∀ x ∈ X, x = path.headD 0 ∨ ∃ t ∈ gt G x, t ∈ X
  | a :: pt, v, h, hv => by
    by_cases hav : v = a
    · subst hav; exact ⟨[v], pt, rfl, by simp, by simp, fun x hx => .inl (by simpa using hx)⟩
    · have hv' : v ∈ pt := by simpa [hav] using hv
      obtain ⟨X, r, e1, e2, e3, e4⟩ := Chn.round h.2 hv'
      refine ⟨a :: X, r, by rw [e1]; rfl, by simp, by simp [e3], fun x hx => ?_⟩
      rcases List.mem_cons.1 hx with rfl | hx
      · exact .inl rfl
      · rcases e4 x hx with h1 | ⟨t, h1, h2⟩
        · refine .inr ⟨a, ?_, by simp⟩
          have hn := h.1
          cases pt with
          | nil => simp at hv'
          | cons m q => have : x = m := h1; subst this; exact hn
        · exact .inr ⟨t, h1, by simp [h2]⟩

def Topo (G : List (List Int)) (D : List (Int × U)) : Prop := ∀ (n : Nat) (q : Int × U), D[n]? = some q → ∀ t ∈ gt G q.1, ∃ m r, m < n ∧ D[m]? = some r ∧ r.1 = t
def Cov (G : List (List Int)) (D : List (Int × U)) (rs : List Visit) : Prop := ∀ ab m be, rs = ab ++ (⟨m, true⟩ : Visit) :: be → ∀ t ∈ gt G m, mhas D t = true ∨ ∃ e ∈ ab, e.fat = t

structure LInv (G : List (List Int)) (Un D : List (Int × U)) (rs : List Visit) : Prop where
  stk : ∃ path, Stk G rs path
  un : ∀ v, mhas Un v = true ↔ (⟨v, true⟩ : Visit) ∈ rs
  knd : KND Un
  one : ((rs.filter (·.fleft)).map (·.fat)).Nodup
  grey : ∀ v, (⟨v, true⟩ : Visit) ∈ rs → mhas D v = false
  topo : Topo G D
  cov : Cov G D rs
  zero : mhas D 0 = true ∨ ∃ e ∈ rs, e.fat = 0
  size : D.length + cnt (mhas D) G.length ≤ G.length

theorem Topo.succ {G : List (List Int)} {D : List (Int × U)} (h : Topo G D) {i t : Int} (hi : mhas D i = true) (ht : t ∈ gt G i) : mhas D t = true := by
  obtain ⟨q, h1, rfl⟩ := (mhas_iff D i).1 hi
  obtain ⟨n, hn, e⟩ := List.mem_iff_getElem.1 h1
  obtain ⟨m, r, _, h3, h4⟩ := h n q (by rw [List.getElem?_eq_some_iff]; exact ⟨hn, e⟩) t ht
  exact (mhas_iff D t).2 ⟨r, List.mem_of_getElem? h3, h4⟩

theorem Topo.none {G : List (List Int)} {D : List (Int × U)} (h : Topo G D) (h0 : mhas D 0 = true) : ¬ Rnd G := by
  rintro ⟨X, hne, hX⟩
  have hall : ∀ i, Rch G i → mhas D i = true := fun i hi => by
    induction hi with
    | base => exact h0
    | step _ ht ih => exact h.succ ih ht
  have key : ∀ (n : Nat) (q : Int × U), D[n]? = some q → q.1 ∉ X := by
    intro n
    induction n using Nat.strongRecOn with
    | _ n ih =>
      intro q hq hx
      obtain ⟨_, t, ht, htX⟩ := hX _ hx
      obtain ⟨m, r, h1, h2, h3⟩ := h n q hq t ht
      exact ih m h1 r h2 (by rw [h3]; exact htX)
  cases X with
  | nil => exact hne rfl
  | cons x X =>
    obtain ⟨q, h1, h2⟩ := (mhas_iff D x).1 (hall x (hX x (by simp)).1)
    obtain ⟨n, hn, e⟩ := List.mem_iff_getElem.1 h1
    exact key n q (by rw [List.getElem?_eq_some_iff]; exact ⟨hn, e⟩) (by rw [h2]; simp)

theorem l2_push {G : List (List Int)} {v : Int} (hv : (gt G v).length ≤ 5000) : ∀ (n : Nat) (st : List Visit) (x : Nat) (b : Bool), x ≤ (gt G v).length → (gt G v).length - x < n → st.length + (gt G v).length ≤ 1000000 + x →
    fn23_l2 G ⟨v, b⟩ n st (x : Int) = some (st ++ ((gt G v).drop x).map fun t => (⟨t, false⟩ : Visit))
  | 0, st, x, b, h1, h2, h3 => by omega
  | n + 1, st, x, b, h1, h2, h3 => by
    rw [fn23_l2_s]
    by_cases hx : x < (gt G v).length
    · have g1 : decide ((x : Int) < ((gt G v).length : Int)) = true := by simp; omega
      have g2 : inb (x : Int) (gt G v).length = true := inb_iff.2 ⟨by omega, by omega⟩
      have g3 : decide ((st.length + ([(⟨gt (gt G v) (x : Int), false⟩ : Visit)] : List Visit).length) * 16 ≤ 140737488355328 ∧ st.length + ([(⟨gt (gt G v) (x : Int), false⟩ : Visit)] : List Visit).length ≤ 9223372036854775807) = true := by simp; omega
      have g4 : IntKind.i64.wrap ((x : Int) + 1) = ((x + 1 : Nat) : Int) := w64 (by omega)
      simp only [g1, g2, cond_true, fn50, g3, Option.bind_some, g4]
      rw [l2_push hv n _ (x + 1) b (by omega) (by omega) (by simp; omega), drop_gt hx]
      simp
    · have g1 : decide ((x : Int) < ((gt G v).length : Int)) = false := by simp; omega
      simp only [g1, cond_false]
      rw [List.drop_eq_nil_of_le (by omega)]; simp
end Go.Proofs.Ytbpldfhehpjbaaa
