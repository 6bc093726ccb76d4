/- Regions that draw their order: operations that only read, in whatever order, and a chain of operations that act. -/
import Derived.Test.YtbpldfhehpjbaaaHwSub
namespace Go.HW
open Go Go.RowKit
set_option linter.unusedVariables false

/-- an operation's end: the stage's heap, its slot -/
def EffQ (c : Cx) (P' : Hp → Prop) (dst : Option Tmp) (v : Value) : Exit → Act → World → Prop :=
  Exit.then (fun a w => ∃ H', P' H' ∧ Sat c (putS [] dst v) H' a w) (fun _ _ _ => False)

theorem TE.eff {c : Cx} {L : Slots} {H : Hp} {P' : Hp → Prop} {dst : Option Tmp} {v : Value} (hp : P' H) (hL : subB (putS [] dst v) L) : TE (EffQ c P' dst v) .normal c L H :=
  fun a w s => ⟨H, hp, s.weak hL.weak (List.Sublist.refl _)⟩

/-- what an operation must do at the stages at which it may come: 'at j k': stage j, to stage k -/
structure OpAt (c : Cx) (ops : Array Oper) (L0 : Slots) (V : Nat → Value) (Pst : Nat → Hp → Prop) (k : Nat) (o : Oper) (j j' : Nat) : Prop where
  ok : ∃ Lk, LkOk ops L0 V o Lk ∧ ∀ H, Pst j H → TO c ops (EffQ c (Pst j') o.dst (V k)) [o] Lk H

def bindsOn (o : Oper) (i : Nat) : Bool := o.after.toList.any fun e => Region.binds .any e && Nat.beq e.on i
/-- operation k may come at stage j: what acts ahead of it has acted, what waits for it has not -/
def mayAt (l : List Oper) (es : List Nat) (k : Nat) (j : Nat) : Bool :=
  match l[k]? with
  | none => false
  | some o => (List.range es.length).all fun i => (!bindsOn o (es.getD i 0) || Nat.blt i j) && (Nat.ble j i || !(match l[es.getD i 0]? with | some e => bindsOn e k | none => false)) && (Nat.ble j i || !Nat.beq (es.getD i 0) k)

/-- the chain: each that acts waits for the one ahead of it -/
def chainB (l : List Oper) : List Nat → Bool
  | a :: b :: r => (match l[b]? with | some o => bindsOn o a | none => false) && chainB l (b :: r)
  | _ => true

def backB : List Oper → Nat → Bool
  | [], _ => true
  | o :: l, k => (o.after.toList.all fun e => !Region.binds .any e || Nat.blt e.on k) && backB l (k + 1)
theorem backB_spec : ∀ {l : List Oper} {k : Nat}, backB l k = true → ∀ (j : Nat) (o : Oper), l[j]? = some o → ∀ e ∈ o.after, Region.binds .any e = true → e.on < k + j
  | [], k, h, j, o, hj => by simp at hj
  | x :: l, k, h, j, o, hj => by
    simp only [backB, Bool.and_eq_true, List.all_eq_true] at h
    cases j with
    | zero =>
      simp at hj; subst hj
      intro e he hb
      have := h.1 e (by simpa using he)
      simp [hb, Nat.blt_eq] at this; simpa using this
    | succ j =>
      have := backB_spec h.2 j o (by simpa using hj)
      rw [show k + (j + 1) = k + 1 + j from by omega]; exact this

section
variable {c : Cx} {Q : Exit → Act → World → Prop} {L0 : Slots} {V : Nat → Value} {l : List Oper} {Pst : Nat → Hp → Prop} {es : List Nat}

/-- what holds on the way -/
def JE (c : Cx) (l : List Oper) (L0 : Slots) (V : Nat → Value) (Pst : Nat → Hp → Prop) (es : List Nat) (listed : Array Bool) (a : Act) (w : World) : Prop :=
  ∃ j H, Pst j H ∧ Sat c L0 H a w ∧ (∀ i, i < es.length → (listed.getD (es.getD i 0) false = true ↔ i < j)) ∧ j ≤ es.length ∧
    ∀ (k : Nat) (o : Oper) (d : Nat), listed.getD k false = true → l[k]? = some o → o.dst = some d → a.tmps.getD d undef = V k

theorem eff_upon {o : Oper} {a : Act} {w : World} {P' : Hp → Prop} {v : Value} {K : Act → World → Prop}
    (h : o.wpIn (FW c.ro) 1 c.P a w (EffQ c P' o.dst v .normal) (EffQ c P' o.dst v))
    (hK : ∀ u w' H', P' H' → Sat c (putS [] o.dst v) H' (a.put o.dst u) w' → K (a.put o.dst u) w') (hnd : notDefer o.op = true) (hds : a.defers = c.ds) : o.wpIn (FW c.ro) 1 c.P a w K Q := by
  unfold Oper.wpIn at *
  refine ⟨h.1, ?_⟩
  have hh := h.2
  have hsem : o.semAt (FW c.ro).round a.eval = execOp a.eval o := Oper.semAt_eq _ _ _ (fun d hd => by rw [hd] at hnd; cases hnd)
  rw [hsem] at hh ⊢
  generalize hr : (execOp a.eval o).run c.P w = r at *
  cases r with
  | ok x w' =>
    cases x with
    | value u => obtain ⟨H', h1, h2⟩ := hh; exact hK u w' H' h1 h2
    | skip => obtain ⟨H', h1, h2⟩ := hh; exact hK undef w' H' h1 h2
    | enter f args => exact ⟨hh.1, CallsIn.mono hh.2 (fun e w'' he => by
        cases e with
        | returned u => obtain ⟨H', h1, h2⟩ := he; exact hK u w'' H' h1 h2
        | panicked ch => exact he.elim
        | outgrown => obtain ⟨_, _, hf⟩ := he; exact hf.elim)⟩
    | row r args => exact ⟨hh.1, RowsIn.mono hh.2 (fun u w'' he => by obtain ⟨H', h1, h2⟩ := he; exact hK u w'' H' h1 h2)⟩
    | round l' f tm as bd => exact ⟨hh.1, RoundIn.mono hh.2 (fun e w'' he => by
        cases e with
        | returned u => obtain ⟨H', h1, h2⟩ := he; exact hK u w'' H' h1 h2
        | panicked ch => exact he.elim
        | outgrown => obtain ⟨_, _, hf⟩ := he; exact hf.elim)⟩
    | defer d =>
      obtain ⟨H', h1, h2⟩ := hh
      have h3 := h2.defers
      have h4 := congrArg List.length h3
      rw [← hds] at h4
      cases hdst : o.dst <;> simp [Act.put, hdst] at h4
    | _ => exact hh.elim
  | halt x w' => cases x <;> first | exact hh.elim | exact (by simp [Oper.uponIn, EffQ] at hh)

theorem hasKey_none : ∀ {L : Slots} {d : Nat}, hasKey L d = false → ∀ t {v : Value}, look L t = some v → t = d → False
  | [], _, _, _, _, hl, _ => by simp [look] at hl
  | (k, u) :: L, d, h, t, v, hl, e => by
    subst e
    simp only [hasKey] at h
    simp only [look] at hl
    cases hb : Nat.beq k t with
    | true => rw [hb] at h; cases h
    | false => rw [hb] at h hl; exact hasKey_none h t hl rfl

theorem lk_sat {H : Hp} {a : Act} {w : World} {o : Oper} (s : Sat c L0 H a w) (hv : ∀ (j : Nat) (oj : Oper) (d : Nat), bindsOn o j = true → l[j]? = some oj → oj.dst = some d → a.tmps.getD d undef = V j) :
    ∀ {Lk : Slots}, LkOk l.toArray L0 V o Lk → Sat c Lk H a w
  | _, .nil => ⟨s.size, s.defers, fun t v h => by simp [look] at h, s.ext, s.nodup, s.heap, s.own⟩
  | _, @LkOk.old _ _ _ _ t u Lk h r => by
    have ih := lk_sat s hv r
    refine ⟨s.size, s.defers, fun t' v hl => ?_, s.ext, s.nodup, s.heap, s.own⟩
    simp only [look] at hl
    cases hb : Nat.beq t t' with
    | true => rw [hb] at hl; have := Nat.eq_of_beq_eq_true hb; subst this; cases hl; exact s.slots t u h
    | false => rw [hb] at hl; exact ih.slots t' v hl
  | _, @LkOk.dat _ _ _ _ t u Lk j he hd hvj r => by
    have ih := lk_sat s hv r
    refine ⟨s.size, s.defers, fun t' v hl => ?_, s.ext, s.nodup, s.heap, s.own⟩
    simp only [look] at hl
    cases hb : Nat.beq t t' with
    | true =>
      rw [hb] at hl; have := Nat.eq_of_beq_eq_true hb; subst this; cases hl
      cases hj : l[j]? with
      | none => simp [hj] at hd
      | some oj =>
        simp [hj] at hd
        rw [hv j oj t he hj hd, hvj]
    | false => rw [hb] at hl; exact ih.slots t' v hl

def nxt (es : List Nat) (k j : Nat) : Nat := if es[j]? = some k then j + 1 else j

theorem chainB_spec : ∀ {es : List Nat}, chainB l es = true → ∀ (i a b : Nat), es[i]? = some a → es[i + 1]? = some b → ∃ o, l[b]? = some o ∧ bindsOn o a = true
  | [], _, i, a, b, h, _ => by simp at h
  | [x], _, i, a, b, h, h' => by simp at h'
  | x :: y :: r, hc, i, a, b, h, h' => by
    simp only [chainB, Bool.and_eq_true] at hc
    cases i with
    | zero =>
      simp at h h'; subst h; subst h'
      cases hl : l[y]? with
      | none => rw [hl] at hc; simp at hc
      | some o => rw [hl] at hc; exact ⟨o, rfl, hc.1⟩
    | succ i => exact chainB_spec hc.2 i a b (by simpa using h) (by simpa using h')

theorem bindsOn_iff {o : Oper} {i : Nat} : bindsOn o i = true ↔ ∃ e ∈ o.after, Region.binds .any e = true ∧ e.on = i := by
  simp only [bindsOn, List.any_eq_true, Bool.and_eq_true]
  constructor
  · rintro ⟨e, he, hb, hi⟩; exact ⟨e, by simpa using he, hb, Nat.eq_of_beq_eq_true hi⟩
  · rintro ⟨e, he, hb, hi⟩; exact ⟨e, by simpa using he, hb, by subst hi; simp⟩

theorem drawE_any (hback : backB l 0 = true) (hchain : chainB l es = true) (hes : ∀ i ∈ es, i < l.length) (hdst : dstB L0 l [] = true) (hokd : ∀ (k : Nat) (o : Oper) (d : Nat), l[k]? = some o → o.dst = some d → d < c.n)
    (hnd : ∀ o ∈ l, notDefer o.op = true)
    (hop : ∀ (k : Nat) (o : Oper), l[k]? = some o → ∀ j, j ≤ es.length → mayAt l es k j = true → OpAt c l.toArray L0 V Pst k o j (nxt es k j))
    (hfin : ∀ a w H, Pst es.length H → Sat c L0 H a w → (∀ (k : Nat) (o : Oper) (d : Nat), l[k]? = some o → o.dst = some d → a.tmps.getD d undef = V k) → Q .normal a w) :
    ∀ (fuel : Nat) (listed : Array Bool) (a : Act) (w : World), listed.size = l.length → JE c l L0 V Pst es listed a w →
      (∀ (k : Nat) (o : Oper) (i : Nat), listed.getD k false = true → l[k]? = some o → bindsOn o i = true → listed.getD i false = true) →
      ((List.range l.length).filter fun k => !listed.getD k false).length ≤ fuel → wpAnyIn (FW c.ro) 1 c.P .any l.toArray Q fuel listed a w := by
  have hdspec := dstB_spec hdst
  have hset : ∀ (listed : Array Bool) (i k : Nat), listed.size = l.length → k < l.length → (listed.setIfInBounds i true).getD k false = if k = i then true else listed.getD k false := by
    intro listed i k hs hk
    by_cases h : k = i
    · subst h; simp [Array.getD, hs, hk]
    · rw [if_neg h]; simp [Array.getD, hs, hk, Ne.symm h]
  have hlt : ∀ (listed : Array Bool) (k : Nat), listed.size = l.length → listed.getD k false = true → k < l.length := by
    intro listed k hs h
    rcases Nat.lt_or_ge k l.length with h' | h'
    · exact h'
    · simp [Array.getD, hs, show ¬ k < l.length from by omega] at h
  have hall : ∀ (listed : Array Bool) (a : Act) (w : World), listed.size = l.length → JE c l L0 V Pst es listed a w → (∀ k, k < l.length → listed.getD k false = true) → Q .normal a w := by
    rintro listed a w hs ⟨j, H, hP, hS, hst, hj, hv⟩ hl
    have hje : j = es.length := by
      rcases Nat.lt_or_ge j es.length with h | h
      · have := (hst j h).1 (hl _ (hes _ (by simp [List.getD, h])))
        omega
      · omega
    subst hje
    refine hfin a w H hP hS fun k o d hk hd => hv k o d (hl k ?_) hk hd
    exact (List.getElem?_eq_some_iff.1 hk).1
  intro fuel
  induction fuel with
  | zero =>
    intro listed a w hs hJ hcl hf
    have hnone : ∀ k, k < l.length → listed.getD k false = true := by
      intro k hk
      cases hh : listed.getD k false with
      | true => rfl
      | false =>
        have : k ∈ (List.range l.length).filter fun k => !listed.getD k false := by simp [hk]; simpa using hh
        have h0 : ((List.range l.length).filter fun k => !listed.getD k false) = [] := List.eq_nil_of_length_eq_zero (by omega)
        rw [h0] at this; cases this
    refine ⟨?_, hall listed a w hs hJ hnone⟩
    cases hr : Region.ready .any l.toArray listed with
    | nil => rfl
    | cons i r =>
      obtain ⟨h1, o, h2, h3⟩ := mem_ready.1 (by rw [hr]; simp : i ∈ Region.ready .any l.toArray listed)
      have hi : i < l.length := (List.getElem?_eq_some_iff.1 (by simpa using h2)).1
      have := hnone i hi
      simp [Array.getD, hs, hi] at this h1; rw [this] at h1; cases h1
  | succ fuel ih =>
    intro listed a w hs hJ hcl hf
    refine ⟨fun h0 => hall listed a w hs hJ fun k hk => ?_, fun i hi => ?_⟩
    · -- all is listed: else the least one is ready
      refine Nat.strongRecOn k (motive := fun k => k < l.length → listed.getD k false = true) (fun k ihk hk => ?_) hk
      cases hh : listed.getD k false with
      | true => rfl
      | false =>
        have : k ∈ Region.ready .any l.toArray listed := by
          refine mem_ready.2 ⟨by simp [Array.getD, hs, hk] at hh ⊢; exact hh, l[k], by simp [hk], fun e he hb => ?_⟩
          have := backB_spec hback k l[k] (by simp [hk]) e he hb
          exact ihk e.on (by omega) (by omega)
        rw [h0] at this; cases this
    · obtain ⟨h1, o, h2, h3⟩ := mem_ready.1 hi
      have ho : l[i]? = some o := by simpa using h2
      have hil : i < l.length := (List.getElem?_eq_some_iff.1 ho).1
      have hun : listed.getD i false = false := by simp [Array.getD, hs, hil] at h1 ⊢; exact h1
      have hpre : ∀ m, bindsOn o m = true → listed.getD m false = true := fun m hm => by
        obtain ⟨e, he, hb, rfl⟩ := bindsOn_iff.1 hm; exact h3 e he hb
      obtain ⟨j, H, hP, hS, hst, hj, hv⟩ := hJ
      have hmay : mayAt l es i j = true := by
        simp only [mayAt, ho, List.all_eq_true, List.mem_range, Bool.and_eq_true, Bool.or_eq_true, Bool.not_eq_true']
        intro t ht
        refine ⟨⟨?_, ?_⟩, ?_⟩
        · cases hb : bindsOn o (es.getD t 0) with
          | false => exact .inl rfl
          | true => exact .inr (by simpa [Nat.blt_eq] using (hst t ht).1 (hpre _ hb))
        · rcases Nat.lt_or_ge t j with h | h
          · right
            have hl := (hst t ht).2 h
            cases he : l[es.getD t 0]? with
            | none => rfl
            | some e =>
              simp only
              cases hb : bindsOn e i with
              | false => rfl
              | true => have := hcl _ e i hl he hb; rw [hun] at this; cases this
          · exact .inl (Nat.ble_eq_true_of_le h)
        · rcases Nat.lt_or_ge t j with h | h
          · right
            have hl := (hst t ht).2 h
            cases hb : Nat.beq (es.getD t 0) i with
            | false => rfl
            | true => have := Nat.eq_of_beq_eq_true hb; rw [this, hun] at hl; cases hl
          · exact .inl (Nat.ble_eq_true_of_le h)
      obtain ⟨Lk, hLk, hto⟩ := (hop i o ho j hj hmay).ok
      have hSk := lk_sat hS (fun m om d hb hm hd => hv m om d (hpre m hb) hm hd) hLk
      have hgo := hto H hP a w hSk
      have hnxt : ∀ t, t < es.length → es.getD t 0 = i → t = j := by
        intro t ht he
        have h1 : ¬ t < j := fun h => by have := (hst t ht).2 h; rw [he, hun] at this; cases this
        rcases Nat.eq_zero_or_pos t with h0 | h0
        · omega
        · obtain ⟨m, rfl⟩ : ∃ m, t = m + 1 := ⟨t - 1, by omega⟩
          have hm : m < es.length := by omega
          obtain ⟨o', ho', hb⟩ := chainB_spec hchain m es[m] es[m + 1] (by simp [hm]) (by simp [ht])
          have he' : es[m + 1] = i := by simpa [List.getD, ht] using he
          rw [he', ho] at ho'; cases ho'
          have := (hst m hm).1 (by have := hpre _ hb; simpa [List.getD, hm] using this)
          omega
      have hK : ∀ u w' H', Pst (nxt es i j) H' → Sat c (putS [] o.dst (V i)) H' (a.put o.dst u) w' → wpAnyIn (FW c.ro) 1 c.P .any l.toArray Q fuel (listed.setIfInBounds i true) (a.put o.dst u) w' := by
        intro u w' H' hP' hS'
        have hkeep : ∀ t, o.dst ≠ some t → (a.put o.dst u).tmps.getD t undef = a.tmps.getD t undef := by
          intro t ht
          cases hd : o.dst with
          | none => rfl
          | some d =>
            have hne : d ≠ t := fun e => ht (by rw [hd, e])
            show (a.tmps.setIfInBounds d u).getD t undef = _
            simp only [Array.getD, Array.size_setIfInBounds]
            split
            · rename_i ht'; exact Array.getElem_setIfInBounds_ne ht' hne
            · rfl
        refine ih _ _ _ (by simpa using hs) ⟨nxt es i j, H', hP', ⟨hS'.size, hS'.defers, fun t v hl => ?_, hS'.ext, hS'.nodup, hS'.heap, hS'.own⟩, ?_, ?_, ?_⟩ ?_ ?_
        · rw [hkeep t (fun hd => ?_)]
          · exact hS.slots t v hl
          · have := (hdspec.1 i o t ho hd).1
            exact hasKey_none this t hl rfl
        · intro t ht
          rw [hset listed i _ hs (hes _ (by simp [List.getD, ht]))]
          by_cases he : es.getD t 0 = i
          · have hz := hnxt t ht he
            subst hz
            have : es[t]? = some i := by rw [← he]; simp [List.getD, ht]
            simp [nxt, this]
          · rw [if_neg he, hst t ht]
            unfold nxt
            split
            · rename_i hji
              constructor
              · intro h; omega
              · intro h
                rcases Nat.lt_or_ge t j with h' | h'
                · exact h'
                · have : t = j := by omega
                  subst this
                  exact absurd (by simp [List.getD, hji]) he
            · rfl
        · unfold nxt; split
          · rename_i hji; have := (List.getElem?_eq_some_iff.1 hji).1; omega
          · exact hj
        · intro k o' d hl hk hd
          have hkl : k < l.length := (List.getElem?_eq_some_iff.1 hk).1
          rw [hset listed i k hs hkl] at hl
          by_cases hki : k = i
          · subst hki
            rw [ho] at hk; cases hk
            refine hS'.slots d _ ?_
            rw [hd]; simp [putS, look]
          · rw [if_neg hki] at hl
            rw [hkeep d (fun hd' => hki (hdspec.2 k i o' o d hk ho hd hd'))]
            exact hv k o' d hl hk hd
        · intro k o' m hl hk hb
          have hkl : k < l.length := (List.getElem?_eq_some_iff.1 hk).1
          obtain ⟨e, he, hbe, hem⟩ := bindsOn_iff.1 hb
          have hml : m < l.length := by have := backB_spec hback k o' hk e he hbe; omega
          rw [hset listed i k hs hkl] at hl
          rw [hset listed i m hs hml]
          by_cases hmi : m = i
          · rw [if_pos hmi]
          · rw [if_neg hmi]
            by_cases hki : k = i
            · subst hki; rw [ho] at hk; cases hk; exact hpre m hb
            · rw [if_neg hki] at hl; exact hcl k o' m hl hk hb
        · have hsub : ((List.range l.length).filter fun k => !(listed.setIfInBounds i true).getD k false) = (((List.range l.length).filter fun k => !listed.getD k false).filter (· != i)) := by
            rw [List.filter_filter]
            apply List.filter_congr
            intro k hk
            have hk' : k < l.length := by simpa using hk
            rw [hset listed i k hs hk']
            by_cases h : k = i
            · subst h; simp
            · simp [h]
          rw [hsub]
          have hmem : i ∈ (List.range l.length).filter fun k => !listed.getD k false := by simp [hil]; simpa using hun
          have h1 := List.length_filter_le (· != i) ((List.range l.length).filter fun k => !listed.getD k false)
          rcases Nat.lt_or_ge (((List.range l.length).filter fun k => !listed.getD k false).filter (· != i)).length ((List.range l.length).filter fun k => !listed.getD k false).length with h | h
          · omega
          · have heq := Nat.le_antisymm h1 h
            have := List.length_filter_eq_length_iff.1 heq i hmem
            simp at this
      unfold wpOpIn
      simp only [h2]
      unfold wpListIn at hgo
      split
      · rename_i hw
        rw [if_pos hw] at hgo
        exact eff_upon (c := c) (P' := Pst (nxt es i j)) (v := V i) hgo hK (hnd o (List.mem_of_getElem? ho)) hS.defers
      · rename_i hw
        rw [if_neg hw] at hgo
        obtain ⟨hab, H', h1', h2'⟩ := hgo
        exact ⟨hab, hK undef w H' h1' h2'⟩

inductive StAll (c : Cx) (ops : Array Oper) (L0 : Slots) (V : Nat → Value) (Pst : Nat → Hp → Prop) (es : List Nat) (k : Nat) (o : Oper) : List Nat → Prop
  | nil : StAll c ops L0 V Pst es k o []
  | cons {j j' : Nat} {js : List Nat} (Lk : Slots) (hl : LkOk ops L0 V o Lk) (hj : nxt es k j = j') (h : ∀ H, Pst j H → TO c ops (EffQ c (Pst j') o.dst (V k)) [o] Lk H) (r : StAll c ops L0 V Pst es k o js) : StAll c ops L0 V Pst es k o (j :: js)
theorem StAll.at {ops : Array Oper} {k : Nat} {o : Oper} : ∀ {js : List Nat}, StAll c ops L0 V Pst es k o js → ∀ j ∈ js, OpAt c ops L0 V Pst k o j (nxt es k j)
  | _, .nil, j, h => by cases h
  | _, .cons Lk hl hj h r, j, hm => by
    cases hm with
    | head => exact ⟨⟨Lk, hl, hj ▸ h⟩⟩
    | tail _ hm => exact r.at j hm
def stagesB (l : List Oper) (es : List Nat) (k : Nat) (js : List Nat) : Bool := (List.range (es.length + 1)).all fun j => !mayAt l es k j || js.any (Nat.beq j)

def OpAll (c : Cx) (l : List Oper) (L0 : Slots) (V : Nat → Value) (Pst : Nat → Hp → Prop) (es : List Nat) (k : Nat) (os : List Oper) : Prop :=
  ∀ (i : Nat) (o : Oper), os[i]? = some o → ∀ j, j ≤ es.length → mayAt l es (k + i) j = true → OpAt c l.toArray L0 V Pst (k + i) o j (nxt es (k + i) j)
theorem OpAll.nil {k : Nat} : OpAll c l L0 V Pst es k [] := fun i o h => by simp at h
theorem OpAll.cons {k : Nat} {o : Oper} {os : List Oper} (js : List Nat) (hs : stagesB l es k js = true) (h : StAll c l.toArray L0 V Pst es k o js) (r : OpAll c l L0 V Pst es (k + 1) os) : OpAll c l L0 V Pst es k (o :: os) := by
  intro i o' hi j hj hm
  cases i with
  | zero =>
    simp at hi; subst hi
    refine h.at j ?_
    have := List.all_eq_true.1 hs j (by simp; omega)
    rw [Nat.add_zero] at hm
    rw [hm] at this
    simp only [Bool.not_true, Bool.false_or] at this
    obtain ⟨x, hx, hb⟩ := List.any_eq_true.1 this
    have := Nat.eq_of_beq_eq_true hb
    subst this; exact hx
  | succ i =>
    have := r i o' (by simpa using hi) j hj (by rw [show k + 1 + i = k + (i + 1) from by omega]; exact hm)
    rwa [show k + 1 + i = k + (i + 1) from by omega] at this

def ndAll : List Oper → Bool
  | [] => true
  | o :: l => notDefer o.op && ndAll l
theorem ndAll_spec : ∀ {l : List Oper}, ndAll l = true → ∀ o ∈ l, notDefer o.op = true
  | [], _, o, h => by cases h
  | x :: l, h, o, hm => by
    simp only [ndAll, Bool.and_eq_true] at h
    cases hm with
    | head => exact h.1
    | tail _ hm => exact ndAll_spec h.2 o hm

/-- A REGION THAT DRAWS, with a chain of operations that act -/
theorem TC.drawE {id : Nat} {H : Hp} (hm : c.P.follows .mixedOrders = true) (es : List Nat) (vs : List Value) (ds : Slots) (Pst : Nat → Hp → Prop) (hb : backB l 0 = true) (hc : chainB l es = true) (hes : es.all (fun i => Nat.blt i l.length) = true)
    (hd : dstB L0 l [] = true) (hok : okAll c.n l = true) (hnd : ndAll l = true) (hP : Pst 0 H) (hq : OpAll c l L0 (fun k => vs.getD k undef) Pst es 0 l) (hds : DsOk l.toArray (fun k => vs.getD k undef) l.length ds)
    (h : ∀ H', Pst es.length H' → TE Q .normal c (ds ++ L0) H') : TC c (.region id l.toArray true) Q L0 H := by
  intro a w s
  refine wpIn_region_any hm ?_
  have s1 : Sat c L0 H a { w with drawn := w.drawn + 1 } := ⟨s.size, s.defers, s.slots, ⟨s.ext.os, s.ext.tape, s.ext.output, s.ext.size, s.ext.same⟩, s.nodup, s.heap, s.own⟩
  have hfalse : ∀ k, (Array.replicate l.toArray.size false).getD k false = false := by intro k; simp [Array.getD]
  refine drawE_any (V := fun k => vs.getD k undef) (Pst := Pst) (es := es) hb hc (fun i hi => by simpa [Nat.blt_eq] using List.all_eq_true.1 hes i hi) hd (fun k o d hk ho => okAll_spec hok k o d hk ho) (ndAll_spec hnd)
    (fun k o hk j hj hmay => by have := hq k o hk j hj (by rw [Nat.zero_add]; exact hmay); rwa [Nat.zero_add] at this) ?_ _ _ _ _ (by simp) ⟨0, H, hP, s1, fun i hi => ⟨fun h => (by rw [hfalse] at h; cases h), fun h => absurd h (Nat.not_lt_zero _)⟩, Nat.zero_le _, fun k o d hl => by rw [hfalse] at hl; cases hl⟩
    (fun k o i hl => by rw [hfalse] at hl; cases hl) (Nat.le_trans (List.length_filter_le _ _) (by simp))
  intro a' w' H' hP' hS' hv
  refine h H' hP' a' w' ⟨hS'.size, hS'.defers, fun t v hl => ?_, hS'.ext, hS'.nodup, hS'.heap, hS'.own⟩
  rcases look_append hl with hl' | hl'
  · exact hds.look_ok (fun j oj d hj ho hdd => hv j oj d ho hdd) hl'
  · exact hS'.slots t v hl'
end
end Go.HW
