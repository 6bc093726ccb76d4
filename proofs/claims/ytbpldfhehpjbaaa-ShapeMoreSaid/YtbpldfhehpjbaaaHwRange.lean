/- Calls that take blocks along; ranges over functions. -/
import Derived.Test.YtbpldfhehpjbaaaHwEq
import Derived.RangeFuncIn
namespace Go.HW
open Go Go.RowKit
set_option linter.unusedVariables false

/-! ### what is read from without -/
def ExtB (v : World) (V : List Nat) (w : World) (R : List Nat) : Prop := Ext v V w ∧ ∀ k ∈ R, k ∈ V ∨ v.heap.size ≤ k

theorem ExtB.tr {v w w' : World} {V R : List Nat} (h : ExtB v V w R) (e : Ext w R w') : Ext v V w' := by
  obtain ⟨h1, h2⟩ := h
  refine ⟨e.os.trans h1.os, e.tape.trans h1.tape, e.output.trans h1.output, Nat.le_trans h1.size e.size, fun k hk hV => ?_⟩
  rw [← h1.same k hk hV]
  refine e.same k (Nat.lt_of_lt_of_le hk h1.size) fun hR => ?_
  rcases h2 k hR with h | h
  · exact hV h
  · omega

def RdF {α : Type} (E : En α) (w : World) (R : List Nat) (sp : Option Addr) (xs : List α) : Prop := ∀ w', Ext w R w' → RdS E w' sp xs

theorem RdF.tr {α : Type} {E : En α} {v w : World} {V R : List Nat} {sp : Option Addr} {xs : List α} (h : RdF E v V sp xs) (hx : ExtB v V w R) : RdF E w R sp xs :=
  fun w' e => h w' (hx.tr e)
theorem RdF.nil {α : Type} {E : En α} {w : World} {R : List Nat} {sp : Option Addr} : RdF E w R sp [] := fun _ _ => .nil _ _ _
theorem RdS.rdf {α : Type} {E : En α} {w : World} {sp : Option Addr} {xs : List α} (h : RdS E w sp xs) : RdF E w [] sp xs :=
  fun w' e => h.ext e (fun _ _ => List.not_mem_nil)

section
variable {c : Cx} {L : Slots} {H : Hp} {a : Act} {w : World}
theorem Sat.extB {R : Hp} (s : Sat c L (R.add H) a w) : ExtB c.w0 c.R0 w (R.all.map (·.1)) :=
  ⟨s.ext, fun k hk => by
    obtain ⟨p, hp, rfl⟩ := List.mem_map.1 hk
    exact s.own p ((Hp.add_perm R H).mem_iff.2 (List.mem_append.2 (.inl hp)))⟩
theorem Sat.extB0 (s : Sat c L H a w) : ExtB c.w0 c.R0 w [] := ⟨s.ext, fun k hk => by simp at hk⟩

theorem OwnL.rdf {α : Type} {N : En α} {R : Hp} {E : Blocks} {S : List Blocks} {i e cap : Nat} {sp : Option Addr} {xs : List α} {Hs : Blocks} (h : OwnL N e sp cap xs Hs)
    (s : Sat c L (R.add ⟨E, S⟩) a w) (hi : getS S i = some Hs) : RdF N w (R.all.map (·.1)) sp xs := by
  intro w' e'
  have hp := Hp.add_perm R ⟨E, S⟩
  have hnd := (hp.map (·.1)).nodup_iff.1 s.nodup
  rw [List.map_append, List.nodup_append] at hnd
  obtain ⟨n1, n2, n3⟩ := hnd
  rcases h with ⟨rfl, rfl, rfl, rfl⟩ | ⟨g, cur, rfl, rfl, h1, h2, h3, h4⟩
  · exact .nil _ _ _
  · have hm : (g, Obj.cells cur e (0, 0)) ∈ (⟨E, S⟩ : Hp).all := List.mem_append.2 (.inr (getS_sub hi _ (by simp)))
    have hm' := hp.mem_iff.2 (List.mem_append.2 (.inr hm))
    have hb0 := s.heap _ hm'
    have hlt := s.lt hm'
    have hb : w'.heap[g]? = some (.cells cur e (0, 0)) := by
      rw [e'.same g hlt (fun hR => n3 _ hR g (List.mem_map.2 ⟨_, hm, rfl⟩) rfl)]; exact hb0
    refine ⟨by omega, .inr ⟨_, rfl, rfl, fun k x hk j v hj => ?_⟩⟩
    have hf := flat_get N xs k j x v hk hj
    rw [← h4, List.getElem?_take] at hf
    split at hf
    · simp [World.cell?, hb]; simpa using hf
    · cases hf
theorem OwnL.rdf0 {α : Type} {N : En α} {E : Blocks} {S : List Blocks} {i e cap : Nat} {sp : Option Addr} {xs : List α} {Hs : Blocks} (h : OwnL N e sp cap xs Hs)
    (s : Sat c L ⟨E, S⟩ a w) (hi : getS S i = some Hs) : RdF N w [] sp xs := OwnL.rdf (R := Hp.nil) h s hi
end

/-! ### taking blocks out, and putting them back -/
def takeB : Blocks → Nat → Option ((Nat × Obj) × Blocks)
  | [], _ => none
  | x :: l, 0 => some (x, l)
  | x :: l, n + 1 => match takeB l n with | some (p, r) => some (p, x :: r) | none => none
def takeBs : Blocks → List Nat → Option (Blocks × Blocks)
  | E, [] => some ([], E)
  | E, i :: is => match takeB E i with
    | some (p, E') => match takeBs E' is with | some (ps, E'') => some (p :: ps, E'') | none => none
    | none => none
def insB {α : Type} : List α → Nat → α → List α
  | l, 0, p => p :: l
  | [], _ + 1, p => [p]
  | x :: l, n + 1, p => x :: insB l n p
/-- the inverse of takeBs -/
def insBs {α : Type} : List α → List Nat → List α → List α
  | E, i :: is, p :: ps => insB (insBs E is ps) i p
  | E, _, ps => ps ++ E

theorem takeB_perm : ∀ {E E' : Blocks} {i : Nat} {p : Nat × Obj}, takeB E i = some (p, E') → (p :: E').Perm E
  | [], _, _, _, h => by simp [takeB] at h
  | x :: l, E', 0, p, h => by simp [takeB] at h; obtain ⟨rfl, rfl⟩ := h; exact List.Perm.refl _
  | x :: l, E', n + 1, p, h => by
    simp only [takeB] at h
    cases h2 : takeB l n with
    | none => rw [h2] at h; cases h
    | some r => rw [h2] at h; obtain ⟨q, r⟩ := r; cases h; exact (List.Perm.swap x p r).trans ((takeB_perm h2).cons x)
theorem takeBs_perm : ∀ {is : List Nat} {E E' Ec : Blocks}, takeBs E is = some (Ec, E') → (Ec ++ E').Perm E
  | [], _, _, _, h => by simp [takeBs] at h; obtain ⟨rfl, rfl⟩ := h; exact List.Perm.refl _
  | i :: is, E, E', Ec, h => by
    simp only [takeBs] at h
    cases h2 : takeB E i with
    | none => rw [h2] at h; cases h
    | some r =>
      obtain ⟨p, E1⟩ := r
      rw [h2] at h
      simp only at h
      cases h3 : takeBs E1 is with
      | none => rw [h3] at h; cases h
      | some r =>
        obtain ⟨ps, E2⟩ := r
        rw [h3] at h
        cases h
        exact ((takeBs_perm h3).cons p).trans (takeB_perm h2)
theorem insB_perm {α : Type} : ∀ (E : List α) (i : Nat) (p : α), (insB E i p).Perm (p :: E)
  | [], 0, p => List.Perm.refl _
  | x :: l, 0, p => List.Perm.refl _
  | [], n + 1, p => List.Perm.refl _
  | x :: l, n + 1, p => ((insB_perm l n p).cons x).trans (List.Perm.swap p x l)
theorem insBs_perm {α : Type} : ∀ (is : List Nat) (E ps : List α), (insBs E is ps).Perm (ps ++ E)
  | [], E, ps => by cases ps <;> exact List.Perm.refl _
  | i :: is, E, [] => List.Perm.refl _
  | i :: is, E, p :: ps => (insB_perm _ i p).trans ((insBs_perm is E ps).cons p)

def takeS1 : List Blocks → Nat → Option (Blocks × List Blocks)
  | [], _ => none
  | x :: l, 0 => some (x, l)
  | x :: l, n + 1 => match takeS1 l n with | some (p, r) => some (p, x :: r) | none => none
def takeSs : List Blocks → List Nat → Option (List Blocks × List Blocks)
  | E, [] => some ([], E)
  | E, i :: is => match takeS1 E i with
    | some (p, E') => match takeSs E' is with | some (ps, E'') => some (p :: ps, E'') | none => none
    | none => none
theorem takeS1_perm : ∀ {E E' : List Blocks} {i : Nat} {p : Blocks}, takeS1 E i = some (p, E') → (p :: E').Perm E
  | [], _, _, _, h => by simp [takeS1] at h
  | x :: l, E', 0, p, h => by simp [takeS1] at h; obtain ⟨rfl, rfl⟩ := h; exact List.Perm.refl _
  | x :: l, E', n + 1, p, h => by
    simp only [takeS1] at h
    cases h2 : takeS1 l n with
    | none => rw [h2] at h; cases h
    | some r => rw [h2] at h; obtain ⟨q, r⟩ := r; cases h; exact (List.Perm.swap x p r).trans ((takeS1_perm h2).cons x)
theorem takeSs_perm : ∀ {is : List Nat} {E E' Ec : List Blocks}, takeSs E is = some (Ec, E') → (Ec ++ E').Perm E
  | [], _, _, _, h => by simp [takeSs] at h; obtain ⟨rfl, rfl⟩ := h; exact List.Perm.refl _
  | i :: is, E, E', Ec, h => by
    simp only [takeSs] at h
    cases h2 : takeS1 E i with
    | none => rw [h2] at h; cases h
    | some r =>
      obtain ⟨p, E1⟩ := r
      rw [h2] at h
      simp only at h
      cases h3 : takeSs E1 is with
      | none => rw [h3] at h; cases h
      | some r =>
        obtain ⟨ps, E2⟩ := r
        rw [h3] at h
        cases h
        exact ((takeSs_perm h3).cons p).trans (takeS1_perm h2)

theorem Hp.perm_of {E E' : Blocks} {S S' : List Blocks} (hE : E.Perm E') (hS : S.Perm S') : (⟨E, S⟩ : Hp).all.Perm (⟨E', S'⟩ : Hp).all := List.Perm.append hE hS.flatten

theorem take_perm {E E1 Ec : Blocks} {S S1 Sc : List Blocks} {is js : List Nat} (hE : takeBs E is = some (Ec, E1)) (hS : takeSs S js = some (Sc, S1)) :
    ((⟨Ec, Sc⟩ : Hp).add ⟨E1, S1⟩).all.Perm (⟨E, S⟩ : Hp).all := Hp.perm_of (takeBs_perm hE) (takeSs_perm hS)

section
variable {c : Cx} {ops : Array Oper} {Q : Exit → Act → World → Prop} {rest : List Oper} {L : Slots} {H : Hp}
variable {dst : Option Tmp} {T : TypeId} {pos : String} {af : Array Edge} {g : Option (Nat × Bool)}

theorem TO.perm {l : List Oper} {H' : Hp} (hH : H'.all.Perm H.all) (h : TO c ops Q l L H') : TO c ops Q l L H := fun a w s => h a w (s.perm hH)

/-- a call that takes blocks and rows along, all of which come back as they were -/
theorem TX.callRO {d : Nat} {f : Operand} {k : FuncId} {fi ca vs : List Value} {args : List Operand} {ats : Array TypeId} {E E1 Ec : Blocks} {S S1 Sc : List Blocks} {v : Value} (is js : List Nat)
    (hE : takeBs E is = some (Ec, E1)) (hS : takeSs S js = some (Sc, S1))
    (hk : ∀ (args : Array Value) (w : World), (callFunc k args).run c.P w = .ok (.enter k args) w)
    (hf : ev L f = some (.func (.func k) fi.toArray ca.toArray)) (ha : evs L args = some vs)
    (hc : ∀ a w, Sat c L ((⟨Ec, Sc⟩ : Hp).add ⟨E1, S1⟩) a w → Ret c.P k (fi ++ (vs ++ ca)) w ⟨Ec, Sc⟩ fun v' R' => v' = v ∧ R' = ⟨Ec, Sc⟩) (hd : Nat.blt d c.n = true)
    (h : TO c ops Q rest ((d, v) :: L) ⟨E, S⟩) : TX c ops Q ⟨some d, .call ⟨.value f, args.toArray, ats⟩, T, pos, af, g⟩ rest L ⟨E, S⟩ :=
  TX.call ⟨Ec, Sc⟩ ⟨E1, S1⟩ _ hk hf ha (take_perm hE hS) hc hd (by rintro v' R' ⟨rfl, rfl⟩; exact TO.perm (take_perm hE hS).symm h)

/-- the same: they come back in their places, changed; new rows come ahead -/
theorem TX.callRW {d : Nat} {f : Operand} {k : FuncId} {fi ca vs : List Value} {args : List Operand} {ats : Array TypeId} {E E1 Ec : Blocks} {S S1 Sc : List Blocks} (is js : List Nat) (post : Value → Hp → Prop)
    (hE : takeBs E is = some (Ec, E1)) (hS : takeSs S js = some (Sc, S1))
    (hk : ∀ (args : Array Value) (w : World), (callFunc k args).run c.P w = .ok (.enter k args) w)
    (hf : ev L f = some (.func (.func k) fi.toArray ca.toArray)) (ha : evs L args = some vs)
    (hc : ∀ a w, Sat c L ((⟨Ec, Sc⟩ : Hp).add ⟨E1, S1⟩) a w → Ret c.P k (fi ++ (vs ++ ca)) w ⟨Ec, Sc⟩ post) (hd : Nat.blt d c.n = true)
    (h : ∀ v R', post v R' → ∃ E' Sn S', R' = ⟨E', Sn ++ S'⟩ ∧ TO c ops Q rest ((d, v) :: L) ⟨insBs E1 is E', Sn ++ insBs S1 js S'⟩) :
    TX c ops Q ⟨some d, .call ⟨.value f, args.toArray, ats⟩, T, pos, af, g⟩ rest L ⟨E, S⟩ :=
  TX.call ⟨Ec, Sc⟩ ⟨E1, S1⟩ post hk hf ha (take_perm hE hS) hc hd (fun v R' hp => by
    obtain ⟨E', Sn, S', rfl, h⟩ := h v R' hp
    refine TO.perm (Hp.perm_of (insBs_perm is E1 E') ?_) h
    show (Sn ++ insBs S1 js S').Perm ((Sn ++ S') ++ S1)
    rw [List.append_assoc]
    exact (insBs_perm js S1 S').append_left Sn)
end

/-! ### calls of yield -/
/-- a call of a function value -/
def CallV (P : Program) (f : Value) (args : List Value) (w : World) (R : Hp) (post : Value → Hp → Prop) : Prop :=
  ∃ l fn tmps assign body, f = .func (.yield l) #[] #[] ∧ (Instr.yield l args.toArray).run P w = .ok (.round l fn tmps assign body) w ∧
    RoundIn (FW none) 0 P l fn tmps assign body w (RetE w R post)

theorem roundIn_FW {P : Program} {ro ro' : Option Nat} {n n' : Nat} {l f : Nat} {tmps : Array Value} {assign body : Code} {w : World} {R : Ending → World → Prop}
    (h : RoundIn (FW ro) n P l f tmps assign body w R) : RoundIn (FW ro') n' P l f tmps assign body w R :=
  ⟨trivial, fun c cs _ => h.2 c cs (fun d hd => by simp [FW] at hd)⟩

section
variable {c : Cx} {ops : Array Oper} {Q : Exit → Act → World → Prop} {rest : List Oper} {L : Slots} {H : Hp}
variable {dst : Option Tmp} {T : TypeId} {pos : String} {af : Array Edge} {g : Option (Nat × Bool)}

theorem TX.callV {d : Nat} {f : Operand} {fv : Value} {vs : List Value} {args : List Operand} {ats : Array TypeId} (R H1 : Hp) (post : Value → Hp → Prop)
    (hf : ev L f = some fv) (ha : evs L args = some vs) (hH : (R.add H1).all.Perm H.all)
    (hc : ∀ a w, Sat c L (R.add H1) a w → CallV c.P fv vs w R post) (hd : Nat.blt d c.n = true)
    (h : ∀ v R', post v R' → TO c ops Q rest ((d, v) :: L) (R'.add H1)) : TX c ops Q ⟨some d, .call ⟨.value f, args.toArray, ats⟩, T, pos, af, g⟩ rest L H := by
  intro a w s0
  have s := s0.perm hH
  obtain ⟨l, fn, tmps, assign, body, rfl, hy, hround⟩ := hc a w s
  have hrun : (execOp a.eval ⟨some d, .call ⟨.value f, args.toArray, ats⟩, T, pos, af, g⟩).run c.P w = .ok (.round l fn tmps assign body) w := by
    simp [execOp, resolve, Deferred.ofValue, invoke, s.eval hf, s.evals ha, hy]
  rw [hrun, Oper.uponIn_round]
  refine ⟨fun h => by simp [FW] at h, ?_⟩
  refine roundIn_FW (ro := none) (n := 0) (RoundIn.mono hround ?_)
  rintro e w' ⟨v, R', rfl, he, hp⟩
  exact h v R' hp _ _ ((s.eff he).put (dst := some d) hd v)
end

/-- what an iterator knows of its yield: from the world w on, of whose blocks only those of R0 may have changed; 's' is the consumer's state, 'I' its blocks -/
def Yld (P : Program) (w : World) (R0 : List Nat) (yv : Value) {σ α : Type} (I : σ → Blocks → Prop) (enc : α → List Value) (step : σ → α → Option σ) (go : σ → Bool) : Prop :=
  ∀ s x s' w' Hs, step s x = some s' → I s Hs → Ext w R0 w' → (∀ p ∈ Hs, w'.heap[p.1]? = some p.2) → (Hs.map (·.1)).Nodup → (∀ p ∈ Hs, p.1 ∈ R0 ∨ w.heap.size ≤ p.1) →
    CallV P yv (enc x) w' ⟨[], [Hs]⟩ fun v R' => v = .bool (go s') ∧ ∃ Hs', R' = ⟨[], [Hs']⟩ ∧ I s' Hs'

theorem takeS1_sub {S S1 : List Blocks} {i : Nat} {p : Blocks} (h : takeS1 S i = some (p, S1)) : ∀ x ∈ p, x ∈ S.flatten := fun x hx =>
  (takeS1_perm h).flatten.mem_iff.1 (by simp [hx])

section
variable {c : Cx} {ops : Array Oper} {Q : Exit → Act → World → Prop} {rest : List Oper} {L : Slots}
variable {dst : Option Tmp} {T : TypeId} {pos : String} {af : Array Edge} {g : Option (Nat × Bool)}

/-- the iterator calls its yield: the consumer's blocks are the row i -/
theorem TX.yield {σ α : Type} {I : σ → Blocks → Prop} {enc : α → List Value} {step : σ → α → Option σ} {go : σ → Bool} {s s' : σ} {x : α} {d : Nat} {f : Operand} {fv : Value} {vs : List Value} {args : List Operand} {ats : Array TypeId}
    {E : Blocks} {S S1 : List Blocks} {Hs : Blocks} (i : Nat) (hy : Yld c.P c.w0 c.R0 fv I enc step go) (hS : takeS1 S i = some (Hs, S1)) (hf : ev L f = some fv) (ha : evs L args = some vs) (hx : enc x = vs)
    (hst : step s x = some s') (hI : I s Hs) (hd : Nat.blt d c.n = true)
    (h : ∀ Hs', I s' Hs' → TO c ops Q rest ((d, .bool (go s')) :: L) ⟨E, insB S1 i Hs'⟩) : TX c ops Q ⟨some d, .call ⟨.value f, args.toArray, ats⟩, T, pos, af, g⟩ rest L ⟨E, S⟩ := by
  subst hx
  refine TX.callV ⟨[], [Hs]⟩ ⟨E, S1⟩ _ hf ha (Hp.perm_of (List.Perm.refl _) (takeS1_perm hS)) (fun a w sa => hy s x s' w Hs hst hI sa.ext ?_ ?_ ?_) hd ?_
  · intro p hp; exact sa.heap p ((Hp.add_perm ⟨[], [Hs]⟩ ⟨E, S1⟩).mem_iff.2 (List.mem_append.2 (.inl (by simpa [Hp.all] using hp))))
  · have := ((Hp.add_perm ⟨[], [Hs]⟩ ⟨E, S1⟩).map (·.1)).nodup_iff.1 sa.nodup
    rw [List.map_append, List.nodup_append] at this
    simpa [Hp.all] using this.1
  · intro p hp; exact sa.own p ((Hp.add_perm ⟨[], [Hs]⟩ ⟨E, S1⟩).mem_iff.2 (List.mem_append.2 (.inl (by simpa [Hp.all] using hp))))
  · rintro v R' ⟨rfl, Hs', rfl, hI'⟩
    exact TO.perm (Hp.perm_of (List.Perm.refl _) (insB_perm S1 i Hs')) (h Hs' hI')
end
end Go.HW
