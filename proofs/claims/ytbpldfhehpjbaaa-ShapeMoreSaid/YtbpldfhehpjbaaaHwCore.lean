/- A small logic over the walk's layer: a state is a list of slots and a list of owned blocks; one lemma an operation. -/
import Derived.WalkKit
import Derived.LoopNIn
import Derived.RangeFuncLeaves
namespace Go.HW
open Go Go.RowKit
set_option linter.unusedVariables false

abbrev Slots := List (Nat × Value)
abbrev Blocks := List (Nat × Obj)

/-- the owned blocks: those that are written out, and rows of them that are not -/
structure Hp where
  E : Blocks
  S : List Blocks
def Hp.all (H : Hp) : Blocks := H.E ++ H.S.flatten

def FW (ro : Option Nat) : Fence := { fn := fun _ => True, depth := none, alive := false, round := ro }

structure Cx where
  P : Program
  ro : Option Nat
  w0 : World
  R0 : List Nat
  n : Nat
  ds : List Deferred

/-- 'w' became 'w''; of the blocks that there were only those of 'R' may have changed. -/
structure Ext (w : World) (R : List Nat) (w' : World) : Prop where
  os : w'.os = w.os
  tape : w'.tape = w.tape
  output : w'.output = w.output
  size : w.heap.size ≤ w'.heap.size
  same : ∀ k, k < w.heap.size → k ∉ R → w'.heap[k]? = w.heap[k]?

theorem Ext.refl (w : World) (R : List Nat) : Ext w R w := ⟨rfl, rfl, rfl, Nat.le_refl _, fun _ _ _ => rfl⟩

theorem Ext.below {w w' : World} (h : Ext w [] w') : Below w.heap.size w w' :=
  ⟨h.os, h.tape, h.output, h.size, fun k hk => h.same k hk (by simp)⟩

theorem Ext.of_below {w w' : World} (h : Below w.heap.size w w') : Ext w [] w' :=
  ⟨h.os, h.tape, h.output, h.size, fun k hk _ => h.block k hk⟩

def look : Slots → Nat → Option Value
  | [], _ => none
  | (k, v) :: L, t => bif Nat.beq k t then some v else look L t

def ev (L : Slots) : Operand → Option Value
  | .tmp t => look L t
  | .const v => some v
  | .global g => some (.pointer (some ⟨g, 0, none⟩))
  | .func f => some (.func (.func f) #[] #[])

structure Sat (c : Cx) (L : Slots) (H : Hp) (a : Act) (w : World) : Prop where
  size : a.tmps.size = c.n
  defers : a.defers = c.ds
  slots : ∀ t v, look L t = some v → a.tmps.getD t undef = v
  ext : Ext c.w0 c.R0 w
  nodup : (H.all.map (·.1)).Nodup
  heap : ∀ p ∈ H.all, w.heap[p.1]? = some p.2
  own : ∀ p ∈ H.all, p.1 ∈ c.R0 ∨ c.w0.heap.size ≤ p.1

def putS (L : Slots) (dst : Option Tmp) (v : Value) : Slots :=
  match dst with
  | some d => (d, v) :: L
  | none => L

def okD (n : Nat) : Option Tmp → Bool
  | some d => Nat.blt d n
  | none => true

section
variable {c : Cx} {L : Slots} {H : Hp} {a : Act} {w : World}

theorem Sat.eval (s : Sat c L H a w) {x : Operand} {v : Value} (h : ev L x = some v) : a.eval x = v := by
  cases x with
  | tmp t => exact s.slots t v h
  | const u => simpa [ev, Act.eval] using h
  | global g => simpa [ev, Act.eval] using h
  | func f => simpa [ev, Act.eval] using h

theorem Sat.put (s : Sat c L H a w) {dst : Option Tmp} (hd : okD c.n dst = true) (v : Value) : Sat c (putS L dst v) H (a.put dst v) w := by
  cases dst with
  | none => exact s
  | some d =>
    have hd' : d < c.n := by simpa [okD, Nat.blt_eq] using hd
    refine ⟨by simp [Act.put, s.size], s.defers, ?_, s.ext, s.nodup, s.heap, s.own⟩
    intro t u ht
    simp only [putS, look] at ht
    simp only [Act.put]
    by_cases h : d = t
    · subst h
      simp at ht
      subst ht
      have : d < a.tmps.size := by rw [s.size]; exact hd'
      simp [Array.getD, this]
    · have hb : Nat.beq d t = false := by
        cases hh : Nat.beq d t with
        | false => rfl
        | true => exact absurd (Nat.eq_of_beq_eq_true hh) h
      rw [hb] at ht
      have := s.slots t u ht
      rw [← this]
      simp only [Array.getD, Array.size_setIfInBounds]
      split
      · rename_i ht'
        exact Array.getElem_setIfInBounds_ne ht' h
      · rfl

theorem Sat.world (s : Sat c L H a w) {w' : World} {H' : Hp} (he : Ext c.w0 c.R0 w') (hn : (H'.all.map (·.1)).Nodup)
    (hh : ∀ p ∈ H'.all, w'.heap[p.1]? = some p.2) (ho : ∀ p ∈ H'.all, p.1 ∈ c.R0 ∨ c.w0.heap.size ≤ p.1) : Sat c L H' a w' :=
  ⟨s.size, s.defers, s.slots, he, hn, hh, ho⟩

theorem Sat.lt (s : Sat c L H a w) {p : Nat × Obj} (hp : p ∈ H.all) : p.1 < w.heap.size :=
  (Array.getElem?_eq_some_iff.1 (s.heap p hp)).1

/-- weakening: fewer slots, fewer blocks -/
theorem Sat.weak (s : Sat c L H a w) {L' : Slots} {H' : Hp} (hL : ∀ t v, look L' t = some v → look L t = some v) (hH : H'.all.Sublist H.all) : Sat c L' H' a w :=
  ⟨s.size, s.defers, fun t v h => s.slots t v (hL t v h), s.ext, (hH.map _).nodup s.nodup, fun p hp => s.heap p (hH.subset hp), fun p hp => s.own p (hH.subset hp)⟩

theorem Sat.perm (s : Sat c L H a w) {H' : Hp} (hH : H'.all.Perm H.all) : Sat c L H' a w :=
  ⟨s.size, s.defers, s.slots, s.ext, (hH.map _).nodup_iff.2 s.nodup, fun p hp => s.heap p (hH.mem_iff.1 hp), fun p hp => s.own p (hH.mem_iff.1 hp)⟩
end

/-! ### The plain functions' words -/
def bindP {α β : Type} (x : α) (f : α → β) : β := f x
theorem bp {α β : Type} {x : α} {f : α → β} {r : β} (h : bindP x f = r) : ∃ v, x = v ∧ f v = r := ⟨x, rfl, h⟩
theorem bd {α β : Type} {x : Option α} {f : α → Option β} {r : β} (h : x.bind f = some r) : ∃ v, x = some v ∧ f v = some r := by
  cases x with
  | none => cases h
  | some v => exact ⟨v, rfl, h⟩
theorem it {α : Type} {b : Bool} {x y : α} {r : α} (h : (bif b then x else y) = r) (hb : b = true) : x = r := by subst hb; exact h
theorem ie {α : Type} {b : Bool} {x y : α} {r : α} (h : (bif b then x else y) = r) (hb : b = false) : y = r := by subst hb; exact h
theorem ck {α : Type} {b : Bool} {x : Option α} {r : α} (h : (bif b then x else none) = some r) : b = true ∧ x = some r := by
  cases b with
  | false => cases h
  | true => exact ⟨rfl, h⟩
theorem cg {g b : Bool} (h : (bif g then b else true) = true) (hg : g = true) : b = true := by subst hg; exact h
theorem ce {g b : Bool} (h : (bif g then true else b) = true) (hg : g = false) : b = true := by subst hg; exact h

/-! ### Judgements -/

/-- the operations 'l' of the region 'ops', from the state (L, H) -/
def TO (c : Cx) (ops : Array Oper) (Q : Exit → Act → World → Prop) (l : List Oper) (L : Slots) (H : Hp) : Prop :=
  ∀ a w, Sat c L H a w → wpListIn (FW c.ro) 1 c.P ops Q l a w

/-- one operation that is carried out, then the rest -/
def TX (c : Cx) (ops : Array Oper) (Q : Exit → Act → World → Prop) (o : Oper) (rest : List Oper) (L : Slots) (H : Hp) : Prop :=
  ∀ a w, Sat c L H a w → o.uponIn (FW c.ro) 1 c.P a (wpListIn (FW c.ro) 1 c.P ops Q rest) Q ((execOp a.eval o).run c.P w)

def TC (c : Cx) (code : Code) (Q : Exit → Act → World → Prop) (L : Slots) (H : Hp) : Prop :=
  ∀ a w, Sat c L H a w → code.wpIn (FW c.ro) 1 c.P Q a w

def TE (Q : Exit → Act → World → Prop) (e : Exit) (c : Cx) (L : Slots) (H : Hp) : Prop :=
  ∀ a w, Sat c L H a w → Q e a w

def notDefer : Op → Bool
  | .defer _ => false
  | _ => true

section
variable {c : Cx} {ops : Array Oper} {Q : Exit → Act → World → Prop} {o : Oper} {rest : List Oper} {L : Slots} {H : Hp}

theorem TO.nil (h : TE Q .normal c L H) : TO c ops Q [] L H := h

theorem wpIn_of {o : Oper} {a : Act} {w : World} {K : Act → World → Prop} (hn : notDefer o.op = true)
    (h : o.uponIn (FW c.ro) 1 c.P a K Q ((execOp a.eval o).run c.P w)) : o.wpIn (FW c.ro) 1 c.P a w K Q := by
  refine ⟨fun _ _ => trivial, ?_⟩
  have : o.semAt (FW c.ro).round a.eval = execOp a.eval o := Oper.semAt_eq _ _ _ (fun d hd => by rw [hd] at hn; cases hn)
  rw [this]; exact h

theorem TO.u (hg : o.guard = none) (hn : notDefer o.op = true) (h : TX c ops Q o rest L H) : TO c ops Q (o :: rest) L H := by
  intro a w s
  unfold wpListIn
  rw [if_pos (by simp [Region.wanted, hg])]
  exact wpIn_of hn (h a w s)

theorem yielded_of {a : Act} {w : World} (s : Sat c L H a w) {j d : Nat} {b : Bool} (hj : (ops[j]?).bind (·.dst) = some d) (hl : look L d = some (.bool b)) :
    yielded ops a.tmps j = some b := by
  have h1 := s.slots d _ hl
  have h2 : a.tmps[d]? = some (.bool b) := by
    by_cases hd : d < a.tmps.size
    · simp [Array.getD, hd] at h1; simp [hd, h1]
    · simp [Array.getD, hd, undef] at h1
  simp [yielded, hj, h2]

theorem yielded_undef {a : Act} {w : World} (s : Sat c L H a w) {j d : Nat} (hj : (ops[j]?).bind (·.dst) = some d) (hl : look L d = some undef) :
    yielded ops a.tmps j = none := by
  have h1 := s.slots d _ hl
  by_cases hd : d < a.tmps.size
  · have h2 : a.tmps[d]? = some undef := by simp [Array.getD, hd] at h1; simp [hd, h1]
    simp [yielded, hj, h2, undef]
  · have h2 : a.tmps[d]? = none := by simp; omega
    simp [yielded, hj, h2]

/-- a guarded operation whose guard holds -/
theorem TO.g {j d : Nat} {b : Bool} (hg : o.guard = some (j, b)) (hj : (ops[j]?).bind (·.dst) = some d) (hl : look L d = some (.bool b)) (hn : notDefer o.op = true)
    (h : TX c ops Q o rest L H) : TO c ops Q (o :: rest) L H := by
  intro a w s
  unfold wpListIn
  rw [if_pos (by simp [Region.wanted, hg, yielded_of s hj hl])]
  exact wpIn_of hn (h a w s)

/-- a guarded operation that is passed over -/
theorem TO.s {j d t : Nat} {b b' : Bool} (hg : o.guard = some (j, b)) (hj : (ops[j]?).bind (·.dst) = some d) (hl : look L d = some (.bool b')) (hb : (b' == b) = false)
    (ht : o.dst = some t) (hd : Nat.blt t c.n = true) (h : TO c ops Q rest ((t, undef) :: L) H) : TO c ops Q (o :: rest) L H := by
  intro a w s
  unfold wpListIn
  rw [if_neg (by simp [Region.wanted, hg, yielded_of s hj hl]; simpa using hb)]
  refine ⟨fun _ _ => trivial, ?_⟩
  rw [ht]
  exact h _ _ (s.put (dst := some t) hd _)

theorem TO.su {j d t : Nat} {b : Bool} (hg : o.guard = some (j, b)) (hj : (ops[j]?).bind (·.dst) = some d) (hl : look L d = some undef)
    (ht : o.dst = some t) (hd : Nat.blt t c.n = true) (h : TO c ops Q rest ((t, undef) :: L) H) : TO c ops Q (o :: rest) L H := by
  intro a w s
  unfold wpListIn
  rw [if_neg (by simp [Region.wanted, hg, yielded_undef s hj hl])]
  refine ⟨fun _ _ => trivial, ?_⟩
  rw [ht]
  exact h _ _ (s.put (dst := some t) hd _)

/-- the same where nothing is written to a slot -/
theorem TO.s0 {j d : Nat} {b b' : Bool} (hg : o.guard = some (j, b)) (hj : (ops[j]?).bind (·.dst) = some d) (hl : look L d = some (.bool b')) (hb : (b' == b) = false)
    (ht : o.dst = none) (h : TO c ops Q rest L H) : TO c ops Q (o :: rest) L H := by
  intro a w s
  unfold wpListIn
  rw [if_neg (by simp [Region.wanted, hg, yielded_of s hj hl]; simpa using hb)]
  refine ⟨fun _ _ => trivial, ?_⟩
  rw [ht]
  exact h _ _ s
theorem TO.su0 {j d : Nat} {b : Bool} (hg : o.guard = some (j, b)) (hj : (ops[j]?).bind (·.dst) = some d) (hl : look L d = some undef)
    (ht : o.dst = none) (h : TO c ops Q rest L H) : TO c ops Q (o :: rest) L H := by
  intro a w s
  unfold wpListIn
  rw [if_neg (by simp [Region.wanted, hg, yielded_undef s hj hl])]
  refine ⟨fun _ _ => trivial, ?_⟩
  rw [ht]
  exact h _ _ s

/-- the general step: a value, a new world, new blocks -/
theorem TX.gen (hd : okD c.n o.dst = true)
    (h : ∀ a w, Sat c L H a w → ∃ v w' H', (execOp a.eval o).run c.P w = .ok (.value v) w' ∧ Sat c L H' a w' ∧ TO c ops Q rest (putS L o.dst v) H') : TX c ops Q o rest L H := by
  intro a w s
  obtain ⟨v, w', H', hr, s', ht⟩ := h a w s
  rw [hr]
  exact ht _ _ (s'.put hd v)

/-- what an operation that only reads yields -/
def QV (c : Cx) (o : Oper) (L : Slots) (H : Hp) (v : Value) : Prop := ∀ a w, Sat c L H a w → (execOp a.eval o).run c.P w = .ok (.value v) w

/-- an operation that yields a known value and leaves the world alone -/
theorem TX.val {v : Value} (hd : okD c.n o.dst = true) (hr : ∀ a w, Sat c L H a w → (execOp a.eval o).run c.P w = .ok (.value v) w)
    (h : TO c ops Q rest (putS L o.dst v) H) : TX c ops Q o rest L H :=
  TX.gen hd fun a w s => ⟨v, w, H, hr a w s, s, h⟩

theorem TX.skipw {H' : Hp} (hd : okD c.n o.dst = true) (hr : ∀ a w, Sat c L H a w → ∃ w', (execOp a.eval o).run c.P w = .ok .skip w' ∧ Sat c L H' a w')
    (h : TO c ops Q rest (putS L o.dst undef) H') : TX c ops Q o rest L H := by
  intro a w s
  obtain ⟨w', h1, s'⟩ := hr a w s
  rw [h1]
  exact h _ _ (s'.put hd undef)
end

/-! ### Control -/
section
variable {c : Cx} {Q : Exit → Act → World → Prop} {L : Slots} {H : Hp} {x y : Code}

theorem TC.mono {Q' : Exit → Act → World → Prop} (h : TC c x Q L H) (hq : ∀ e a w, Q e a w → Q' e a w) : TC c x Q' L H :=
  fun a w s => wpIn_mono (h a w s) hq

theorem TC.skip (h : TE Q .normal c L H) : TC c .skip Q L H := fun a w s => wpIn_skip (h a w s)
theorem TC.exit {id : Nat} (h : TE Q (.exit id) c L H) : TC c (.exit id) Q L H := fun a w s => wpIn_exit (h a w s)
theorem TC.ret (h : TE Q .ret c L H) : TC c .ret Q L H := fun a w s => wpIn_ret (h a w s)

def thenK (ro : Option Nat) (P : Program) (y : Code) (Q : Exit → Act → World → Prop) : Exit → Act → World → Prop :=
  Exit.then (fun a w => y.wpIn (FW ro) 1 P Q a w) Q

theorem TC.seq (h : TC c x (thenK c.ro c.P y Q) L H) : TC c (.seq x y) Q L H := fun a w s => wpIn_seq (h a w s)

theorem TE.thenN {ro : Option Nat} {P : Program} (hro : c.ro = ro) (hP : c.P = P) (h : TC c y Q L H) : TE (thenK ro P y Q) .normal c L H := by
  subst hro; subst hP; exact h

theorem TE.thenR {ro : Option Nat} {P : Program} (h : TE Q .ret c L H) : TE (thenK ro P y Q) .ret c L H := h
theorem TE.thenX {ro : Option Nat} {P : Program} {id : Nat} (h : TE Q (.exit id) c L H) : TE (thenK ro P y Q) (.exit id) c L H := h

theorem TC.cond {k : Operand} {b : Bool} (hk : ev L k = some (.bool b)) (ht : b = true → TC c x Q L H) (hf : b = false → TC c y Q L H) : TC c (.cond k x y) Q L H := by
  intro a w s
  refine wpIn_cond (t := b) (s.eval hk) ?_
  cases b
  · exact hf rfl a w s
  · exact ht rfl a w s

theorem TC.condT {k : Operand} (hk : ev L k = some (.bool true)) (ht : TC c x Q L H) : TC c (.cond k x y) Q L H := TC.cond hk (fun _ => ht) (fun h => by cases h)
theorem TC.condF {k : Operand} (hk : ev L k = some (.bool false)) (hf : TC c y Q L H) : TC c (.cond k x y) Q L H := TC.cond hk (fun h => by cases h) (fun _ => hf)

theorem TC.block {id : Nat} (h : TC c x (Exit.inBlock id Q) L H) : TC c (.block id x) Q L H := fun a w s => wpIn_block (h a w s)

theorem TE.blockN {id : Nat} (h : TE Q .normal c L H) : TE (Exit.inBlock id Q) .normal c L H := h
theorem TE.blockR {id : Nat} (h : TE Q .ret c L H) : TE (Exit.inBlock id Q) .ret c L H := h
theorem TE.blockH {id : Nat} (h : TE Q .normal c L H) : TE (Exit.inBlock id Q) (.exit id) c L H := fun a w s => by
  simp only [Exit.inBlock, if_true]; exact h a w s
theorem TE.blockX {id id' : Nat} (hne : Nat.beq id' id = false) (h : TE Q (.exit id') c L H) : TE (Exit.inBlock id Q) (.exit id') c L H := fun a w s => by
  have : id' ≠ id := fun e => by subst e; simp at hne
  simp only [Exit.inBlock, this, if_false]; exact h a w s

theorem TC.region {id : Nat} {l : List Oper} (h : TO c l.toArray Q l L H) : TC c (.region id l.toArray false) Q L H := fun a w s => wpIn_region_lit (h a w s)

/-- cut: whatever way 'x' ends normally, a state of 'Mid' is there -/
theorem TC.cut (Mid : Slots → Hp → Prop) (h : TC c x (Exit.then (fun a w => ∃ L H, Mid L H ∧ Sat c L H a w) Q) L H) (h2 : ∀ L H, Mid L H → TC c y Q L H) : TC c (.seq x y) Q L H :=
  fun a w s => wpIn_seq (wpIn_mono (h a w s) fun e a' w' hq => by
    cases e with
    | normal => obtain ⟨L', H', hm, s'⟩ := hq; exact h2 L' H' hm a' w' s'
    | _ => exact hq)

theorem TE.mid {Mid : Slots → Hp → Prop} (h : Mid L H) : TE (Exit.then (fun a w => ∃ L H, Mid L H ∧ Sat c L H a w) Q) .normal c L H :=
  fun a w s => ⟨L, H, h, s⟩

/-! #### cuts between operations -/
theorem uponIn_mono {F : Fence} {n : Nat} {P : Program} {o : Oper} {a : Act} {K K' : Act → World → Prop} {Q Q' : Exit → Act → World → Prop} {r : Result Next}
    (hK : ∀ a w, K a w → K' a w) (hQ : ∀ e a w, e ≠ .normal → Q e a w → Q' e a w) (h : o.uponIn F n P a K Q r) : o.uponIn F n P a K' Q' r := by
  have hL : LetsOut Q → LetsOut Q' := fun ⟨a, w, h⟩ => ⟨a, w, hQ _ _ _ (by simp) h⟩
  cases r with
  | ok x w =>
    cases x with
    | value v => exact hK _ _ h
    | skip => exact hK _ _ h
    | defer d => exact hK _ _ h
    | enter f args =>
      refine ⟨h.1, h.2.1, fun cs hr => ?_⟩
      obtain ⟨e, w', fr, h1, h2⟩ := h.2.2 cs hr
      refine ⟨e, w', fr, ?_, h2⟩
      cases e with
      | returned v => exact hK _ _ h1
      | panicked ch => exact hQ _ _ _ (by simp) h1
      | outgrown => exact hL h1
    | row r args => exact ⟨h.1, h.2.mono fun v w => hK _ _⟩
    | round l f tmps assign body =>
      refine ⟨h.1, h.2.mono fun e w h1 => ?_⟩
      cases e with
      | returned v => exact hK _ _ h1
      | panicked ch => exact hQ _ _ _ (by simp) h1
      | outgrown => exact hL h1
    | _ => exact h
  | halt x w =>
    cases x with
    | panic v => exact hQ _ _ _ (by simp) h
    | _ => exact h

theorem wpListIn_append {F : Fence} {n : Nat} {P : Program} {ops : Array Oper} {Q Q1 : Exit → Act → World → Prop} (post : List Oper) (hm : ∀ a w, Q1 .normal a w → wpListIn F n P ops Q post a w)
    (hx : ∀ e a w, e ≠ .normal → Q1 e a w → Q e a w) : ∀ (pre : List Oper) (a : Act) (w : World), wpListIn F n P ops Q1 pre a w → wpListIn F n P ops Q (pre ++ post) a w
  | [], a, w, h => hm a w h
  | o :: pre, a, w, h => by
    simp only [List.cons_append, wpListIn] at h ⊢
    split
    · rename_i hw
      rw [if_pos hw] at h
      exact ⟨h.1, uponIn_mono (fun a w h' => wpListIn_append post hm hx pre a w h') hx h.2⟩
    · rename_i hw
      rw [if_neg hw] at h
      exact ⟨h.1, wpListIn_append post hm hx pre _ _ h.2⟩

def takeS : Nat → Slots → Slots
  | 0, _ => []
  | _ + 1, [] => []
  | n + 1, p :: L => p :: takeS n L
def dropS : Nat → Slots → Slots
  | 0, L => L
  | _ + 1, [] => []
  | n + 1, _ :: L => dropS n L
def takeO : Nat → List Oper → List Oper
  | 0, _ => []
  | _ + 1, [] => []
  | n + 1, p :: L => p :: takeO n L
def dropO : Nat → List Oper → List Oper
  | 0, L => L
  | _ + 1, [] => []
  | n + 1, _ :: L => dropO n L
theorem takeO_dropO : ∀ (n : Nat) (l : List Oper), takeO n l ++ dropO n l = l
  | 0, l => rfl
  | _ + 1, [] => rfl
  | n + 1, p :: l => by simp [takeO, dropO, takeO_dropO n l]
theorem takeS_dropS : ∀ (n : Nat) (l : Slots), takeS n l ++ dropS n l = l
  | 0, l => rfl
  | _ + 1, [] => rfl
  | n + 1, p :: l => by simp [takeS, dropS, takeS_dropS n l]

def hasKey : Slots → Nat → Bool
  | [], _ => false
  | (k, _) :: L, t => bif Nat.beq k t then true else hasKey L t
/-- each key of the first is one of ds, or none of L -/
def freshB (ds : Slots) : Slots → Slots → Bool
  | [], _ => true
  | (k, _) :: N, L => bif hasKey ds k then freshB ds N L else bif hasKey L k then false else freshB ds N L

theorem hasKey_look : ∀ {L : Slots} {t : Nat}, hasKey L t = false → look L t = none
  | [], _, _ => rfl
  | (k, v) :: L, t, h => by
    simp only [hasKey] at h
    simp only [look]
    cases hb : Nat.beq k t with
    | true => rw [hb] at h; cases h
    | false => rw [hb] at h; exact hasKey_look (L := L) h

theorem fresh_look {ds : Slots} : ∀ {N L : Slots} {t : Nat} {v : Value}, freshB ds N L = true → look ds t = none → hasKey ds t = false → look L t = some v → look (N ++ L) t = some v
  | [], _, _, _, _, _, _, h => h
  | (k, u) :: N, L, t, v, hf, hd, hd', h => by
    simp only [List.cons_append, look]
    simp only [freshB] at hf
    cases hb : Nat.beq k t with
    | true =>
      have := Nat.eq_of_beq_eq_true hb
      subst this
      rw [hd'] at hf
      cases hk : hasKey L k with
      | true => rw [hk] at hf; cases hf
      | false => rw [hasKey_look hk] at h; cases h
    | false =>
      refine fresh_look (N := N) ?_ hd hd' h
      cases hk2 : hasKey ds k with
      | true => rw [hk2] at hf; exact hf
      | false =>
        rw [hk2] at hf
        cases hk : hasKey L k with
        | true => rw [hk] at hf; cases hf
        | false => rw [hk] at hf; exact hf

theorem look_none_key : ∀ {L : Slots} {t : Nat}, look L t = none → hasKey L t = false
  | [], _, _ => rfl
  | (k, v) :: L, t, h => by
    simp only [look] at h
    simp only [hasKey]
    cases hb : Nat.beq k t with
    | true => rw [hb] at h; cases h
    | false => rw [hb] at h; exact look_none_key (L := L) h

theorem look_append : ∀ {A B : Slots} {t : Nat} {v : Value}, look (A ++ B) t = some v → look A t = some v ∨ look B t = some v
  | [], _, _, _, h => .inr h
  | (k, u) :: A, B, t, v, h => by
    simp only [List.cons_append, look] at h ⊢
    cases hb : Nat.beq k t with
    | true => rw [hb] at h; exact .inl h
    | false => rw [hb] at h; exact look_append (A := A) h

theorem TO.reH {c : Cx} {ops : Array Oper} {Q : Exit → Act → World → Prop} {l : List Oper} {L : Slots} {H : Hp} (H' : Hp) (e : H = H') (h : TO c ops Q l L H') : TO c ops Q l L H := e ▸ h

theorem look_app_left : ∀ {A B : Slots} {t : Nat} {v : Value}, look A t = some v → look (A ++ B) t = some v
  | (k, u) :: A, B, t, v, h => by
    simp only [List.cons_append, look] at h ⊢
    cases hb : Nat.beq k t with
    | true => rw [hb] at h; exact h
    | false => rw [hb] at h; exact look_app_left (A := A) h

/-- a cut between two operations: 'ds' is what the first k leave of slots -/
theorem TO.cutS {c : Cx} {ops : Array Oper} {Q : Exit → Act → World → Prop} {l : List Oper} {L : Slots} {H : Hp} (k : Nat) (ds : Slots)
    (h1 : TO c ops (Exit.then (fun a w => Sat c (ds ++ L) H a w) Q) (takeO k l) L H) (h2 : TO c ops Q (dropO k l) (ds ++ L) H) : TO c ops Q l L H := by
  intro a w s
  rw [← takeO_dropO k l]
  refine wpListIn_append _ (fun a w hq => h2 a w hq) (fun e a w hne hq => ?_) _ _ _ (h1 a w s)
  cases e <;> first | exact absurd rfl hne | exact hq

/-- a cut between two operations, the blocks too -/
theorem TO.cutH {c : Cx} {ops : Array Oper} {Q : Exit → Act → World → Prop} {l : List Oper} {L : Slots} {H : Hp} (k : Nat) (ds : Slots) (H' : Hp)
    (h1 : TO c ops (Exit.then (fun a w => Sat c (ds ++ L) H' a w) Q) (takeO k l) L H) (h2 : TO c ops Q (dropO k l) (ds ++ L) H') : TO c ops Q l L H := by
  intro a w s
  rw [← takeO_dropO k l]
  refine wpListIn_append _ (fun a w hq => h2 a w hq) (fun e a w hne hq => ?_) _ _ _ (h1 a w s)
  cases e <;> first | exact absurd rfl hne | exact hq

/-- a weaker state -/
theorem TE.weak {e : Exit} {L' : Slots} {H' : Hp} (hL : ∀ t v, look L' t = some v → look L t = some v) (hH : H'.all.Sublist H.all) (h : TE Q e c L' H') : TE Q e c L H :=
  fun a w s => h a w (s.weak hL hH)
theorem TC.weak {L' : Slots} {H' : Hp} (hL : ∀ t v, look L' t = some v → look L t = some v) (hH : H'.all.Sublist H.all) (h : TC c x Q L' H') : TC c x Q L H :=
  fun a w s => h a w (s.weak hL hH)

/-- every slot of L' reads in L as it does in L' -/
def subB : Slots → Slots → Prop
  | [], _ => True
  | (t, v) :: L', L => look L t = some v ∧ subB L' L

theorem subB.weak : ∀ {L' L : Slots}, subB L' L → ∀ t v, look L' t = some v → look L t = some v
  | [], _, _, _, _, h => by simp [look] at h
  | (k, u) :: L', L, h, t, v, hl => by
    simp only [look] at hl
    cases hb : Nat.beq k t with
    | true => rw [hb] at hl; simp at hl; subst hl; have := Nat.eq_of_beq_eq_true hb; subst this; exact h.1
    | false => rw [hb] at hl; exact subB.weak h.2 t v hl

/-- at a way's end before a cut: the n youngest entries are the way's own -/
theorem TE.cutS {K : Slots} {ds : Slots} (n : Nat) (h0 : dropS n K = L) (h1 : freshB ds (takeS n K) L = true) (h2 : subB ds K) :
    TE (Exit.then (fun a w => Sat c (ds ++ L) H a w) Q) .normal c K H := by
  intro a w s
  refine s.weak (fun t v h => ?_) (List.Sublist.refl _)
  cases hd : look ds t with
  | some u =>
    have : look (ds ++ L) t = some u := look_app_left hd
    rw [this] at h; cases h
    exact h2.weak t v hd
  | none =>
    rcases look_append h with h | h
    · rw [hd] at h; cases h
    · rw [← takeS_dropS n K, h0]; exact fresh_look h1 hd (look_none_key hd) h

theorem TC.cutS (ds : Slots) (h1 : TC c x (Exit.then (fun a w => Sat c (ds ++ L) H a w) Q) L H) (h2 : TC c y Q (ds ++ L) H) : TC c (.seq x y) Q L H :=
  fun a w s => wpIn_seq (wpIn_mono (h1 a w s) fun e a' w' hq => by
    cases e with
    | normal => exact h2 a' w' hq
    | _ => exact hq)

theorem TC.cutN (ds : Slots) (h1 : TC c x (Exit.then (fun a w => Sat c (ds ++ L) H a w) Q) L H) (h2 : TE Q .normal c (ds ++ L) H) : TC c x Q L H :=
  fun a w s => wpIn_mono (h1 a w s) fun e a' w' hq => by
    cases e with
    | normal => exact h2 a' w' hq
    | _ => exact hq

theorem TC.condT' {k : Operand} {b : Bool} (hk : ev L k = some (.bool b)) (hb : b = true) (ht : TC c x Q L H) : TC c (.cond k x y) Q L H :=
  TC.cond hk (fun _ => ht) (fun h => by rw [hb] at h; cases h)
theorem TC.condF' {k : Operand} {b : Bool} (hk : ev L k = some (.bool b)) (hb : b = false) (hf : TC c y Q L H) : TC c (.cond k x y) Q L H :=
  TC.cond hk (fun h => by rw [hb] at h; cases h) (fun _ => hf)

theorem TC.keep {L' : Slots} (hL : subB L' L) (h : TC c x Q L' H) : TC c x Q L H := TC.weak hL.weak (List.Sublist.refl _) h
theorem TE.keep {e : Exit} {L' : Slots} (hL : subB L' L) (h : TE Q e c L' H) : TE Q e c L H := TE.weak hL.weak (List.Sublist.refl _) h

/-- a cut at an exit: however x leaves by 'exit id', a state of Mid is there -/
def cutQ (id : Nat) (Mid : Slots → Hp → Prop) (c : Cx) (Q : Exit → Act → World → Prop) : Exit → Act → World → Prop
  | .exit i, a, w => if i = id then ∃ L H, Mid L H ∧ Sat c L H a w else Q (.exit i) a w
  | e, a, w => Q e a w
theorem TC.cutE (id : Nat) (Mid : Slots → Hp → Prop) (h1 : TC c x (cutQ id Mid c Q) L H) (h2 : ∀ L' H', Mid L' H' → TE Q (.exit id) c L' H') : TC c x Q L H :=
  fun a w s => wpIn_mono (h1 a w s) fun e a' w' hq => by
    cases e with
    | exit i =>
      simp only [cutQ] at hq
      by_cases hi : i = id
      · rw [if_pos hi] at hq; subst hi; obtain ⟨L', H', hm, s'⟩ := hq; exact h2 L' H' hm a' w' s'
      · rw [if_neg hi] at hq; exact hq
    | _ => exact hq
theorem TE.cutE {id : Nat} {Mid : Slots → Hp → Prop} (h : Mid L H) : TE (cutQ id Mid c Q) (.exit id) c L H := fun a w s => by
  simp only [cutQ, if_true]; exact ⟨L, H, h, s⟩
theorem TE.cutR {id : Nat} {Mid : Slots → Hp → Prop} {c0 : Cx} (h : TE Q .ret c L H) : TE (cutQ id Mid c0 Q) .ret c L H := h
theorem TE.cutN {id : Nat} {Mid : Slots → Hp → Prop} {c0 : Cx} (h : TE Q .normal c L H) : TE (cutQ id Mid c0 Q) .normal c L H := h
theorem TE.cutX {id i : Nat} {Mid : Slots → Hp → Prop} {c0 : Cx} (hne : Nat.beq i id = false) (h : TE Q (.exit i) c L H) : TE (cutQ id Mid c0 Q) (.exit i) c L H := fun a w s => by
  have : i ≠ id := fun e => by subst e; simp at hne
  simp only [cutQ, this, if_false]; exact h a w s
theorem TE.loopX {K : Act → World → Prop} {i : Nat} (h : TE Q (.exit i) c L H) : TE (Exit.then K Q) (.exit i) c L H := h
theorem TE.loopR {K : Act → World → Prop} (h : TE Q .ret c L H) : TE (Exit.then K Q) .ret c L H := h

def dropL' {α : Type} : Nat → List α → List α
  | 0, l => l
  | _ + 1, [] => []
  | n + 1, _ :: l => dropL' n l
theorem dropL'_sub {α : Type} : ∀ (n : Nat) (l : List α), (dropL' n l).Sublist l
  | 0, l => List.Sublist.refl _
  | _ + 1, [] => List.Sublist.refl _
  | n + 1, x :: l => (dropL'_sub n l).cons x
theorem flatten_sub {α : Type} : ∀ {A B : List (List α)}, A.Sublist B → A.flatten.Sublist B.flatten
  | _, _, .slnil => List.Sublist.refl _
  | _, _, .cons a h => (flatten_sub h).trans (List.sublist_append_right _ _)
  | _, _, .cons_cons a h => List.Sublist.append (List.Sublist.refl _) (flatten_sub h)
theorem drop_all (ke ks : Nat) (E : Blocks) (S : List Blocks) : (⟨dropL' ke E, dropL' ks S⟩ : Hp).all.Sublist (⟨E, S⟩ : Hp).all :=
  List.Sublist.append (dropL'_sub ke E) (flatten_sub (dropL'_sub ks S))

/-- to a state written anew: slots that read the same, the youngest blocks and rows dropped -/
theorem TE.to {E E' : Blocks} {S S' : List Blocks} {e : Exit} {L' : Slots} (ke ks : Nat) (hL : subB L' L) (hE : dropL' ke E = E') (hS : dropL' ks S = S') (h : TE Q e c L' ⟨E', S'⟩) : TE Q e c L ⟨E, S⟩ := by
  subst hE; subst hS; exact TE.weak hL.weak (drop_all ke ks E S) h
theorem TC.to {E E' : Blocks} {S S' : List Blocks} {L' : Slots} (ke ks : Nat) (hL : subB L' L) (hE : dropL' ke E = E') (hS : dropL' ks S = S') (h : TC c x Q L' ⟨E', S'⟩) : TC c x Q L ⟨E, S⟩ := by
  subst hE; subst hS; exact TC.weak hL.weak (drop_all ke ks E S) h

theorem TE.drop {E E' : Blocks} {S S' : List Blocks} {e : Exit} (ke ks : Nat) (hE : dropL' ke E = E') (hS : dropL' ks S = S') (h : TE Q e c L ⟨E', S'⟩) : TE Q e c L ⟨E, S⟩ := by
  subst hE; subst hS; exact TE.weak (fun _ _ h => h) (drop_all ke ks E S) h
theorem TE.reH {e : Exit} (H' : Hp) (hH : H = H') (h : TE Q e c L H') : TE Q e c L H := by subst hH; exact h
theorem TC.reH (H' : Hp) (hH : H = H') (h : TC c x Q L H') : TC c x Q L H := by subst hH; exact h
/-- a loop whose rounds are those of a function with fuel: 'f' gives its end's result 'r' -/
theorem TC.loop {σ ρ : Type} (f : Nat → σ → Option ρ) (r : ρ) (f0 : ∀ s, f 0 s = none) (St : σ → Slots → Hp → Prop)
    (round : ∀ (K : Act → World → Prop) (n : Nat) (s : σ) (L : Slots) (H : Hp), St s L H → f (n + 1) s = some r →
      (∀ s' L' H', St s' L' H' → f n s' = some r → TE (Exit.then K Q) .normal c L' H') → TC c x (Exit.then K Q) L H)
    (n : Nat) (s : σ) (hs : St s L H) (hr : f n s = some r) : TC c (.loop x) Q L H := by
  intro a w sa
  refine wpIn_loop_rounds n ?_
  induction n generalizing s L H a w with
  | zero => rw [f0] at hr; cases hr
  | succ n ih =>
    rw [roundsIn_succ]
    refine round _ n s L H hs hr ?_ a w sa
    intro s' L' H' hs' hr' a' w' sa'
    exact ih s' hs' hr' a' w' sa'
end
end Go.HW
