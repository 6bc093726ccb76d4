/- Maps over the states of HwCore. -/
import Derived.Test.YtbpldfhehpjbaaaHwRounds
import Derived.MapKept
namespace Go.HW
open Go Go.RowKit Go.MapKept
set_option linter.unusedVariables false

/-! ### what a key finds -/
def FN (d : TypeDesc) (key : Value) (es : List MapEntry) (i : Nat) (r : Option (Nat × Value)) : Prop := Instr.findNow d key es i = some r
theorem FN.nil {d : TypeDesc} {key : Value} {i : Nat} : FN d key [] i none := rfl
theorem FN.hit {k : IntKind} {x y : Int} {v : Value} {n i : Nat} {es : List MapEntry} (h : (x == y) = true) : FN (.int k) (.int k x) (⟨.int k y, v, n⟩ :: es) i (some (i, v)) := by
  simp [FN, Instr.findNow, Instr.sameNow, h]
theorem FN.miss {k : IntKind} {x y : Int} {v : Value} {n i : Nat} {es : List MapEntry} {r : Option (Nat × Value)} (h : (x == y) = false) (hr : FN (.int k) (.int k x) es (i + 1) r) : FN (.int k) (.int k x) (⟨.int k y, v, n⟩ :: es) i r := by
  simp [FN, Instr.findNow, Instr.sameNow, h]; exact hr

theorem isKey_int {k : IntKind} {x : Int} : IsKey (.int k) (.int k x) := rfl

section
variable {c : Cx} {ops : Array Oper} {Q : Exit → Act → World → Prop} {rest : List Oper} {L : Slots} {H : Hp}
variable {d : Nat} {T : TypeId} {pos : String} {af : Array Edge} {g : Option (Nat × Bool)}

theorem TO.fork {l : List Oper} (b : Bool) (h1 : b = true → TO c ops Q l L H) (h2 : b = false → TO c ops Q l L H) : TO c ops Q l L H := by
  cases b with
  | true => exact h1 rfl
  | false => exact h2 rfl

/-! ### a map that is written out -/
theorem TX.makeMapE {X : TypeId} {E : Blocks} {S : List Blocks} (hd : Nat.blt d c.n = true)
    (h : ∀ r, TO c ops Q rest ((d, .map (some r)) :: L) ⟨(r, .map #[] 0) :: E, S⟩) : TX c ops Q ⟨some d, .makeMap X none, T, pos, af, g⟩ rest L ⟨E, S⟩ := by
  intro a w s
  have hrun : (execOp a.eval ⟨some d, .makeMap X none, T, pos, af, g⟩).run c.P w = .ok (.value (.map (some w.heap.size))) { w with heap := w.heap.push (.map #[] 0) } := by
    simp [execOp, Instr.makeMap, newObj, Sem.run]
  rw [hrun]
  exact h w.heap.size _ _ ((s.alloc (.map #[] 0)).put (dst := some d) hd _)

theorem run_mapUpdate_new {P : Program} {w : World} {m kt et : TypeId} {D : TypeDesc} {r clock : Nat} {es : Array MapEntry} {key v : Value} (hm : P.underlying m = some (.map kt et)) (hD : P.underlying kt = some D) (hk : IsKey D key)
    (hb : w.heap[r]? = some (.map es clock)) (hf : FN D key es.toList 0 none) : (Instr.mapUpdate m (.map (some r)) key v).run P w = .ok () (World.withBlock w r (.map (es.push ⟨key, v, clock⟩) (clock + 1))) := by
  simp [Instr.mapUpdate, run_underlying hm, Go.MapKept.run_getObj_map hb, run_checkKey hD hk, run_findKey hD hf, Go.MapKept.run_setObj_map _ hb, Result.andThen, World.withBlock]

theorem run_mapUpdate_old {P : Program} {w : World} {m kt et : TypeId} {D : TypeDesc} {r clock j : Nat} {es : Array MapEntry} {e : MapEntry} {key v u : Value} (hm : P.underlying m = some (.map kt et)) (hD : P.underlying kt = some D) (hk : IsKey D key)
    (hb : w.heap[r]? = some (.map es clock)) (hf : FN D key es.toList 0 (some (j, u))) (hj : es[j]? = some e) (he : e.key = key) :
    (Instr.mapUpdate m (.map (some r)) key v).run P w = .ok () (World.withBlock w r (.map (es.modify j fun e => { e with key, val := v }) clock)) := by
  simp [Instr.mapUpdate, run_underlying hm, Go.MapKept.run_getObj_map hb, run_checkKey hD hk, run_findKey hD hf, hj, he, run_keyThatStays hk, Go.MapKept.run_setObj_map _ hb, Result.andThen, World.withBlock]

theorem run_lookup {P : Program} {w : World} {m kt et : TypeId} {D : TypeDesc} {r clock : Nat} {es : Array MapEntry} {key z : Value} {ok : Bool} {res : Option (Nat × Value)} (hm : P.underlying m = some (.map kt et)) (hD : P.underlying kt = some D) (hk : IsKey D key)
    (hz : ∀ w, (zeroValue et).run P w = .ok z w)
    (hb : w.heap[r]? = some (.map es clock)) (hf : FN D key es.toList 0 res) :
    (Instr.lookup m (.map (some r)) key ok).run P w = .ok (bif ok then .tuple #[(res.map (·.2)).getD z, .bool res.isSome] else (res.map (·.2)).getD z) w := by
  cases res with
  | none => cases ok <;> simp [Instr.lookup, run_underlying hm, Go.MapKept.run_getObj_map hb, run_checkKey hD hk, run_findKey hD hf, Result.andThen, hz]
  | some p => cases ok <;> simp [Instr.lookup, run_underlying hm, Go.MapKept.run_getObj_map hb, run_checkKey hD hk, run_findKey hD hf, Result.andThen]

theorem TX.insertE {m kt et : TypeId} {D : TypeDesc} {x y u : Operand} {r i clock : Nat} {es : List MapEntry} {key v : Value} {E E' : Blocks} {S : List Blocks} {o : Op} (ho : o = .mapUpdate m x y u ∨ o = .insert m x y u)
    (hm : ∀ w, (underlying m).run c.P w = .ok (.map kt et) w) (hD : ∀ w, (underlying kt).run c.P w = .ok D w)
    (hx : ev L x = some (.map (some r))) (hy : ev L y = some key) (hu : ev L u = some v) (hk : IsKey D key) (hi : getB E i = some (r, .map es.toArray clock)) (hf : FN D key es 0 none)
    (hs : setB E i (r, .map (es ++ [({ key := key, val := v, born := clock } : MapEntry)]).toArray (clock + 1)) = some E') (h : TO c ops Q rest L ⟨E', S⟩) : TX c ops Q ⟨none, o, T, pos, af, g⟩ rest L ⟨E, S⟩ := by
  intro a w s
  have hb := s.heap _ (getB_mem (H := ⟨E, S⟩) hi)
  have h1 := run_mapUpdate_new (v := v) (und_of hm) (und_of hD) hk hb hf
  have hrun : (execOp a.eval ⟨none, o, T, pos, af, g⟩).run c.P w = .ok .skip (World.withBlock w r (.map (es ++ [({ key := key, val := v, born := clock } : MapEntry)]).toArray (clock + 1))) := by
    rcases ho with rfl | rfl <;> simp [execOp, s.eval hx, s.eval hy, s.eval hu, h1]
  rw [hrun]
  exact h _ _ (s.setBlock hi hs)

theorem QV.lookupE {m kt et : TypeId} {D : TypeDesc} {x y : Operand} {r i clock : Nat} {es : List MapEntry} {key z v : Value} {res : Option (Nat × Value)}
    (hm : ∀ w, (underlying m).run c.P w = .ok (.map kt et) w) (hD : ∀ w, (underlying kt).run c.P w = .ok D w) (hz : ∀ w, (zeroValue et).run c.P w = .ok z w)
    (hx : ev L x = some (.map (some r))) (hy : ev L y = some key) (hk : IsKey D key) (hi : getB H.E i = some (r, .map es.toArray clock)) (hf : FN D key es 0 res) (hv : (res.map (·.2)).getD z = v) :
    QV c ⟨some d, .lookup m x y false, T, pos, af, g⟩ L H v := fun a w s => by
  have hb := s.heap _ (getB_mem hi)
  have h1 := run_lookup (ok := false) (und_of hm) (und_of hD) hk hz hb hf
  simp only [cond_false] at h1
  rw [hv] at h1
  simp [execOp, s.eval hx, s.eval hy, h1]
theorem TX.lookupE {m kt et : TypeId} {D : TypeDesc} {x y : Operand} {r i clock : Nat} {es : List MapEntry} {key z v : Value} {res : Option (Nat × Value)}
    (hm : ∀ w, (underlying m).run c.P w = .ok (.map kt et) w) (hD : ∀ w, (underlying kt).run c.P w = .ok D w) (hz : ∀ w, (zeroValue et).run c.P w = .ok z w)
    (hx : ev L x = some (.map (some r))) (hy : ev L y = some key) (hk : IsKey D key) (hi : getB H.E i = some (r, .map es.toArray clock)) (hf : FN D key es 0 res) (hv : (res.map (·.2)).getD z = v) (hd : Nat.blt d c.n = true)
    (h : TO c ops Q rest ((d, v) :: L) H) : TX c ops Q ⟨some d, .lookup m x y false, T, pos, af, g⟩ rest L H := TX.val hd (QV.lookupE hm hD hz hx hy hk hi hf hv) h
end

/-! ### a map that is owned -/
structure Kn (κ : Type) [DecidableEq κ] where
  d : TypeDesc
  enc : κ → Value
  key : ∀ k, IsKey d (enc k)
  inj : ∀ a b, enc a = enc b → a = b
def Kn.int (k : IntKind) : Kn Int := ⟨.int k, .int k, fun _ => rfl, fun a b h => by cases h; rfl⟩
def Kn.str : Kn ByteArray := ⟨.string, .string, fun _ => trivial, fun a b h => by cases h; rfl⟩

def mfind {κ α : Type} [DecidableEq κ] : List (κ × α) → κ → Option α
  | [], _ => none
  | p :: xs, k => bif decide (p.1 = k) then some p.2 else mfind xs k
def mget {κ α : Type} [DecidableEq κ] (xs : List (κ × α)) (k : κ) (z : α) : α := (mfind xs k).getD z
def mput {κ α : Type} [DecidableEq κ] : List (κ × α) → κ → α → List (κ × α)
  | [], k, v => [(k, v)]
  | p :: xs, k, v => bif decide (p.1 = k) then (k, v) :: xs else p :: mput xs k v

def OwnM {κ α : Type} [DecidableEq κ] (N : Kn κ) (V : α → Value) (r : Nat) (xs : List (κ × α)) (Hs : Blocks) : Prop :=
  ∃ es clock, Hs = [(r, .map es clock)] ∧ es.toList.map (fun e => (e.key, e.val)) = xs.map (fun p => (N.enc p.1, V p.2)) ∧ Stamped es clock

theorem OwnM.nil {κ α : Type} [DecidableEq κ] {N : Kn κ} {V : α → Value} {r : Nat} : OwnM N V r ([] : List (κ × α)) [(r, .map #[] 0)] := ⟨#[], 0, rfl, rfl, stamped_empty 0⟩

theorem sameNow_enc {κ : Type} [DecidableEq κ] (N : Kn κ) (a b : κ) : Instr.sameNow N.d (N.enc a) (N.enc b) = some (decide (b = a)) := by
  obtain ⟨r, h1, h2⟩ := sameNow_of_keys (N.key a) (N.key b)
  rw [h1]
  congr 1
  cases r with
  | true => have := N.inj _ _ (h2.1 rfl); simp [this]
  | false =>
    symm; simp
    intro e; subst e
    have := h2.2 rfl; cases this

/-- what is found, with its place -/
theorem fn_own {κ α : Type} [DecidableEq κ] {N : Kn κ} {V : α → Value} {k : κ} : ∀ {es : List MapEntry} {xs : List (κ × α)} (i : Nat), es.map (fun e => (e.key, e.val)) = xs.map (fun p => (N.enc p.1, V p.2)) →
    (mfind xs k = none ∧ FN N.d (N.enc k) es i none ∧ mput xs k = fun v => xs ++ [(k, v)]) ∨ ∃ j e v0, mfind xs k = some v0 ∧ FN N.d (N.enc k) es i (some (i + j, V v0)) ∧ es[j]? = some e ∧ e.key = N.enc k ∧ mput xs k = fun v => xs.set j (k, v)
  | [], [], i, _ => .inl ⟨rfl, rfl, rfl⟩
  | [], _ :: _, i, h => by simp at h
  | _ :: _, [], i, h => by simp at h
  | e :: es, p :: xs, i, h => by
    simp only [List.map_cons, List.cons.injEq, Prod.mk.injEq] at h
    obtain ⟨⟨h1, h2⟩, h3⟩ := h
    have hs := sameNow_enc N k p.1
    by_cases hp : p.1 = k
    · refine .inr ⟨0, e, p.2, by simp [mfind, hp], ?_, rfl, by rw [h1, hp], by funext v; simp [mput, hp]⟩
      simp only [FN, Instr.findNow, h1, hs]; simp [hp, h2]
    · rcases fn_own (k := k) (i + 1) h3 with ⟨q1, q2, q3⟩ | ⟨j, e', v0, q1, q2, q3, q4, q5⟩
      · refine .inl ⟨by simp [mfind, hp, q1], ?_, by funext v; simp [mput, hp, q3]⟩
        simp only [FN, Instr.findNow, h1, hs]; simp only [hp, decide_false]; exact q2
      · refine .inr ⟨j + 1, e', v0, by simp [mfind, hp, q1], ?_, by simpa using q3, q4, by funext v; simp [mput, hp, q5]⟩
        simp only [FN, Instr.findNow, h1, hs]; simp only [hp, decide_false]
        rw [show i + (j + 1) = i + 1 + j from by omega]; exact q2

section
variable {c : Cx} {ops : Array Oper} {Q : Exit → Act → World → Prop} {rest : List Oper} {L : Slots} {H : Hp}
variable {d : Nat} {T : TypeId} {pos : String} {af : Array Edge} {g : Option (Nat × Bool)}
variable {κ α : Type} [DecidableEq κ] {N : Kn κ} {V : α → Value}

theorem TX.makeMapS {X : TypeId} {E : Blocks} {S : List Blocks} (hd : Nat.blt d c.n = true)
    (h : ∀ r Hs, OwnM N V r ([] : List (κ × α)) Hs → TO c ops Q rest ((d, .map (some r)) :: L) ⟨E, Hs :: S⟩) : TX c ops Q ⟨some d, .makeMap X none, T, pos, af, g⟩ rest L ⟨E, S⟩ :=
  TX.makeMapE hd fun r => TO.perm (H' := ⟨E, [(r, .map #[] 0)] :: S⟩) (by simp only [Hp.all, List.flatten_cons, List.cons_append, List.nil_append]; exact List.perm_middle) (h r _ .nil)

theorem TX.updM {m kt et : TypeId} {x y u : Operand} {r si : Nat} {xs : List (κ × α)} {k : κ} {v : α} {E : Blocks} {S : List Blocks} {Hs : Blocks} {o : Op} (ho : o = .mapUpdate m x y u ∨ o = .insert m x y u)
    (hm : ∀ w, (underlying m).run c.P w = .ok (.map kt et) w) (hD : ∀ w, (underlying kt).run c.P w = .ok N.d w)
    (hx : ev L x = some (.map (some r))) (hy : ev L y = some (N.enc k)) (hu : ev L u = some (V v)) (hi : getS S si = some Hs) (hO : OwnM N V r xs Hs)
    (h : ∀ Hs' S', setS S si Hs' = some S' → OwnM N V r (mput xs k v) Hs' → TO c ops Q rest L ⟨E, S'⟩) : TX c ops Q ⟨none, o, T, pos, af, g⟩ rest L ⟨E, S⟩ := by
  intro a w s
  obtain ⟨es, clock, rfl, h1, h2⟩ := hO
  have hb : w.heap[r]? = some (.map es clock) := s.heap (r, .map es clock) (List.mem_append.2 (.inr (getS_sub hi _ (by simp))))
  have hrun : ∃ es' clock', (Instr.mapUpdate m (.map (some r)) (N.enc k) (V v)).run c.P w = .ok () (World.withBlock w r (.map es' clock')) ∧
      es'.toList.map (fun e => (e.key, e.val)) = (mput xs k v).map (fun p => (N.enc p.1, V p.2)) ∧ Stamped es' clock' := by
    rcases fn_own (k := k) 0 h1 with ⟨q1, q2, q3⟩ | ⟨j, e, v0, q1, q2, q3, q4, q5⟩
    · refine ⟨_, _, run_mapUpdate_new (und_of hm) (und_of hD) (N.key k) hb q2, by simp [q3, h1], stamped_push h2 ?_⟩
      have hks : ∀ x ∈ es.toList, IsKey N.d x.key := by
        intro x hx
        have : (x.key, x.val) ∈ xs.map (fun p => (N.enc p.1, V p.2)) := by rw [← h1]; exact List.mem_map.2 ⟨x, hx, rfl⟩
        obtain ⟨p, _, hp⟩ := List.mem_map.1 this
        have hp1 := congrArg Prod.fst hp
        simp only at hp1
        rw [← hp1]; exact N.key _
      rcases findNow_spec (N.key k) es.toList 0 hks with ⟨_, t⟩ | ⟨j, e, t, _⟩
      · exact t
      · have t' : Instr.findNow N.d (N.enc k) es.toList 0 = some none := q2
        rw [t'] at t; cases t
    · rw [Nat.zero_add] at q2
      refine ⟨_, _, run_mapUpdate_old (und_of hm) (und_of hD) (N.key k) hb q2 (by simpa using q3) q4, ?_, ?_⟩
      · rw [q5]
        apply List.ext_getElem?
        intro i
        have h1i : ∀ i : Nat, (es[i]?).map (fun (e : MapEntry) => (e.key, e.val)) = (xs[i]?).map (fun p => (N.enc p.1, V p.2)) := by
          intro i
          have := congrArg (fun l => l[i]?) h1
          simpa using this
        simp only [Array.toList_modify, List.getElem?_map, List.getElem?_modify, List.getElem?_set, Array.getElem?_toList]
        have q3' : es[j]? = some e := by simpa using q3
        by_cases hi : j = i
        · subst hi
          have hlt : j < xs.length := by
            have := h1i j
            rw [q3'] at this
            simp only [Option.map_some] at this
            cases hx : xs[j]? with
            | none => rw [hx] at this; cases this
            | some p => exact (List.getElem?_eq_some_iff.1 hx).1
          simp [q3', hlt]
        · simp [hi, h1i]
      · refine stamped_modify h2 _ _ (fun _ _ => rfl) (fun e' _ he' => ?_)
        have q3' : es[j]? = some e := by simpa using q3
        rw [q3'] at he'; cases he'; exact q4.symm
  obtain ⟨es', clock', e1, e2, e3⟩ := hrun
  obtain ⟨S', hS'⟩ := setS_some (i := si) [(r, .map es' clock')] hi
  obtain ⟨A1, B1, f1, f2⟩ := withBlock_flat hi hS'
  have s' : Sat c L ⟨E, S'⟩ a (World.withBlock w r (.map es' clock')) :=
    s.setBlockG (A := E ++ A1) (B := B1) (o := .map es clock) (by simp [Hp.all, f1]) (by simp [Hp.all, f2])
  have hrun : (execOp a.eval ⟨none, o, T, pos, af, g⟩).run c.P w = .ok .skip (World.withBlock w r (.map es' clock')) := by
    rcases ho with rfl | rfl <;> simp [execOp, s.eval hx, s.eval hy, s.eval hu, e1]
  rw [hrun]
  exact h _ _ hS' ⟨es', clock', rfl, e2, e3⟩ _ _ s'

theorem QV.lookM {m kt et : TypeId} {x y : Operand} {r i : Nat} {xs : List (κ × α)} {k : κ} {z : α} {E : Blocks} {S : List Blocks} {Hs : Blocks}
    (hm : ∀ w, (underlying m).run c.P w = .ok (.map kt et) w) (hD : ∀ w, (underlying kt).run c.P w = .ok N.d w) (hz : ∀ w, (zeroValue et).run c.P w = .ok (V z) w)
    (hx : ev L x = some (.map (some r))) (hy : ev L y = some (N.enc k)) (hi : getS S i = some Hs) (hO : OwnM N V r xs Hs) : QV c ⟨some d, .lookup m x y false, T, pos, af, g⟩ L ⟨E, S⟩ (V (mget xs k z)) := fun a w s => by
  obtain ⟨es, clock, rfl, h1, h2⟩ := hO
  have hb : w.heap[r]? = some (.map es clock) := s.heap (r, .map es clock) (List.mem_append.2 (.inr (getS_sub hi _ (by simp))))
  rcases fn_own (k := k) 0 h1 with ⟨q1, q2, q3⟩ | ⟨j, e, v0, q1, q2, q3, q4, q5⟩
  · have := run_lookup (ok := false) (und_of hm) (und_of hD) (N.key k) hz hb q2
    simp only [cond_false] at this
    simp [execOp, s.eval hx, s.eval hy, this, mget, q1]
  · have := run_lookup (ok := false) (und_of hm) (und_of hD) (N.key k) hz hb q2
    simp only [cond_false] at this
    simp [execOp, s.eval hx, s.eval hy, this, mget, q1]
theorem TX.lookM {m kt et : TypeId} {x y : Operand} {r i : Nat} {xs : List (κ × α)} {k : κ} {z : α} {E : Blocks} {S : List Blocks} {Hs : Blocks}
    (hm : ∀ w, (underlying m).run c.P w = .ok (.map kt et) w) (hD : ∀ w, (underlying kt).run c.P w = .ok N.d w) (hz : ∀ w, (zeroValue et).run c.P w = .ok (V z) w)
    (hx : ev L x = some (.map (some r))) (hy : ev L y = some (N.enc k)) (hi : getS S i = some Hs) (hO : OwnM N V r xs Hs) (hd : Nat.blt d c.n = true)
    (h : TO c ops Q rest ((d, V (mget xs k z)) :: L) ⟨E, S⟩) : TX c ops Q ⟨some d, .lookup m x y false, T, pos, af, g⟩ rest L ⟨E, S⟩ := TX.val hd (QV.lookM hm hD hz hx hy hi hO) h
end
end Go.HW
