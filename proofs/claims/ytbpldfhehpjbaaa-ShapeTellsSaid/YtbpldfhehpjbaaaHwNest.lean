/- Lookups that tell whether a key is there, deletes, comparing with nil; slices of owned slices. -/
import Derived.Test.YtbpldfhehpjbaaaHwSub
namespace Go.HW
open Go Go.RowKit Go.MapKept
set_option linter.unusedVariables false

/-! ### rows parted and joined -/
theorem Hp.perm_ofF {E E' : Blocks} {S S' : List Blocks} (hE : E.Perm E') (hS : S.flatten.Perm S'.flatten) : (⟨E, S⟩ : Hp).all.Perm (⟨E', S'⟩ : Hp).all := List.Perm.append hE hS
section
variable {c : Cx} {ops : Array Oper} {Q : Exit → Act → World → Prop} {L : Slots} {H : Hp} {x : Code}
theorem TC.perm {H' : Hp} (hH : H'.all.Perm H.all) (h : TC c x Q L H') : TC c x Q L H := fun a w s => h a w (s.perm hH)
theorem nil_perm {E : Blocks} {S : List Blocks} : (⟨E, [] :: S⟩ : Hp).all.Perm (⟨E, S⟩ : Hp).all := by simp [Hp.all]
theorem TO.addNil {l : List Oper} {E : Blocks} {S : List Blocks} (h : TO c ops Q l L ⟨E, [] :: S⟩) : TO c ops Q l L ⟨E, S⟩ := TO.perm nil_perm h
theorem TC.addNil {E : Blocks} {S : List Blocks} (h : TC c x Q L ⟨E, [] :: S⟩) : TC c x Q L ⟨E, S⟩ := TC.perm nil_perm h
end

/-! ### maps -/
def mhas {κ α : Type} [DecidableEq κ] (xs : List (κ × α)) (k : κ) : Bool := (mfind xs k).isSome
def mdel {κ α : Type} [DecidableEq κ] : List (κ × α) → κ → List (κ × α)
  | [], _ => []
  | p :: xs, k => bif decide (p.1 = k) then xs else p :: mdel xs k

theorem map_eraseIdx {α β : Type} (f : α → β) : ∀ (l : List α) (j : Nat), (l.eraseIdx j).map f = (l.map f).eraseIdx j
  | [], _ => rfl
  | _ :: _, 0 => rfl
  | x :: l, j + 1 => by simp [map_eraseIdx f l j]

theorem fn_del {κ α : Type} [DecidableEq κ] {N : Kn κ} {V : α → Value} {k : κ} : ∀ {es : List MapEntry} {xs : List (κ × α)} (i : Nat), es.map (fun e => (e.key, e.val)) = xs.map (fun p => (N.enc p.1, V p.2)) →
    (FN N.d (N.enc k) es i none ∧ mdel xs k = xs) ∨ ∃ j v0, FN N.d (N.enc k) es i (some (i + j, v0)) ∧ j < es.length ∧ mdel xs k = xs.eraseIdx j
  | [], [], i, _ => .inl ⟨rfl, rfl⟩
  | [], _ :: _, i, h => by simp at h
  | _ :: _, [], i, h => by simp at h
  | e :: es, p :: xs, i, h => by
    simp only [List.map_cons, List.cons.injEq, Prod.mk.injEq] at h
    obtain ⟨⟨h1, h2⟩, h3⟩ := h
    have hs := sameNow_enc N k p.1
    by_cases hp : p.1 = k
    · refine .inr ⟨0, e.val, ?_, by simp, by simp [mdel, hp]⟩
      simp only [FN, Instr.findNow, h1, hs]; simp [hp]
    · rcases fn_del (k := k) (i + 1) h3 with ⟨q1, q2⟩ | ⟨j, v0, q1, q2, q3⟩
      · refine .inl ⟨?_, by simp [mdel, hp, q2]⟩
        simp only [FN, Instr.findNow, h1, hs]; simp only [hp, decide_false]; exact q1
      · refine .inr ⟨j + 1, v0, ?_, by simpa using q2, by simp [mdel, hp, q3]⟩
        simp only [FN, Instr.findNow, h1, hs]; simp only [hp, decide_false]
        rw [show i + (j + 1) = i + 1 + j from by omega]; exact q1

section
variable {c : Cx} {ops : Array Oper} {Q : Exit → Act → World → Prop} {rest : List Oper} {L : Slots} {H : Hp}
variable {d : Nat} {T : TypeId} {pos : String} {af : Array Edge} {g : Option (Nat × Bool)}
variable {κ α : Type} [DecidableEq κ] {N : Kn κ} {V : α → Value}

theorem QV.lookM2 {m kt et : TypeId} {x y : Operand} {r i : Nat} {xs : List (κ × α)} {k : κ} {z : α} {E : Blocks} {S : List Blocks} {Hs : Blocks}
    (hm : ∀ w, (underlying m).run c.P w = .ok (.map kt et) w) (hD : ∀ w, (underlying kt).run c.P w = .ok N.d w) (hz : ∀ w, (zeroValue et).run c.P w = .ok (V z) w)
    (hx : ev L x = some (.map (some r))) (hy : ev L y = some (N.enc k)) (hi : getS S i = some Hs) (hO : OwnM N V r xs Hs) : QV c ⟨some d, .lookup m x y true, T, pos, af, g⟩ L ⟨E, S⟩ (.tuple #[V (mget xs k z), .bool (mhas xs k)]) := fun a w s => by
  obtain ⟨es, clock, rfl, h1, h2⟩ := hO
  have hb : w.heap[r]? = some (.map es clock) := s.heap (r, .map es clock) (List.mem_append.2 (.inr (getS_sub hi _ (by simp))))
  rcases fn_own (k := k) 0 h1 with ⟨q1, q2, q3⟩ | ⟨j, e, v0, q1, q2, q3, q4, q5⟩
  · have := run_lookup (ok := true) (und_of hm) (und_of hD) (N.key k) hz hb q2
    simp only [cond_true] at this
    simp [execOp, s.eval hx, s.eval hy, this, mget, mhas, q1]
  · have := run_lookup (ok := true) (und_of hm) (und_of hD) (N.key k) hz hb q2
    simp only [cond_true] at this
    simp [execOp, s.eval hx, s.eval hy, this, mget, mhas, q1]
theorem TX.lookM2 {m kt et : TypeId} {x y : Operand} {r i : Nat} {xs : List (κ × α)} {k : κ} {z : α} {E : Blocks} {S : List Blocks} {Hs : Blocks}
    (hm : ∀ w, (underlying m).run c.P w = .ok (.map kt et) w) (hD : ∀ w, (underlying kt).run c.P w = .ok N.d w) (hz : ∀ w, (zeroValue et).run c.P w = .ok (V z) w)
    (hx : ev L x = some (.map (some r))) (hy : ev L y = some (N.enc k)) (hi : getS S i = some Hs) (hO : OwnM N V r xs Hs) (hd : Nat.blt d c.n = true)
    (h : TO c ops Q rest ((d, .tuple #[V (mget xs k z), .bool (mhas xs k)]) :: L) ⟨E, S⟩) : TX c ops Q ⟨some d, .lookup m x y true, T, pos, af, g⟩ rest L ⟨E, S⟩ := TX.val hd (QV.lookM2 hm hD hz hx hy hi hO) h

theorem TX.delM {m kt et t2 : TypeId} {x y : Operand} {r si : Nat} {xs : List (κ × α)} {k : κ} {E : Blocks} {S : List Blocks} {Hs : Blocks} {dst : Option Tmp} (hdst : okD c.n dst = true)
    (hm : ∀ w, (underlying m).run c.P w = .ok (.map kt et) w) (hD : ∀ w, (underlying kt).run c.P w = .ok N.d w)
    (hx : ev L x = some (.map (some r))) (hy : ev L y = some (N.enc k)) (hi : getS S si = some Hs) (hO : OwnM N V r xs Hs)
    (h : ∀ Hs' S', setS S si Hs' = some S' → OwnM N V r (mdel xs k) Hs' → TO c ops Q rest (putS L dst (.tuple #[])) ⟨E, S'⟩) : TX c ops Q ⟨dst, .call ⟨.builtin .delete, #[x, y], #[m, t2]⟩, T, pos, af, g⟩ rest L ⟨E, S⟩ := by
  intro a w s
  obtain ⟨es, clock, rfl, h1, h2⟩ := hO
  have hb : w.heap[r]? = some (.map es clock) := s.heap (r, .map es clock) (List.mem_append.2 (.inr (getS_sub hi _ (by simp))))
  have hrun : ∃ es', (Builtin.delete_ #[m, t2] T #[.map (some r), N.enc k]).run c.P w = .ok (.tuple #[]) (World.withBlock w r (.map es' clock)) ∧
      es'.toList.map (fun e => (e.key, e.val)) = (mdel xs k).map (fun p => (N.enc p.1, V p.2)) ∧ Stamped es' clock := by
    rcases fn_del (k := k) 0 h1 with ⟨q2, q3⟩ | ⟨j, v0, q2, q3, q4⟩
    · refine ⟨es, ?_, by rw [q3]; exact h1, h2⟩
      simp [Builtin.delete_, run_underlying (und_of hm), Go.MapKept.run_getObj_map hb, run_checkKey (und_of hD) (N.key k), run_findKey (und_of hD) q2, Go.MapKept.run_setObj_map _ hb, Result.andThen, World.withBlock]
    · refine ⟨es.eraseIdxIfInBounds j, ?_, ?_, stamped_erase h2 j⟩
      · rw [Nat.zero_add] at q2
        simp [Builtin.delete_, run_underlying (und_of hm), Go.MapKept.run_getObj_map hb, run_checkKey (und_of hD) (N.key k), run_findKey (und_of hD) q2, Go.MapKept.run_setObj_map _ hb, Result.andThen, World.withBlock]
      · have q3' : j < es.size := by simpa using q3
        rw [q4, Array.eraseIdxIfInBounds, dif_pos q3', Array.toList_eraseIdx, map_eraseIdx, map_eraseIdx, h1]
  obtain ⟨es', e1, e2, e3⟩ := hrun
  obtain ⟨S', hS'⟩ := setS_some (i := si) [(r, .map es' clock)] hi
  obtain ⟨A1, B1, f1, f2⟩ := withBlock_flat hi hS'
  have s' : Sat c L ⟨E, S'⟩ a (World.withBlock w r (.map es' clock)) :=
    s.setBlockG (A := E ++ A1) (B := B1) (o := .map es clock) (by simp [Hp.all, f1]) (by simp [Hp.all, f2])
  have hex : (execOp a.eval ⟨dst, .call ⟨.builtin .delete, #[x, y], #[m, t2]⟩, T, pos, af, g⟩).run c.P w = .ok (.value (.tuple #[])) (World.withBlock w r (.map es' clock)) := by
    simp [execOp, resolve, invoke, builtin, s.eval hx, s.eval hy, e1]
  rw [hex]
  exact h _ _ hS' ⟨es', clock, rfl, e2, e3⟩ _ _ (s'.put hdst _)

/-! ### comparing with nil -/
theorem QV.eqNilS {X A yT : TypeId} {x y : Operand} {p : Option Addr} {n k n' k' : Nat} {b : Bool} (hu : ∀ w, (underlying X).run c.P w = .ok (.slice A) w) (hx : ev L x = some (.slice p n k)) (hy : ev L y = some (.slice none n' k')) (hb : p.isNone = b) :
    QV c ⟨some d, .binOp .eql X x y yT, T, pos, af, g⟩ L H (.bool b) := fun a w s => by
  subst hb
  have h1 : (Op.equal X (.slice p n k) (.slice none n' k')).run c.P w = .ok p.isNone w := by
    unfold Op.equal
    rw [show Op.maxDepth = 9999 + 1 from rfl, Op.equalIn]
    simp only [Sem.run_bind, hu, Result.andThen_ok]
    cases p <;> simp
  simp [execOp, s.eval hx, s.eval hy, eqGuard, binOp, h1]
theorem TX.eqNilS {X A yT : TypeId} {x y : Operand} {p : Option Addr} {n k n' k' : Nat} {b : Bool} (hu : ∀ w, (underlying X).run c.P w = .ok (.slice A) w) (hx : ev L x = some (.slice p n k)) (hy : ev L y = some (.slice none n' k')) (hb : p.isNone = b)
    (hd : Nat.blt d c.n = true) (h : TO c ops Q rest ((d, .bool b) :: L) H) : TX c ops Q ⟨some d, .binOp .eql X x y yT, T, pos, af, g⟩ rest L H := TX.val hd (QV.eqNilS hu hx hy hb) h
theorem QV.neNilS {X A yT : TypeId} {x y : Operand} {p : Option Addr} {n k n' k' : Nat} {b : Bool} (hu : ∀ w, (underlying X).run c.P w = .ok (.slice A) w) (hx : ev L x = some (.slice p n k)) (hy : ev L y = some (.slice none n' k')) (hb : p.isNone = b) :
    QV c ⟨some d, .binOp .neq X x y yT, T, pos, af, g⟩ L H (.bool (!b)) := fun a w s => by
  subst hb
  have h1 : (Op.equal X (.slice p n k) (.slice none n' k')).run c.P w = .ok p.isNone w := by
    unfold Op.equal
    rw [show Op.maxDepth = 9999 + 1 from rfl, Op.equalIn]
    simp only [Sem.run_bind, hu, Result.andThen_ok]
    cases p <;> simp
  simp [execOp, s.eval hx, s.eval hy, eqGuard, binOp, h1]
theorem TX.neNilS {X A yT : TypeId} {x y : Operand} {p : Option Addr} {n k n' k' : Nat} {b : Bool} (hu : ∀ w, (underlying X).run c.P w = .ok (.slice A) w) (hx : ev L x = some (.slice p n k)) (hy : ev L y = some (.slice none n' k')) (hb : p.isNone = b)
    (hd : Nat.blt d c.n = true) (h : TO c ops Q rest ((d, .bool (!b)) :: L) H) : TX c ops Q ⟨some d, .binOp .neq X x y yT, T, pos, af, g⟩ rest L H := TX.val hd (QV.neNilS hu hx hy hb) h
theorem QV.eqNilF {X yT : TypeId} {x y : Operand} {f : Fn} {u v : Array Value} {p1 p2 p3} (hu : ∀ w, (underlying X).run c.P w = .ok (.func p1 p2 p3) w) (hx : ev L x = some (.func f u v)) (hy : ev L y = some .nilFunc) :
    QV c ⟨some d, .binOp .eql X x y yT, T, pos, af, g⟩ L H (.bool false) := fun a w s => by
  have h1 : (Op.equal X (.func f u v) .nilFunc).run c.P w = .ok false w := by
    unfold Op.equal
    rw [show Op.maxDepth = 9999 + 1 from rfl, Op.equalIn]
    simp only [Sem.run_bind, hu, Result.andThen_ok]
    simp
  simp [execOp, s.eval hx, s.eval hy, eqGuard, binOp, h1]
theorem TX.eqNilF {X yT : TypeId} {x y : Operand} {f : Fn} {u v : Array Value} {p1 p2 p3} (hu : ∀ w, (underlying X).run c.P w = .ok (.func p1 p2 p3) w) (hx : ev L x = some (.func f u v)) (hy : ev L y = some .nilFunc)
    (hd : Nat.blt d c.n = true) (h : TO c ops Q rest ((d, .bool false) :: L) H) : TX c ops Q ⟨some d, .binOp .eql X x y yT, T, pos, af, g⟩ rest L H := TX.val hd (QV.eqNilF hu hx hy) h
end

/-! ### slices of owned slices -/
abbrev Sl := Option Addr × Nat × Nat
def En.sl : En Sl := ⟨fun s => [.slice s.1 s.2.1 s.2.2], 1, fun _ => rfl, fun _ => rfl, by decide⟩

def InAll {α : Type} (N : En α) (e : TypeId) : List Sl → List (List α) → List Blocks → Prop
  | [], [], [] => True
  | h :: hs, xs :: xss, r :: rs => (OwnL N e h.1 h.2.2 xs r ∧ xs.length = h.2.1) ∧ InAll N e hs xss rs
  | _, _, _ => False

def OwnLL {α : Type} (N : En α) (e e2 : TypeId) (sp : Option Addr) (cap : Nat) (xss : List (List α)) (Hs : Blocks) : Prop :=
  (xss = [] → sp = none) ∧ ∃ hl H0 rs, OwnL En.sl e2 sp cap hl H0 ∧ InAll N e hl xss rs ∧ Hs = H0 ++ rs.flatten

/-- a slice whose row lies within Hs -/
def InRow {α : Type} (N : En α) (e : TypeId) (Hs : Blocks) (sp : Option Addr) (n cap : Nat) (xs : List α) : Prop :=
  xs.length = n ∧ ∃ row, OwnL N e sp cap xs row ∧ ∀ p ∈ row, p ∈ Hs

section
variable {α : Type} {N : En α} {e e2 : TypeId}
theorem InAll.len : ∀ {hl : List Sl} {xss : List (List α)} {rs : List Blocks}, InAll N e hl xss rs → hl.length = xss.length
  | [], [], [], _ => rfl
  | _ :: _, _ :: _, _ :: _, h => by simp [InAll.len h.2]
  | [], _ :: _, _, h => by simp [InAll] at h
  | [], [], _ :: _, h => by simp [InAll] at h
  | _ :: _, [], _, h => by simp [InAll] at h
  | _ :: _, _ :: _, [], h => by simp [InAll] at h
theorem InAll.get : ∀ {hl : List Sl} {xss : List (List α)} {rs : List Blocks} {k : Nat} {xs : List α}, InAll N e hl xss rs → xss[k]? = some xs → ∃ h, hl[k]? = some h ∧ InRow N e rs.flatten h.1 h.2.1 h.2.2 xs
  | h :: hs, ys :: xss, r :: rs, 0, xs, hh, hk => by
    simp at hk; subst hk
    exact ⟨h, rfl, hh.1.2, r, hh.1.1, fun p hp => by simp [hp]⟩
  | h :: hs, ys :: xss, r :: rs, k + 1, xs, hh, hk => by
    obtain ⟨q, h1, h2, row, h3, h4⟩ := InAll.get (k := k) hh.2 (by simpa using hk)
    exact ⟨q, by simpa using h1, h2, row, h3, fun p hp => by have := h4 p hp; simp at this ⊢; exact .inr this⟩
  | [], [], [], _, _, _, hk => by simp at hk
  | [], _ :: _, _, _, _, h, _ => by simp [InAll] at h
  | [], [], _ :: _, _, _, h, _ => by simp [InAll] at h
  | _ :: _, [], _, _, _, h, _ => by simp [InAll] at h
  | _ :: _, _ :: _, [], _, _, h, _ => by simp [InAll] at h
theorem InAll.snoc : ∀ {hl : List Sl} {xss : List (List α)} {rs : List Blocks} {h : Sl} {xs : List α} {r : Blocks}, InAll N e hl xss rs → OwnL N e h.1 h.2.2 xs r → xs.length = h.2.1 → InAll N e (hl ++ [h]) (xss ++ [xs]) (rs ++ [r])
  | [], [], [], _, _, _, _, h1, h2 => ⟨⟨h1, h2⟩, trivial⟩
  | _ :: _, _ :: _, _ :: _, _, _, _, h, h1, h2 => ⟨h.1, InAll.snoc h.2 h1 h2⟩
  | [], _ :: _, _, _, _, _, h, _, _ => by simp [InAll] at h
  | [], [], _ :: _, _, _, _, h, _, _ => by simp [InAll] at h
  | _ :: _, [], _, _, _, _, h, _, _ => by simp [InAll] at h
  | _ :: _, _ :: _, [], _, _, _, h, _, _ => by simp [InAll] at h

theorem OwnLL.nil : OwnLL N e e2 none 0 [] [] := ⟨fun _ => rfl, [], [], [], OwnL.nil _ _, trivial, rfl⟩

theorem OwnL.rdm {c : Cx} {L : Slots} {H : Hp} {a : Act} {w : World} {cap : Nat} {sp : Option Addr} {xs : List α} {Hs : Blocks} (h : OwnL N e sp cap xs Hs) (s : Sat c L H a w) (hm : ∀ p ∈ Hs, p ∈ H.all) : RdS N w sp xs := by
  rcases h with ⟨rfl, rfl, rfl, rfl⟩ | ⟨g, cur, rfl, rfl, h1, h2, h3, h4⟩
  · exact .nil _ _ _
  · refine ⟨by omega, .inr ⟨_, rfl, rfl, fun k x hk j v hj => ?_⟩⟩
    have hb : w.heap[g]? = some (.cells cur e (0, 0)) := s.heap (g, .cells cur e (0, 0)) (hm _ (by simp))
    have hf := flat_get N xs k j x v hk hj
    rw [← h4, List.getElem?_take] at hf
    split at hf
    · simp [World.cell?, hb]; simpa using hf
    · cases hf
theorem OwnL.le_cap' {cap : Nat} {sp : Option Addr} {xs : List α} {Hs : Blocks} (h : OwnL N e sp cap xs Hs) : xs.length ≤ cap := OwnL.le_cap h
theorem InRow.le_cap {Hs : Blocks} {sp : Option Addr} {n cap : Nat} {xs : List α} (h : InRow N e Hs sp n cap xs) : xs.length ≤ cap := by obtain ⟨_, row, h1, _⟩ := h; exact h1.le_cap

theorem InRow.rd {c : Cx} {L : Slots} {E : Blocks} {S : List Blocks} {a : Act} {w : World} {i n cap : Nat} {sp : Option Addr} {xs : List α} {Hs : Blocks} (h : InRow N e Hs sp n cap xs) (s : Sat c L ⟨E, S⟩ a w) (hi : getS S i = some Hs) : RdS N w sp xs := by
  obtain ⟨_, row, h1, h2⟩ := h
  exact h1.rdm s fun p hp => List.mem_append.2 (.inr (getS_sub hi _ (h2 p hp)))
theorem InRow.rdf {c : Cx} {L : Slots} {R : Hp} {E : Blocks} {S : List Blocks} {a : Act} {w : World} {i n cap : Nat} {sp : Option Addr} {xs : List α} {Hs : Blocks} (h : InRow N e Hs sp n cap xs) (s : Sat c L (R.add ⟨E, S⟩) a w) (hi : getS S i = some Hs) :
    RdF N w (R.all.map (·.1)) sp xs := by
  obtain ⟨_, row, h1, h2⟩ := h
  intro w' e'
  have hp := Hp.add_perm R ⟨E, S⟩
  have hnd := (hp.map (·.1)).nodup_iff.1 s.nodup
  rw [List.map_append, List.nodup_append] at hnd
  obtain ⟨n1, n2, n3⟩ := hnd
  rcases h1 with ⟨rfl, rfl, rfl, rfl⟩ | ⟨g, cur, rfl, rfl, h1, h3, h4, h5⟩
  · exact .nil _ _ _
  · have hm : (g, Obj.cells cur e (0, 0)) ∈ (⟨E, S⟩ : Hp).all := List.mem_append.2 (.inr (getS_sub hi _ (h2 _ (by simp))))
    have hm' := hp.mem_iff.2 (List.mem_append.2 (.inr hm))
    have hb0 := s.heap _ hm'
    have hlt := s.lt hm'
    have hb : w'.heap[g]? = some (.cells cur e (0, 0)) := by
      rw [e'.same g hlt (fun hR => n3 _ hR g (List.mem_map.2 ⟨_, hm, rfl⟩) rfl)]; exact hb0
    refine ⟨by omega, .inr ⟨_, rfl, rfl, fun k x hk j v hj => ?_⟩⟩
    have hf := flat_get N xs k j x v hk hj
    rw [← h5, List.getElem?_take] at hf
    split at hf
    · simp [World.cell?, hb]; simpa using hf
    · cases hf
theorem InRow.rdf0 {c : Cx} {L : Slots} {E : Blocks} {S : List Blocks} {a : Act} {w : World} {i n cap : Nat} {sp : Option Addr} {xs : List α} {Hs : Blocks} (h : InRow N e Hs sp n cap xs) (s : Sat c L ⟨E, S⟩ a w) (hi : getS S i = some Hs) : RdF N w [] sp xs :=
  InRow.rdf (R := Hp.nil) h s hi

theorem OwnLL.isNone {sp : Option Addr} {cap : Nat} {xss : List (List α)} {Hs : Blocks} (h : OwnLL N e e2 sp cap xss Hs) : sp.isNone = xss.isEmpty := by
  obtain ⟨h0, hl, H0, rs, h1, h2, rfl⟩ := h
  cases xss with
  | nil => simp [h0 rfl]
  | cons xs xss =>
    have := h2.len
    rcases h1 with ⟨_, _, rfl, _⟩ | ⟨g, cur, rfl, _⟩
    · simp at this
    · rfl

/-- the front of an owned row, as a slice of it -/
theorem OwnL.cut {cap lo hi : Nat} {sp : Option Addr} {xs : List α} {Hs : Blocks} (h : OwnL N e sp cap xs Hs) (hlo : lo = 0) (hh : hi ≤ xs.length) : OwnL N e (subP sp N.sz cap lo) (cap - lo) (cutX xs lo hi) Hs := by
  subst hlo
  rcases h with ⟨rfl, rfl, rfl, rfl⟩ | ⟨g, cur, rfl, rfl, h1, h2, h3, h4⟩
  · exact .inl ⟨by simp [subP], rfl, by simp [cutX], rfl⟩
  · refine .inr ⟨g, cur, ?_, rfl, ?_, h2, h3, ?_⟩
    · simp [subP, add_none]
    · rw [cutX_length hh]; omega
    · have e1 : cutX xs 0 hi = xs.take hi := by simp [cutX]
      rw [e1, List.length_take, Nat.min_eq_left hh]
      have : (xs.take hi).flatMap N.enc = (xs.flatMap N.enc).take (hi * N.sz) := by
        have hx : xs.flatMap N.enc = (xs.take hi).flatMap N.enc ++ (xs.drop hi).flatMap N.enc := by rw [← List.flatMap_append, List.take_append_drop]
        rw [hx, List.take_left' (by rw [flat_len, List.length_take, Nat.min_eq_left hh])]
      rw [this, ← h4, List.take_take, Nat.min_eq_left (Nat.mul_le_mul_right _ hh)]
end

section
variable {c : Cx} {ops : Array Oper} {Q : Exit → Act → World → Prop} {rest : List Oper} {L : Slots} {H : Hp}
variable {d : Nat} {T : TypeId} {pos : String} {af : Array Edge} {g : Option (Nat × Bool)}
variable {α : Type} {N : En α} {e : TypeId}

theorem OwnLL.sat {E : Blocks} {S : List Blocks} {Hs H0 R : Blocks} {i : Nat} (hi : getS S i = some Hs) (hH : Hs = H0 ++ R) : ∀ p ∈ H0, p ∈ (⟨E, S⟩ : Hp).all := fun p hp =>
  List.mem_append.2 (.inr (getS_sub hi _ (by rw [hH]; simp [hp])))

theorem TX.indexLL {X A : Nat} {x ix : Operand} {sp : Option Addr} {xss : List (List α)} {cap n si : Nat} {ik : IntKind} {i : Int} {E : Blocks} {S : List Blocks} {Hs : Blocks} (hu : ∀ w, (underlying X).run c.P w = .ok (.slice A) w)
    (hs : ∀ w, (sizeOf A).run c.P w = .ok 1 w) (hx : ev L x = some (.slice sp n cap)) (hn : xss.length = n) (hi : ev L ix = some (.int ik i)) (hS : getS S si = some Hs) (ho : OwnLL N e A sp cap xss Hs)
    (hk : inb i xss.length = true) (hd : Nat.blt d c.n = true) (h : TO c ops Q rest ((d, .pointer (some (eAddr sp (i.toNat * 1 + 0)))) :: L) ⟨E, S⟩) : TX c ops Q ⟨some d, .indexAddr X x ix, T, pos, af, g⟩ rest L ⟨E, S⟩ := by
  obtain ⟨h0, hl, H0, rs, h1, h2, h3⟩ := ho
  have hln := h2.len
  exact TX.indexR (N := En.sl) (xs := hl) hu hs hx (hln.trans hn) hi (fun a w s => h1.rdm s (OwnLL.sat hS h3)) (by rw [hln]; exact hk) hd h

theorem TX.loadLL {A : TypeId} {x : Operand} {sp : Option Addr} {xss : List (List α)} {cap si : Nat} {i : Int} {E : Blocks} {S : List Blocks} {Hs : Blocks} (hagg : ∀ w, (isAgg A).run c.P w = .ok false w)
    (hx : ev L x = some (.pointer (some (eAddr sp (i.toNat * 1 + 0))))) (hS : getS S si = some Hs) (ho : OwnLL N e A sp cap xss Hs) (hk : inb i xss.length = true) (hd : Nat.blt d c.n = true)
    (h : ∀ sp' n' cap', InRow N e Hs sp' n' cap' (gt xss i) → TO c ops Q rest ((d, .slice sp' n' cap') :: L) ⟨E, S⟩) : TX c ops Q ⟨some d, .load A x, T, pos, af, g⟩ rest L ⟨E, S⟩ := by
  obtain ⟨h0, hl, H0, rs, h1, h2, h3⟩ := ho
  have hln := h2.len
  have hk' : inb i hl.length = true := by rw [hln]; exact hk
  obtain ⟨q, hq, hr, row, hr1, hr2⟩ := h2.get (gt_some hk)
  have hq' : gt hl i = q := by have := gt_some hk'; rw [hq] at this; cases this; rfl
  exact TX.loadR1 (N := En.sl) (xs := hl) (o := 0) hagg hx (fun a w s => h1.rdm s (OwnLL.sat hS h3)) hk' (by rw [hq']; rfl) hd
    (h _ _ _ ⟨hr, row, hr1, fun p hp => by rw [h3]; exact List.mem_append.2 (.inr (hr2 p hp))⟩)

theorem TX.appendLL {X A : TypeId} {info : TypeInfo} {zv : Value} {x y : Operand} {sp sq sp1 : Option Addr} {cap cq cap1 n1 : Nat} {xss : List (List α)} {xs1 : List α} {si sj by' : Nat} (k : Nat) {E : Blocks} {S S1 S2 : List Blocks} {Hs H1 : Blocks}
    (hu : ∀ w, (underlying X).run c.P w = .ok (.slice A) w) (hi : ∀ w, (typeInfo A).run c.P w = .ok info w) (hz : info.zero = some zv) (hzc : zv.cells.size = 1) (hsz : info.size = 1) (hby : info.bytes = by')
    {n : Nat} (hx : ev L x = some (.slice sp n cap)) (hn : xss.length = n) (hy : ev L y = some (.slice sq 1 cq)) (hS : takeS1 S si = some (Hs, S1)) (ho : OwnLL N e A sp cap xss Hs)
    (hS1 : takeS1 S1 sj = some (H1, S2)) (ho1 : OwnL N e sp1 cap1 xs1 H1) (hn1 : xs1.length = n1)
    (hrd : ∀ a w, Sat c L ⟨E, S⟩ a w → RdS En.sl w sq [(sp1, n1, cap1)]) (hb : decide ((xss.length + 1) * by' ≤ 140737488355328 ∧ xss.length + 1 ≤ 9223372036854775807) = true) (hd : Nat.blt d c.n = true)
    (h : ∀ sp' cap' Hs', OwnLL N e A sp' cap' (xss ++ [xs1]) Hs' → TO c ops Q rest ((d, .slice sp' (xss ++ [xs1]).length cap') :: L) ⟨E, insB S2 k Hs'⟩) :
    TX c ops Q ⟨some d, .call ⟨.builtin .append, #[x, y], #[X, X]⟩, T, pos, af, g⟩ rest L ⟨E, S⟩ := by
  obtain ⟨h0, hl, H0, rs, h1, h2, h3⟩ := ho
  have hln := h2.len
  have hp : (⟨E, H0 :: (rs.flatten ++ H1) :: S2⟩ : Hp).all.Perm (⟨E, S⟩ : Hp).all := by
    refine Hp.perm_ofF (List.Perm.refl _) ?_
    have p1 := (takeS1_perm hS).flatten
    have p2 := (takeS1_perm hS1).flatten
    simp only [List.flatten_cons] at p1 p2 ⊢
    rw [h3] at p1
    refine List.Perm.trans ?_ p1
    rw [List.append_assoc, List.append_assoc]
    refine List.Perm.append_left _ (List.Perm.append_left _ ?_)
    exact p2
  intro a w s
  have s' := s.perm hp
  refine TX.appendS (N := En.sl) (xs := hl) (ys := [(sp1, n1, cap1)]) (si := 0) (E := E) (S := H0 :: (rs.flatten ++ H1) :: S2) hu hi hz hzc hsz hby hx (hln.trans hn) hy rfl rfl h1 (fun a w q => hrd a w (q.perm hp.symm)) (by rw [hln]; exact hb) hd ?_ a w s'
  intro sp' cap' Hs' S' hS' hO
  cases hS'
  have e1 : (hl ++ [(sp1, n1, cap1)]).length = (xss ++ [xs1]).length := by simp [hln]
  rw [e1]
  refine TO.perm ?_ (h sp' cap' _ ⟨fun hh => by simp at hh, _, _, _, hO, h2.snoc ho1 hn1, rfl⟩)
  refine Hp.perm_ofF (List.Perm.refl _) ((insB_perm _ _ _).flatten.trans ?_)
  simp
end
end Go.HW
namespace Go.HW
theorem RdS.sub0 {α : Type} {N : En α} {w : World} {sp : Option Addr} {xs : List α} {sz cap : Nat} (h : RdS N w sp xs) : RdS N w (subP sp sz cap 0) xs := by
  rcases h with ⟨h0, rfl | ⟨ad, rfl, h1, h2⟩⟩
  · exact ⟨h0, .inl rfl⟩
  · refine ⟨h0, .inr ⟨ad, ?_, h1, h2⟩⟩
    cases ad with | mk b o sp => simp at h1; subst h1; simp [subP, add_none]
theorem RdF.sub0 {α : Type} {N : En α} {w : World} {R : List Nat} {sp : Option Addr} {xs : List α} {sz cap : Nat} (h : RdF N w R sp xs) : RdF N w R (subP sp sz cap 0) xs := fun w' e => (h w' e).sub0
end Go.HW
namespace Go.HW
theorem QV.fieldAddr' {c : Cx} {L : Slots} {H : Hp} {T : TypeId} {pos : String} {af : Array Edge} {g : Option (Nat × Bool)} {S : TypeId} {d : Nat} {x : Operand} {b off : Nat} {f : Nat} {fs : List Field} {fd : Field} {k o' : Nat} (hu : ∀ w, (underlying S).run c.P w = .ok (.struct fs.toArray) w)
    (hf : fs[f]? = some fd) (hk : ∀ w, (sizeOf fd.type).run c.P w = .ok (k + 1) w) (hx : ev L x = some (.pointer (some ⟨b, off, none⟩))) (ho : off + fd.offset = o') : QV c ⟨some d, .fieldAddr S x f, T, pos, af, g⟩ L H (.pointer (some ⟨b, o', none⟩)) := fun a w s => by
  have := QV.fieldAddr (d := d) (T := T) (pos := pos) (af := af) (g := g) (H := H) hu hf hk hx a w s
  rw [add_none, ho] at this
  exact this
end Go.HW
namespace Go.HW
theorem QV.fieldAddrE {c : Cx} {L : Slots} {H : Hp} {T : TypeId} {pos : String} {af : Array Edge} {g : Option (Nat × Bool)} {d : Nat} {X : TypeId} {x : Operand} {sp : Option Addr} {m o : Nat} {f : Nat} {fs : List Field} {fd : Field} {k o' : Nat} (hu : ∀ w, (underlying X).run c.P w = .ok (.struct fs.toArray) w)
    (hf : fs[f]? = some fd) (hk : ∀ w, (sizeOf fd.type).run c.P w = .ok (k + 1) w) (hx : ev L x = some (.pointer (some (eAddr sp (m + o))))) (ho : o + fd.offset = o') : QV c ⟨some d, .fieldAddr X x f, T, pos, af, g⟩ L H (.pointer (some (eAddr sp (m + o')))) := fun a w s => by
  have := QV.fieldAddr (d := d) (T := T) (pos := pos) (af := af) (g := g) (H := H) hu hf hk hx a w s
  rw [eAddr_add, Nat.add_assoc, ho] at this
  exact this
end Go.HW
namespace Go.HW
theorem neOf {a b : Int} (h : (a != b) = true) : a ≠ b := by simpa using h
end Go.HW
namespace Go.HW
theorem TE.toh {c : Cx} {Q : Exit → Act → World → Prop} {L L' : Slots} {E E' : Blocks} {S S' : List Blocks} {e : Exit} (h : TE Q e c L' ⟨E', S'⟩) (ke ks : Nat) (hL : subB L' L) (hE : dropL' ke E = E') (hS : dropL' ks S = S') : TE Q e c L ⟨E, S⟩ := TE.to ke ks hL hE hS h
end Go.HW
