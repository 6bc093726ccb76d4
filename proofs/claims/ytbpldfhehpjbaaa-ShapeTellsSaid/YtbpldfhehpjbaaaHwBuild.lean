/- Struct, array and slice literals; structs compared. -/
import Derived.Test.YtbpldfhehpjbaaaHwSlice
namespace Go.HW
open Go Go.RowKit
set_option linter.unusedVariables false

/-- Instr.fill over lists -/
def fillL (place : Nat → Option (Nat × Nat)) (l : List Value) : List (Nat × Value) → Option (List Value)
  | [] => some l
  | (i, v) :: rest =>
    match place i with
    | none => none
    | some (off, size) => bif Nat.beq v.cells.toList.length size then (match pasteL l off v.cells.toList with | some l' => fillL place l' rest | none => none) else none

theorem paste_fold : ∀ (vs : List Value) (l r : List Value) (off j : Nat), pasteL l (off + j) vs = some r →
    ((vs.zipIdx j).foldl (fun (cs : Array Value) (p : Value × Nat) => cs.setIfInBounds (off + p.2) p.1) l.toArray) = r.toArray
  | [], l, r, off, j, h => by
    have h2 := pasteL_eq l (off + j) [] r h
    simp
    apply List.ext_getElem?
    intro k; rw [h2.2.2 k]; simp; omega
  | v :: vs, l, r, off, j, h => by
    obtain ⟨h1, h2, h3⟩ := pasteL_eq l (off + j) (v :: vs) r h
    simp only [List.zipIdx_cons, List.foldl_cons, List.setIfInBounds_toArray]
    have h4 : ∃ r', pasteL (l.set (off + j) v) (off + (j + 1)) vs = some r' := by
      have : ∀ (l : List Value) (o : Nat) (vs : List Value), o + vs.length ≤ l.length → ∃ r', pasteL l o vs = some r' := by
        intro l
        induction l with
        | nil => intro o vs h; cases o with
          | zero => cases vs with
            | nil => exact ⟨[], rfl⟩
            | cons => simp at h
          | succ o => simp at h
        | cons x l ih =>
          intro o vs h
          cases o with
          | zero => cases vs with
            | nil => exact ⟨x :: l, rfl⟩
            | cons v vs =>
              obtain ⟨r', hr⟩ := ih 0 vs (by simp at h ⊢; omega)
              exact ⟨v :: r', by simp [pasteL, hr]⟩
          | succ o =>
            obtain ⟨r', hr⟩ := ih o vs (by simp at h; omega)
            exact ⟨x :: r', by simp [pasteL, hr]⟩
      refine this _ _ _ ?_
      simp at h2 ⊢; omega
    obtain ⟨r', h5⟩ := h4
    rw [paste_fold vs (l.set (off + j) v) r' off (j + 1) h5]
    congr 1
    obtain ⟨k1, k2, k3⟩ := pasteL_eq _ _ _ _ h5
    apply List.ext_getElem?
    intro k
    rw [k3 k, h3 k]
    simp only [List.length_cons] at h2 ⊢
    by_cases hk : off + (j + 1) ≤ k ∧ k < off + (j + 1) + vs.length
    · rw [if_pos hk, if_pos (by omega), show k - (off + j) = (k - (off + (j + 1))) + 1 from by omega]; simp
    · rw [if_neg hk]
      by_cases hk2 : k = off + j
      · subst hk2
        rw [if_pos (by omega), List.getElem?_set_self (by omega)]; simp
      · rw [if_neg (by omega), List.getElem?_set_ne (by omega)]

theorem fill_eq (place : Nat → Option (Nat × Nat)) : ∀ (pv : List (Nat × Value)) (l r : List Value), fillL place l pv = some r → Instr.fill place l.toArray pv = some r.toArray
  | [], l, r, h => by simp [fillL] at h; simp [Instr.fill, h]
  | (i, v) :: rest, l, r, h => by
    simp only [fillL] at h
    cases hp : place i with
    | none => rw [hp] at h; cases h
    | some p =>
      obtain ⟨off, size⟩ := p
      rw [hp] at h
      simp only at h
      cases hb : Nat.beq v.cells.toList.length size with
      | false => rw [hb] at h; cases h
      | true =>
        rw [hb] at h
        simp only [cond_true] at h
        have hs := Nat.eq_of_beq_eq_true hb
        cases hq : pasteL l off v.cells.toList with
        | none => rw [hq] at h; cases h
        | some l' =>
          rw [hq] at h
          obtain ⟨p1, p2, p3⟩ := pasteL_eq _ _ _ _ hq
          have hf := paste_fold v.cells.toList l l' off 0 hq
          simp only [Instr.fill, hp]
          rw [if_neg (by simp at hs p2 ⊢; omega)]
          have e : v.cells.zipIdx = (v.cells.toList.zipIdx 0).toArray := by
            apply Array.ext'
            simp
          rw [e]
          simp only [List.size_toArray, List.length_zipIdx, Array.length_toList, List.foldl_toArray']
          rw [hf]
          exact fill_eq place rest l' r h

/-- the places of a struct's fields -/
inductive PlOk (P : Program) : List Field → List (Nat × Nat) → Prop
  | nil : PlOk P [] []
  | cons {f : Field} {fs : List Field} {n : Nat} {ps : List (Nat × Nat)} (h : ∀ w, (sizeOf f.type).run P w = .ok n w) (t : PlOk P fs ps) : PlOk P (f :: fs) ((f.offset, n) :: ps)

theorem PlOk.run {P : Program} {w : World} : ∀ {fs : List Field} {ps : List (Nat × Nat)}, PlOk P fs ps → (fs.mapM fun f => (Prod.mk f.offset <$> sizeOf f.type : Sem (Nat × Nat))).run P w = .ok ps w
  | _, _, .nil => by simp
  | _, _, .cons h t => by have := t.run (w := w); simp [h, this]

def getP : List (Nat × Nat) → Nat → Option (Nat × Nat)
  | [], _ => none
  | x :: _, 0 => some x
  | _ :: l, n + 1 => getP l n
theorem getP_eq : ∀ (l : List (Nat × Nat)) (n : Nat), getP l n = l[n]?
  | [], n => by simp [getP]
  | x :: l, 0 => by simp [getP]
  | x :: l, n + 1 => by simp [getP, getP_eq l n]

def evp (L : Slots) : List (Nat × Operand) → Option (List (Nat × Value))
  | [] => some []
  | (i, x) :: xs => match ev L x, evp L xs with | some v, some vs => some ((i, v) :: vs) | _, _ => none

section
variable {c : Cx} {ops : Array Oper} {Q : Exit → Act → World → Prop} {rest : List Oper} {L : Slots} {H : Hp}
variable {d : Nat} {T : TypeId} {pos : String} {af : Array Edge} {g : Option (Nat × Bool)}
variable {α : Type} {N : En α}

theorem Sat.evalps {a : Act} {w : World} (s : Sat c L H a w) : ∀ {xs : List (Nat × Operand)} {vs : List (Nat × Value)}, evp L xs = some vs → xs.map (fun p => (p.1, a.eval p.2)) = vs
  | [], vs, h => by simp [evp] at h; simp [h]
  | (i, x) :: xs, vs, h => by
    simp only [evp] at h
    cases hx : ev L x with
    | none => simp [hx] at h
    | some v =>
      cases hxs : evp L xs with
      | none => simp [hx, hxs] at h
      | some us => simp [hx, hxs] at h; subst h; simp [s.eval hx, s.evalps hxs]

theorem QV.build {X : TypeId} {parts : List (Nat × Operand)} {pv : List (Nat × Value)} {zv : Value} {zl l : List Value} {fs : List Field} {ps : List (Nat × Nat)} (hz : ∀ w, (zeroValue X).run c.P w = .ok zv w) (hzl : zv.cells = zl.toArray)
    (hu : ∀ w, (underlying X).run c.P w = .ok (.struct fs.toArray) w) (hpl : PlOk c.P fs ps) (hp : evp L parts = some pv) (hf : fillL (getP ps) zl pv = some l) : QV c ⟨some d, .build X parts.toArray, T, pos, af, g⟩ L H (.agg l.toArray) := fun a w s => by
    have h1 := fill_eq _ _ _ _ hf
    have h2 := hpl.run (w := w)
    have h3 := s.evalps hp
    have h4 : (fun i => ps[i]?) = getP ps := funext fun i => (getP_eq ps i).symm
    simp [execOp, Instr.build, hz, hu, hzl, h2, h3, h4, h1]

theorem TX.build {X : TypeId} {parts : List (Nat × Operand)} {pv : List (Nat × Value)} {zv : Value} {zl l : List Value} {fs : List Field} {ps : List (Nat × Nat)} (hz : ∀ w, (zeroValue X).run c.P w = .ok zv w) (hzl : zv.cells = zl.toArray)
    (hu : ∀ w, (underlying X).run c.P w = .ok (.struct fs.toArray) w) (hpl : PlOk c.P fs ps) (hp : evp L parts = some pv) (hf : fillL (getP ps) zl pv = some l) (hd : Nat.blt d c.n = true) (h : TO c ops Q rest ((d, .agg l.toArray) :: L) H) : TX c ops Q ⟨some d, .build X parts.toArray, T, pos, af, g⟩ rest L H := TX.val hd (QV.build hz hzl hu hpl hp hf) h

theorem QV.buildA {X A n k : Nat} {parts : List (Nat × Operand)} {pv : List (Nat × Value)} {zv : Value} {zl l : List Value} (hz : ∀ w, (zeroValue X).run c.P w = .ok zv w) (hzl : zv.cells = zl.toArray)
    (hu : ∀ w, (underlying X).run c.P w = .ok (.array n A) w) (hs : ∀ w, (sizeOf A).run c.P w = .ok k w) (hp : evp L parts = some pv) (hf : fillL (fun i => some (i * k, k)) zl pv = some l) : QV c ⟨some d, .build X parts.toArray, T, pos, af, g⟩ L H (.agg l.toArray) := fun a w s => by
    have h1 := fill_eq _ _ _ _ hf
    have h3 := s.evalps hp
    simp [execOp, Instr.build, hz, hu, hzl, hs, h3, h1]

theorem TX.buildA {X A n k : Nat} {parts : List (Nat × Operand)} {pv : List (Nat × Value)} {zv : Value} {zl l : List Value} (hz : ∀ w, (zeroValue X).run c.P w = .ok zv w) (hzl : zv.cells = zl.toArray)
    (hu : ∀ w, (underlying X).run c.P w = .ok (.array n A) w) (hs : ∀ w, (sizeOf A).run c.P w = .ok k w) (hp : evp L parts = some pv) (hf : fillL (fun i => some (i * k, k)) zl pv = some l) (hd : Nat.blt d c.n = true) (h : TO c ops Q rest ((d, .agg l.toArray) :: L) H) : TX c ops Q ⟨some d, .build X parts.toArray, T, pos, af, g⟩ rest L H := TX.val hd (QV.buildA hz hzl hu hs hp hf) h

/-- a slice literal all of whose elements are given -/
theorem TX.buildS {X A n : Nat} {parts : List (Nat × Operand)} {pv : List (Nat × Value)} {zv : Value} {ys : List α} {E : Blocks} {S : List Blocks} (hu : ∀ w, (underlying X).run c.P w = .ok (.slice A) w)
    (hs : ∀ w, (sizeOf A).run c.P w = .ok N.sz w) (hz : ∀ w, (zeroValue A).run c.P w = .ok zv w) (hzs : zv.cells.size = N.sz) (hp : evp L parts = some pv) (hy : ys.length = n) (hn : Nat.ble (n * N.sz) 16777216 = true)
    (hf : ∀ zl : List Value, zl.length = n * N.sz → fillL (fun i => some (i * N.sz, N.sz)) zl pv = some (ys.flatMap N.enc)) (hd : Nat.blt d c.n = true)
    (h : ∀ sp Hs, OwnL N A sp n ys Hs → TO c ops Q rest ((d, .slice sp n n) :: L) ⟨E, Hs :: S⟩) : TX c ops Q ⟨some d, .buildSlice X n parts.toArray, T, pos, af, g⟩ rest L ⟨E, S⟩ := by
  intro a w s
  have hn' : n * N.sz ≤ 16777216 := Nat.le_of_ble_eq_true hn
  have h3 := s.evalps hp
  have hex : (execOp a.eval ⟨some d, .buildSlice X n parts.toArray, T, pos, af, g⟩).run c.P w = .ok (.value (.slice (some ⟨w.heap.size, 0, none⟩) n n)) (w.alloc (.cells (ys.flatMap N.enc).toArray A)) := by
    by_cases h0 : n * N.sz = 0
    · have hf0 := fill_eq _ _ _ _ (hf [] (by simp [h0]))
      simp [execOp, Instr.buildSlice, hu, hs, h3, h0, newRow, hf0, Array.range_zero']
    · have hf0 := fill_eq _ _ _ _ (hf ((Array.range (n * N.sz)).map (fun i => zv.cells[i % zv.cells.size]!)).toList (by simp))
      rw [Array.toArray_toList] at hf0
      have h16 : ¬ (16777216 < n * N.sz) := by omega
      generalize hZ : (Array.range (n * N.sz)).map (fun i => zv.cells[i % zv.cells.size]!) = Z at hf0
      simp [execOp, Instr.buildSlice, hu, hs, hz, h3, newRow, h16, hZ, hf0]
      exact fun e => absurd e h0
  rw [hex]
  have own : OwnL N A (some ⟨w.heap.size, 0, none⟩) n ys [(w.heap.size, .cells (ys.flatMap N.enc).toArray A (0, 0))] := by
    refine .inr ⟨_, _, rfl, rfl, by omega, ?_, by simp only [List.size_toArray]; rw [flat_len, hy], ?_⟩
    · have h7 : n ≤ n * N.sz := Nat.le_mul_of_pos_right _ N.pos
      unfold maxLen; omega
    · rw [show ys.length * N.sz = (ys.flatMap N.enc).length from (flat_len N ys).symm]; exact List.take_length
  have := h _ _ own
  refine this _ _ (Sat.put (dst := some d) (s.addSeg (w' := w.alloc (.cells (ys.flatMap N.enc).toArray A)) ⟨rfl, rfl, rfl, by simp, fun k hk _ => heap_alloc_old w _ hk⟩ (by simp) ?_ (by simp)) hd _)
  intro p hp
  simp at hp; subst hp
  exact heap_alloc_new w _
end
end Go.HW
