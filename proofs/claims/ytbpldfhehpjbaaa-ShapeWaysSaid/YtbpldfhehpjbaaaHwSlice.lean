/- Slices over the states of HwCore: those that are read, those that are owned. -/
import Derived.Test.YtbpldfhehpjbaaaHwCall
import Derived.Laws.AppendOwn
import Derived.Laws.MakeOwn
namespace Go.HW
open Go Go.RowKit
set_option linter.unusedVariables false

/-- how an element lies in cells -/
structure En (α : Type) where
  enc : α → List Value
  sz : Nat
  len : ∀ x, (enc x).length = sz
  one : ∀ x, allOne (enc x) = true
  pos : 0 < sz

def En.int (k : IntKind) : En Int := ⟨fun n => [.int k n], 1, fun _ => rfl, fun _ => rfl, by decide⟩
def En.bool : En Bool := ⟨fun b => [.bool b], 1, fun _ => rfl, fun _ => rfl, by decide⟩
def En.str : En ByteArray := ⟨fun b => [.string b], 1, fun _ => rfl, fun _ => rfl, by decide⟩

def gt {α : Type} [Inhabited α] (xs : List α) (i : Int) : α := xs.getD i.toNat default
def inb (i : Int) (n : Nat) : Bool := decide (0 ≤ i) && decide (i < n)
theorem inb_iff {i : Int} {n : Nat} : inb i n = true ↔ 0 ≤ i ∧ i < n := by simp [inb]

theorem gt_some {α : Type} [Inhabited α] {xs : List α} {i : Int} (h : inb i xs.length = true) : xs[i.toNat]? = some (gt xs i) := by
  obtain ⟨h0, h1⟩ := inb_iff.1 h
  have : i.toNat < xs.length := by omega
  simp [gt, this]

def eAddr (sp : Option Addr) (n : Nat) : Addr := ⟨(sp.getD ⟨0, 0, none⟩).block, (sp.getD ⟨0, 0, none⟩).off + n, none⟩

theorem eAddr_add (sp : Option Addr) (n k : Nat) : (eAddr sp n).add k = eAddr sp (n + k) := by simp [eAddr, add_none, Nat.add_assoc]

/-- the slice at sp reads as xs -/
def RdS {α : Type} (E : En α) (w : World) (sp : Option Addr) (xs : List α) : Prop :=
  xs.length ≤ maxLen ∧ (xs = [] ∨ ∃ ad, sp = some ad ∧ ad.spot = none ∧ ∀ (k : Nat) (x : α), xs[k]? = some x → ∀ (j : Nat) (v : Value), (E.enc x)[j]? = some v → w.cell? ⟨ad.block, ad.off + (k * E.sz + j), none⟩ = some v)

theorem cell_same {w w' : World} {a : Addr} (h : w'.heap[a.block]? = w.heap[a.block]?) : w'.cell? a = w.cell? a := by simp [World.cell?, h]

theorem RdS.ext {α : Type} {E : En α} {w w' : World} {sp : Option Addr} {xs : List α} {R : List Nat} (h : RdS E w sp xs) (e : Ext w R w') (hR : ∀ ad, sp = some ad → ad.block ∉ R) : RdS E w' sp xs := by
  refine ⟨h.1, ?_⟩
  rcases h.2 with h | ⟨ad, h1, h2, h3⟩
  · exact .inl h
  · refine .inr ⟨ad, h1, h2, fun k x hk j v hj => ?_⟩
    have := h3 k x hk j v hj
    rw [cell_same (w := w)]
    · exact this
    · refine e.same _ ?_ (hR ad h1)
      exact World.block_lt_of_cell? w _ this

theorem RdS.nil {α : Type} (E : En α) (w : World) (sp : Option Addr) : RdS E w sp [] := ⟨by simp, .inl rfl⟩

theorem flat_get {α : Type} (E : En α) : ∀ (xs : List α) (k j : Nat) (x : α) (v : Value), xs[k]? = some x → (E.enc x)[j]? = some v → (xs.flatMap E.enc)[k * E.sz + j]? = some v
  | [], k, j, x, v, h, _ => by simp at h
  | y :: xs, 0, j, x, v, h, hj => by
    simp at h; subst h
    have : j < (E.enc y).length := (List.getElem?_eq_some_iff.1 hj).1
    simp only [List.flatMap_cons, Nat.zero_mul, Nat.zero_add]
    rw [List.getElem?_append_left this]; exact hj
  | y :: xs, k + 1, j, x, v, h, hj => by
    simp at h
    have ih := flat_get E xs k j x v h hj
    simp only [List.flatMap_cons]
    rw [List.getElem?_append_right (by rw [E.len, Nat.add_mul]; omega), E.len]
    rw [show (k + 1) * E.sz + j - E.sz = k * E.sz + j from by rw [Nat.add_mul]; omega]
    exact ih

theorem flat_len {α : Type} (E : En α) (xs : List α) : (xs.flatMap E.enc).length = xs.length * E.sz := by
  induction xs with
  | nil => simp
  | cons x xs ih => simp [ih, E.len, Nat.add_mul]; omega

/-- a slice that is owned: no block, or one -/
def OwnL {α : Type} (E : En α) (e : TypeId) (sp : Option Addr) (cap : Nat) (xs : List α) (Hs : Blocks) : Prop :=
  (sp = none ∧ cap = 0 ∧ xs = [] ∧ Hs = []) ∨
  ∃ g cur, sp = some ⟨g, 0, none⟩ ∧ Hs = [(g, .cells cur e (0, 0))] ∧ xs.length ≤ cap ∧ cap ≤ maxLen ∧ cur.size = cap * E.sz ∧ cur.toList.take (xs.length * E.sz) = xs.flatMap E.enc

theorem OwnL.nil {α : Type} (E : En α) (e : TypeId) : OwnL E e none 0 [] [] := .inl ⟨rfl, rfl, rfl, rfl⟩

def getS : List Blocks → Nat → Option Blocks
  | [], _ => none
  | x :: _, 0 => some x
  | _ :: l, n + 1 => getS l n
def setS : List Blocks → Nat → Blocks → Option (List Blocks)
  | [], _, _ => none
  | _ :: l, 0, v => some (v :: l)
  | x :: l, n + 1, v => match setS l n v with | some r => some (x :: r) | none => none

theorem setS_spec : ∀ {S S' : List Blocks} {i : Nat} {q : Blocks}, setS S i q = some S' → ∃ A B p, S = A ++ p :: B ∧ S' = A ++ q :: B ∧ getS S i = some p
  | [], _, _, _, h => by simp [setS] at h
  | x :: l, H', 0, q, h => by simp [setS] at h; exact ⟨[], l, x, rfl, h.symm, rfl⟩
  | x :: l, H', n + 1, q, h => by
    simp only [setS] at h
    cases h2 : setS l n q with
    | none => rw [h2] at h; cases h
    | some r =>
      rw [h2] at h; cases h
      obtain ⟨A, B, p, h3, h4, h5⟩ := setS_spec h2
      exact ⟨x :: A, B, p, by simp [h3], by simp [h4], h5⟩

theorem getS_sub : ∀ {S : List Blocks} {i : Nat} {p : Blocks}, getS S i = some p → ∀ x ∈ p, x ∈ S.flatten
  | [], _, _, h, _, _ => by simp [getS] at h
  | y :: l, 0, p, h, x, hx => by simp [getS] at h; subst h; simp [hx]
  | y :: l, n + 1, p, h, x, hx => by have := getS_sub (S := l) (i := n) h x hx; simp at this ⊢; exact .inr this

section
variable {c : Cx} {ops : Array Oper} {Q : Exit → Act → World → Prop} {rest : List Oper} {L : Slots} {H : Hp}
variable {d : Nat} {T : TypeId} {pos : String} {af : Array Edge} {g : Option (Nat × Bool)}
variable {α : Type} {N : En α}

theorem OwnL.rd {a : Act} {w : World} {E : Blocks} {S : List Blocks} {i e cap : Nat} {sp : Option Addr} {xs : List α} {Hs : Blocks} (s : Sat c L ⟨E, S⟩ a w) (hi : getS S i = some Hs) (h : OwnL N e sp cap xs Hs) : RdS N w sp xs := by
  rcases h with ⟨rfl, rfl, rfl, rfl⟩ | ⟨g, cur, rfl, rfl, h1, h2, h3, h4⟩
  · exact .nil _ _ _
  · refine ⟨by omega, .inr ⟨_, rfl, rfl, fun k x hk j v hj => ?_⟩⟩
    have hb : w.heap[g]? = some (.cells cur e (0, 0)) := s.heap (g, .cells cur e (0, 0)) (List.mem_append.2 (.inr (getS_sub hi _ (by simp))))
    have hf := flat_get N xs k j x v hk hj
    rw [← h4, List.getElem?_take] at hf
    split at hf
    · simp [World.cell?, hb]; simpa using hf
    · cases hf

theorem segSub {E : Blocks} : ∀ {S : List Blocks} {i : Nat} {Hs : Blocks}, getS S i = some Hs → (⟨[], [Hs]⟩ : Hp).all.Sublist (⟨E, S⟩ : Hp).all := by
  intro S i Hs h
  have : Hs.Sublist S.flatten := by
    induction S generalizing i with
    | nil => simp [getS] at h
    | cons y l ih =>
      cases i with
      | zero => simp [getS] at h; subst h; simp
      | succ n => exact (ih h).trans (by simp)
  simp only [Hp.all, List.nil_append, List.flatten_cons, List.flatten_nil, List.append_nil]
  exact this.trans (List.sublist_append_right _ _)
theorem segSub0 {H : Hp} : (⟨[], [[]]⟩ : Hp).all.Sublist H.all := by simp [Hp.all]

/-! ### reading -/
theorem QV.indexR [Inhabited α] {X A : Nat} {x ix : Operand} {sp : Option Addr} {xs : List α} {cap : Nat} {ik : IntKind} {i : Int} (hu : ∀ w, (underlying X).run c.P w = .ok (.slice A) w)
    (hs : ∀ w, (sizeOf A).run c.P w = .ok N.sz w) {n : Nat} (hx : ev L x = some (.slice sp n cap)) (hn : xs.length = n) (hi : ev L ix = some (.int ik i)) (hrd : ∀ a w, Sat c L H a w → RdS N w sp xs)
    (hk : inb i xs.length = true) : QV c ⟨some d, .indexAddr X x ix, T, pos, af, g⟩ L H (.pointer (some (eAddr sp (i.toNat * N.sz + 0)))) := fun a w s => by
    subst hn
    obtain ⟨h0, h1⟩ := inb_iff.1 hk
    rcases (hrd a w s).2 with hn | ⟨ad, rfl, hsp, _⟩
    · subst hn; simp at h1; omega
    · have e1 : ad.add (i.toNat * N.sz) = eAddr (some ad) (i.toNat * N.sz + 0) := by
        cases ad with | mk b o sp => simp at hsp; subst hsp; simp [eAddr, add_none]
      simp [execOp, Instr.indexAt, s.eval hx, s.eval hi, asIntOf, hu, h0, h1, hs, e1]

theorem TX.indexR [Inhabited α] {X A : Nat} {x ix : Operand} {sp : Option Addr} {xs : List α} {cap : Nat} {ik : IntKind} {i : Int} (hu : ∀ w, (underlying X).run c.P w = .ok (.slice A) w)
    (hs : ∀ w, (sizeOf A).run c.P w = .ok N.sz w) {n : Nat} (hx : ev L x = some (.slice sp n cap)) (hn : xs.length = n) (hi : ev L ix = some (.int ik i)) (hrd : ∀ a w, Sat c L H a w → RdS N w sp xs)
    (hk : inb i xs.length = true) (hd : Nat.blt d c.n = true) (h : TO c ops Q rest ((d, .pointer (some (eAddr sp (i.toNat * N.sz + 0)))) :: L) H) : TX c ops Q ⟨some d, .indexAddr X x ix, T, pos, af, g⟩ rest L H := TX.val hd (QV.indexR hu hs hx hn hi hrd hk) h

theorem TX.fieldAddrE {X : TypeId} {x : Operand} {sp : Option Addr} {m o : Nat} {f : Nat} {fs : List Field} {fd : Field} {k o' : Nat} (hu : ∀ w, (underlying X).run c.P w = .ok (.struct fs.toArray) w)
    (hf : fs[f]? = some fd) (hk : ∀ w, (sizeOf fd.type).run c.P w = .ok (k + 1) w) (hx : ev L x = some (.pointer (some (eAddr sp (m + o))))) (ho : o + fd.offset = o') (hd : Nat.blt d c.n = true)
    (h : TO c ops Q rest ((d, .pointer (some (eAddr sp (m + o')))) :: L) H) : TX c ops Q ⟨some d, .fieldAddr X x f, T, pos, af, g⟩ rest L H :=
  TX.fieldAddr hu hf hk hx hd (by rw [eAddr_add, Nat.add_assoc, ho]; exact h)

theorem RdS.cell [Inhabited α] {w : World} {sp : Option Addr} {xs : List α} {i : Int} {o : Nat} {v : Value} (h : RdS N w sp xs) (hk : inb i xs.length = true) (hv : (N.enc (gt xs i))[o]? = some v) :
    w.cell? (eAddr sp (i.toNat * N.sz + o)) = some v := by
  rcases h.2 with hn | ⟨ad, rfl, hsp, h3⟩
  · subst hn; obtain ⟨h0, h1⟩ := inb_iff.1 hk; simp at h1; omega
  · exact h3 _ _ (gt_some hk) o v hv

theorem QV.loadR1 [Inhabited α] {A : TypeId} {x : Operand} {sp : Option Addr} {xs : List α} {i : Int} {o : Nat} {v : Value} (hagg : ∀ w, (isAgg A).run c.P w = .ok false w)
    (hx : ev L x = some (.pointer (some (eAddr sp (i.toNat * N.sz + o))))) (hrd : ∀ a w, Sat c L H a w → RdS N w sp xs) (hk : inb i xs.length = true) (hv : getL (N.enc (gt xs i)) o = some v) : QV c ⟨some d, .load A x, T, pos, af, g⟩ L H (v) := fun a w s => by
    rw [getL_eq] at hv
    have := run_loadVar1 (P := c.P) w hagg _ ((hrd a w s).cell hk hv)
    simp [execOp, s.eval hx, Instr.loadAt, Instr.sureAddr, this]

theorem TX.loadR1 [Inhabited α] {A : TypeId} {x : Operand} {sp : Option Addr} {xs : List α} {i : Int} {o : Nat} {v : Value} (hagg : ∀ w, (isAgg A).run c.P w = .ok false w)
    (hx : ev L x = some (.pointer (some (eAddr sp (i.toNat * N.sz + o))))) (hrd : ∀ a w, Sat c L H a w → RdS N w sp xs) (hk : inb i xs.length = true) (hv : getL (N.enc (gt xs i)) o = some v) (hd : Nat.blt d c.n = true) (h : TO c ops Q rest ((d, v) :: L) H) : TX c ops Q ⟨some d, .load A x, T, pos, af, g⟩ rest L H := TX.val hd (QV.loadR1 hagg hx hrd hk hv) h

theorem QV.loadRN [Inhabited α] {A : TypeId} {x : Operand} {sp : Option Addr} {xs : List α} {i : Int} {o n : Nat} {vs : List Value} (hagg : ∀ w, (isAgg A).run c.P w = .ok true w) (hsz : ∀ w, (sizeOf A).run c.P w = .ok n w)
    (hx : ev L x = some (.pointer (some (eAddr sp (i.toNat * N.sz + o))))) (hrd : ∀ a w, Sat c L H a w → RdS N w sp xs) (hk : inb i xs.length = true) (hv : cutL (N.enc (gt xs i)) o n = some vs) : QV c ⟨some d, .load A x, T, pos, af, g⟩ L H (.agg vs.toArray) := fun a w s => by
    obtain ⟨h1, h2⟩ := cutL_eq _ o n vs hv
    have := run_loadVarN (P := c.P) w hagg hsz (eAddr sp (i.toNat * N.sz + o)) vs h1 (fun j v hj => by
      rw [eAddr_add, Nat.add_assoc]; exact (hrd a w s).cell hk (h2 j v hj))
    simp [execOp, s.eval hx, Instr.loadAt, Instr.sureAddr, this]

theorem TX.loadRN [Inhabited α] {A : TypeId} {x : Operand} {sp : Option Addr} {xs : List α} {i : Int} {o n : Nat} {vs : List Value} (hagg : ∀ w, (isAgg A).run c.P w = .ok true w) (hsz : ∀ w, (sizeOf A).run c.P w = .ok n w)
    (hx : ev L x = some (.pointer (some (eAddr sp (i.toNat * N.sz + o))))) (hrd : ∀ a w, Sat c L H a w → RdS N w sp xs) (hk : inb i xs.length = true) (hv : cutL (N.enc (gt xs i)) o n = some vs) (hd : Nat.blt d c.n = true) (h : TO c ops Q rest ((d, .agg vs.toArray) :: L) H) : TX c ops Q ⟨some d, .load A x, T, pos, af, g⟩ rest L H := TX.val hd (QV.loadRN hagg hsz hx hrd hk hv) h

/-! ### storing into an owned slice -/
theorem withBlock_flat {S S' : List Blocks} {i : Nat} {b : Nat} {o o' : Obj} (h : getS S i = some [(b, o)]) (h' : setS S i [(b, o')] = some S') :
    ∃ A B, S.flatten = A ++ (b, o) :: B ∧ S'.flatten = A ++ (b, o') :: B := by
  obtain ⟨A, B, p, h1, h2, h3⟩ := setS_spec h'
  rw [h] at h3; cases h3
  exact ⟨A.flatten, B.flatten, by simp [h1], by simp [h2]⟩

theorem setS_some : ∀ {S : List Blocks} {i : Nat} {p : Blocks} (q : Blocks), getS S i = some p → ∃ S', setS S i q = some S'
  | [], _, _, _, h => by simp [getS] at h
  | x :: l, 0, p, q, h => ⟨q :: l, rfl⟩
  | x :: l, n + 1, p, q, h => by
    obtain ⟨S', h'⟩ := setS_some (S := l) (i := n) q h
    exact ⟨x :: S', by simp [setS, h']⟩

theorem flat_set {α : Type} (N : En α) : ∀ (xs : List α) (k : Nat) (y : α) (h : k < xs.length) (j : Nat), ((xs.set k y).flatMap N.enc)[j]? =
    if k * N.sz ≤ j ∧ j < k * N.sz + N.sz then (N.enc y)[j - k * N.sz]? else (xs.flatMap N.enc)[j]?
  | [], k, y, h, j => by simp at h
  | x :: xs, 0, y, h, j => by
    simp only [List.set_cons_zero, List.flatMap_cons, Nat.zero_mul, Nat.zero_le, true_and, Nat.zero_add, Nat.sub_zero]
    by_cases hj : j < N.sz
    · rw [if_pos hj, List.getElem?_append_left (by rw [N.len]; exact hj)]
    · rw [if_neg hj, List.getElem?_append_right (by rw [N.len]; omega), List.getElem?_append_right (by rw [N.len]; omega), N.len, N.len]
  | x :: xs, k + 1, y, h, j => by
    have ih := flat_set N xs k y (by simpa using h) (j - N.sz)
    simp only [List.set_cons_succ, List.flatMap_cons]
    by_cases hj : j < N.sz
    · rw [List.getElem?_append_left (by rw [N.len]; exact hj), if_neg (by rw [Nat.add_mul]; omega), List.getElem?_append_left (by rw [N.len]; exact hj)]
    · rw [List.getElem?_append_right (by rw [N.len]; omega), N.len, ih]
      rw [Nat.add_mul, Nat.one_mul]
      by_cases hk : k * N.sz ≤ j - N.sz ∧ j - N.sz < k * N.sz + N.sz
      · rw [if_pos hk, if_pos (by omega)]
        rw [show j - N.sz - k * N.sz = j - (k * N.sz + N.sz) from by omega]
      · rw [if_neg hk, if_neg (by omega), List.getElem?_append_right (by rw [N.len]; omega), N.len]

theorem TX.storeS [Inhabited α] {A e : TypeId} {x y : Operand} {sp : Option Addr} {cap : Nat} {xs : List α} {i : Int} {o n si : Nat} {v : Value} {vs : List Value} {u : α} {E : Blocks} {S : List Blocks} {Hs : Blocks}
    (hsz : ∀ w, (sizeOf A).run c.P w = .ok n w) (hx : ev L x = some (.pointer (some (eAddr sp (i.toNat * N.sz + o))))) (hy : ev L y = some v) (hc : v.cells = vs.toArray) (hn : vs.length = n) (h1 : allOne vs = true)
    (hi : getS S si = some Hs) (ho : OwnL N e sp cap xs Hs) (hk : inb i xs.length = true) (hp : pasteL (N.enc (gt xs i)) o vs = some (N.enc u))
    (h : ∀ Hs' S', setS S si Hs' = some S' → OwnL N e sp cap (xs.set i.toNat u) Hs' → TO c ops Q rest L ⟨E, S'⟩) : TX c ops Q ⟨none, .store A x y, T, pos, af, g⟩ rest L ⟨E, S⟩ := by
  intro a w s
  obtain ⟨k0, k1⟩ := inb_iff.1 hk
  rcases ho with ⟨_, _, rfl, _⟩ | ⟨b, cur, rfl, rfl, q1, q2, q3, q4⟩
  · simp at k1; omega
  obtain ⟨l⟩ := cur
  simp only [List.size_toArray] at q3 q4
  have hb : w.heap[b]? = some (.cells l.toArray e (0, 0)) := s.heap (b, .cells l.toArray e (0, 0)) (List.mem_append.2 (.inr (getS_sub hi _ (by simp))))
  obtain ⟨p1, p2, p3⟩ := pasteL_eq _ o vs _ hp
  rw [N.len] at p2
  have hkn : i.toNat < xs.length := by omega
  have hroom : i.toNat * N.sz + N.sz ≤ l.length := by
    have : (i.toNat + 1) * N.sz ≤ cap * N.sz := Nat.mul_le_mul_right _ (by omega)
    rw [Nat.add_mul, Nat.one_mul] at this; omega
  obtain ⟨l2, r1, r2, r3⟩ := run_storeCells (P := c.P) (off := i.toNat * N.sz + o) vs 0 l [] w hb (allOne_mem h1) (by omega)
  obtain ⟨S', hS'⟩ := setS_some (i := si) [(b, .cells l2.toArray e (0, 0))] hi
  obtain ⟨A1, B1, f1, f2⟩ := withBlock_flat hi hS'
  have s' : Sat c L ⟨E, S'⟩ a (World.withBlock w b (.cells l2.toArray e (0, 0))) :=
    s.setBlockG (A := E ++ A1) (B := B1) (o := .cells l.toArray e (0, 0)) (by simp [Hp.all, f1]) (by simp [Hp.all, f2])
  have hrun : (execOp a.eval ⟨none, .store A x y, T, pos, af, g⟩).run c.P w = .ok .skip (World.withBlock w b (.cells l2.toArray e (0, 0))) := by
    simp only [eAddr, Option.getD_some, Nat.zero_add] at hx
    simp [execOp, s.eval hx, s.eval hy, Instr.storeAt, Instr.sureAddr, storeVar, hsz, hc, hn, r1]
  rw [hrun]
  refine h _ _ hS' (.inr ⟨b, l2.toArray, rfl, rfl, by simpa using q1, q2, by simpa [r2] using q3, ?_⟩) _ _ s'
  simp only [List.length_set]
  apply List.ext_getElem?
  intro j
  rw [flat_set N xs i.toNat u hkn j, List.getElem?_take, r3 j]
  have q4j : ∀ j, (xs.flatMap N.enc)[j]? = if j < xs.length * N.sz then l[j]? else none := by
    intro j; rw [← q4, List.getElem?_take]
  have hle : i.toNat * N.sz + N.sz ≤ xs.length * N.sz := by
    have : (i.toNat + 1) * N.sz ≤ xs.length * N.sz := Nat.mul_le_mul_right _ (by omega)
    rw [Nat.add_mul, Nat.one_mul] at this; omega
  by_cases hj : i.toNat * N.sz ≤ j ∧ j < i.toNat * N.sz + N.sz
  · rw [if_pos hj, if_pos (by omega), p3 (j - i.toNat * N.sz)]
    by_cases hj2 : i.toNat * N.sz + o + 0 ≤ j ∧ j < i.toNat * N.sz + o + 0 + vs.length
    · rw [if_pos hj2, if_pos (by omega)]
      congr 1; omega
    · rw [if_neg hj2, if_neg (by omega)]
      have := flat_get N xs i.toNat (j - i.toNat * N.sz) (gt xs i) 
      cases hv : (N.enc (gt xs i))[j - i.toNat * N.sz]? with
      | none =>
        have : (N.enc (gt xs i)).length ≤ j - i.toNat * N.sz := by simpa using hv
        rw [N.len] at this; omega
      | some u' =>
        have h2 := flat_get N xs i.toNat (j - i.toNat * N.sz) (gt xs i) u' (gt_some hk) hv
        rw [show i.toNat * N.sz + (j - i.toNat * N.sz) = j from by omega, q4j j, if_pos (by omega)] at h2
        exact h2
  · rw [if_neg hj, if_neg (c := i.toNat * N.sz + o + 0 ≤ j ∧ j < i.toNat * N.sz + o + 0 + vs.length) (by omega), q4j j]

/-! ### making -/
theorem Sat.addSeg {a : Act} {w w' : World} {E : Blocks} {S : List Blocks} {Hs : Blocks} (s : Sat c L ⟨E, S⟩ a w) (he : Ext w [] w') (hn : (Hs.map (·.1)).Nodup) (hh : ∀ p ∈ Hs, w'.heap[p.1]? = some p.2)
    (ho : ∀ p ∈ Hs, w.heap.size ≤ p.1) : Sat c L ⟨E, Hs :: S⟩ a w' := by
  have e : Eff w Hp.nil w' ⟨[], [Hs]⟩ := ⟨by simpa [Hp.all] using he, by simpa [Hp.all] using hn, by simpa [Hp.all] using hh, fun p hp => .inr (ho p (by simpa [Hp.all] using hp))⟩
  have := Sat.eff (R := Hp.nil) (R' := ⟨[], [Hs]⟩) (H := ⟨E, S⟩) s e
  exact this

theorem info_of {P : Program} {e : TypeId} {i : TypeInfo} (h : ∀ w, (typeInfo e).run P w = .ok i w) : P.info? e = some i := by
  have := h default
  unfold typeInfo at this
  simp only [Sem.run_bind, run_program, Result.andThen_ok] at this
  cases hi : P.info? e with
  | none => rw [hi] at this; simp at this
  | some j => rw [hi] at this; simp at this; rw [this]

theorem und_of {P : Program} {e : TypeId} {d : TypeDesc} (h : ∀ w, (underlying e).run P w = .ok d w) : P.underlying e = some d := by
  have := h default
  unfold underlying at this
  simp only [Sem.run_bind, run_program, Result.andThen_ok] at this
  cases hi : P.underlying e with
  | none => rw [hi] at this; simp at this
  | some j => rw [hi] at this; simp at this; rw [this]

theorem madeCells_eq {α : Type} (N : En α) (z : α) (n : Nat) : (madeCells (N.enc z).toArray (n * N.sz)).toList = (List.replicate n z).flatMap N.enc := by
  apply List.ext_getElem?
  intro j
  by_cases hj : j < n * N.sz
  · have h0 : 0 < N.sz := N.pos
    have h1 : j / N.sz < n := (Nat.div_lt_iff_lt_mul h0).2 hj
    have h2 : j % N.sz < (N.enc z).length := by rw [N.len]; exact Nat.mod_lt _ h0
    have h3 : (N.enc z)[j % N.sz]? = some (N.enc z)[j % N.sz] := by simp [h2]
    have := flat_get N (List.replicate n z) (j / N.sz) (j % N.sz) z _ (by simp [h1]) h3
    rw [Nat.div_add_mod' j N.sz] at this
    rw [this]
    simp [madeCells, hj, N.len, Nat.mod_lt _ h0]
  · rw [List.getElem?_eq_none (by simp [madeCells]; omega), List.getElem?_eq_none (by rw [flat_len]; simp; omega)]

theorem TX.makeS {X A : TypeId} {info : TypeInfo} {zv : Value} {z : α} {x y : Operand} {kl kc : IntKind} {l k : Int} {by' : Nat} {E : Blocks} {S : List Blocks} (hu : ∀ w, (underlying X).run c.P w = .ok (.slice A) w)
    (hi : ∀ w, (typeInfo A).run c.P w = .ok info w) (hz : info.zero = some zv) (hzc : zv.cells = (N.enc z).toArray) (hsz : info.size = N.sz) (hby : info.bytes = by')
    (hx : ev L x = some (.int kl l)) (hy : ev L y = some (.int kc k)) (hb : (decide (0 ≤ l) && decide (l ≤ k) && decide ((by' : Int) * k ≤ 281474976710656) && decide (k ≤ 9223372036854775807)) = true) (hd : Nat.blt d c.n = true)
    (h : ∀ sp Hs, OwnL N A sp k.toNat (List.replicate l.toNat z) Hs → TO c ops Q rest ((d, .slice sp l.toNat k.toNat) :: L) ⟨E, Hs :: S⟩) :
    TX c ops Q ⟨some d, .makeSlice X x y, T, pos, af, g⟩ rest L ⟨E, S⟩ := by
  intro a w s
  simp only [Bool.and_eq_true, decide_eq_true_eq] at hb
  obtain ⟨⟨⟨b0, b1⟩, b2⟩, b3⟩ := hb
  subst hby
  have hrun := run_make (P := c.P) w X A info zv (und_of hu) (info_of hi) hz kl kc l k b0 b1 b2 b3
  have hex : (execOp a.eval ⟨some d, .makeSlice X x y, T, pos, af, g⟩).run c.P w = .ok (.value (.slice (some ⟨w.heap.size, 0, none⟩) l.toNat k.toNat)) (w.alloc (.cells (madeCells zv.cells (k.toNat * info.size)) A)) := by
    simp [execOp, s.eval hx, s.eval hy, hrun]
  rw [hex]
  have e2 : (List.replicate l.toNat z).length = l.toNat := by simp
  have own : OwnL N A (some ⟨w.heap.size, 0, none⟩) k.toNat (List.replicate l.toNat z) [(w.heap.size, .cells (madeCells zv.cells (k.toNat * info.size)) A (0, 0))] := by
    refine .inr ⟨_, _, rfl, rfl, by simp; omega, by unfold maxLen; omega, by rw [size_madeCells, hsz], ?_⟩
    rw [hzc, hsz, madeCells_eq]
    rw [List.length_replicate]
    rw [show k.toNat = l.toNat + (k.toNat - l.toNat) from by omega, ← List.replicate_append_replicate, List.flatMap_append, ← e2]
    rw [show (List.replicate l.toNat z).length * N.sz = ((List.replicate l.toNat z).flatMap N.enc).length from (flat_len N _).symm]
    rw [e2]; exact List.take_left
  have := h _ _ own
  refine this _ _ (Sat.put (dst := some d) (s.addSeg (w' := w.alloc (.cells (madeCells zv.cells (k.toNat * info.size)) A)) ⟨rfl, rfl, rfl, by simp, fun k hk _ => heap_alloc_old w _ hk⟩ (by simp) ?_ (by simp)) hd _)
  intro p hp
  simp at hp; subst hp
  exact heap_alloc_new w _

/-! ### appending -/
theorem OwnL.ownsRow {w : World} {e : TypeId} {sp : Option Addr} {cap : Nat} {xs : List α} {Hs : Blocks} (h : OwnL N e sp cap xs Hs) (hh : ∀ p ∈ Hs, w.heap[p.1]? = some p.2) :
    w.ownsRow 0 e N.sz (.slice sp xs.length cap) xs.length (xs.flatMap N.enc) := by
  refine ⟨flat_len N xs, ?_⟩
  rcases h with ⟨rfl, rfl, rfl, rfl⟩ | ⟨g, cur, rfl, rfl, h1, h2, h3, h4⟩
  · exact .inl ⟨rfl, rfl⟩
  · exact .inr ⟨g, cap, cur, rfl, Nat.zero_le _, hh (g, .cells cur e (0, 0)) (by simp), h1, h2, h3, h4⟩

theorem allOne_flat {α : Type} (N : En α) (xs : List α) : ∀ u ∈ xs.flatMap N.enc, u.oneCell' = true := by
  intro u hu
  obtain ⟨x, _, hx⟩ := List.mem_flatMap.1 hu
  exact allOne_mem (N.one x) u hx

theorem eff_old {w w' : World} {g : Nat} {o o' : Obj} (hg : w.heap[g]? = some o) (hg' : w'.heap[g]? = some o') (h1 : w'.os = w.os) (h2 : w'.tape = w.tape) (h3 : w'.output = w.output)
    (h4 : w.heap.size ≤ w'.heap.size) (h5 : ∀ k, k ≠ g → w'.heap[k]? = w.heap[k]?) : Eff w ⟨[], [[(g, o)]]⟩ w' ⟨[], [[(g, o')]]⟩ :=
  ⟨⟨h1, h2, h3, h4, fun k _ hR => h5 k (by simpa [Hp.all] using hR)⟩, by simp [Hp.all], by simp [Hp.all, hg'], by simp [Hp.all]⟩

theorem eff_new {w w' : World} {Hs : Blocks} {o' : Obj} (hh : ∀ p ∈ Hs, w.heap[p.1]? = some p.2) (hg' : w'.heap[w.heap.size]? = some o') (h1 : w'.os = w.os) (h2 : w'.tape = w.tape) (h3 : w'.output = w.output)
    (h4 : w.heap.size ≤ w'.heap.size) (h5 : ∀ k, k < w.heap.size → w'.heap[k]? = w.heap[k]?) : Eff w ⟨[], [Hs]⟩ w' ⟨[], [[(w.heap.size, o')]]⟩ :=
  ⟨⟨h1, h2, h3, h4, fun k hk _ => h5 k hk⟩, by simp [Hp.all], by simp [Hp.all, hg'], by simp [Hp.all]⟩

theorem eff_same {w : World} {Hs : Blocks} (hh : ∀ p ∈ Hs, w.heap[p.1]? = some p.2) (hn : (Hs.map (·.1)).Nodup) : Eff w ⟨[], [Hs]⟩ w ⟨[], [Hs]⟩ :=
  ⟨Ext.refl _ _, by simpa [Hp.all] using hn, by simpa [Hp.all] using hh, fun p hp => .inl (List.mem_map.2 ⟨p, hp, rfl⟩)⟩

theorem OwnL.nodup {e : TypeId} {sp : Option Addr} {cap : Nat} {xs : List α} {Hs : Blocks} (h : OwnL N e sp cap xs Hs) : (Hs.map (·.1)).Nodup := by
  rcases h with ⟨_, _, _, rfl⟩ | ⟨g, cur, _, rfl, _⟩ <;> simp

theorem RdS.news {w : World} {sq : Addr} {ys : List α} (h : RdS N w (some sq) ys) : ∀ (j : Nat) (u : Value), (ys.flatMap N.enc)[j]? = some u → w.cell? (sq.add j) = some u := by
  intro j u hu
  rcases h.2 with rfl | ⟨ad, e, hsp, h3⟩
  · simp at hu
  · cases e
    have hj : j < (ys.flatMap N.enc).length := (List.getElem?_eq_some_iff.1 hu).1
    rw [flat_len] at hj
    have h0 : 0 < N.sz := N.pos
    have k1 : j / N.sz < ys.length := (Nat.div_lt_iff_lt_mul h0).2 hj
    have hx : ys[j / N.sz]? = some ys[j / N.sz] := by simp [k1]
    have k2 : j % N.sz < (N.enc ys[j / N.sz]).length := by rw [N.len]; exact Nat.mod_lt _ h0
    have hv : (N.enc ys[j / N.sz])[j % N.sz]? = some (N.enc ys[j / N.sz])[j % N.sz] := by simp [k2]
    have hf := flat_get N ys _ _ _ _ hx hv
    rw [Nat.div_add_mod' j N.sz, hu] at hf
    have := h3 _ _ hx _ _ hv
    rw [Nat.div_add_mod' j N.sz] at this
    cases sq with | mk b o sp =>
    simp at hsp; subst hsp
    rw [add_none, this]; exact hf.symm

theorem append_cases {P : Program} {w : World} {X A : TypeId} {info : TypeInfo} {zv : Value} {sp sq : Option Addr} {cap cq : Nat} {xs ys : List α} {Hs : Blocks} {T : TypeId}
    (hu : P.underlying X = some (.slice A)) (hi : P.info? A = some info) (hz : info.zero = some zv) (hzc : zv.cells.size = N.sz) (hsz : info.size = N.sz)
    (ho : OwnL N A sp cap xs Hs) (hh : ∀ p ∈ Hs, w.heap[p.1]? = some p.2) (hrd : RdS N w sq ys) (hb1 : (xs.length + ys.length) * info.bytes ≤ 140737488355328) (hb2 : xs.length + ys.length ≤ 9223372036854775807) :
    ∃ sp' cap' Hs' w', (Builtin.append_ #[X, X] T #[.slice sp xs.length cap, .slice sq ys.length cq]).run P w = .ok (.slice sp' (xs ++ ys).length cap') w' ∧ OwnL N A sp' cap' (xs ++ ys) Hs' ∧
      Eff w ⟨[], [Hs]⟩ w' ⟨[], [Hs']⟩ := by
  have hcapm : ∀ old, grownCap w (xs.length + ys.length) old A ≤ maxLen := fun old => grownCap_le_maxLen w _ old A (by unfold maxLen; omega)
  have hcapg : ∀ old, xs.length + ys.length ≤ grownCap w (xs.length + ys.length) old A := fun old => grownCap_ge w _ old A
  have newOwn : ∀ old, OwnL N A (some ⟨w.heap.size, 0, none⟩) (grownCap w (xs.length + ys.length) old A) (xs ++ ys)
      [(w.heap.size, .cells ((xs.flatMap N.enc).toArray ++ (ys.flatMap N.enc).toArray ++ Builtin.zeroCells zv.cells (grownCap w (xs.length + ys.length) old A - (xs.length + ys.length))) A (0, 0))] := by
    intro old
    refine .inr ⟨_, _, rfl, rfl, by simpa using hcapg old, hcapm old, ?_, ?_⟩
    · have := hcapg old
      simp only [Array.size_append, List.size_toArray, size_zeroCells, hzc, flat_len, ← Nat.add_mul]
      congr 1; omega
    · simp only [Array.toList_append, List.append_assoc, List.flatMap_append]
      rw [← List.append_assoc, ← List.flatMap_append, show (xs ++ ys).length * N.sz = ((xs ++ ys).flatMap N.enc).length from (flat_len N _).symm]
      exact List.take_left
  cases sq with
  | none =>
    have hys : ys = [] := by
      rcases hrd.2 with h | ⟨ad, h, _⟩
      · exact h
      · cases h
    subst hys
    refine ⟨sp, cap, Hs, w, ?_, by simpa using ho, eff_same hh ho.nodup⟩
    have hle : xs.length ≤ cap := by
      rcases ho with ⟨rfl, rfl, rfl, rfl⟩ | ⟨g, cur, rfl, rfl, h1, _⟩
      · simp
      · exact h1
    cases sp <;> simp [Builtin.append_, run_underlying hu, sizeOf, typeInfo, hi, Builtin.lenOf, Builtin.firstCells, hle, storeCells]
  | some ad =>
    have hl : (ys.flatMap N.enc).length = ys.length * info.size := by rw [hsz]; exact flat_len N ys
    have hnews := hrd.news
    rcases ho with ⟨rfl, rfl, rfl, rfl⟩ | ⟨g, cur, rfl, rfl, h1, h2, h3, h4⟩
    · by_cases hm : ys.length = 0
      · have : ys = [] := List.eq_nil_of_length_eq_zero hm
        subst this
        refine ⟨none, 0, [], w, ?_, .nil _ _, eff_same hh (by simp)⟩
        simp [Builtin.append_, run_underlying hu, sizeOf, typeInfo, hi, Builtin.lenOf, Builtin.firstCells, loadCells, loadCellsFrom]
      · have hr := run_append_nil (P := P) w X T A info zv hu hi hz ad ys.length cq (ys.flatMap N.enc) hl hnews (by omega) (by simp at hb2; omega) (by simp at hb1; omega)
        have := newOwn 0
        simp only [List.length_nil, Nat.zero_add, List.nil_append, List.flatMap_nil] at this
        exact ⟨_, _, _, w.drew.alloc (.cells ((ys.flatMap N.enc).toArray ++ Builtin.zeroCells zv.cells (grownCap w ys.length 0 A - ys.length)) A), by simpa using hr, by simpa using this,
          eff_new hh (heap_alloc_new w.drew _) rfl rfl rfl (by simp) (fun k hk => heap_alloc_old w.drew _ hk)⟩
    · have hg : w.heap[g]? = some (.cells cur A (0, 0)) := hh (g, .cells cur A (0, 0)) (by simp)
      by_cases hroom : xs.length + ys.length ≤ cap
      · have hfit : xs.length * info.size + (ys.flatMap N.enc).length ≤ cur.size := by rw [hl, h3, hsz, ← Nat.add_mul]; exact Nat.mul_le_mul_right _ hroom
        have hr := run_append_room (P := P) w X T A info hu hi g xs.length cap cur hg ad ys.length cq (ys.flatMap N.enc) hl hnews (allOne_flat N ys) hroom hfit
        refine ⟨some ⟨g, 0, none⟩, cap, _, w.setRow g (cur.toList.take (xs.length * info.size) ++ ys.flatMap N.enc ++ cur.toList.drop (xs.length * info.size + (ys.flatMap N.enc).length)).toArray, by rw [hr]; simp, ?_,
          eff_old hg (setRow_heap w g cur _ A _ hg) rfl rfl rfl (by simp) (fun k hk => setRow_other w g k _ hk)⟩
        refine .inr ⟨g, _, rfl, rfl, by simpa using hroom, h2, ?_, ?_⟩
        · simp only [List.size_toArray, List.length_append, List.length_take, List.length_drop, Array.length_toList]
          generalize (ys.flatMap N.enc).length = m at *
          omega
        · rw [hsz, h4]
          simp only [List.flatMap_append]
          rw [show (xs ++ ys).length * N.sz = (xs.flatMap N.enc ++ ys.flatMap N.enc).length from by rw [← List.flatMap_append, flat_len]]
          exact List.take_left
      · have holds : ∀ j u, (xs.flatMap N.enc)[j]? = some u → w.cell? ((⟨g, 0, none⟩ : Addr).add j) = some u := by
          intro j u hu
          rw [← h4, List.getElem?_take] at hu
          split at hu
          · rw [add_none]; simp [World.cell?, hg]; simpa using hu
          · cases hu
        have hr := run_append_grow (P := P) w X T A info zv hu hi hz ⟨g, 0, none⟩ xs.length cap (xs.flatMap N.enc) (by rw [hsz]; exact flat_len N xs) holds ad ys.length cq (ys.flatMap N.enc) hl hnews (by omega) (by omega) (growslice_fits (by omega) hb1)
        exact ⟨_, _, _, w.drew.alloc (.cells ((xs.flatMap N.enc).toArray ++ (ys.flatMap N.enc).toArray ++ Builtin.zeroCells zv.cells (grownCap w (xs.length + ys.length) cap A - (xs.length + ys.length))) A), by simpa using hr, newOwn cap,
          eff_new hh (heap_alloc_new w.drew _) rfl rfl rfl (by simp) (fun k hk => heap_alloc_old w.drew _ hk)⟩

theorem TX.appendS {X A : TypeId} {info : TypeInfo} {zv : Value} {x y : Operand} {sp sq : Option Addr} {cap cq : Nat} {xs ys : List α} {si by' : Nat} {E : Blocks} {S : List Blocks} {Hs : Blocks}
    (hu : ∀ w, (underlying X).run c.P w = .ok (.slice A) w) (hi : ∀ w, (typeInfo A).run c.P w = .ok info w) (hz : info.zero = some zv) (hzc : zv.cells.size = N.sz) (hsz : info.size = N.sz) (hby : info.bytes = by')
    {n m : Nat} (hx : ev L x = some (.slice sp n cap)) (hn : xs.length = n) (hy : ev L y = some (.slice sq m cq)) (hm : ys.length = m) (hS : getS S si = some Hs) (ho : OwnL N A sp cap xs Hs)
    (hrd : ∀ a w, Sat c L ⟨E, S⟩ a w → RdS N w sq ys) (hb : decide ((xs.length + ys.length) * by' ≤ 140737488355328 ∧ xs.length + ys.length ≤ 9223372036854775807) = true) (hd : Nat.blt d c.n = true)
    (h : ∀ sp' cap' Hs' S', setS S si Hs' = some S' → OwnL N A sp' cap' (xs ++ ys) Hs' → TO c ops Q rest ((d, .slice sp' (xs ++ ys).length cap') :: L) ⟨E, S'⟩) :
    TX c ops Q ⟨some d, .call ⟨.builtin .append, #[x, y], #[X, X]⟩, T, pos, af, g⟩ rest L ⟨E, S⟩ := by
  intro a w s
  simp only [decide_eq_true_eq] at hb
  obtain ⟨hb1, hb2⟩ := hb
  subst hby
  subst hn
  subst hm
  have hmem : ∀ p ∈ Hs, p ∈ (⟨E, S⟩ : Hp).all := fun p hp => List.mem_append.2 (.inr (getS_sub hS p hp))
  obtain ⟨sp', cap', Hs', w', hrun, hown, heff⟩ := append_cases (P := c.P) (T := T) (und_of hu) (info_of hi) hz hzc hsz ho (fun p hp => s.heap p (hmem p hp)) (hrd a w s) hb1 hb2 (cap := cap) (cq := cq)
  obtain ⟨S', hS'⟩ := setS_some Hs' hS
  have hex : (execOp a.eval ⟨some d, .call ⟨.builtin .append, #[x, y], #[X, X]⟩, T, pos, af, g⟩).run c.P w = .ok (.value (.slice sp' (xs ++ ys).length cap')) w' := by
    simp only [List.length_append] at hrun ⊢
    simp [execOp, resolve, invoke, builtin, s.eval hx, s.eval hy, hrun]
  rw [hex]
  refine h _ _ _ _ hS' hown _ _ (Sat.put (dst := some d) ?_ hd _)
  obtain ⟨A1, B1, p, h1, h2, h3⟩ := setS_spec hS'
  rw [hS] at h3; cases h3
  have e1 : (⟨E, S⟩ : Hp).all.Perm ((⟨[], [Hs]⟩ : Hp).add ⟨E, A1 ++ B1⟩).all := by
    simp only [Hp.all, Hp.add, h1, List.nil_append, List.flatten_append, List.flatten_cons, List.cons_append]
    refine List.Perm.append_left _ ?_
    rw [← List.append_assoc, ← List.append_assoc]
    exact List.Perm.append_right _ List.perm_append_comm
  have e2 : (⟨E, S'⟩ : Hp).all.Perm ((⟨[], [Hs']⟩ : Hp).add ⟨E, A1 ++ B1⟩).all := by
    simp only [Hp.all, Hp.add, h2, List.nil_append, List.flatten_append, List.flatten_cons, List.cons_append]
    refine List.Perm.append_left _ ?_
    rw [← List.append_assoc, ← List.append_assoc]
    exact List.Perm.append_right _ List.perm_append_comm
  exact ((s.perm e1.symm).eff heff).perm e2
end
end Go.HW
