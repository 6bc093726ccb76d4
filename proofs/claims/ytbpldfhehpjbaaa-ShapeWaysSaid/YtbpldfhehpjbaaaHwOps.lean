/- One lemma an operation, over the states of HwCore. -/
import Derived.Test.YtbpldfhehpjbaaaHwCore
namespace Go.HW
open Go Go.RowKit
set_option linter.unusedVariables false

/-! ### Plain functions that compute -/
def iand (k : IntKind) (x y : Int) : Int := k.wrap ((BitVec.ofInt k.bits x &&& BitVec.ofInt k.bits y).toNat : Int)
def ior (k : IntKind) (x y : Int) : Int := k.wrap ((BitVec.ofInt k.bits x ||| BitVec.ofInt k.bits y).toNat : Int)
def ixor (k : IntKind) (x y : Int) : Int := k.wrap ((BitVec.ofInt k.bits x ^^^ BitVec.ofInt k.bits y).toNat : Int)
def iandn (k : IntKind) (x y : Int) : Int := k.wrap ((BitVec.ofInt k.bits x &&& ~~~(BitVec.ofInt k.bits y)).toNat : Int)
def ishl (k : IntKind) (x y : Int) : Int := k.wrap (x * 2 ^ (min y.toNat k.bits))
def ishr (k : IntKind) (x y : Int) : Int := x.fdiv (2 ^ (min y.toNat k.bits))

def ibin (op : BinOp) (k : IntKind) (m n : Int) : Option Value :=
  match op with
  | .add => some (.int k (k.wrap (m + n)))
  | .sub => some (.int k (k.wrap (m - n)))
  | .mul => some (.int k (k.wrap (m * n)))
  | .and => some (.int k (iand k m n))
  | .or => some (.int k (ior k m n))
  | .xor => some (.int k (ixor k m n))
  | .andNot => some (.int k (iandn k m n))
  | .eql => some (.bool (m == n))
  | .neq => some (.bool (m != n))
  | .lss => some (.bool (decide (m < n)))
  | .leq => some (.bool (decide (m ≤ n)))
  | .gtr => some (.bool (decide (n < m)))
  | .geq => some (.bool (decide (n ≤ m)))
  | _ => none

def getL : List Value → Nat → Option Value
  | [], _ => none
  | x :: _, 0 => some x
  | _ :: l, n + 1 => getL l n

def setL : List Value → Nat → Value → Option (List Value)
  | [], _, _ => none
  | _ :: l, 0, v => some (v :: l)
  | x :: l, n + 1, v => match setL l n v with | some r => some (x :: r) | none => none

def takeL : List Value → Nat → Option (List Value)
  | _, 0 => some []
  | [], _ + 1 => none
  | x :: l, n + 1 => match takeL l n with | some r => some (x :: r) | none => none

def dropL : List Value → Nat → Option (List Value)
  | l, 0 => some l
  | [], _ + 1 => none
  | _ :: l, n + 1 => dropL l n

/-- n cells from off on -/
def cutL (l : List Value) (off n : Nat) : Option (List Value) := match dropL l off with | some r => takeL r n | none => none

/-- write the cells vs from off on -/
def pasteL : List Value → Nat → List Value → Option (List Value)
  | l, 0, [] => some l
  | x :: l, 0, v :: vs => match pasteL l 0 vs with | some r => some (v :: r) | none => none
  | [], _, _ => none
  | x :: l, n + 1, vs => match pasteL l n vs with | some r => some (x :: r) | none => none

theorem getL_eq : ∀ (l : List Value) (n : Nat), getL l n = l[n]?
  | [], n => by simp [getL]
  | x :: l, 0 => by simp [getL]
  | x :: l, n + 1 => by simp [getL, getL_eq l n]

theorem setL_eq : ∀ (l : List Value) (n : Nat) (v : Value) (r : List Value), setL l n v = some r → n < l.length ∧ r = l.set n v
  | [], n, v, r, h => by simp [setL] at h
  | x :: l, 0, v, r, h => by simp [setL] at h; simp [h]
  | x :: l, n + 1, v, r, h => by
    simp only [setL] at h
    cases h2 : setL l n v with
    | none => rw [h2] at h; cases h
    | some r' => rw [h2] at h; cases h; obtain ⟨h3, h4⟩ := setL_eq l n v r' h2; subst h4; simp; exact h3

theorem takeL_eq : ∀ (l : List Value) (n : Nat) (r : List Value), takeL l n = some r → r.length = n ∧ ∀ (i : Nat) (v : Value), r[i]? = some v → l[i]? = some v
  | l, 0, r, h => by simp [takeL] at h; subst h; simp
  | [], n + 1, r, h => by simp [takeL] at h
  | x :: l, n + 1, r, h => by
    simp only [takeL] at h
    cases h2 : takeL l n with
    | none => rw [h2] at h; cases h
    | some r' =>
      rw [h2] at h; cases h; obtain ⟨h3, h4⟩ := takeL_eq l n r' h2
      refine ⟨by simp [h3], ?_⟩
      intro i v hi
      cases i with
      | zero => simpa using hi
      | succ i => simp at hi ⊢; exact h4 i v hi

theorem dropL_eq : ∀ (l : List Value) (n : Nat) (r : List Value), dropL l n = some r → ∀ (i : Nat), r[i]? = l[n + i]?
  | l, 0, r, h, i => by simp [dropL] at h; subst h; simp
  | [], n + 1, r, h, _ => by simp [dropL] at h
  | x :: l, n + 1, r, h, i => by
    have := dropL_eq l n r h i
    rw [this, show n + 1 + i = (n + i) + 1 from by omega]; simp

theorem cutL_eq (l : List Value) (off n : Nat) (r : List Value) (h : cutL l off n = some r) : r.length = n ∧ ∀ (i : Nat) (v : Value), r[i]? = some v → l[off + i]? = some v := by
  simp only [cutL] at h
  cases h2 : dropL l off with
  | none => rw [h2] at h; cases h
  | some d =>
    rw [h2] at h
    obtain ⟨h3, h4⟩ := takeL_eq d n r h
    exact ⟨h3, fun i v hi => (dropL_eq l off d h2 i).symm.trans (h4 i v hi)⟩

/-! ### Runs of the model's memory words -/
theorem add_none (b off n : Nat) : (⟨b, off, none⟩ : Addr).add n = ⟨b, off + n, none⟩ := by
  simp [Addr.add]

section
variable {P : Program}

theorem run_loadCellsFrom (w : World) (ad : Addr) : ∀ (vs : List Value) (i : Nat) (acc : Array Value), (∀ j v, vs[j]? = some v → w.cell? (ad.add (i + j)) = some v) →
    (loadCellsFrom ad i vs.length acc).run P w = .ok (acc ++ vs.toArray) w
  | [], i, acc, h => by simp [loadCellsFrom]
  | v :: vs, i, acc, h => by
    have h0 := h 0 v (by simp)
    have ih := run_loadCellsFrom w ad vs (i + 1) (acc.push v) (fun j u hj => by
      have := h (j + 1) u (by simpa using hj)
      rw [show i + 1 + j = i + (j + 1) from by omega]; exact this)
    simp only [List.length_cons, loadCellsFrom]
    simp only [Nat.add_zero] at h0
    simp [Sem.run_bind, load, Sem.run, h0, ih]

theorem run_loadCells (w : World) (ad : Addr) (vs : List Value) (h : ∀ j v, vs[j]? = some v → w.cell? (ad.add j) = some v) :
    (loadCells ad vs.length).run P w = .ok vs.toArray w := by
  unfold loadCells
  rw [run_loadCellsFrom w ad vs 0 #[] (by simpa using h)]
  simp

theorem run_loadVar1 (w : World) {T : TypeId} (hagg : ∀ w, (isAgg T).run P w = .ok false w) (ad : Addr) {v : Value} (h : w.cell? ad = some v) : (loadVar T ad).run P w = .ok v w := by
  unfold loadVar
  simp [Sem.run_bind, hagg, load, Sem.run, h]

theorem run_loadVarN (w : World) {T : TypeId} {n : Nat} (hagg : ∀ w, (isAgg T).run P w = .ok true w) (hsz : ∀ w, (sizeOf T).run P w = .ok n w) (ad : Addr) (vs : List Value) (hn : vs.length = n)
    (h : ∀ j v, vs[j]? = some v → w.cell? (ad.add j) = some v) : (loadVar T ad).run P w = .ok (.agg vs.toArray) w := by
  subst hn
  unfold loadVar
  simp [Sem.run_bind, hagg, hsz, run_loadCells w ad vs h]
end

theorem cell_of {w : World} {b off : Nat} {l : List Value} {T : TypeId} {fr : Nat × Nat} {v : Value} (h : w.heap[b]? = some (.cells l.toArray T fr)) (hv : getL l off = some v) :
    w.cell? ⟨b, off, none⟩ = some v := by
  rw [getL_eq] at hv
  simp [World.cell?, h, hv]

section
variable {c : Cx} {ops : Array Oper} {Q : Exit → Act → World → Prop} {rest : List Oper} {L : Slots} {H : Hp}
variable {dst : Option Tmp} {T : TypeId} {pos : String} {af : Array Edge} {g : Option (Nat × Bool)}

/-! ### Values alone -/
theorem QV.move {d : Nat} {x : Operand} {v : Value} (hx : ev L x = some v) : QV c ⟨some d, .move x, T, pos, af, g⟩ L H (v) := fun a w s => by simp [execOp, s.eval hx]

theorem TX.move {d : Nat} {x : Operand} {v : Value} (hx : ev L x = some v) (hd : Nat.blt d c.n = true) (h : TO c ops Q rest ((d, v) :: L) H) : TX c ops Q ⟨some d, .move x, T, pos, af, g⟩ rest L H := TX.val hd (QV.move hx) h

theorem QV.assign {d : Nat} {x : Operand} {v : Value} (hx : ev L x = some v) : QV c ⟨some d, .assign x, T, pos, af, g⟩ L H (v) := fun a w s => by simp [execOp, s.eval hx]

theorem TX.assign {d : Nat} {x : Operand} {v : Value} (hx : ev L x = some v) (hd : Nat.blt d c.n = true) (h : TO c ops Q rest ((d, v) :: L) H) : TX c ops Q ⟨some d, .assign x, T, pos, af, g⟩ rest L H := TX.val hd (QV.assign hx) h

theorem QV.pickT {d : Nat} {k x y : Operand} {v : Value} (hk : ev L k = some (.bool true)) (hx : ev L x = some v) : QV c ⟨some d, .pick k x y, T, pos, af, g⟩ L H (v) := fun a w s => by simp [execOp, s.eval hx, s.eval hk, asBool]

theorem TX.pickT {d : Nat} {k x y : Operand} {v : Value} (hk : ev L k = some (.bool true)) (hx : ev L x = some v) (hd : Nat.blt d c.n = true) (h : TO c ops Q rest ((d, v) :: L) H) : TX c ops Q ⟨some d, .pick k x y, T, pos, af, g⟩ rest L H := TX.val hd (QV.pickT hk hx) h

theorem QV.pickF {d : Nat} {k x y : Operand} {v : Value} (hk : ev L k = some (.bool false)) (hx : ev L y = some v) : QV c ⟨some d, .pick k x y, T, pos, af, g⟩ L H (v) := fun a w s => by simp [execOp, s.eval hx, s.eval hk, asBool]

theorem TX.pickF {d : Nat} {k x y : Operand} {v : Value} (hk : ev L k = some (.bool false)) (hx : ev L y = some v) (hd : Nat.blt d c.n = true) (h : TO c ops Q rest ((d, v) :: L) H) : TX c ops Q ⟨some d, .pick k x y, T, pos, af, g⟩ rest L H := TX.val hd (QV.pickF hk hx) h

theorem run_ibin {P : Program} {w : World} {op : BinOp} {k : IntKind} {m n : Int} {v : Value} {xT : TypeId} {x y : Operand} (hr : ibin op k m n = some v) :
    (do eqGuard op xT x y (.int k m) (.int k n); binOp op xT (.int k m) (.int k n) : Sem Value).run P w = .ok v w := by
  cases op <;> simp [ibin] at hr <;> subst hr <;> simp [eqGuard, binOp, Op.intArith, Op.intBits, Op.intCmp, iand, ior, ixor, iandn]

theorem QV.ibin {d : Nat} {op : BinOp} {xT yT : TypeId} {x y : Operand} {k : IntKind} {m n : Int} {v : Value} (hr : HW.ibin op k m n = some v) (hx : ev L x = some (.int k m)) (hy : ev L y = some (.int k n)) : QV c ⟨some d, .binOp op xT x y yT, T, pos, af, g⟩ L H (v) := fun a w s => by
    have := run_ibin (P := c.P) (w := w) (xT := xT) (x := x) (y := y) hr
    simp only [execOp, s.eval hx, s.eval hy]
    rw [Sem.run_bind, this]; rfl

theorem TX.ibin {d : Nat} {op : BinOp} {xT yT : TypeId} {x y : Operand} {k : IntKind} {m n : Int} {v : Value} (hr : HW.ibin op k m n = some v) (hx : ev L x = some (.int k m)) (hy : ev L y = some (.int k n)) (hd : Nat.blt d c.n = true) (h : TO c ops Q rest ((d, v) :: L) H) : TX c ops Q ⟨some d, .binOp op xT x y yT, T, pos, af, g⟩ rest L H := TX.val hd (QV.ibin hr hx hy) h

theorem QV.quo {d : Nat} {xT yT : TypeId} {x y : Operand} {k : IntKind} {m n : Int} (hx : ev L x = some (.int k m)) (hy : ev L y = some (.int k n)) (hn : n ≠ 0) : QV c ⟨some d, .binOp .quo xT x y yT, T, pos, af, g⟩ L H ((.int k (k.wrap (m.tdiv n)))) := fun a w s => by simp [execOp, s.eval hx, s.eval hy, eqGuard, binOp, Op.intDiv, hn]

theorem TX.quo {d : Nat} {xT yT : TypeId} {x y : Operand} {k : IntKind} {m n : Int} (hx : ev L x = some (.int k m)) (hy : ev L y = some (.int k n)) (hn : n ≠ 0) (hd : Nat.blt d c.n = true) (h : TO c ops Q rest ((d, (.int k (k.wrap (m.tdiv n)))) :: L) H) : TX c ops Q ⟨some d, .binOp .quo xT x y yT, T, pos, af, g⟩ rest L H := TX.val hd (QV.quo hx hy hn) h

theorem QV.rem {d : Nat} {xT yT : TypeId} {x y : Operand} {k : IntKind} {m n : Int} (hx : ev L x = some (.int k m)) (hy : ev L y = some (.int k n)) (hn : n ≠ 0) : QV c ⟨some d, .binOp .rem xT x y yT, T, pos, af, g⟩ L H ((.int k (m.tmod n))) := fun a w s => by simp [execOp, s.eval hx, s.eval hy, eqGuard, binOp, Op.intDiv, hn]

theorem TX.rem {d : Nat} {xT yT : TypeId} {x y : Operand} {k : IntKind} {m n : Int} (hx : ev L x = some (.int k m)) (hy : ev L y = some (.int k n)) (hn : n ≠ 0) (hd : Nat.blt d c.n = true) (h : TO c ops Q rest ((d, (.int k (m.tmod n))) :: L) H) : TX c ops Q ⟨some d, .binOp .rem xT x y yT, T, pos, af, g⟩ rest L H := TX.val hd (QV.rem hx hy hn) h

theorem QV.shl {d : Nat} {xT yT : TypeId} {x y : Operand} {k k' : IntKind} {m n : Int} (hx : ev L x = some (.int k m)) (hy : ev L y = some (.int k' n)) (hn : 0 ≤ n) : QV c ⟨some d, .binOp .shl xT x y yT, T, pos, af, g⟩ L H ((.int k (ishl k m n))) := fun a w s => by
    have h' : ¬ n < 0 := by omega
    simp [execOp, s.eval hx, s.eval hy, eqGuard, binOp, Op.shift, h', ishl]

theorem TX.shl {d : Nat} {xT yT : TypeId} {x y : Operand} {k k' : IntKind} {m n : Int} (hx : ev L x = some (.int k m)) (hy : ev L y = some (.int k' n)) (hn : 0 ≤ n) (hd : Nat.blt d c.n = true) (h : TO c ops Q rest ((d, (.int k (ishl k m n))) :: L) H) : TX c ops Q ⟨some d, .binOp .shl xT x y yT, T, pos, af, g⟩ rest L H := TX.val hd (QV.shl hx hy hn) h

theorem QV.shr {d : Nat} {xT yT : TypeId} {x y : Operand} {k k' : IntKind} {m n : Int} (hx : ev L x = some (.int k m)) (hy : ev L y = some (.int k' n)) (hn : 0 ≤ n) : QV c ⟨some d, .binOp .shr xT x y yT, T, pos, af, g⟩ L H ((.int k (ishr k m n))) := fun a w s => by
    have h' : ¬ n < 0 := by omega
    simp [execOp, s.eval hx, s.eval hy, eqGuard, binOp, Op.shift, h', ishr]

theorem TX.shr {d : Nat} {xT yT : TypeId} {x y : Operand} {k k' : IntKind} {m n : Int} (hx : ev L x = some (.int k m)) (hy : ev L y = some (.int k' n)) (hn : 0 ≤ n) (hd : Nat.blt d c.n = true) (h : TO c ops Q rest ((d, (.int k (ishr k m n))) :: L) H) : TX c ops Q ⟨some d, .binOp .shr xT x y yT, T, pos, af, g⟩ rest L H := TX.val hd (QV.shr hx hy hn) h

theorem run_equal_bool {P : Program} {w : World} {xT : TypeId} (hu : ∀ w, (underlying xT).run P w = .ok .bool w) (m n : Bool) : (Op.equal xT (.bool m) (.bool n)).run P w = .ok (m == n) w := by
  unfold Op.equal Op.maxDepth
  show (Op.equalIn (9999 + 1) xT (.bool m) (.bool n)).run P w = _
  generalize 9999 = d
  rw [Op.equalIn]
  simp [hu]

theorem QV.beq {d : Nat} {xT yT : TypeId} {x y : Operand} {m n : Bool} (hu : ∀ w, (underlying xT).run c.P w = .ok .bool w) (hx : ev L x = some (.bool m)) (hy : ev L y = some (.bool n)) : QV c ⟨some d, .binOp .eql xT x y yT, T, pos, af, g⟩ L H ((.bool (m == n))) := fun a w s => by
    have := run_equal_bool (w := w) hu m n
    simp [execOp, s.eval hx, s.eval hy, eqGuard, binOp, this]

theorem TX.beq {d : Nat} {xT yT : TypeId} {x y : Operand} {m n : Bool} (hu : ∀ w, (underlying xT).run c.P w = .ok .bool w) (hx : ev L x = some (.bool m)) (hy : ev L y = some (.bool n)) (hd : Nat.blt d c.n = true) (h : TO c ops Q rest ((d, (.bool (m == n))) :: L) H) : TX c ops Q ⟨some d, .binOp .eql xT x y yT, T, pos, af, g⟩ rest L H := TX.val hd (QV.beq hu hx hy) h

theorem QV.bneq {d : Nat} {xT yT : TypeId} {x y : Operand} {m n : Bool} (hu : ∀ w, (underlying xT).run c.P w = .ok .bool w) (hx : ev L x = some (.bool m)) (hy : ev L y = some (.bool n)) : QV c ⟨some d, .binOp .neq xT x y yT, T, pos, af, g⟩ L H ((.bool (m != n))) := fun a w s => by
    have := run_equal_bool (w := w) hu m n
    simp [execOp, s.eval hx, s.eval hy, eqGuard, binOp, this, bne]

theorem TX.bneq {d : Nat} {xT yT : TypeId} {x y : Operand} {m n : Bool} (hu : ∀ w, (underlying xT).run c.P w = .ok .bool w) (hx : ev L x = some (.bool m)) (hy : ev L y = some (.bool n)) (hd : Nat.blt d c.n = true) (h : TO c ops Q rest ((d, (.bool (m != n))) :: L) H) : TX c ops Q ⟨some d, .binOp .neq xT x y yT, T, pos, af, g⟩ rest L H := TX.val hd (QV.bneq hu hx hy) h

theorem QV.not {xT : TypeId} {d : Nat} {x : Operand} {b : Bool} (hx : ev L x = some (.bool b)) : QV c ⟨some d, .unOp .not xT x, T, pos, af, g⟩ L H ((.bool (!b))) := fun a w s => by simp [execOp, s.eval hx, Op.unary]

theorem TX.not {xT : TypeId} {d : Nat} {x : Operand} {b : Bool} (hx : ev L x = some (.bool b)) (hd : Nat.blt d c.n = true) (h : TO c ops Q rest ((d, (.bool (!b))) :: L) H) : TX c ops Q ⟨some d, .unOp .not xT x, T, pos, af, g⟩ rest L H := TX.val hd (QV.not hx) h

theorem QV.neg {xT : TypeId} {d : Nat} {x : Operand} {k : IntKind} {n : Int} (hx : ev L x = some (.int k n)) : QV c ⟨some d, .unOp .neg xT x, T, pos, af, g⟩ L H ((.int k (k.wrap (0 - n)))) := fun a w s => by simp [execOp, s.eval hx, Op.unary, Op.intArith]

theorem TX.neg {xT : TypeId} {d : Nat} {x : Operand} {k : IntKind} {n : Int} (hx : ev L x = some (.int k n)) (hd : Nat.blt d c.n = true) (h : TO c ops Q rest ((d, (.int k (k.wrap (0 - n)))) :: L) H) : TX c ops Q ⟨some d, .unOp .neg xT x, T, pos, af, g⟩ rest L H := TX.val hd (QV.neg hx) h

theorem QV.inv {xT : TypeId} {d : Nat} {x : Operand} {k : IntKind} {n : Int} (hx : ev L x = some (.int k n)) : QV c ⟨some d, .unOp .xor xT x, T, pos, af, g⟩ L H ((.int k (ixor k (if k.signed then -1 else k.max) n))) := fun a w s => by simp [execOp, s.eval hx, Op.unary, Op.intBits, ixor]

theorem TX.inv {xT : TypeId} {d : Nat} {x : Operand} {k : IntKind} {n : Int} (hx : ev L x = some (.int k n)) (hd : Nat.blt d c.n = true) (h : TO c ops Q rest ((d, (.int k (ixor k (if k.signed then -1 else k.max) n))) :: L) H) : TX c ops Q ⟨some d, .unOp .xor xT x, T, pos, af, g⟩ rest L H := TX.val hd (QV.inv hx) h

theorem QV.conv {S D : TypeId} {d : Nat} {x : Operand} {k k' : IntKind} {n : Int} {td : TypeDesc} (hs : ∀ w, (underlying S).run c.P w = .ok td w) (hu : ∀ w, (underlying D).run c.P w = .ok (.int k') w) (hx : ev L x = some (.int k n)) : QV c ⟨some d, .convert S D x, T, pos, af, g⟩ L H ((.int k' (k'.wrap n))) := fun a w s => by simp [execOp, s.eval hx, convert, hs, hu, Conv.intToInt]

theorem TX.conv {S D : TypeId} {d : Nat} {x : Operand} {k k' : IntKind} {n : Int} {td : TypeDesc} (hs : ∀ w, (underlying S).run c.P w = .ok td w) (hu : ∀ w, (underlying D).run c.P w = .ok (.int k') w) (hx : ev L x = some (.int k n)) (hd : Nat.blt d c.n = true) (h : TO c ops Q rest ((d, (.int k' (k'.wrap n))) :: L) H) : TX c ops Q ⟨some d, .convert S D x, T, pos, af, g⟩ rest L H := TX.val hd (QV.conv hs hu hx) h

theorem QV.extract {d : Nat} {x : Operand} {vs : List Value} {i : Nat} {v : Value} (hx : ev L x = some (.tuple vs.toArray)) (hv : getL vs i = some v) : QV c ⟨some d, .extract x i, T, pos, af, g⟩ L H (v) := fun a w s => by
    rw [getL_eq] at hv
    simp [execOp, s.eval hx, Instr.extract, hv]

theorem TX.extract {d : Nat} {x : Operand} {vs : List Value} {i : Nat} {v : Value} (hx : ev L x = some (.tuple vs.toArray)) (hv : getL vs i = some v) (hd : Nat.blt d c.n = true) (h : TO c ops Q rest ((d, v) :: L) H) : TX c ops Q ⟨some d, .extract x i, T, pos, af, g⟩ rest L H := TX.val hd (QV.extract hx hv) h

def evs (L : Slots) : List Operand → Option (List Value)
  | [] => some []
  | x :: xs => match ev L x, evs L xs with | some v, some vs => some (v :: vs) | _, _ => none

theorem Sat.evals {a : Act} {w : World} (s : Sat c L H a w) : ∀ {xs : List Operand} {vs : List Value}, evs L xs = some vs → xs.map a.eval = vs
  | [], vs, h => by simp [evs] at h; simp [h]
  | x :: xs, vs, h => by
    simp only [evs] at h
    cases hx : ev L x with
    | none => simp [hx] at h
    | some v =>
      cases hxs : evs L xs with
      | none => simp [hx, hxs] at h
      | some us => simp [hx, hxs] at h; subst h; simp [s.eval hx, s.evals hxs]

theorem QV.mkfunc {d : Nat} {fn : Fn} {fi ca : List Operand} {vf vc : List Value} (h1 : evs L fi = some vf) (h2 : evs L ca = some vc) : QV c ⟨some d, .makeFunc fn fi.toArray ca.toArray, T, pos, af, g⟩ L H ((.func fn vf.toArray vc.toArray)) := fun a w s => by simp [execOp, Instr.makeFunc, s.evals h1, s.evals h2]

theorem TX.mkfunc {d : Nat} {fn : Fn} {fi ca : List Operand} {vf vc : List Value} (h1 : evs L fi = some vf) (h2 : evs L ca = some vc) (hd : Nat.blt d c.n = true) (h : TO c ops Q rest ((d, (.func fn vf.toArray vc.toArray)) :: L) H) : TX c ops Q ⟨some d, .makeFunc fn fi.toArray ca.toArray, T, pos, af, g⟩ rest L H := TX.val hd (QV.mkfunc h1 h2) h

theorem QV.nilCheckP {d : Nat} {x : Operand} {ad : Addr} (hx : ev L x = some (.pointer (some ad))) : QV c ⟨some d, .nilCheck x, T, pos, af, g⟩ L H ((.pointer (some ad))) := fun a w s => by simp [execOp, s.eval hx]

theorem TX.nilCheckP {d : Nat} {x : Operand} {ad : Addr} (hx : ev L x = some (.pointer (some ad))) (hd : Nat.blt d c.n = true) (h : TO c ops Q rest ((d, (.pointer (some ad))) :: L) H) : TX c ops Q ⟨some d, .nilCheck x, T, pos, af, g⟩ rest L H := TX.val hd (QV.nilCheckP hx) h

theorem QV.lenS {α : Type} {d : Nat} {x : Operand} {S e : TypeId} {p : Option Addr} {n k : Nat} {xs : List α} (hu : ∀ w, (underlying S).run c.P w = .ok (.slice e) w) (hx : ev L x = some (.slice p n k)) (hn : xs.length = n) : QV c ⟨some d, .call ⟨.builtin .len, #[x], #[S]⟩, T, pos, af, g⟩ L H (.int .i64 (xs.length : Int)) := fun a w s => by subst hn; simp [execOp, resolve, invoke, builtin, Builtin.len_, s.eval hx, goInt, hu]

theorem TX.lenS {α : Type} {d : Nat} {x : Operand} {S e : TypeId} {p : Option Addr} {n k : Nat} {xs : List α} (hu : ∀ w, (underlying S).run c.P w = .ok (.slice e) w) (hx : ev L x = some (.slice p n k)) (hn : xs.length = n) (hd : Nat.blt d c.n = true) (h : TO c ops Q rest ((d, .int .i64 (xs.length : Int)) :: L) H) : TX c ops Q ⟨some d, .call ⟨.builtin .len, #[x], #[S]⟩, T, pos, af, g⟩ rest L H := TX.val hd (QV.lenS hu hx hn) h

theorem QV.lenStr {d : Nat} {x : Operand} {S : TypeId} {str : ByteArray} (hu : ∀ w, (underlying S).run c.P w = .ok .string w) (hx : ev L x = some (.string str)) : QV c ⟨some d, .call ⟨.builtin .len, #[x], #[S]⟩, T, pos, af, g⟩ L H ((.int .i64 (str.size : Int))) := fun a w s => by simp [execOp, resolve, invoke, builtin, Builtin.len_, s.eval hx, goInt, hu]

theorem TX.lenStr {d : Nat} {x : Operand} {S : TypeId} {str : ByteArray} (hu : ∀ w, (underlying S).run c.P w = .ok .string w) (hx : ev L x = some (.string str)) (hd : Nat.blt d c.n = true) (h : TO c ops Q rest ((d, (.int .i64 (str.size : Int))) :: L) H) : TX c ops Q ⟨some d, .call ⟨.builtin .len, #[x], #[S]⟩, T, pos, af, g⟩ rest L H := TX.val hd (QV.lenStr hu hx) h

/-! ### Memory -/
theorem Sat.alloc {a : Act} {w : World} {E : Blocks} {S : List Blocks} (s : Sat c L ⟨E, S⟩ a w) (o : Obj) : Sat c L ⟨(w.heap.size, o) :: E, S⟩ a { w with heap := w.heap.push o } := by
  have hall : (⟨(w.heap.size, o) :: E, S⟩ : Hp).all = (w.heap.size, o) :: (⟨E, S⟩ : Hp).all := rfl
  refine s.world ⟨s.ext.os, s.ext.tape, s.ext.output, ?_, ?_⟩ ?_ ?_ ?_
  · have := s.ext.size; simp; omega
  · intro k hk hR
    have := s.ext.size
    rw [← s.ext.same k hk hR]
    simp [Array.getElem?_push]; intro e; omega
  · rw [hall]
    simp only [List.map_cons, List.nodup_cons]
    refine ⟨?_, s.nodup⟩
    intro hm
    obtain ⟨p, hp, e⟩ := List.mem_map.1 hm
    have := s.lt hp
    omega
  · intro p hp
    rw [hall] at hp
    rcases List.mem_cons.1 hp with rfl | hp
    · simp
    · have := s.lt hp
      simp [Array.getElem?_push, show p.1 ≠ w.heap.size from by omega, s.heap p hp]
  · intro p hp
    rw [hall] at hp
    rcases List.mem_cons.1 hp with rfl | hp
    · exact .inr s.ext.size
    · exact s.own p hp

section
variable {E : Blocks} {S : List Blocks}
theorem TX.alloc {d : Nat} {A : TypeId} {z : Value} {l : List Value} (hz : ∀ w, (zeroValue A).run c.P w = .ok z w) (hl : z.cells = l.toArray) (hd : Nat.blt d c.n = true)
    (h : ∀ b, TO c ops Q rest ((d, .pointer (some ⟨b, 0, none⟩)) :: L) ⟨(b, .cells l.toArray A) :: E, S⟩) : TX c ops Q ⟨some d, .alloc A, T, pos, af, g⟩ rest L ⟨E, S⟩ :=
  TX.gen hd fun a w s => ⟨_, _, _, by simp [execOp, Instr.alloc, hz, newVar, newRow, hl], s.alloc (.cells l.toArray A), h _⟩

theorem TX.box {d : Nat} {A : TypeId} {x : Operand} {v : Value} {l : List Value} (hx : ev L x = some v) (hl : v.cells = l.toArray) (hd : Nat.blt d c.n = true)
    (h : ∀ b, TO c ops Q rest ((d, .pointer (some ⟨b, 0, none⟩)) :: L) ⟨(b, .cells l.toArray A) :: E, S⟩) : TX c ops Q ⟨some d, .box A x, T, pos, af, g⟩ rest L ⟨E, S⟩ :=
  TX.gen hd fun a w s => ⟨_, _, _, by simp [execOp, Instr.box, s.eval hx, newVar, newRow, hl], s.alloc (.cells l.toArray A), h _⟩

def getB : Blocks → Nat → Option (Nat × Obj)
  | [], _ => none
  | x :: _, 0 => some x
  | _ :: l, n + 1 => getB l n
def setB : Blocks → Nat → (Nat × Obj) → Option Blocks
  | [], _, _ => none
  | _ :: l, 0, v => some (v :: l)
  | x :: l, n + 1, v => match setB l n v with | some r => some (x :: r) | none => none

theorem getB_mem' : ∀ {H : Blocks} {n : Nat} {p : Nat × Obj}, getB H n = some p → p ∈ H
  | [], _, _, h => by simp [getB] at h
  | x :: l, 0, p, h => by simp [getB] at h; simp [h]
  | x :: l, n + 1, p, h => List.mem_cons_of_mem _ (getB_mem' (H := l) (n := n) h)

theorem getB_mem {H : Hp} {n : Nat} {p : Nat × Obj} (h : getB H.E n = some p) : p ∈ H.all := List.mem_append.2 (.inl (getB_mem' h))

/-- load one cell of an owned block -/
theorem QV.load1 {d : Nat} {A T' : TypeId} {x : Operand} {b off i : Nat} {l : List Value} {fr : Nat × Nat} {v : Value} (hagg : ∀ w, (isAgg A).run c.P w = .ok false w)
    (hx : ev L x = some (.pointer (some ⟨b, off, none⟩))) (hi : getB H.E i = some (b, .cells l.toArray T' fr)) (hv : getL l off = some v) : QV c ⟨some d, .load A x, T, pos, af, g⟩ L H (v) := fun a w s => by
    have hb := s.heap _ (getB_mem hi)
    have := run_loadVar1 (P := c.P) w hagg ⟨b, off, none⟩ (cell_of hb hv)
    simp [execOp, s.eval hx, Instr.loadAt, Instr.sureAddr, this]

theorem TX.load1 {d : Nat} {A T' : TypeId} {x : Operand} {b off i : Nat} {l : List Value} {fr : Nat × Nat} {v : Value} (hagg : ∀ w, (isAgg A).run c.P w = .ok false w)
    (hx : ev L x = some (.pointer (some ⟨b, off, none⟩))) (hi : getB H.E i = some (b, .cells l.toArray T' fr)) (hv : getL l off = some v) (hd : Nat.blt d c.n = true) (h : TO c ops Q rest ((d, v) :: L) H) : TX c ops Q ⟨some d, .load A x, T, pos, af, g⟩ rest L H := TX.val hd (QV.load1 hagg hx hi hv) h

theorem QV.loadN {d : Nat} {A T' : TypeId} {x : Operand} {b off i n : Nat} {l vs : List Value} {fr : Nat × Nat} (hagg : ∀ w, (isAgg A).run c.P w = .ok true w) (hsz : ∀ w, (sizeOf A).run c.P w = .ok n w)
    (hx : ev L x = some (.pointer (some ⟨b, off, none⟩))) (hi : getB H.E i = some (b, .cells l.toArray T' fr)) (hv : cutL l off n = some vs) : QV c ⟨some d, .load A x, T, pos, af, g⟩ L H (.agg vs.toArray) := fun a w s => by
    have hb := s.heap _ (getB_mem hi)
    obtain ⟨h1, h2⟩ := cutL_eq l off n vs hv
    have := run_loadVarN (P := c.P) w hagg hsz ⟨b, off, none⟩ vs h1 (fun j v hj => by
      rw [add_none]; exact cell_of hb (by rw [getL_eq]; exact h2 j v hj))
    simp [execOp, s.eval hx, Instr.loadAt, Instr.sureAddr, this]

theorem TX.loadN {d : Nat} {A T' : TypeId} {x : Operand} {b off i n : Nat} {l vs : List Value} {fr : Nat × Nat} (hagg : ∀ w, (isAgg A).run c.P w = .ok true w) (hsz : ∀ w, (sizeOf A).run c.P w = .ok n w)
    (hx : ev L x = some (.pointer (some ⟨b, off, none⟩))) (hi : getB H.E i = some (b, .cells l.toArray T' fr)) (hv : cutL l off n = some vs) (hd : Nat.blt d c.n = true) (h : TO c ops Q rest ((d, .agg vs.toArray) :: L) H) : TX c ops Q ⟨some d, .load A x, T, pos, af, g⟩ rest L H := TX.val hd (QV.loadN hagg hsz hx hi hv) h

end

theorem setB_spec : ∀ {H H' : Blocks} {i : Nat} {q : Nat × Obj}, setB H i q = some H' → ∃ A B p, H = A ++ p :: B ∧ H' = A ++ q :: B ∧ getB H i = some p
  | [], _, _, _, h => by simp [setB] at h
  | x :: l, H', 0, q, h => by simp [setB] at h; exact ⟨[], l, x, rfl, h.symm, rfl⟩
  | x :: l, H', n + 1, q, h => by
    simp only [setB] at h
    cases h2 : setB l n q with
    | none => rw [h2] at h; cases h
    | some r =>
      rw [h2] at h; cases h
      obtain ⟨A, B, p, h3, h4, h5⟩ := setB_spec h2
      exact ⟨x :: A, B, p, by simp [h3], by simp [h4], h5⟩

/-- the world in which block b is another object; all else as it was -/
def World.withBlock (w : World) (b : Nat) (o : Obj) : World := { w with heap := w.heap.setIfInBounds b o }

/-- one owned block becomes another object -/
theorem Sat.setBlockG {a : Act} {w : World} {H H' : Hp} {b : Nat} {o o' : Obj} {A B : Blocks} (s : Sat c L H a w) (h1 : H.all = A ++ (b, o) :: B) (h2 : H'.all = A ++ (b, o') :: B) :
    Sat c L H' a (World.withBlock w b o') := by
  have hmem : (b, o) ∈ H.all := by rw [h1]; simp
  have hlt := s.lt hmem
  have hkeys : H'.all.map (·.1) = H.all.map (·.1) := by rw [h1, h2]; simp
  have hnd : ∀ p ∈ A ++ B, p.1 ≠ b := by
    have := s.nodup
    rw [h1] at this
    simp only [List.map_append, List.map_cons] at this
    rw [List.nodup_append] at this
    obtain ⟨n1, n2, n3⟩ := this
    rw [List.nodup_cons] at n2
    intro p hp e
    rcases List.mem_append.1 hp with hp | hp
    · exact n3 p.1 (List.mem_map.2 ⟨p, hp, rfl⟩) b (by simp) e
    · exact n2.1 (by rw [← e]; exact List.mem_map.2 ⟨p, hp, rfl⟩)
  refine s.world ⟨s.ext.os, s.ext.tape, s.ext.output, ?_, ?_⟩ ?_ ?_ ?_
  · simpa [World.withBlock] using s.ext.size
  · intro k hk hR
    rw [← s.ext.same k hk hR]
    have : b ≠ k := by
      rintro rfl
      rcases s.own _ hmem with h | h
      · exact hR h
      · simp at h; omega
    simp [World.withBlock, this]
  · rw [hkeys]; exact s.nodup
  · intro p hp
    rw [h2] at hp
    have hp' : p = (b, o') ∨ p ∈ A ++ B := by
      simp at hp ⊢; rcases hp with h | h | h
      · exact .inr (.inl h)
      · exact .inl h
      · exact .inr (.inr h)
    rcases hp' with rfl | hp'
    · simp [World.withBlock, Array.getElem?_setIfInBounds]; simpa using hlt
    · have hne := hnd p hp'
      have hpH : p ∈ H.all := by rw [h1]; simp at hp' ⊢; rcases hp' with h | h; exact .inl h; exact .inr (.inr h)
      simp [World.withBlock, Ne.symm hne, s.heap p hpH]
  · intro p hp
    have : p.1 ∈ H'.all.map (·.1) := List.mem_map.2 ⟨p, hp, rfl⟩
    rw [hkeys] at this
    obtain ⟨q, hq, e⟩ := List.mem_map.1 this
    rw [← e]; exact s.own q hq

theorem Sat.setBlock {a : Act} {w : World} {E E' : Blocks} {S : List Blocks} (s : Sat c L ⟨E, S⟩ a w) {i b : Nat} {o o' : Obj} (hi : getB E i = some (b, o)) (hs : setB E i (b, o') = some E') :
    Sat c L ⟨E', S⟩ a (World.withBlock w b o') := by
  obtain ⟨A, B, p, h1, h2, h3⟩ := setB_spec hs
  rw [hi] at h3; cases h3
  exact s.setBlockG (A := A) (B := B ++ S.flatten) (o := o) (by simp [Hp.all, h1]) (by simp [Hp.all, h2])

theorem setCell_withBlock {w : World} {b off : Nat} {l : List Value} {T' : TypeId} {fr : Nat × Nat} {v : Value} (hb : w.heap[b]? = some (.cells l.toArray T' fr)) :
    w.setCell ⟨b, off, none⟩ v = World.withBlock w b (.cells (l.set off v).toArray T' fr) := by
  have hlt : b < w.heap.size := (Array.getElem?_eq_some_iff.1 hb).1
  unfold World.setCell World.withBlock
  congr 1
  apply Array.ext
  · simp
  · intro i h1 h2
    have hi : i < w.heap.size := by simpa using h1
    by_cases h : b = i
    · subst h
      have e : w.heap[b] = .cells l.toArray T' fr := (Array.getElem?_eq_some_iff.1 hb).2
      simp [Array.getElem_modify, e]
    · rw [Array.getElem_modify, if_neg h, Array.getElem_setIfInBounds_ne hi h]

theorem withBlock_heap {w : World} {b : Nat} {o : Obj} (h : b < w.heap.size) : (World.withBlock w b o).heap[b]? = some o := by
  simp [World.withBlock, h]

theorem withBlock_twice (w : World) (b : Nat) (o o' : Obj) : World.withBlock (World.withBlock w b o) b o' = World.withBlock w b o' := by
  simp [World.withBlock]

theorem run_store1 {P : Program} {w : World} {b off : Nat} {l : List Value} {T' : TypeId} {v : Value} (hb : w.heap[b]? = some (.cells l.toArray T' (0, 0))) (ho : off < l.length)
    (hv : v.oneCell' = true) : (store ⟨b, off, none⟩ v).run P w = .ok () (World.withBlock w b (.cells (l.set off v).toArray T' (0, 0))) := by
  have hc : w.cell? ⟨b, off, none⟩ = some l[off] := by simp [World.cell?, hb, ho]
  have hf : w.frozen? ⟨b, off, none⟩ = false := by simp [World.frozen?, hb]
  rw [← setCell_withBlock hb]
  cases v <;> first | (simp [Value.oneCell'] at hv; done) | (simp [store, Sem.run, hc, hf])

theorem run_storeCells {P : Program} {b off : Nat} {T' : TypeId} : ∀ (vs : List Value) (i : Nat) (l r : List Value) (w : World), w.heap[b]? = some (.cells l.toArray T' (0, 0)) →
    (∀ v ∈ vs, v.oneCell' = true) → off + i + vs.length ≤ l.length →
    ∃ l' : List Value, (storeCells ⟨b, off, none⟩ vs i).run P w = .ok () (World.withBlock w b (.cells l'.toArray T' (0, 0))) ∧ l'.length = l.length ∧
      ∀ j, l'[j]? = if off + i ≤ j ∧ j < off + i + vs.length then vs[j - (off + i)]? else l[j]?
  | [], i, l, r, w, hb, h1, hl => by
    refine ⟨l, ?_, rfl, ?_⟩
    · have : World.withBlock w b (.cells l.toArray T' (0, 0)) = w := by
        have hlt : b < w.heap.size := (Array.getElem?_eq_some_iff.1 hb).1
        have e : w.heap[b] = .cells l.toArray T' (0, 0) := (Array.getElem?_eq_some_iff.1 hb).2
        simp [World.withBlock]
        congr 1
        apply Array.ext
        · simp
        · intro i h1 h2
          have hi : i < w.heap.size := by simpa using h1
          by_cases h : b = i
          · subst h; simp [e]
          · rw [Array.getElem_setIfInBounds_ne hi h]
      rw [this]; simp [storeCells]
    · intro j; simp; omega
  | v :: vs, i, l, r, w, hb, h1, hl => by
    have hlt : b < w.heap.size := (Array.getElem?_eq_some_iff.1 hb).1
    simp only [List.length_cons] at hl
    obtain ⟨l', h2, h3, h4⟩ := run_storeCells (P := P) (b := b) (off := off) (T' := T') vs (i + 1) (l.set (off + i) v) r
      (World.withBlock w b (.cells (l.set (off + i) v).toArray T' (0, 0))) (withBlock_heap hlt) (fun u hu => h1 u (by simp [hu])) (by simp; omega)
    refine ⟨l', ?_, by simpa using h3, ?_⟩
    · simp only [storeCells, add_none]
      rw [Sem.run_bind, run_store1 hb (by omega) (h1 v (by simp))]
      simp only [Result.andThen_ok]
      rw [h2, withBlock_twice]
    · intro j
      rw [h4 j]
      by_cases hj : off + (i + 1) ≤ j ∧ j < off + (i + 1) + vs.length
      · rw [if_pos hj, if_pos (by simp; omega)]
        rw [show j - (off + i) = (j - (off + (i + 1))) + 1 from by omega]; simp
      · rw [if_neg hj]
        by_cases hj2 : j = off + i
        · subst hj2
          rw [if_pos (by simp), List.getElem?_set_self (by omega)]; simp
        · rw [if_neg (by simp; omega)]
          rw [List.getElem?_set]; simp [Ne.symm hj2]

theorem pasteL_eq : ∀ (l : List Value) (off : Nat) (vs r : List Value), pasteL l off vs = some r → r.length = l.length ∧ off + vs.length ≤ l.length ∧
    ∀ j, r[j]? = if off ≤ j ∧ j < off + vs.length then vs[j - off]? else l[j]?
  | l, 0, [], r, h => by simp [pasteL] at h; subst h; simp
  | [], 0, v :: vs, r, h => by simp [pasteL] at h
  | [], n + 1, vs, r, h => by simp [pasteL] at h
  | x :: l, 0, v :: vs, r, h => by
    simp only [pasteL] at h
    cases h2 : pasteL l 0 vs with
    | none => rw [h2] at h; cases h
    | some r' =>
      rw [h2] at h; cases h
      obtain ⟨h3, h4, h5⟩ := pasteL_eq l 0 vs r' h2
      refine ⟨by simp [h3], by simp; omega, ?_⟩
      intro j
      cases j with
      | zero => simp
      | succ j => simp [h5 j]
  | x :: l, n + 1, vs, r, h => by
    simp only [pasteL] at h
    cases h2 : pasteL l n vs with
    | none => rw [h2] at h; cases h
    | some r' =>
      rw [h2] at h; cases h
      obtain ⟨h3, h4, h5⟩ := pasteL_eq l n vs r' h2
      refine ⟨by simp [h3], by simp; omega, ?_⟩
      intro j
      cases j with
      | zero => simp
      | succ j =>
        simp [h5 j]
        by_cases hj : n ≤ j ∧ j < n + vs.length
        · rw [if_pos hj, if_pos (by omega)]
          try rw [show j + 1 - (n + 1) = j - n from by omega]
        · rw [if_neg hj, if_neg (by omega)]

def allOne : List Value → Bool
  | [] => true
  | v :: vs => v.oneCell' && allOne vs

theorem allOne_mem : ∀ {vs : List Value}, allOne vs = true → ∀ v ∈ vs, v.oneCell' = true
  | v :: vs, h, u, hu => by
    simp [allOne] at h
    rcases List.mem_cons.1 hu with rfl | hu
    · exact h.1
    · exact allOne_mem h.2 u hu

/-- a store of a value of n cells into an owned block -/
theorem TX.store {A T' : TypeId} {x y : Operand} {b off i n : Nat} {l vs l' : List Value} {v : Value} {E E' : Blocks} {S : List Blocks} (hsz : ∀ w, (sizeOf A).run c.P w = .ok n w)
    (hx : ev L x = some (.pointer (some ⟨b, off, none⟩))) (hy : ev L y = some v) (hc : v.cells = vs.toArray) (hn : vs.length = n) (h1 : allOne vs = true)
    (hi : getB E i = some (b, .cells l.toArray T')) (hp : pasteL l off vs = some l') (hs : setB E i (b, .cells l'.toArray T') = some E')
    (h : TO c ops Q rest L ⟨E', S⟩) : TX c ops Q ⟨none, .store A x y, T, pos, af, g⟩ rest L ⟨E, S⟩ := by
  refine TX.skipw rfl (fun a w s => ?_) h
  have hb := s.heap _ (getB_mem (H := ⟨E, S⟩) hi)
  obtain ⟨p1, p2, p3⟩ := pasteL_eq l off vs l' hp
  obtain ⟨l2, r1, r2, r3⟩ := run_storeCells (P := c.P) (off := off) vs 0 l [] w hb (allOne_mem h1) (by omega)
  have e : l2 = l' := by
    apply List.ext_getElem?
    intro j; rw [r3, p3]; simp
  subst e
  refine ⟨_, ?_, s.setBlock hi hs⟩
  simp [execOp, s.eval hx, s.eval hy, Instr.storeAt, Instr.sureAddr, storeVar, hsz, hc, hn, r1]

theorem QV.fieldAddr {S : TypeId} {d : Nat} {x : Operand} {ad : Addr} {f : Nat} {fs : List Field} {fd : Field} {k : Nat} (hu : ∀ w, (underlying S).run c.P w = .ok (.struct fs.toArray) w)
    (hf : fs[f]? = some fd) (hk : ∀ w, (sizeOf fd.type).run c.P w = .ok (k + 1) w) (hx : ev L x = some (.pointer (some ad))) : QV c ⟨some d, .fieldAddr S x f, T, pos, af, g⟩ L H ((.pointer (some (ad.add fd.offset)))) := fun a w s => by simp [execOp, s.eval hx, Instr.fieldAt, hu, hf, Instr.sureAddr, fieldPlace, hk]

theorem TX.fieldAddr {S : TypeId} {d : Nat} {x : Operand} {ad : Addr} {f : Nat} {fs : List Field} {fd : Field} {k : Nat} (hu : ∀ w, (underlying S).run c.P w = .ok (.struct fs.toArray) w)
    (hf : fs[f]? = some fd) (hk : ∀ w, (sizeOf fd.type).run c.P w = .ok (k + 1) w) (hx : ev L x = some (.pointer (some ad))) (hd : Nat.blt d c.n = true) (h : TO c ops Q rest ((d, (.pointer (some (ad.add fd.offset)))) :: L) H) : TX c ops Q ⟨some d, .fieldAddr S x f, T, pos, af, g⟩ rest L H := TX.val hd (QV.fieldAddr hu hf hk hx) h

/-- with the place written out -/
theorem TX.fieldAddr' {S : TypeId} {d : Nat} {x : Operand} {b off : Nat} {f : Nat} {fs : List Field} {fd : Field} {k o' : Nat} (hu : ∀ w, (underlying S).run c.P w = .ok (.struct fs.toArray) w)
    (hf : fs[f]? = some fd) (hk : ∀ w, (sizeOf fd.type).run c.P w = .ok (k + 1) w) (hx : ev L x = some (.pointer (some ⟨b, off, none⟩))) (ho : off + fd.offset = o') (hd : Nat.blt d c.n = true)
    (h : TO c ops Q rest ((d, (.pointer (some ⟨b, o', none⟩))) :: L) H) : TX c ops Q ⟨some d, .fieldAddr S x f, T, pos, af, g⟩ rest L H :=
  TX.fieldAddr hu hf hk hx hd (by rw [add_none, ho]; exact h)
end
end Go.HW
