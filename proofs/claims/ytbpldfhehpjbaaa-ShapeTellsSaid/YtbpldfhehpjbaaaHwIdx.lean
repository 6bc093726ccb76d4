/- Indexing strings and arrays as values. -/
import Derived.Test.YtbpldfhehpjbaaaHwDrawE
namespace Go.HW
open Go Go.RowKit
set_option linter.unusedVariables false

/-- a string's byte -/
def bget (s : ByteArray) (i : Int) : Int := ((s.data.getD i.toNat 0).toNat : Int)

section
variable {c : Cx} {ops : Array Oper} {Q : Exit → Act → World → Prop} {rest : List Oper} {L : Slots} {H : Hp}
variable {d : Nat} {T : TypeId} {pos : String} {af : Array Edge} {g : Option (Nat × Bool)}

theorem QV.indexStr {X : TypeId} {x ix : Operand} {s : ByteArray} {k : IntKind} {i : Int} (hu : ∀ w, (underlying X).run c.P w = .ok .string w) (hx : ev L x = some (.string s)) (hi : ev L ix = some (.int k i)) (hk : inb i s.size = true) :
    QV c ⟨some d, .index X x ix, T, pos, af, g⟩ L H (.int .u8 (bget s i)) := fun a w sa => by
  obtain ⟨h0, h1⟩ := inb_iff.1 hk
  have hlt : i.toNat < s.size := by omega
  have hs : s[i.toNat]? = some s.data[i.toNat] := by
    rw [getElem?_pos s i.toNat hlt]; rfl
  have hb : bget s i = ((s.data[i.toNat]).toNat : Int) := by
    have : i.toNat < s.data.size := hlt
    simp only [bget, Array.getD]
    rw [dif_pos this]; rfl
  rw [hb]
  simp [execOp, Instr.index, sa.eval hx, sa.eval hi, asIntOf, hu, h0, hs]
theorem TX.indexStr {X : TypeId} {x ix : Operand} {s : ByteArray} {k : IntKind} {i : Int} (hu : ∀ w, (underlying X).run c.P w = .ok .string w) (hx : ev L x = some (.string s)) (hi : ev L ix = some (.int k i)) (hk : inb i s.size = true) (hd : Nat.blt d c.n = true)
    (h : TO c ops Q rest ((d, .int .u8 (bget s i)) :: L) H) : TX c ops Q ⟨some d, .index X x ix, T, pos, af, g⟩ rest L H := TX.val hd (QV.indexStr hu hx hi hk) h

/-- an array of elements of one cell each, all of one make -/
theorem QV.indexArr1 {X A : TypeId} {x ix : Operand} {n : Nat} {α : Type} [Inhabited α] {xs : List α} {V : α → Value} {k : IntKind} {i : Int} (hu : ∀ w, (underlying X).run c.P w = .ok (.array n A) w) (hs : ∀ w, (sizeOf A).run c.P w = .ok 1 w) (hag : ∀ w, (isAgg A).run c.P w = .ok false w)
    (hx : ev L x = some (.agg (xs.map V).toArray)) (hi : ev L ix = some (.int k i)) (hn : xs.length = n) (hk : inb i xs.length = true) :
    QV c ⟨some d, .index X x ix, T, pos, af, g⟩ L H (V (gt xs i)) := fun a w sa => by
  obtain ⟨h0, h1⟩ := inb_iff.1 hk
  subst hn
  have hg := gt_some hk
  have hm : (xs.map V).toArray[i.toNat]? = some (V (gt xs i)) := by simp [hg]
  simp [execOp, Instr.index, sa.eval hx, sa.eval hi, asIntOf, hu, hs, h0, h1]
  simp [part, hag, hg]
theorem TX.indexArr1 {X A : TypeId} {x ix : Operand} {n : Nat} {α : Type} [Inhabited α] {xs : List α} {V : α → Value} {k : IntKind} {i : Int} (hu : ∀ w, (underlying X).run c.P w = .ok (.array n A) w) (hs : ∀ w, (sizeOf A).run c.P w = .ok 1 w) (hag : ∀ w, (isAgg A).run c.P w = .ok false w)
    (hx : ev L x = some (.agg (xs.map V).toArray)) (hi : ev L ix = some (.int k i)) (hn : xs.length = n) (hk : inb i xs.length = true) (hd : Nat.blt d c.n = true)
    (h : TO c ops Q rest ((d, V (gt xs i)) :: L) H) : TX c ops Q ⟨some d, .index X x ix, T, pos, af, g⟩ rest L H := TX.val hd (QV.indexArr1 hu hs hag hx hi hn hk) h
end
end Go.HW
