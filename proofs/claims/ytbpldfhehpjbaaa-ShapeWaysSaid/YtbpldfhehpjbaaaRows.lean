/-
  No cell of these rows narrows 'for every input' (looked for: loops, veiled, ifaces, maps, wideKeys, modest, calm, conditions, laid).
  DERIVED. THE GIVEN ROWS OF THIS SEAT. 9 by the template 'for every input the law returns true; each argument reads behind the call as it read before'; 0 by the template 'total and deterministic' (their statements: YtbpldfhehpjbaaaTotals.lean).
  GIVEN WITH THE SEED: the statements are not yours to turn. If you find one false, say at which input.
  Laid BY PROGRAM, IN A SANDBOX (cutbox-rows.mjs): the forced cells as the released guide's own fill.sh prints them over the translation 0065571231c92e07… (all of the seat's roots in one cut). By AI agents, Wed Nov 11 2026. No macro, syntax, notation, axiom, sorry.
-/
import Derived.Test.YtbpldfhehpjbaaaChecked
import GoSem.Claim
import GoSem.ClaimJoined
import GoSem.ClaimMapViews
import Derived.JoinedTies
import Derived.KernelRfl
namespace Go.Proofs.Ytbpldfhehpjbaaa
/- THE CELL 'sum', in the pinned program and in every row, IS THE sha256 OF THE DUMP (.gsa) THAT YtbpldfhehpjbaaaProg.lean LOADS. Nothing in Lean hashes anything: it is a label: what it is worth is what the hold of that sum in a sandbox is worth. -/
noncomputable def Try.pinned : Pinned := { name := "ytbpldfhehpjbaaa", sum := "0065571231c92e076d58b4e5cb8d5d5b6881c3c6d3380d30c53190911fb94240", checked := Try.checked }
namespace Rows
def none {H : Type} : Left H := { results := [], args := [] }

/-- 'hatchwaylaw03.ShapeLong': WHATEVER THE INPUT: true; the input reads as it did. -/
def shapeLongSpec : ChangeSpec := { name := "shapeLong", fn := fun _ => fun
  | [d] => { results := [.lit (.bool true)], args := [d] }
  | _ => none }
def shapeLongRow : OpenClaim := { program := "ytbpldfhehpjbaaa", sum := "0065571231c92e076d58b4e5cb8d5d5b6881c3c6d3380d30c53190911fb94240", func := "hatchway/hatchwaylaw03.ShapeLong", spec := "shapeLong", unfollowed := true, recurses := true, apart := false }
def ShapeLongSaid : Prop := shapeLongRow.holds Try.pinned (OpenSpec.ofChange shapeLongSpec)

/-- ITS FALSE NEIGHBOUR: 'it returns false'. Refute it at one input. -/
def shapeLongWrong : ChangeSpec := { name := "shapeLong", fn := fun _ => fun
  | [d] => { results := [.lit (.bool false)], args := [d] }
  | _ => none }
def ShapeLongWrongFalsely : Prop := shapeLongRow.holds Try.pinned (OpenSpec.ofChange shapeLongWrong)

/-- 'hatchwaylaw24.FlowTells': WHATEVER THE INPUT: true; the input reads as it did. -/
def flowTellsSpec : ChangeSpec := { name := "flowTells", fn := fun _ => fun
  | [d1, d2] => { results := [.lit (.bool true)], args := [d1, d2] }
  | _ => none }
def flowTellsRow : OpenClaim := { program := "ytbpldfhehpjbaaa", sum := "0065571231c92e076d58b4e5cb8d5d5b6881c3c6d3380d30c53190911fb94240", func := "hatchway/hatchwaylaw24.FlowTells", spec := "flowTells", unfollowed := true, recurses := true, apart := false }
def FlowTellsSaid : Prop := flowTellsRow.holds Try.pinned (OpenSpec.ofChange flowTellsSpec)

/-- ITS FALSE NEIGHBOUR: 'it returns false'. Refute it at one input. -/
def flowTellsWrong : ChangeSpec := { name := "flowTells", fn := fun _ => fun
  | [d1, d2] => { results := [.lit (.bool false)], args := [d1, d2] }
  | _ => none }
def FlowTellsWrongFalsely : Prop := flowTellsRow.holds Try.pinned (OpenSpec.ofChange flowTellsWrong)

/-- 'hatchwaylaw24.FlowJumps': WHATEVER THE INPUT: true; the input reads as it did. -/
def flowJumpsSpec : ChangeSpec := { name := "flowJumps", fn := fun _ => fun
  | [] => { results := [.lit (.bool true)], args := [] }
  | _ => none }
def flowJumpsRow : OpenClaim := { program := "ytbpldfhehpjbaaa", sum := "0065571231c92e076d58b4e5cb8d5d5b6881c3c6d3380d30c53190911fb94240", func := "hatchway/hatchwaylaw24.FlowJumps", spec := "flowJumps", unfollowed := true, recurses := true, apart := false }
def FlowJumpsSaid : Prop := flowJumpsRow.holds Try.pinned (OpenSpec.ofChange flowJumpsSpec)

/-- ITS FALSE NEIGHBOUR: 'it returns false'. Refute it at one input. -/
def flowJumpsWrong : ChangeSpec := { name := "flowJumps", fn := fun _ => fun
  | [] => { results := [.lit (.bool false)], args := [] }
  | _ => none }
def FlowJumpsWrongFalsely : Prop := flowJumpsRow.holds Try.pinned (OpenSpec.ofChange flowJumpsWrong)

/-- 'hatchwaylaw24.FlowOrder': WHATEVER THE INPUT: true; the input reads as it did. -/
def flowOrderSpec : ChangeSpec := { name := "flowOrder", fn := fun _ => fun
  | [d] => { results := [.lit (.bool true)], args := [d] }
  | _ => none }
def flowOrderRow : OpenClaim := { program := "ytbpldfhehpjbaaa", sum := "0065571231c92e076d58b4e5cb8d5d5b6881c3c6d3380d30c53190911fb94240", func := "hatchway/hatchwaylaw24.FlowOrder", spec := "flowOrder", unfollowed := true, recurses := true, apart := false }
def FlowOrderSaid : Prop := flowOrderRow.holds Try.pinned (OpenSpec.ofChange flowOrderSpec)

/-- ITS FALSE NEIGHBOUR: 'it returns false'. Refute it at one input. -/
def flowOrderWrong : ChangeSpec := { name := "flowOrder", fn := fun _ => fun
  | [d] => { results := [.lit (.bool false)], args := [d] }
  | _ => none }
def FlowOrderWrongFalsely : Prop := flowOrderRow.holds Try.pinned (OpenSpec.ofChange flowOrderWrong)

/-- 'hatchwaylaw24.FlowTwo': WHATEVER THE INPUT: true; the input reads as it did. -/
def flowTwoSpec : ChangeSpec := { name := "flowTwo", fn := fun _ => fun
  | [d1, d2] => { results := [.lit (.bool true)], args := [d1, d2] }
  | _ => none }
def flowTwoRow : OpenClaim := { program := "ytbpldfhehpjbaaa", sum := "0065571231c92e076d58b4e5cb8d5d5b6881c3c6d3380d30c53190911fb94240", func := "hatchway/hatchwaylaw24.FlowTwo", spec := "flowTwo", unfollowed := true, recurses := true, apart := false }
def FlowTwoSaid : Prop := flowTwoRow.holds Try.pinned (OpenSpec.ofChange flowTwoSpec)

/-- ITS FALSE NEIGHBOUR: 'it returns false'. Refute it at one input. -/
def flowTwoWrong : ChangeSpec := { name := "flowTwo", fn := fun _ => fun
  | [d1, d2] => { results := [.lit (.bool false)], args := [d1, d2] }
  | _ => none }
def FlowTwoWrongFalsely : Prop := flowTwoRow.holds Try.pinned (OpenSpec.ofChange flowTwoWrong)

/-- 'hatchwaylaw24.FlowClosed': WHATEVER THE INPUT: true; the input reads as it did. -/
def flowClosedSpec : ChangeSpec := { name := "flowClosed", fn := fun _ => fun
  | [d1, d2] => { results := [.lit (.bool true)], args := [d1, d2] }
  | _ => none }
def flowClosedRow : OpenClaim := { program := "ytbpldfhehpjbaaa", sum := "0065571231c92e076d58b4e5cb8d5d5b6881c3c6d3380d30c53190911fb94240", func := "hatchway/hatchwaylaw24.FlowClosed", spec := "flowClosed", unfollowed := true, recurses := true, apart := false }
def FlowClosedSaid : Prop := flowClosedRow.holds Try.pinned (OpenSpec.ofChange flowClosedSpec)

/-- ITS FALSE NEIGHBOUR: 'it returns false'. Refute it at one input. -/
def flowClosedWrong : ChangeSpec := { name := "flowClosed", fn := fun _ => fun
  | [d1, d2] => { results := [.lit (.bool false)], args := [d1, d2] }
  | _ => none }
def FlowClosedWrongFalsely : Prop := flowClosedRow.holds Try.pinned (OpenSpec.ofChange flowClosedWrong)

/-- 'hatchwaylaw03.ShapeMore': WHATEVER THE INPUT: true; the input reads as it did. -/
def shapeMoreSpec : ChangeSpec := { name := "shapeMore", fn := fun _ => fun
  | [d1, d2] => { results := [.lit (.bool true)], args := [d1, d2] }
  | _ => none }
def shapeMoreRow : OpenClaim := { program := "ytbpldfhehpjbaaa", sum := "0065571231c92e076d58b4e5cb8d5d5b6881c3c6d3380d30c53190911fb94240", func := "hatchway/hatchwaylaw03.ShapeMore", spec := "shapeMore", unfollowed := true, recurses := true, apart := false }
def ShapeMoreSaid : Prop := shapeMoreRow.holds Try.pinned (OpenSpec.ofChange shapeMoreSpec)

/-- ITS FALSE NEIGHBOUR: 'it returns false'. Refute it at one input. -/
def shapeMoreWrong : ChangeSpec := { name := "shapeMore", fn := fun _ => fun
  | [d1, d2] => { results := [.lit (.bool false)], args := [d1, d2] }
  | _ => none }
def ShapeMoreWrongFalsely : Prop := shapeMoreRow.holds Try.pinned (OpenSpec.ofChange shapeMoreWrong)

/-- 'hatchwaylaw03.ShapeTells': WHATEVER THE INPUT: true; the input reads as it did. -/
def shapeTellsSpec : ChangeSpec := { name := "shapeTells", fn := fun _ => fun
  | [d1, d2] => { results := [.lit (.bool true)], args := [d1, d2] }
  | _ => none }
def shapeTellsRow : OpenClaim := { program := "ytbpldfhehpjbaaa", sum := "0065571231c92e076d58b4e5cb8d5d5b6881c3c6d3380d30c53190911fb94240", func := "hatchway/hatchwaylaw03.ShapeTells", spec := "shapeTells", unfollowed := true, recurses := true, apart := false }
def ShapeTellsSaid : Prop := shapeTellsRow.holds Try.pinned (OpenSpec.ofChange shapeTellsSpec)

/-- ITS FALSE NEIGHBOUR: 'it returns false'. Refute it at one input. -/
def shapeTellsWrong : ChangeSpec := { name := "shapeTells", fn := fun _ => fun
  | [d1, d2] => { results := [.lit (.bool false)], args := [d1, d2] }
  | _ => none }
def ShapeTellsWrongFalsely : Prop := shapeTellsRow.holds Try.pinned (OpenSpec.ofChange shapeTellsWrong)

/-- 'hatchwaylaw03.ShapeWays': WHATEVER THE INPUT: true; the input reads as it did. -/
def shapeWaysSpec : ChangeSpec := { name := "shapeWays", fn := fun _ => fun
  | [d1, d2] => { results := [.lit (.bool true)], args := [d1, d2] }
  | _ => none }
def shapeWaysRow : OpenClaim := { program := "ytbpldfhehpjbaaa", sum := "0065571231c92e076d58b4e5cb8d5d5b6881c3c6d3380d30c53190911fb94240", func := "hatchway/hatchwaylaw03.ShapeWays", spec := "shapeWays", unfollowed := true, recurses := true, apart := false }
def ShapeWaysSaid : Prop := shapeWaysRow.holds Try.pinned (OpenSpec.ofChange shapeWaysSpec)

/-- ITS FALSE NEIGHBOUR: 'it returns false'. Refute it at one input. -/
def shapeWaysWrong : ChangeSpec := { name := "shapeWays", fn := fun _ => fun
  | [d1, d2] => { results := [.lit (.bool false)], args := [d1, d2] }
  | _ => none }
def ShapeWaysWrongFalsely : Prop := shapeWaysRow.holds Try.pinned (OpenSpec.ofChange shapeWaysWrong)

/- THE SECOND FORM. 'bulk': how many values and letters a reading holds, each counted each time it is reached (what is shared counts as often as it is met; a slice's spare places count too). A statement '..UptoSaid' is the law's where the arguments, and the package variables that the reading takes, are together of bulk at most 1048576: NARROWER than '..Said'. Prove '..Said' where nothing that the law and all that it calls make is longer than what came in: it says more and counts as full. Else prove '..UptoSaid'. A law counts once. -/
mutual
def uptoBulk {H : Type} : DataW H → Nat
  | .lit (.string bytes) => bytes.length + 1
  | .lit _ => 1
  | .nil => 1
  | .ptr d => uptoBulk d + 1
  | .slice elems spare => uptoBulkAll elems + uptoBulkAll spare + 1
  | .agg parts => uptoBulkAll parts + 1
  | .iface _ d => uptoBulk d + 1
  | .map entries => uptoBulkEntries entries + 1
  | .held _ => 1
def uptoBulkAll {H : Type} : List (DataW H) → Nat
  | [] => 0
  | d :: r => uptoBulk d + uptoBulkAll r
def uptoBulkEntries {H : Type} : List (Lit × DataW H) → Nat
  | [] => 0
  | x :: r => uptoBulkEntry x + uptoBulkEntries r
def uptoBulkEntry {H : Type} : Lit × DataW H → Nat
  | (.string bytes, d) => bytes.length + uptoBulk d + 1
  | (_, d) => uptoBulk d + 1
 end
def uptoSmall : (H : Type) → List (DataW H) → Bool := fun _ ds => decide (uptoBulkAll ds ≤ 1048576)
def OpenSpec.upto (s : _root_.Go.ChangeSpec) : _root_.Go.OpenSpec := { _root_.Go.OpenSpec.ofChange s with cond := some uptoSmall }

/-- 'hatchwaylaw03.ShapeLong', WHERE WHAT IT READS IS OF BULK AT MOST 1048576: true; the input reads as it did. -/
def shapeLongUptoRow : OpenClaim := { program := "ytbpldfhehpjbaaa", sum := "0065571231c92e076d58b4e5cb8d5d5b6881c3c6d3380d30c53190911fb94240", func := "hatchway/hatchwaylaw03.ShapeLong", spec := "shapeLong", unfollowed := true, recurses := true, apart := false, narrowed := true }
def ShapeLongUptoSaid : Prop := shapeLongUptoRow.holds Try.pinned (OpenSpec.upto shapeLongSpec)

/-- 'hatchwaylaw24.FlowTells', WHERE WHAT IT READS IS OF BULK AT MOST 1048576: true; the input reads as it did. -/
def flowTellsUptoRow : OpenClaim := { program := "ytbpldfhehpjbaaa", sum := "0065571231c92e076d58b4e5cb8d5d5b6881c3c6d3380d30c53190911fb94240", func := "hatchway/hatchwaylaw24.FlowTells", spec := "flowTells", unfollowed := true, recurses := true, apart := false, narrowed := true }
def FlowTellsUptoSaid : Prop := flowTellsUptoRow.holds Try.pinned (OpenSpec.upto flowTellsSpec)

/-- 'hatchwaylaw24.FlowJumps', WHERE WHAT IT READS IS OF BULK AT MOST 1048576: true; the input reads as it did. -/
def flowJumpsUptoRow : OpenClaim := { program := "ytbpldfhehpjbaaa", sum := "0065571231c92e076d58b4e5cb8d5d5b6881c3c6d3380d30c53190911fb94240", func := "hatchway/hatchwaylaw24.FlowJumps", spec := "flowJumps", unfollowed := true, recurses := true, apart := false, narrowed := true }
def FlowJumpsUptoSaid : Prop := flowJumpsUptoRow.holds Try.pinned (OpenSpec.upto flowJumpsSpec)

/-- 'hatchwaylaw24.FlowOrder', WHERE WHAT IT READS IS OF BULK AT MOST 1048576: true; the input reads as it did. -/
def flowOrderUptoRow : OpenClaim := { program := "ytbpldfhehpjbaaa", sum := "0065571231c92e076d58b4e5cb8d5d5b6881c3c6d3380d30c53190911fb94240", func := "hatchway/hatchwaylaw24.FlowOrder", spec := "flowOrder", unfollowed := true, recurses := true, apart := false, narrowed := true }
def FlowOrderUptoSaid : Prop := flowOrderUptoRow.holds Try.pinned (OpenSpec.upto flowOrderSpec)

/-- 'hatchwaylaw24.FlowTwo', WHERE WHAT IT READS IS OF BULK AT MOST 1048576: true; the input reads as it did. -/
def flowTwoUptoRow : OpenClaim := { program := "ytbpldfhehpjbaaa", sum := "0065571231c92e076d58b4e5cb8d5d5b6881c3c6d3380d30c53190911fb94240", func := "hatchway/hatchwaylaw24.FlowTwo", spec := "flowTwo", unfollowed := true, recurses := true, apart := false, narrowed := true }
def FlowTwoUptoSaid : Prop := flowTwoUptoRow.holds Try.pinned (OpenSpec.upto flowTwoSpec)

/-- 'hatchwaylaw24.FlowClosed', WHERE WHAT IT READS IS OF BULK AT MOST 1048576: true; the input reads as it did. -/
def flowClosedUptoRow : OpenClaim := { program := "ytbpldfhehpjbaaa", sum := "0065571231c92e076d58b4e5cb8d5d5b6881c3c6d3380d30c53190911fb94240", func := "hatchway/hatchwaylaw24.FlowClosed", spec := "flowClosed", unfollowed := true, recurses := true, apart := false, narrowed := true }
def FlowClosedUptoSaid : Prop := flowClosedUptoRow.holds Try.pinned (OpenSpec.upto flowClosedSpec)

/-- 'hatchwaylaw03.ShapeMore', WHERE WHAT IT READS IS OF BULK AT MOST 1048576: true; the input reads as it did. -/
def shapeMoreUptoRow : OpenClaim := { program := "ytbpldfhehpjbaaa", sum := "0065571231c92e076d58b4e5cb8d5d5b6881c3c6d3380d30c53190911fb94240", func := "hatchway/hatchwaylaw03.ShapeMore", spec := "shapeMore", unfollowed := true, recurses := true, apart := false, narrowed := true }
def ShapeMoreUptoSaid : Prop := shapeMoreUptoRow.holds Try.pinned (OpenSpec.upto shapeMoreSpec)

/-- 'hatchwaylaw03.ShapeTells', WHERE WHAT IT READS IS OF BULK AT MOST 1048576: true; the input reads as it did. -/
def shapeTellsUptoRow : OpenClaim := { program := "ytbpldfhehpjbaaa", sum := "0065571231c92e076d58b4e5cb8d5d5b6881c3c6d3380d30c53190911fb94240", func := "hatchway/hatchwaylaw03.ShapeTells", spec := "shapeTells", unfollowed := true, recurses := true, apart := false, narrowed := true }
def ShapeTellsUptoSaid : Prop := shapeTellsUptoRow.holds Try.pinned (OpenSpec.upto shapeTellsSpec)

/-- 'hatchwaylaw03.ShapeWays', WHERE WHAT IT READS IS OF BULK AT MOST 1048576: true; the input reads as it did. -/
def shapeWaysUptoRow : OpenClaim := { program := "ytbpldfhehpjbaaa", sum := "0065571231c92e076d58b4e5cb8d5d5b6881c3c6d3380d30c53190911fb94240", func := "hatchway/hatchwaylaw03.ShapeWays", spec := "shapeWays", unfollowed := true, recurses := true, apart := false, narrowed := true }
def ShapeWaysUptoSaid : Prop := shapeWaysUptoRow.holds Try.pinned (OpenSpec.upto shapeWaysSpec)

end Rows
end Go.Proofs.Ytbpldfhehpjbaaa
