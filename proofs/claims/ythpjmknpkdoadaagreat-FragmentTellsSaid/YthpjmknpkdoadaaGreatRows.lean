/-
  No cell of these rows narrows 'for every input' (looked for: loops, veiled, ifaces, maps, wideKeys, modest, calm, conditions, laid).
  DERIVED. THE GIVEN ROWS OF THIS SEAT. 4 by the template 'for every input the law returns true; each argument reads behind the call as it read before'; 0 by the template 'total and deterministic' (their statements: YthpjmknpkdoadaaGreatTotals.lean).
  GIVEN WITH THE SEED: the statements are not yours to turn. If you find one false, say at which input.
  Laid BY PROGRAM, IN A SANDBOX (cutbox-rows.mjs): the forced cells as the released guide's own fill.sh prints them over the translation 7cc670535e469f0f… (all of the seat's roots in one cut). By AI agents, Wed Nov 11 2026. No macro, syntax, notation, axiom, sorry.
-/
import Derived.Test.YthpjmknpkdoadaaGreatChecked
import GoSem.Claim
import GoSem.ClaimJoined
import GoSem.ClaimMapViews
import Derived.JoinedTies
import Derived.KernelRfl
namespace Go.Proofs.YthpjmknpkdoadaaGreat
/- THE CELL 'sum', in the pinned program and in every row, IS THE sha256 OF THE DUMP (.gsa) THAT YthpjmknpkdoadaaGreatProg.lean LOADS. Nothing in Lean hashes anything: it is a label: what it is worth is what the hold of that sum in a sandbox is worth. -/
noncomputable def Tryz.pinned : Pinned := { name := "ythpjmknpkdoadaagreat", sum := "7cc670535e469f0f353bad495d8aa9a6875a66b7e9269fd89426123eea06d30f", checked := Tryz.checked }
namespace Rows
def none {H : Type} : Left H := { results := [], args := [] }

/-- 'hatchwaylaw31.FragmentTells': WHATEVER THE INPUT: true; the input reads as it did. -/
def fragmentTellsSpec : ChangeSpec := { name := "fragmentTells", fn := fun _ => fun
  | [d1, d2] => { results := [.lit (.bool true)], args := [d1, d2] }
  | _ => none }
def fragmentTellsRow : OpenClaim := { program := "ythpjmknpkdoadaagreat", sum := "7cc670535e469f0f353bad495d8aa9a6875a66b7e9269fd89426123eea06d30f", func := "hatchway/hatchwaylaw31.FragmentTells", spec := "fragmentTells", unfollowed := true, recurses := true, apart := false }
def FragmentTellsSaid : Prop := fragmentTellsRow.holds Tryz.pinned (OpenSpec.ofChange fragmentTellsSpec)

/-- ITS FALSE NEIGHBOUR: 'it returns false'. Refute it at one input. -/
def fragmentTellsWrong : ChangeSpec := { name := "fragmentTells", fn := fun _ => fun
  | [d1, d2] => { results := [.lit (.bool false)], args := [d1, d2] }
  | _ => none }
def FragmentTellsWrongFalsely : Prop := fragmentTellsRow.holds Tryz.pinned (OpenSpec.ofChange fragmentTellsWrong)

/-- 'hatchwaylaw31.FragmentOps': WHATEVER THE INPUT: true; the input reads as it did. -/
def fragmentOpsSpec : ChangeSpec := { name := "fragmentOps", fn := fun _ => fun
  | [] => { results := [.lit (.bool true)], args := [] }
  | _ => none }
def fragmentOpsRow : OpenClaim := { program := "ythpjmknpkdoadaagreat", sum := "7cc670535e469f0f353bad495d8aa9a6875a66b7e9269fd89426123eea06d30f", func := "hatchway/hatchwaylaw31.FragmentOps", spec := "fragmentOps", unfollowed := true, recurses := true, apart := false }
def FragmentOpsSaid : Prop := fragmentOpsRow.holds Tryz.pinned (OpenSpec.ofChange fragmentOpsSpec)

/-- ITS FALSE NEIGHBOUR: 'it returns false'. Refute it at one input. -/
def fragmentOpsWrong : ChangeSpec := { name := "fragmentOps", fn := fun _ => fun
  | [] => { results := [.lit (.bool false)], args := [] }
  | _ => none }
def FragmentOpsWrongFalsely : Prop := fragmentOpsRow.holds Tryz.pinned (OpenSpec.ofChange fragmentOpsWrong)

/-- 'hatchwaylaw31.FragmentNumbers': WHATEVER THE INPUT: true; the input reads as it did. -/
def fragmentNumbersSpec : ChangeSpec := { name := "fragmentNumbers", fn := fun _ => fun
  | [] => { results := [.lit (.bool true)], args := [] }
  | _ => none }
def fragmentNumbersRow : OpenClaim := { program := "ythpjmknpkdoadaagreat", sum := "7cc670535e469f0f353bad495d8aa9a6875a66b7e9269fd89426123eea06d30f", func := "hatchway/hatchwaylaw31.FragmentNumbers", spec := "fragmentNumbers", unfollowed := true, recurses := true, apart := false }
def FragmentNumbersSaid : Prop := fragmentNumbersRow.holds Tryz.pinned (OpenSpec.ofChange fragmentNumbersSpec)

/-- ITS FALSE NEIGHBOUR: 'it returns false'. Refute it at one input. -/
def fragmentNumbersWrong : ChangeSpec := { name := "fragmentNumbers", fn := fun _ => fun
  | [] => { results := [.lit (.bool false)], args := [] }
  | _ => none }
def FragmentNumbersWrongFalsely : Prop := fragmentNumbersRow.holds Tryz.pinned (OpenSpec.ofChange fragmentNumbersWrong)

/-- 'hatchwaylaw31.FragmentWider': WHATEVER THE INPUT: true; the input reads as it did. -/
def fragmentWiderSpec : ChangeSpec := { name := "fragmentWider", fn := fun _ => fun
  | [d1, d2, d3, d4] => { results := [.lit (.bool true)], args := [d1, d2, d3, d4] }
  | _ => none }
def fragmentWiderRow : OpenClaim := { program := "ythpjmknpkdoadaagreat", sum := "7cc670535e469f0f353bad495d8aa9a6875a66b7e9269fd89426123eea06d30f", func := "hatchway/hatchwaylaw31.FragmentWider", spec := "fragmentWider", unfollowed := true, recurses := true, apart := false }
def FragmentWiderSaid : Prop := fragmentWiderRow.holds Tryz.pinned (OpenSpec.ofChange fragmentWiderSpec)

/-- ITS FALSE NEIGHBOUR: 'it returns false'. Refute it at one input. -/
def fragmentWiderWrong : ChangeSpec := { name := "fragmentWider", fn := fun _ => fun
  | [d1, d2, d3, d4] => { results := [.lit (.bool false)], args := [d1, d2, d3, d4] }
  | _ => none }
def FragmentWiderWrongFalsely : Prop := fragmentWiderRow.holds Tryz.pinned (OpenSpec.ofChange fragmentWiderWrong)

/- THE SECOND FORM. 'bulk': how many values and letters a reading holds, each counted each time it is reached (what is shared counts as often as it is met; a slice's spare places count too). A statement '..UptoSaid' is the law's where the arguments, and the package variables that the reading takes, are together of bulk at most 1048576: NARROWER than '..Said'. Prove '..Said' where nothing that the law and all that it calls make is longer than what came in: it says more and counts as full. Else prove '..UptoSaid'. A law counts once. -/
mutual
def uptoBulk {H : Type} : DataW H → Nat
  | .lit (.string bytes) => bytes.length + 1
  | .lit _ => 1
  | .nil => 1
  | .ptr d => uptoBulk d + 1
  | .slice elems spare => uptoBulkAll elems + uptoBulkAll spare + 1
  | .agg parts => uptoBulkAll parts + 1
  | .iface _ d => uptoBulk d + 1
  | .map entries => uptoBulkEntries entries + 1
  | .held _ => 1
def uptoBulkAll {H : Type} : List (DataW H) → Nat
  | [] => 0
  | d :: r => uptoBulk d + uptoBulkAll r
def uptoBulkEntries {H : Type} : List (Lit × DataW H) → Nat
  | [] => 0
  | x :: r => uptoBulkEntry x + uptoBulkEntries r
def uptoBulkEntry {H : Type} : Lit × DataW H → Nat
  | (.string bytes, d) => bytes.length + uptoBulk d + 1
  | (_, d) => uptoBulk d + 1
 end
def uptoSmall : (H : Type) → List (DataW H) → Bool := fun _ ds => decide (uptoBulkAll ds ≤ 1048576)
def OpenSpec.upto (s : _root_.Go.ChangeSpec) : _root_.Go.OpenSpec := { _root_.Go.OpenSpec.ofChange s with cond := some uptoSmall }

/-- 'hatchwaylaw31.FragmentTells', WHERE WHAT IT READS IS OF BULK AT MOST 1048576: true; the input reads as it did. -/
def fragmentTellsUptoRow : OpenClaim := { program := "ythpjmknpkdoadaagreat", sum := "7cc670535e469f0f353bad495d8aa9a6875a66b7e9269fd89426123eea06d30f", func := "hatchway/hatchwaylaw31.FragmentTells", spec := "fragmentTells", unfollowed := true, recurses := true, apart := false, narrowed := true }
def FragmentTellsUptoSaid : Prop := fragmentTellsUptoRow.holds Tryz.pinned (OpenSpec.upto fragmentTellsSpec)

/-- 'hatchwaylaw31.FragmentOps', WHERE WHAT IT READS IS OF BULK AT MOST 1048576: true; the input reads as it did. -/
def fragmentOpsUptoRow : OpenClaim := { program := "ythpjmknpkdoadaagreat", sum := "7cc670535e469f0f353bad495d8aa9a6875a66b7e9269fd89426123eea06d30f", func := "hatchway/hatchwaylaw31.FragmentOps", spec := "fragmentOps", unfollowed := true, recurses := true, apart := false, narrowed := true }
def FragmentOpsUptoSaid : Prop := fragmentOpsUptoRow.holds Tryz.pinned (OpenSpec.upto fragmentOpsSpec)

/-- 'hatchwaylaw31.FragmentNumbers', WHERE WHAT IT READS IS OF BULK AT MOST 1048576: true; the input reads as it did. -/
def fragmentNumbersUptoRow : OpenClaim := { program := "ythpjmknpkdoadaagreat", sum := "7cc670535e469f0f353bad495d8aa9a6875a66b7e9269fd89426123eea06d30f", func := "hatchway/hatchwaylaw31.FragmentNumbers", spec := "fragmentNumbers", unfollowed := true, recurses := true, apart := false, narrowed := true }
def FragmentNumbersUptoSaid : Prop := fragmentNumbersUptoRow.holds Tryz.pinned (OpenSpec.upto fragmentNumbersSpec)

/-- 'hatchwaylaw31.FragmentWider', WHERE WHAT IT READS IS OF BULK AT MOST 1048576: true; the input reads as it did. -/
def fragmentWiderUptoRow : OpenClaim := { program := "ythpjmknpkdoadaagreat", sum := "7cc670535e469f0f353bad495d8aa9a6875a66b7e9269fd89426123eea06d30f", func := "hatchway/hatchwaylaw31.FragmentWider", spec := "fragmentWider", unfollowed := true, recurses := true, apart := false, narrowed := true }
def FragmentWiderUptoSaid : Prop := fragmentWiderUptoRow.holds Tryz.pinned (OpenSpec.upto fragmentWiderSpec)

end Rows
end Go.Proofs.YthpjmknpkdoadaaGreat
