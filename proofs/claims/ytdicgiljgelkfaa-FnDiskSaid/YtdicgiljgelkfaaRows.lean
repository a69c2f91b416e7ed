/-
  No cell of these rows narrows 'for every input' (looked for: loops, veiled, ifaces, maps, wideKeys, modest, calm, conditions, laid).
  DERIVED. THE GIVEN ROWS OF THIS SEAT. 8 by the template 'for every input the law returns true; each argument reads behind the call as it read before'; 0 by the template 'total and deterministic' (their statements: YtdicgiljgelkfaaTotals.lean).
  GIVEN WITH THE SEED: the statements are not yours to turn. If you find one false, say at which input.
  Laid BY PROGRAM, IN A SANDBOX (cutbox-rows.mjs): the forced cells as the released guide's own fill.sh prints them over the translation 863b0623ed0e6d28… (all of the seat's roots in one cut). By AI agents, Wed Nov 11 2026. No macro, syntax, notation, axiom, sorry.
-/
import Derived.Test.YtdicgiljgelkfaaChecked
import GoSem.Claim
import GoSem.ClaimJoined
import GoSem.ClaimMapViews
import Derived.JoinedTies
import Derived.KernelRfl
namespace Go.Proofs.Ytdicgiljgelkfaa
/- THE CELL 'sum', in the pinned program and in every row, IS THE sha256 OF THE DUMP (.gsa) THAT YtdicgiljgelkfaaProg.lean LOADS. Nothing in Lean hashes anything: it is a label: what it is worth is what the hold of that sum in a sandbox is worth. -/
noncomputable def Try.pinned : Pinned := { name := "ytdicgiljgelkfaa", sum := "863b0623ed0e6d28dbe1e37b388416201988b97329e2967e39cdadb49b220b0b", checked := Try.checked }
namespace Rows
def none {H : Type} : Left H := { results := [], args := [] }

/-- 'laws.FnExactGoodCall': WHATEVER THE INPUT: true; the input reads as it did. -/
def fnExactGoodCallSpec : ChangeSpec := { name := "fnExactGoodCall", fn := fun _ => fun
  | [d] => { results := [.lit (.bool true)], args := [d] }
  | _ => none }
def fnExactGoodCallRow : OpenClaim := { program := "ytdicgiljgelkfaa", sum := "863b0623ed0e6d28dbe1e37b388416201988b97329e2967e39cdadb49b220b0b", func := "loop.example/g00083/laws.FnExactGoodCall", spec := "fnExactGoodCall", apart := false }
def FnExactGoodCallSaid : Prop := fnExactGoodCallRow.holds Try.pinned (OpenSpec.ofChange fnExactGoodCallSpec)

/-- ITS FALSE NEIGHBOUR: 'it returns false'. Refute it at one input. -/
def fnExactGoodCallWrong : ChangeSpec := { name := "fnExactGoodCall", fn := fun _ => fun
  | [d] => { results := [.lit (.bool false)], args := [d] }
  | _ => none }
def FnExactGoodCallWrongFalsely : Prop := fnExactGoodCallRow.holds Try.pinned (OpenSpec.ofChange fnExactGoodCallWrong)

/-- 'laws.FnDisk': WHATEVER THE INPUT: true; the input reads as it did. -/
def fnDiskSpec : ChangeSpec := { name := "fnDisk", fn := fun _ => fun
  | [d] => { results := [.lit (.bool true)], args := [d] }
  | _ => none }
def fnDiskRow : OpenClaim := { program := "ytdicgiljgelkfaa", sum := "863b0623ed0e6d28dbe1e37b388416201988b97329e2967e39cdadb49b220b0b", func := "loop.example/g00083/laws.FnDisk", spec := "fnDisk", unfollowed := true, recurses := true, apart := false }
def FnDiskSaid : Prop := fnDiskRow.holds Try.pinned (OpenSpec.ofChange fnDiskSpec)

/-- ITS FALSE NEIGHBOUR: 'it returns false'. Refute it at one input. -/
def fnDiskWrong : ChangeSpec := { name := "fnDisk", fn := fun _ => fun
  | [d] => { results := [.lit (.bool false)], args := [d] }
  | _ => none }
def FnDiskWrongFalsely : Prop := fnDiskRow.holds Try.pinned (OpenSpec.ofChange fnDiskWrong)

/-- 'laws.FnImages': WHATEVER THE INPUT: true; the input reads as it did. -/
def fnImagesSpec : ChangeSpec := { name := "fnImages", fn := fun _ => fun
  | [d] => { results := [.lit (.bool true)], args := [d] }
  | _ => none }
def fnImagesRow : OpenClaim := { program := "ytdicgiljgelkfaa", sum := "863b0623ed0e6d28dbe1e37b388416201988b97329e2967e39cdadb49b220b0b", func := "loop.example/g00083/laws.FnImages", spec := "fnImages", apart := false }
def FnImagesSaid : Prop := fnImagesRow.holds Try.pinned (OpenSpec.ofChange fnImagesSpec)

/-- ITS FALSE NEIGHBOUR: 'it returns false'. Refute it at one input. -/
def fnImagesWrong : ChangeSpec := { name := "fnImages", fn := fun _ => fun
  | [d] => { results := [.lit (.bool false)], args := [d] }
  | _ => none }
def FnImagesWrongFalsely : Prop := fnImagesRow.holds Try.pinned (OpenSpec.ofChange fnImagesWrong)

/-- 'laws.FnWritten': WHATEVER THE INPUT: true; the input reads as it did. -/
def fnWrittenSpec : ChangeSpec := { name := "fnWritten", fn := fun _ => fun
  | [d1, d2] => { results := [.lit (.bool true)], args := [d1, d2] }
  | _ => none }
def fnWrittenRow : OpenClaim := { program := "ytdicgiljgelkfaa", sum := "863b0623ed0e6d28dbe1e37b388416201988b97329e2967e39cdadb49b220b0b", func := "loop.example/g00083/laws.FnWritten", spec := "fnWritten", apart := false }
def FnWrittenSaid : Prop := fnWrittenRow.holds Try.pinned (OpenSpec.ofChange fnWrittenSpec)

/-- ITS FALSE NEIGHBOUR: 'it returns false'. Refute it at one input. -/
def fnWrittenWrong : ChangeSpec := { name := "fnWritten", fn := fun _ => fun
  | [d1, d2] => { results := [.lit (.bool false)], args := [d1, d2] }
  | _ => none }
def FnWrittenWrongFalsely : Prop := fnWrittenRow.holds Try.pinned (OpenSpec.ofChange fnWrittenWrong)

/-- 'laws.FnDiamond': WHATEVER THE INPUT: true; the input reads as it did. -/
def fnDiamondSpec : ChangeSpec := { name := "fnDiamond", fn := fun _ => fun
  | [d] => { results := [.lit (.bool true)], args := [d] }
  | _ => none }
def fnDiamondRow : OpenClaim := { program := "ytdicgiljgelkfaa", sum := "863b0623ed0e6d28dbe1e37b388416201988b97329e2967e39cdadb49b220b0b", func := "loop.example/g00083/laws.FnDiamond", spec := "fnDiamond", apart := false }
def FnDiamondSaid : Prop := fnDiamondRow.holds Try.pinned (OpenSpec.ofChange fnDiamondSpec)

/-- ITS FALSE NEIGHBOUR: 'it returns false'. Refute it at one input. -/
def fnDiamondWrong : ChangeSpec := { name := "fnDiamond", fn := fun _ => fun
  | [d] => { results := [.lit (.bool false)], args := [d] }
  | _ => none }
def FnDiamondWrongFalsely : Prop := fnDiamondRow.holds Try.pinned (OpenSpec.ofChange fnDiamondWrong)

/-- 'laws.FnThree': WHATEVER THE INPUT: true; the input reads as it did. -/
def fnThreeSpec : ChangeSpec := { name := "fnThree", fn := fun _ => fun
  | [d] => { results := [.lit (.bool true)], args := [d] }
  | _ => none }
def fnThreeRow : OpenClaim := { program := "ytdicgiljgelkfaa", sum := "863b0623ed0e6d28dbe1e37b388416201988b97329e2967e39cdadb49b220b0b", func := "loop.example/g00083/laws.FnThree", spec := "fnThree", apart := false }
def FnThreeSaid : Prop := fnThreeRow.holds Try.pinned (OpenSpec.ofChange fnThreeSpec)

/-- ITS FALSE NEIGHBOUR: 'it returns false'. Refute it at one input. -/
def fnThreeWrong : ChangeSpec := { name := "fnThree", fn := fun _ => fun
  | [d] => { results := [.lit (.bool false)], args := [d] }
  | _ => none }
def FnThreeWrongFalsely : Prop := fnThreeRow.holds Try.pinned (OpenSpec.ofChange fnThreeWrong)

/-- 'laws.FnCarried': WHATEVER THE INPUT: true; the input reads as it did. -/
def fnCarriedSpec : ChangeSpec := { name := "fnCarried", fn := fun _ => fun
  | [d1, d2] => { results := [.lit (.bool true)], args := [d1, d2] }
  | _ => none }
def fnCarriedRow : OpenClaim := { program := "ytdicgiljgelkfaa", sum := "863b0623ed0e6d28dbe1e37b388416201988b97329e2967e39cdadb49b220b0b", func := "loop.example/g00083/laws.FnCarried", spec := "fnCarried", apart := false }
def FnCarriedSaid : Prop := fnCarriedRow.holds Try.pinned (OpenSpec.ofChange fnCarriedSpec)

/-- ITS FALSE NEIGHBOUR: 'it returns false'. Refute it at one input. -/
def fnCarriedWrong : ChangeSpec := { name := "fnCarried", fn := fun _ => fun
  | [d1, d2] => { results := [.lit (.bool false)], args := [d1, d2] }
  | _ => none }
def FnCarriedWrongFalsely : Prop := fnCarriedRow.holds Try.pinned (OpenSpec.ofChange fnCarriedWrong)

/-- 'laws.FnComposed': WHATEVER THE INPUT: true; the input reads as it did. -/
def fnComposedSpec : ChangeSpec := { name := "fnComposed", fn := fun _ => fun
  | [d] => { results := [.lit (.bool true)], args := [d] }
  | _ => none }
def fnComposedRow : OpenClaim := { program := "ytdicgiljgelkfaa", sum := "863b0623ed0e6d28dbe1e37b388416201988b97329e2967e39cdadb49b220b0b", func := "loop.example/g00083/laws.FnComposed", spec := "fnComposed", apart := false }
def FnComposedSaid : Prop := fnComposedRow.holds Try.pinned (OpenSpec.ofChange fnComposedSpec)

/-- ITS FALSE NEIGHBOUR: 'it returns false'. Refute it at one input. -/
def fnComposedWrong : ChangeSpec := { name := "fnComposed", fn := fun _ => fun
  | [d] => { results := [.lit (.bool false)], args := [d] }
  | _ => none }
def FnComposedWrongFalsely : Prop := fnComposedRow.holds Try.pinned (OpenSpec.ofChange fnComposedWrong)

/- THE SECOND FORM. 'bulk': how many values and letters a reading holds, each counted each time it is reached (what is shared counts as often as it is met; a slice's spare places count too). A statement '..UptoSaid' is the law's where the arguments, and the package variables that the reading takes, are together of bulk at most 1048576: NARROWER than '..Said'. Prove '..Said' where nothing that the law and all that it calls make is longer than what came in: it says more and counts as full. Else prove '..UptoSaid'. A law counts once. -/
mutual
def uptoBulk {H : Type} : DataW H → Nat
  | .lit (.string bytes) => bytes.length + 1
  | .lit _ => 1
  | .nil => 1
  | .ptr d => uptoBulk d + 1
  | .slice elems spare => uptoBulkAll elems + uptoBulkAll spare + 1
  | .agg parts => uptoBulkAll parts + 1
  | .iface _ d => uptoBulk d + 1
  | .map entries => uptoBulkEntries entries + 1
  | .held _ => 1
def uptoBulkAll {H : Type} : List (DataW H) → Nat
  | [] => 0
  | d :: r => uptoBulk d + uptoBulkAll r
def uptoBulkEntries {H : Type} : List (Lit × DataW H) → Nat
  | [] => 0
  | x :: r => uptoBulkEntry x + uptoBulkEntries r
def uptoBulkEntry {H : Type} : Lit × DataW H → Nat
  | (.string bytes, d) => bytes.length + uptoBulk d + 1
  | (_, d) => uptoBulk d + 1
 end
def uptoSmall : (H : Type) → List (DataW H) → Bool := fun _ ds => decide (uptoBulkAll ds ≤ 1048576)
def OpenSpec.upto (s : _root_.Go.ChangeSpec) : _root_.Go.OpenSpec := { _root_.Go.OpenSpec.ofChange s with cond := some uptoSmall }

/-- 'laws.FnExactGoodCall', WHERE WHAT IT READS IS OF BULK AT MOST 1048576: true; the input reads as it did. -/
def fnExactGoodCallUptoRow : OpenClaim := { program := "ytdicgiljgelkfaa", sum := "863b0623ed0e6d28dbe1e37b388416201988b97329e2967e39cdadb49b220b0b", func := "loop.example/g00083/laws.FnExactGoodCall", spec := "fnExactGoodCall", apart := false, narrowed := true }
def FnExactGoodCallUptoSaid : Prop := fnExactGoodCallUptoRow.holds Try.pinned (OpenSpec.upto fnExactGoodCallSpec)

/-- 'laws.FnDisk', WHERE WHAT IT READS IS OF BULK AT MOST 1048576: true; the input reads as it did. -/
def fnDiskUptoRow : OpenClaim := { program := "ytdicgiljgelkfaa", sum := "863b0623ed0e6d28dbe1e37b388416201988b97329e2967e39cdadb49b220b0b", func := "loop.example/g00083/laws.FnDisk", spec := "fnDisk", unfollowed := true, recurses := true, apart := false, narrowed := true }
def FnDiskUptoSaid : Prop := fnDiskUptoRow.holds Try.pinned (OpenSpec.upto fnDiskSpec)

/-- 'laws.FnImages', WHERE WHAT IT READS IS OF BULK AT MOST 1048576: true; the input reads as it did. -/
def fnImagesUptoRow : OpenClaim := { program := "ytdicgiljgelkfaa", sum := "863b0623ed0e6d28dbe1e37b388416201988b97329e2967e39cdadb49b220b0b", func := "loop.example/g00083/laws.FnImages", spec := "fnImages", apart := false, narrowed := true }
def FnImagesUptoSaid : Prop := fnImagesUptoRow.holds Try.pinned (OpenSpec.upto fnImagesSpec)

/-- 'laws.FnWritten', WHERE WHAT IT READS IS OF BULK AT MOST 1048576: true; the input reads as it did. -/
def fnWrittenUptoRow : OpenClaim := { program := "ytdicgiljgelkfaa", sum := "863b0623ed0e6d28dbe1e37b388416201988b97329e2967e39cdadb49b220b0b", func := "loop.example/g00083/laws.FnWritten", spec := "fnWritten", apart := false, narrowed := true }
def FnWrittenUptoSaid : Prop := fnWrittenUptoRow.holds Try.pinned (OpenSpec.upto fnWrittenSpec)

/-- 'laws.FnDiamond', WHERE WHAT IT READS IS OF BULK AT MOST 1048576: true; the input reads as it did. -/
def fnDiamondUptoRow : OpenClaim := { program := "ytdicgiljgelkfaa", sum := "863b0623ed0e6d28dbe1e37b388416201988b97329e2967e39cdadb49b220b0b", func := "loop.example/g00083/laws.FnDiamond", spec := "fnDiamond", apart := false, narrowed := true }
def FnDiamondUptoSaid : Prop := fnDiamondUptoRow.holds Try.pinned (OpenSpec.upto fnDiamondSpec)

/-- 'laws.FnThree', WHERE WHAT IT READS IS OF BULK AT MOST 1048576: true; the input reads as it did. -/
def fnThreeUptoRow : OpenClaim := { program := "ytdicgiljgelkfaa", sum := "863b0623ed0e6d28dbe1e37b388416201988b97329e2967e39cdadb49b220b0b", func := "loop.example/g00083/laws.FnThree", spec := "fnThree", apart := false, narrowed := true }
def FnThreeUptoSaid : Prop := fnThreeUptoRow.holds Try.pinned (OpenSpec.upto fnThreeSpec)

/-- 'laws.FnCarried', WHERE WHAT IT READS IS OF BULK AT MOST 1048576: true; the input reads as it did. -/
def fnCarriedUptoRow : OpenClaim := { program := "ytdicgiljgelkfaa", sum := "863b0623ed0e6d28dbe1e37b388416201988b97329e2967e39cdadb49b220b0b", func := "loop.example/g00083/laws.FnCarried", spec := "fnCarried", apart := false, narrowed := true }
def FnCarriedUptoSaid : Prop := fnCarriedUptoRow.holds Try.pinned (OpenSpec.upto fnCarriedSpec)

/-- 'laws.FnComposed', WHERE WHAT IT READS IS OF BULK AT MOST 1048576: true; the input reads as it did. -/
def fnComposedUptoRow : OpenClaim := { program := "ytdicgiljgelkfaa", sum := "863b0623ed0e6d28dbe1e37b388416201988b97329e2967e39cdadb49b220b0b", func := "loop.example/g00083/laws.FnComposed", spec := "fnComposed", apart := false, narrowed := true }
def FnComposedUptoSaid : Prop := fnComposedUptoRow.holds Try.pinned (OpenSpec.upto fnComposedSpec)

end Rows
end Go.Proofs.Ytdicgiljgelkfaa
