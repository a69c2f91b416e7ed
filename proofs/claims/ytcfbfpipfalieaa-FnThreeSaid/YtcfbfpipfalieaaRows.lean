/-
  No cell of these rows narrows 'for every input' (looked for: loops, veiled, ifaces, maps, wideKeys, modest, calm, conditions, laid).
  DERIVED. THE GIVEN ROWS OF THIS SEAT. 15 by the template 'for every input the law returns true; each argument reads behind the call as it read before'; 0 by the template 'total and deterministic' (their statements: YtcfbfpipfalieaaTotals.lean).
  GIVEN WITH THE SEED: the statements are not yours to turn. If you find one false, say at which input.
  Laid BY PROGRAM, IN A SANDBOX (cutbox-rows.mjs): the forced cells as the released guide's own fill.sh prints them over the translation ec09dee79f7c1619… (all of the seat's roots in one cut). By AI agents, Wed Nov 11 2026. No macro, syntax, notation, axiom, sorry.
-/
import Derived.Test.YtcfbfpipfalieaaChecked
import GoSem.Claim
import GoSem.ClaimJoined
import GoSem.ClaimMapViews
import Derived.JoinedTies
import Derived.KernelRfl
namespace Go.Proofs.Ytcfbfpipfalieaa
/- THE CELL 'sum', in the pinned program and in every row, IS THE sha256 OF THE DUMP (.gsa) THAT YtcfbfpipfalieaaProg.lean LOADS. Nothing in Lean hashes anything: it is a label: what it is worth is what the hold of that sum in a sandbox is worth. -/
noncomputable def Try.pinned : Pinned := { name := "ytcfbfpipfalieaa", sum := "ec09dee79f7c1619d24421d1ba0f54101c0dc8d7b756148e02540574c339b67f", checked := Try.checked }
namespace Rows
def none {H : Type} : Left H := { results := [], args := [] }

/-- 'laws.FnExactPinLine': WHATEVER THE INPUT: true; the input reads as it did. -/
def fnExactPinLineSpec : ChangeSpec := { name := "fnExactPinLine", fn := fun _ => fun
  | [d1, d2, d3, d4] => { results := [.lit (.bool true)], args := [d1, d2, d3, d4] }
  | _ => none }
def fnExactPinLineRow : OpenClaim := { program := "ytcfbfpipfalieaa", sum := "ec09dee79f7c1619d24421d1ba0f54101c0dc8d7b756148e02540574c339b67f", func := "loop.example/g00083/laws.FnExactPinLine", spec := "fnExactPinLine", unfollowed := true, recurses := true, apart := false }
def FnExactPinLineSaid : Prop := fnExactPinLineRow.holds Try.pinned (OpenSpec.ofChange fnExactPinLineSpec)

/-- ITS FALSE NEIGHBOUR: 'it returns false'. Refute it at one input. -/
def fnExactPinLineWrong : ChangeSpec := { name := "fnExactPinLine", fn := fun _ => fun
  | [d1, d2, d3, d4] => { results := [.lit (.bool false)], args := [d1, d2, d3, d4] }
  | _ => none }
def FnExactPinLineWrongFalsely : Prop := fnExactPinLineRow.holds Try.pinned (OpenSpec.ofChange fnExactPinLineWrong)

/-- 'laws.FnBrought': WHATEVER THE INPUT: true; the input reads as it did. -/
def fnBroughtSpec : ChangeSpec := { name := "fnBrought", fn := fun _ => fun
  | [d] => { results := [.lit (.bool true)], args := [d] }
  | _ => none }
def fnBroughtRow : OpenClaim := { program := "ytcfbfpipfalieaa", sum := "ec09dee79f7c1619d24421d1ba0f54101c0dc8d7b756148e02540574c339b67f", func := "loop.example/g00083/laws.FnBrought", spec := "fnBrought", unfollowed := true, recurses := true, apart := false }
def FnBroughtSaid : Prop := fnBroughtRow.holds Try.pinned (OpenSpec.ofChange fnBroughtSpec)

/-- ITS FALSE NEIGHBOUR: 'it returns false'. Refute it at one input. -/
def fnBroughtWrong : ChangeSpec := { name := "fnBrought", fn := fun _ => fun
  | [d] => { results := [.lit (.bool false)], args := [d] }
  | _ => none }
def FnBroughtWrongFalsely : Prop := fnBroughtRow.holds Try.pinned (OpenSpec.ofChange fnBroughtWrong)

/-- 'laws.FnExactBlameAt': WHATEVER THE INPUT: true; the input reads as it did. -/
def fnExactBlameAtSpec : ChangeSpec := { name := "fnExactBlameAt", fn := fun _ => fun
  | [d1, d2] => { results := [.lit (.bool true)], args := [d1, d2] }
  | _ => none }
def fnExactBlameAtRow : OpenClaim := { program := "ytcfbfpipfalieaa", sum := "ec09dee79f7c1619d24421d1ba0f54101c0dc8d7b756148e02540574c339b67f", func := "loop.example/g00083/laws.FnExactBlameAt", spec := "fnExactBlameAt", apart := false }
def FnExactBlameAtSaid : Prop := fnExactBlameAtRow.holds Try.pinned (OpenSpec.ofChange fnExactBlameAtSpec)

/-- ITS FALSE NEIGHBOUR: 'it returns false'. Refute it at one input. -/
def fnExactBlameAtWrong : ChangeSpec := { name := "fnExactBlameAt", fn := fun _ => fun
  | [d1, d2] => { results := [.lit (.bool false)], args := [d1, d2] }
  | _ => none }
def FnExactBlameAtWrongFalsely : Prop := fnExactBlameAtRow.holds Try.pinned (OpenSpec.ofChange fnExactBlameAtWrong)

/-- 'laws.FnExactPlaceAcross': WHATEVER THE INPUT: true; the input reads as it did. -/
def fnExactPlaceAcrossSpec : ChangeSpec := { name := "fnExactPlaceAcross", fn := fun _ => fun
  | [d1, d2, d3, d4, d5] => { results := [.lit (.bool true)], args := [d1, d2, d3, d4, d5] }
  | _ => none }
def fnExactPlaceAcrossRow : OpenClaim := { program := "ytcfbfpipfalieaa", sum := "ec09dee79f7c1619d24421d1ba0f54101c0dc8d7b756148e02540574c339b67f", func := "loop.example/g00083/laws.FnExactPlaceAcross", spec := "fnExactPlaceAcross", apart := false }
def FnExactPlaceAcrossSaid : Prop := fnExactPlaceAcrossRow.holds Try.pinned (OpenSpec.ofChange fnExactPlaceAcrossSpec)

/-- ITS FALSE NEIGHBOUR: 'it returns false'. Refute it at one input. -/
def fnExactPlaceAcrossWrong : ChangeSpec := { name := "fnExactPlaceAcross", fn := fun _ => fun
  | [d1, d2, d3, d4, d5] => { results := [.lit (.bool false)], args := [d1, d2, d3, d4, d5] }
  | _ => none }
def FnExactPlaceAcrossWrongFalsely : Prop := fnExactPlaceAcrossRow.holds Try.pinned (OpenSpec.ofChange fnExactPlaceAcrossWrong)

/-- 'laws.FnExactPruneTo': WHATEVER THE INPUT: true; the input reads as it did. -/
def fnExactPruneToSpec : ChangeSpec := { name := "fnExactPruneTo", fn := fun _ => fun
  | [d1, d2] => { results := [.lit (.bool true)], args := [d1, d2] }
  | _ => none }
def fnExactPruneToRow : OpenClaim := { program := "ytcfbfpipfalieaa", sum := "ec09dee79f7c1619d24421d1ba0f54101c0dc8d7b756148e02540574c339b67f", func := "loop.example/g00083/laws.FnExactPruneTo", spec := "fnExactPruneTo", apart := false }
def FnExactPruneToSaid : Prop := fnExactPruneToRow.holds Try.pinned (OpenSpec.ofChange fnExactPruneToSpec)

/-- ITS FALSE NEIGHBOUR: 'it returns false'. Refute it at one input. -/
def fnExactPruneToWrong : ChangeSpec := { name := "fnExactPruneTo", fn := fun _ => fun
  | [d1, d2] => { results := [.lit (.bool false)], args := [d1, d2] }
  | _ => none }
def FnExactPruneToWrongFalsely : Prop := fnExactPruneToRow.holds Try.pinned (OpenSpec.ofChange fnExactPruneToWrong)

/-- 'laws.FnExactChangeBetween': WHATEVER THE INPUT: true; the input reads as it did. -/
def fnExactChangeBetweenSpec : ChangeSpec := { name := "fnExactChangeBetween", fn := fun _ => fun
  | [d1, d2, d3] => { results := [.lit (.bool true)], args := [d1, d2, d3] }
  | _ => none }
def fnExactChangeBetweenRow : OpenClaim := { program := "ytcfbfpipfalieaa", sum := "ec09dee79f7c1619d24421d1ba0f54101c0dc8d7b756148e02540574c339b67f", func := "loop.example/g00083/laws.FnExactChangeBetween", spec := "fnExactChangeBetween", apart := false }
def FnExactChangeBetweenSaid : Prop := fnExactChangeBetweenRow.holds Try.pinned (OpenSpec.ofChange fnExactChangeBetweenSpec)

/-- ITS FALSE NEIGHBOUR: 'it returns false'. Refute it at one input. -/
def fnExactChangeBetweenWrong : ChangeSpec := { name := "fnExactChangeBetween", fn := fun _ => fun
  | [d1, d2, d3] => { results := [.lit (.bool false)], args := [d1, d2, d3] }
  | _ => none }
def FnExactChangeBetweenWrongFalsely : Prop := fnExactChangeBetweenRow.holds Try.pinned (OpenSpec.ofChange fnExactChangeBetweenWrong)

/-- 'laws.FnExactExportRange': WHATEVER THE INPUT: true; the input reads as it did. -/
def fnExactExportRangeSpec : ChangeSpec := { name := "fnExactExportRange", fn := fun _ => fun
  | [d1, d2, d3] => { results := [.lit (.bool true)], args := [d1, d2, d3] }
  | _ => none }
def fnExactExportRangeRow : OpenClaim := { program := "ytcfbfpipfalieaa", sum := "ec09dee79f7c1619d24421d1ba0f54101c0dc8d7b756148e02540574c339b67f", func := "loop.example/g00083/laws.FnExactExportRange", spec := "fnExactExportRange", apart := false }
def FnExactExportRangeSaid : Prop := fnExactExportRangeRow.holds Try.pinned (OpenSpec.ofChange fnExactExportRangeSpec)

/-- ITS FALSE NEIGHBOUR: 'it returns false'. Refute it at one input. -/
def fnExactExportRangeWrong : ChangeSpec := { name := "fnExactExportRange", fn := fun _ => fun
  | [d1, d2, d3] => { results := [.lit (.bool false)], args := [d1, d2, d3] }
  | _ => none }
def FnExactExportRangeWrongFalsely : Prop := fnExactExportRangeRow.holds Try.pinned (OpenSpec.ofChange fnExactExportRangeWrong)

/-- 'laws.FnRebased': WHATEVER THE INPUT: true; the input reads as it did. -/
def fnRebasedSpec : ChangeSpec := { name := "fnRebased", fn := fun _ => fun
  | [d] => { results := [.lit (.bool true)], args := [d] }
  | _ => none }
def fnRebasedRow : OpenClaim := { program := "ytcfbfpipfalieaa", sum := "ec09dee79f7c1619d24421d1ba0f54101c0dc8d7b756148e02540574c339b67f", func := "loop.example/g00083/laws.FnRebased", spec := "fnRebased", apart := false }
def FnRebasedSaid : Prop := fnRebasedRow.holds Try.pinned (OpenSpec.ofChange fnRebasedSpec)

/-- ITS FALSE NEIGHBOUR: 'it returns false'. Refute it at one input. -/
def fnRebasedWrong : ChangeSpec := { name := "fnRebased", fn := fun _ => fun
  | [d] => { results := [.lit (.bool false)], args := [d] }
  | _ => none }
def FnRebasedWrongFalsely : Prop := fnRebasedRow.holds Try.pinned (OpenSpec.ofChange fnRebasedWrong)

/-- 'laws.FnExactRebaseOf': WHATEVER THE INPUT: true; the input reads as it did. -/
def fnExactRebaseOfSpec : ChangeSpec := { name := "fnExactRebaseOf", fn := fun _ => fun
  | [d1, d2, d3] => { results := [.lit (.bool true)], args := [d1, d2, d3] }
  | _ => none }
def fnExactRebaseOfRow : OpenClaim := { program := "ytcfbfpipfalieaa", sum := "ec09dee79f7c1619d24421d1ba0f54101c0dc8d7b756148e02540574c339b67f", func := "loop.example/g00083/laws.FnExactRebaseOf", spec := "fnExactRebaseOf", apart := false }
def FnExactRebaseOfSaid : Prop := fnExactRebaseOfRow.holds Try.pinned (OpenSpec.ofChange fnExactRebaseOfSpec)

/-- ITS FALSE NEIGHBOUR: 'it returns false'. Refute it at one input. -/
def fnExactRebaseOfWrong : ChangeSpec := { name := "fnExactRebaseOf", fn := fun _ => fun
  | [d1, d2, d3] => { results := [.lit (.bool false)], args := [d1, d2, d3] }
  | _ => none }
def FnExactRebaseOfWrongFalsely : Prop := fnExactRebaseOfRow.holds Try.pinned (OpenSpec.ofChange fnExactRebaseOfWrong)

/-- 'laws.FnSubmitted': WHATEVER THE INPUT: true; the input reads as it did. -/
def fnSubmittedSpec : ChangeSpec := { name := "fnSubmitted", fn := fun _ => fun
  | [d] => { results := [.lit (.bool true)], args := [d] }
  | _ => none }
def fnSubmittedRow : OpenClaim := { program := "ytcfbfpipfalieaa", sum := "ec09dee79f7c1619d24421d1ba0f54101c0dc8d7b756148e02540574c339b67f", func := "loop.example/g00083/laws.FnSubmitted", spec := "fnSubmitted", apart := false }
def FnSubmittedSaid : Prop := fnSubmittedRow.holds Try.pinned (OpenSpec.ofChange fnSubmittedSpec)

/-- ITS FALSE NEIGHBOUR: 'it returns false'. Refute it at one input. -/
def fnSubmittedWrong : ChangeSpec := { name := "fnSubmitted", fn := fun _ => fun
  | [d] => { results := [.lit (.bool false)], args := [d] }
  | _ => none }
def FnSubmittedWrongFalsely : Prop := fnSubmittedRow.holds Try.pinned (OpenSpec.ofChange fnSubmittedWrong)

/-- 'laws.FnPruned': WHATEVER THE INPUT: true; the input reads as it did. -/
def fnPrunedSpec : ChangeSpec := { name := "fnPruned", fn := fun _ => fun
  | [d] => { results := [.lit (.bool true)], args := [d] }
  | _ => none }
def fnPrunedRow : OpenClaim := { program := "ytcfbfpipfalieaa", sum := "ec09dee79f7c1619d24421d1ba0f54101c0dc8d7b756148e02540574c339b67f", func := "loop.example/g00083/laws.FnPruned", spec := "fnPruned", apart := false }
def FnPrunedSaid : Prop := fnPrunedRow.holds Try.pinned (OpenSpec.ofChange fnPrunedSpec)

/-- ITS FALSE NEIGHBOUR: 'it returns false'. Refute it at one input. -/
def fnPrunedWrong : ChangeSpec := { name := "fnPruned", fn := fun _ => fun
  | [d] => { results := [.lit (.bool false)], args := [d] }
  | _ => none }
def FnPrunedWrongFalsely : Prop := fnPrunedRow.holds Try.pinned (OpenSpec.ofChange fnPrunedWrong)

/-- 'laws.FnExactSubmit': WHATEVER THE INPUT: true; the input reads as it did. -/
def fnExactSubmitSpec : ChangeSpec := { name := "fnExactSubmit", fn := fun _ => fun
  | [d1, d2, d3] => { results := [.lit (.bool true)], args := [d1, d2, d3] }
  | _ => none }
def fnExactSubmitRow : OpenClaim := { program := "ytcfbfpipfalieaa", sum := "ec09dee79f7c1619d24421d1ba0f54101c0dc8d7b756148e02540574c339b67f", func := "loop.example/g00083/laws.FnExactSubmit", spec := "fnExactSubmit", apart := false }
def FnExactSubmitSaid : Prop := fnExactSubmitRow.holds Try.pinned (OpenSpec.ofChange fnExactSubmitSpec)

/-- ITS FALSE NEIGHBOUR: 'it returns false'. Refute it at one input. -/
def fnExactSubmitWrong : ChangeSpec := { name := "fnExactSubmit", fn := fun _ => fun
  | [d1, d2, d3] => { results := [.lit (.bool false)], args := [d1, d2, d3] }
  | _ => none }
def FnExactSubmitWrongFalsely : Prop := fnExactSubmitRow.holds Try.pinned (OpenSpec.ofChange fnExactSubmitWrong)

/-- 'laws.FnThree': WHATEVER THE INPUT: true; the input reads as it did. -/
def fnThreeSpec : ChangeSpec := { name := "fnThree", fn := fun _ => fun
  | [d] => { results := [.lit (.bool true)], args := [d] }
  | _ => none }
def fnThreeRow : OpenClaim := { program := "ytcfbfpipfalieaa", sum := "ec09dee79f7c1619d24421d1ba0f54101c0dc8d7b756148e02540574c339b67f", func := "loop.example/g00083/laws.FnThree", spec := "fnThree", apart := false }
def FnThreeSaid : Prop := fnThreeRow.holds Try.pinned (OpenSpec.ofChange fnThreeSpec)

/-- ITS FALSE NEIGHBOUR: 'it returns false'. Refute it at one input. -/
def fnThreeWrong : ChangeSpec := { name := "fnThree", fn := fun _ => fun
  | [d] => { results := [.lit (.bool false)], args := [d] }
  | _ => none }
def FnThreeWrongFalsely : Prop := fnThreeRow.holds Try.pinned (OpenSpec.ofChange fnThreeWrong)

/-- 'laws.FnExactReadBundle': WHATEVER THE INPUT: true; the input reads as it did. -/
def fnExactReadBundleSpec : ChangeSpec := { name := "fnExactReadBundle", fn := fun _ => fun
  | [d] => { results := [.lit (.bool true)], args := [d] }
  | _ => none }
def fnExactReadBundleRow : OpenClaim := { program := "ytcfbfpipfalieaa", sum := "ec09dee79f7c1619d24421d1ba0f54101c0dc8d7b756148e02540574c339b67f", func := "loop.example/g00083/laws.FnExactReadBundle", spec := "fnExactReadBundle", unfollowed := true, recurses := true, apart := false }
def FnExactReadBundleSaid : Prop := fnExactReadBundleRow.holds Try.pinned (OpenSpec.ofChange fnExactReadBundleSpec)

/-- ITS FALSE NEIGHBOUR: 'it returns false'. Refute it at one input. -/
def fnExactReadBundleWrong : ChangeSpec := { name := "fnExactReadBundle", fn := fun _ => fun
  | [d] => { results := [.lit (.bool false)], args := [d] }
  | _ => none }
def FnExactReadBundleWrongFalsely : Prop := fnExactReadBundleRow.holds Try.pinned (OpenSpec.ofChange fnExactReadBundleWrong)

/-- 'laws.FnBundled': WHATEVER THE INPUT: true; the input reads as it did. -/
def fnBundledSpec : ChangeSpec := { name := "fnBundled", fn := fun _ => fun
  | [d1, d2] => { results := [.lit (.bool true)], args := [d1, d2] }
  | _ => none }
def fnBundledRow : OpenClaim := { program := "ytcfbfpipfalieaa", sum := "ec09dee79f7c1619d24421d1ba0f54101c0dc8d7b756148e02540574c339b67f", func := "loop.example/g00083/laws.FnBundled", spec := "fnBundled", unfollowed := true, recurses := true, apart := false }
def FnBundledSaid : Prop := fnBundledRow.holds Try.pinned (OpenSpec.ofChange fnBundledSpec)

/-- ITS FALSE NEIGHBOUR: 'it returns false'. Refute it at one input. -/
def fnBundledWrong : ChangeSpec := { name := "fnBundled", fn := fun _ => fun
  | [d1, d2] => { results := [.lit (.bool false)], args := [d1, d2] }
  | _ => none }
def FnBundledWrongFalsely : Prop := fnBundledRow.holds Try.pinned (OpenSpec.ofChange fnBundledWrong)

/- THE SECOND FORM. 'bulk': how many values and letters a reading holds, each counted each time it is reached (what is shared counts as often as it is met; a slice's spare places count too). A statement '..UptoSaid' is the law's where the arguments, and the package variables that the reading takes, are together of bulk at most 1048576: NARROWER than '..Said'. Prove '..Said' where nothing that the law and all that it calls make is longer than what came in: it says more and counts as full. Else prove '..UptoSaid'. A law counts once. -/
mutual
def uptoBulk {H : Type} : DataW H → Nat
  | .lit (.string bytes) => bytes.length + 1
  | .lit _ => 1
  | .nil => 1
  | .ptr d => uptoBulk d + 1
  | .slice elems spare => uptoBulkAll elems + uptoBulkAll spare + 1
  | .agg parts => uptoBulkAll parts + 1
  | .iface _ d => uptoBulk d + 1
  | .map entries => uptoBulkEntries entries + 1
  | .held _ => 1
def uptoBulkAll {H : Type} : List (DataW H) → Nat
  | [] => 0
  | d :: r => uptoBulk d + uptoBulkAll r
def uptoBulkEntries {H : Type} : List (Lit × DataW H) → Nat
  | [] => 0
  | x :: r => uptoBulkEntry x + uptoBulkEntries r
def uptoBulkEntry {H : Type} : Lit × DataW H → Nat
  | (.string bytes, d) => bytes.length + uptoBulk d + 1
  | (_, d) => uptoBulk d + 1
 end
def uptoSmall : (H : Type) → List (DataW H) → Bool := fun _ ds => decide (uptoBulkAll ds ≤ 1048576)
def OpenSpec.upto (s : _root_.Go.ChangeSpec) : _root_.Go.OpenSpec := { _root_.Go.OpenSpec.ofChange s with cond := some uptoSmall }

/-- 'laws.FnExactPinLine', WHERE WHAT IT READS IS OF BULK AT MOST 1048576: true; the input reads as it did. -/
def fnExactPinLineUptoRow : OpenClaim := { program := "ytcfbfpipfalieaa", sum := "ec09dee79f7c1619d24421d1ba0f54101c0dc8d7b756148e02540574c339b67f", func := "loop.example/g00083/laws.FnExactPinLine", spec := "fnExactPinLine", unfollowed := true, recurses := true, apart := false, narrowed := true }
def FnExactPinLineUptoSaid : Prop := fnExactPinLineUptoRow.holds Try.pinned (OpenSpec.upto fnExactPinLineSpec)

/-- 'laws.FnBrought', WHERE WHAT IT READS IS OF BULK AT MOST 1048576: true; the input reads as it did. -/
def fnBroughtUptoRow : OpenClaim := { program := "ytcfbfpipfalieaa", sum := "ec09dee79f7c1619d24421d1ba0f54101c0dc8d7b756148e02540574c339b67f", func := "loop.example/g00083/laws.FnBrought", spec := "fnBrought", unfollowed := true, recurses := true, apart := false, narrowed := true }
def FnBroughtUptoSaid : Prop := fnBroughtUptoRow.holds Try.pinned (OpenSpec.upto fnBroughtSpec)

/-- 'laws.FnExactBlameAt', WHERE WHAT IT READS IS OF BULK AT MOST 1048576: true; the input reads as it did. -/
def fnExactBlameAtUptoRow : OpenClaim := { program := "ytcfbfpipfalieaa", sum := "ec09dee79f7c1619d24421d1ba0f54101c0dc8d7b756148e02540574c339b67f", func := "loop.example/g00083/laws.FnExactBlameAt", spec := "fnExactBlameAt", apart := false, narrowed := true }
def FnExactBlameAtUptoSaid : Prop := fnExactBlameAtUptoRow.holds Try.pinned (OpenSpec.upto fnExactBlameAtSpec)

/-- 'laws.FnExactPlaceAcross', WHERE WHAT IT READS IS OF BULK AT MOST 1048576: true; the input reads as it did. -/
def fnExactPlaceAcrossUptoRow : OpenClaim := { program := "ytcfbfpipfalieaa", sum := "ec09dee79f7c1619d24421d1ba0f54101c0dc8d7b756148e02540574c339b67f", func := "loop.example/g00083/laws.FnExactPlaceAcross", spec := "fnExactPlaceAcross", apart := false, narrowed := true }
def FnExactPlaceAcrossUptoSaid : Prop := fnExactPlaceAcrossUptoRow.holds Try.pinned (OpenSpec.upto fnExactPlaceAcrossSpec)

/-- 'laws.FnExactPruneTo', WHERE WHAT IT READS IS OF BULK AT MOST 1048576: true; the input reads as it did. -/
def fnExactPruneToUptoRow : OpenClaim := { program := "ytcfbfpipfalieaa", sum := "ec09dee79f7c1619d24421d1ba0f54101c0dc8d7b756148e02540574c339b67f", func := "loop.example/g00083/laws.FnExactPruneTo", spec := "fnExactPruneTo", apart := false, narrowed := true }
def FnExactPruneToUptoSaid : Prop := fnExactPruneToUptoRow.holds Try.pinned (OpenSpec.upto fnExactPruneToSpec)

/-- 'laws.FnExactChangeBetween', WHERE WHAT IT READS IS OF BULK AT MOST 1048576: true; the input reads as it did. -/
def fnExactChangeBetweenUptoRow : OpenClaim := { program := "ytcfbfpipfalieaa", sum := "ec09dee79f7c1619d24421d1ba0f54101c0dc8d7b756148e02540574c339b67f", func := "loop.example/g00083/laws.FnExactChangeBetween", spec := "fnExactChangeBetween", apart := false, narrowed := true }
def FnExactChangeBetweenUptoSaid : Prop := fnExactChangeBetweenUptoRow.holds Try.pinned (OpenSpec.upto fnExactChangeBetweenSpec)

/-- 'laws.FnExactExportRange', WHERE WHAT IT READS IS OF BULK AT MOST 1048576: true; the input reads as it did. -/
def fnExactExportRangeUptoRow : OpenClaim := { program := "ytcfbfpipfalieaa", sum := "ec09dee79f7c1619d24421d1ba0f54101c0dc8d7b756148e02540574c339b67f", func := "loop.example/g00083/laws.FnExactExportRange", spec := "fnExactExportRange", apart := false, narrowed := true }
def FnExactExportRangeUptoSaid : Prop := fnExactExportRangeUptoRow.holds Try.pinned (OpenSpec.upto fnExactExportRangeSpec)

/-- 'laws.FnRebased', WHERE WHAT IT READS IS OF BULK AT MOST 1048576: true; the input reads as it did. -/
def fnRebasedUptoRow : OpenClaim := { program := "ytcfbfpipfalieaa", sum := "ec09dee79f7c1619d24421d1ba0f54101c0dc8d7b756148e02540574c339b67f", func := "loop.example/g00083/laws.FnRebased", spec := "fnRebased", apart := false, narrowed := true }
def FnRebasedUptoSaid : Prop := fnRebasedUptoRow.holds Try.pinned (OpenSpec.upto fnRebasedSpec)

/-- 'laws.FnExactRebaseOf', WHERE WHAT IT READS IS OF BULK AT MOST 1048576: true; the input reads as it did. -/
def fnExactRebaseOfUptoRow : OpenClaim := { program := "ytcfbfpipfalieaa", sum := "ec09dee79f7c1619d24421d1ba0f54101c0dc8d7b756148e02540574c339b67f", func := "loop.example/g00083/laws.FnExactRebaseOf", spec := "fnExactRebaseOf", apart := false, narrowed := true }
def FnExactRebaseOfUptoSaid : Prop := fnExactRebaseOfUptoRow.holds Try.pinned (OpenSpec.upto fnExactRebaseOfSpec)

/-- 'laws.FnSubmitted', WHERE WHAT IT READS IS OF BULK AT MOST 1048576: true; the input reads as it did. -/
def fnSubmittedUptoRow : OpenClaim := { program := "ytcfbfpipfalieaa", sum := "ec09dee79f7c1619d24421d1ba0f54101c0dc8d7b756148e02540574c339b67f", func := "loop.example/g00083/laws.FnSubmitted", spec := "fnSubmitted", apart := false, narrowed := true }
def FnSubmittedUptoSaid : Prop := fnSubmittedUptoRow.holds Try.pinned (OpenSpec.upto fnSubmittedSpec)

/-- 'laws.FnPruned', WHERE WHAT IT READS IS OF BULK AT MOST 1048576: true; the input reads as it did. -/
def fnPrunedUptoRow : OpenClaim := { program := "ytcfbfpipfalieaa", sum := "ec09dee79f7c1619d24421d1ba0f54101c0dc8d7b756148e02540574c339b67f", func := "loop.example/g00083/laws.FnPruned", spec := "fnPruned", apart := false, narrowed := true }
def FnPrunedUptoSaid : Prop := fnPrunedUptoRow.holds Try.pinned (OpenSpec.upto fnPrunedSpec)

/-- 'laws.FnExactSubmit', WHERE WHAT IT READS IS OF BULK AT MOST 1048576: true; the input reads as it did. -/
def fnExactSubmitUptoRow : OpenClaim := { program := "ytcfbfpipfalieaa", sum := "ec09dee79f7c1619d24421d1ba0f54101c0dc8d7b756148e02540574c339b67f", func := "loop.example/g00083/laws.FnExactSubmit", spec := "fnExactSubmit", apart := false, narrowed := true }
def FnExactSubmitUptoSaid : Prop := fnExactSubmitUptoRow.holds Try.pinned (OpenSpec.upto fnExactSubmitSpec)

/-- 'laws.FnThree', WHERE WHAT IT READS IS OF BULK AT MOST 1048576: true; the input reads as it did. -/
def fnThreeUptoRow : OpenClaim := { program := "ytcfbfpipfalieaa", sum := "ec09dee79f7c1619d24421d1ba0f54101c0dc8d7b756148e02540574c339b67f", func := "loop.example/g00083/laws.FnThree", spec := "fnThree", apart := false, narrowed := true }
def FnThreeUptoSaid : Prop := fnThreeUptoRow.holds Try.pinned (OpenSpec.upto fnThreeSpec)

/-- 'laws.FnExactReadBundle', WHERE WHAT IT READS IS OF BULK AT MOST 1048576: true; the input reads as it did. -/
def fnExactReadBundleUptoRow : OpenClaim := { program := "ytcfbfpipfalieaa", sum := "ec09dee79f7c1619d24421d1ba0f54101c0dc8d7b756148e02540574c339b67f", func := "loop.example/g00083/laws.FnExactReadBundle", spec := "fnExactReadBundle", unfollowed := true, recurses := true, apart := false, narrowed := true }
def FnExactReadBundleUptoSaid : Prop := fnExactReadBundleUptoRow.holds Try.pinned (OpenSpec.upto fnExactReadBundleSpec)

/-- 'laws.FnBundled', WHERE WHAT IT READS IS OF BULK AT MOST 1048576: true; the input reads as it did. -/
def fnBundledUptoRow : OpenClaim := { program := "ytcfbfpipfalieaa", sum := "ec09dee79f7c1619d24421d1ba0f54101c0dc8d7b756148e02540574c339b67f", func := "loop.example/g00083/laws.FnBundled", spec := "fnBundled", unfollowed := true, recurses := true, apart := false, narrowed := true }
def FnBundledUptoSaid : Prop := fnBundledUptoRow.holds Try.pinned (OpenSpec.upto fnBundledSpec)

end Rows
end Go.Proofs.Ytcfbfpipfalieaa
