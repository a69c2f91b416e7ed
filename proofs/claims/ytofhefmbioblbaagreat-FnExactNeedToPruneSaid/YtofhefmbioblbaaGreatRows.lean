/-
  No cell of these rows narrows 'for every input' (looked for: loops, veiled, ifaces, maps, wideKeys, modest, calm, conditions, laid).
  DERIVED. THE GIVEN ROWS OF THIS SEAT. 12 by the template 'for every input the law returns true; each argument reads behind the call as it read before'; 0 by the template 'total and deterministic' (their statements: YtofhefmbioblbaaGreatTotals.lean).
  GIVEN WITH THE SEED: the statements are not yours to turn. If you find one false, say at which input.
  Laid BY PROGRAM, IN A SANDBOX (cutbox-rows.mjs): the forced cells as the released guide's own fill.sh prints them over the translation 8d3758d65162ce43… (all of the seat's roots in one cut). By AI agents, Wed Nov 11 2026. No macro, syntax, notation, axiom, sorry.
-/
import Derived.Test.YtofhefmbioblbaaGreatChecked
import GoSem.Claim
import GoSem.ClaimJoined
import GoSem.ClaimMapViews
import Derived.JoinedTies
import Derived.KernelRfl
namespace Go.Proofs.YtofhefmbioblbaaGreat
/- THE CELL 'sum', in the pinned program and in every row, IS THE sha256 OF THE DUMP (.gsa) THAT YtofhefmbioblbaaGreatProg.lean LOADS. Nothing in Lean hashes anything: it is a label: what it is worth is what the hold of that sum in a sandbox is worth. -/
noncomputable def Tryz.pinned : Pinned := { name := "ytofhefmbioblbaagreat", sum := "8d3758d65162ce43e63035555174cee0986a761cef6ba0275e9aa9c3602c9b64", checked := Tryz.checked }
namespace Rows
def none {H : Type} : Left H := { results := [], args := [] }

/-- 'laws.FnExactMakeStore': WHATEVER THE INPUT: true; the input reads as it did. -/
def fnExactMakeStoreSpec : ChangeSpec := { name := "fnExactMakeStore", fn := fun _ => fun
  | [d1, d2, d3] => { results := [.lit (.bool true)], args := [d1, d2, d3] }
  | _ => none }
def fnExactMakeStoreRow : OpenClaim := { program := "ytofhefmbioblbaagreat", sum := "8d3758d65162ce43e63035555174cee0986a761cef6ba0275e9aa9c3602c9b64", func := "loop.example/g00083/laws.FnExactMakeStore", spec := "fnExactMakeStore", inPlace := ["slices.overlaps[int]"], unfollowed := true, recurses := true, apart := false }
def FnExactMakeStoreSaid : Prop := fnExactMakeStoreRow.holds Tryz.pinned (OpenSpec.ofChange fnExactMakeStoreSpec)

/-- ITS FALSE NEIGHBOUR: 'it returns false'. Refute it at one input. -/
def fnExactMakeStoreWrong : ChangeSpec := { name := "fnExactMakeStore", fn := fun _ => fun
  | [d1, d2, d3] => { results := [.lit (.bool false)], args := [d1, d2, d3] }
  | _ => none }
def FnExactMakeStoreWrongFalsely : Prop := fnExactMakeStoreRow.holds Tryz.pinned (OpenSpec.ofChange fnExactMakeStoreWrong)

/-- 'laws.FnExactGoodStore': WHATEVER THE INPUT: true; the input reads as it did. -/
def fnExactGoodStoreSpec : ChangeSpec := { name := "fnExactGoodStore", fn := fun _ => fun
  | [d] => { results := [.lit (.bool true)], args := [d] }
  | _ => none }
def fnExactGoodStoreRow : OpenClaim := { program := "ytofhefmbioblbaagreat", sum := "8d3758d65162ce43e63035555174cee0986a761cef6ba0275e9aa9c3602c9b64", func := "loop.example/g00083/laws.FnExactGoodStore", spec := "fnExactGoodStore", inPlace := ["slices.overlaps[int]"], unfollowed := true, recurses := true, apart := false }
def FnExactGoodStoreSaid : Prop := fnExactGoodStoreRow.holds Tryz.pinned (OpenSpec.ofChange fnExactGoodStoreSpec)

/-- ITS FALSE NEIGHBOUR: 'it returns false'. Refute it at one input. -/
def fnExactGoodStoreWrong : ChangeSpec := { name := "fnExactGoodStore", fn := fun _ => fun
  | [d] => { results := [.lit (.bool false)], args := [d] }
  | _ => none }
def FnExactGoodStoreWrongFalsely : Prop := fnExactGoodStoreRow.holds Tryz.pinned (OpenSpec.ofChange fnExactGoodStoreWrong)

/-- 'laws.FnExactReachIn': WHATEVER THE INPUT: true; the input reads as it did. -/
def fnExactReachInSpec : ChangeSpec := { name := "fnExactReachIn", fn := fun _ => fun
  | [d] => { results := [.lit (.bool true)], args := [d] }
  | _ => none }
def fnExactReachInRow : OpenClaim := { program := "ytofhefmbioblbaagreat", sum := "8d3758d65162ce43e63035555174cee0986a761cef6ba0275e9aa9c3602c9b64", func := "loop.example/g00083/laws.FnExactReachIn", spec := "fnExactReachIn", inPlace := ["slices.overlaps[int]"], unfollowed := true, recurses := true, apart := false }
def FnExactReachInSaid : Prop := fnExactReachInRow.holds Tryz.pinned (OpenSpec.ofChange fnExactReachInSpec)

/-- ITS FALSE NEIGHBOUR: 'it returns false'. Refute it at one input. -/
def fnExactReachInWrong : ChangeSpec := { name := "fnExactReachIn", fn := fun _ => fun
  | [d] => { results := [.lit (.bool false)], args := [d] }
  | _ => none }
def FnExactReachInWrongFalsely : Prop := fnExactReachInRow.holds Tryz.pinned (OpenSpec.ofChange fnExactReachInWrong)

/-- 'laws.FnExactStoreText': WHATEVER THE INPUT: true; the input reads as it did. -/
def fnExactStoreTextSpec : ChangeSpec := { name := "fnExactStoreText", fn := fun _ => fun
  | [d1, d2] => { results := [.lit (.bool true)], args := [d1, d2] }
  | _ => none }
def fnExactStoreTextRow : OpenClaim := { program := "ytofhefmbioblbaagreat", sum := "8d3758d65162ce43e63035555174cee0986a761cef6ba0275e9aa9c3602c9b64", func := "loop.example/g00083/laws.FnExactStoreText", spec := "fnExactStoreText", inPlace := ["slices.overlaps[int]"], unfollowed := true, recurses := true, apart := false }
def FnExactStoreTextSaid : Prop := fnExactStoreTextRow.holds Tryz.pinned (OpenSpec.ofChange fnExactStoreTextSpec)

/-- ITS FALSE NEIGHBOUR: 'it returns false'. Refute it at one input. -/
def fnExactStoreTextWrong : ChangeSpec := { name := "fnExactStoreText", fn := fun _ => fun
  | [d1, d2] => { results := [.lit (.bool false)], args := [d1, d2] }
  | _ => none }
def FnExactStoreTextWrongFalsely : Prop := fnExactStoreTextRow.holds Tryz.pinned (OpenSpec.ofChange fnExactStoreTextWrong)

/-- 'laws.FnExactStoreBetween': WHATEVER THE INPUT: true; the input reads as it did. -/
def fnExactStoreBetweenSpec : ChangeSpec := { name := "fnExactStoreBetween", fn := fun _ => fun
  | [d1, d2, d3] => { results := [.lit (.bool true)], args := [d1, d2, d3] }
  | _ => none }
def fnExactStoreBetweenRow : OpenClaim := { program := "ytofhefmbioblbaagreat", sum := "8d3758d65162ce43e63035555174cee0986a761cef6ba0275e9aa9c3602c9b64", func := "loop.example/g00083/laws.FnExactStoreBetween", spec := "fnExactStoreBetween", inPlace := ["slices.overlaps[int]"], unfollowed := true, recurses := true, apart := false }
def FnExactStoreBetweenSaid : Prop := fnExactStoreBetweenRow.holds Tryz.pinned (OpenSpec.ofChange fnExactStoreBetweenSpec)

/-- ITS FALSE NEIGHBOUR: 'it returns false'. Refute it at one input. -/
def fnExactStoreBetweenWrong : ChangeSpec := { name := "fnExactStoreBetween", fn := fun _ => fun
  | [d1, d2, d3] => { results := [.lit (.bool false)], args := [d1, d2, d3] }
  | _ => none }
def FnExactStoreBetweenWrongFalsely : Prop := fnExactStoreBetweenRow.holds Tryz.pinned (OpenSpec.ofChange fnExactStoreBetweenWrong)

/-- 'laws.FnExactOpenStore': WHATEVER THE INPUT: true; the input reads as it did. -/
def fnExactOpenStoreSpec : ChangeSpec := { name := "fnExactOpenStore", fn := fun _ => fun
  | [d] => { results := [.lit (.bool true)], args := [d] }
  | _ => none }
def fnExactOpenStoreRow : OpenClaim := { program := "ytofhefmbioblbaagreat", sum := "8d3758d65162ce43e63035555174cee0986a761cef6ba0275e9aa9c3602c9b64", func := "loop.example/g00083/laws.FnExactOpenStore", spec := "fnExactOpenStore", inPlace := ["slices.overlaps[int]"], unfollowed := true, recurses := true, apart := false }
def FnExactOpenStoreSaid : Prop := fnExactOpenStoreRow.holds Tryz.pinned (OpenSpec.ofChange fnExactOpenStoreSpec)

/-- ITS FALSE NEIGHBOUR: 'it returns false'. Refute it at one input. -/
def fnExactOpenStoreWrong : ChangeSpec := { name := "fnExactOpenStore", fn := fun _ => fun
  | [d] => { results := [.lit (.bool false)], args := [d] }
  | _ => none }
def FnExactOpenStoreWrongFalsely : Prop := fnExactOpenStoreRow.holds Tryz.pinned (OpenSpec.ofChange fnExactOpenStoreWrong)

/-- 'laws.FnExactHistoryIn': WHATEVER THE INPUT: true; the input reads as it did. -/
def fnExactHistoryInSpec : ChangeSpec := { name := "fnExactHistoryIn", fn := fun _ => fun
  | [d] => { results := [.lit (.bool true)], args := [d] }
  | _ => none }
def fnExactHistoryInRow : OpenClaim := { program := "ytofhefmbioblbaagreat", sum := "8d3758d65162ce43e63035555174cee0986a761cef6ba0275e9aa9c3602c9b64", func := "loop.example/g00083/laws.FnExactHistoryIn", spec := "fnExactHistoryIn", inPlace := ["slices.overlaps[int]"], unfollowed := true, recurses := true, apart := false }
def FnExactHistoryInSaid : Prop := fnExactHistoryInRow.holds Tryz.pinned (OpenSpec.ofChange fnExactHistoryInSpec)

/-- ITS FALSE NEIGHBOUR: 'it returns false'. Refute it at one input. -/
def fnExactHistoryInWrong : ChangeSpec := { name := "fnExactHistoryIn", fn := fun _ => fun
  | [d] => { results := [.lit (.bool false)], args := [d] }
  | _ => none }
def FnExactHistoryInWrongFalsely : Prop := fnExactHistoryInRow.holds Tryz.pinned (OpenSpec.ofChange fnExactHistoryInWrong)

/-- 'laws.FnExactExportFrom': WHATEVER THE INPUT: true; the input reads as it did. -/
def fnExactExportFromSpec : ChangeSpec := { name := "fnExactExportFrom", fn := fun _ => fun
  | [d1, d2, d3] => { results := [.lit (.bool true)], args := [d1, d2, d3] }
  | _ => none }
def fnExactExportFromRow : OpenClaim := { program := "ytofhefmbioblbaagreat", sum := "8d3758d65162ce43e63035555174cee0986a761cef6ba0275e9aa9c3602c9b64", func := "loop.example/g00083/laws.FnExactExportFrom", spec := "fnExactExportFrom", inPlace := ["slices.overlaps[int]"], unfollowed := true, recurses := true, apart := false }
def FnExactExportFromSaid : Prop := fnExactExportFromRow.holds Tryz.pinned (OpenSpec.ofChange fnExactExportFromSpec)

/-- ITS FALSE NEIGHBOUR: 'it returns false'. Refute it at one input. -/
def fnExactExportFromWrong : ChangeSpec := { name := "fnExactExportFrom", fn := fun _ => fun
  | [d1, d2, d3] => { results := [.lit (.bool false)], args := [d1, d2, d3] }
  | _ => none }
def FnExactExportFromWrongFalsely : Prop := fnExactExportFromRow.holds Tryz.pinned (OpenSpec.ofChange fnExactExportFromWrong)

/-- 'laws.FnExactNeedToPrune': WHATEVER THE INPUT: true; the input reads as it did. -/
def fnExactNeedToPruneSpec : ChangeSpec := { name := "fnExactNeedToPrune", fn := fun _ => fun
  | [d1, d2] => { results := [.lit (.bool true)], args := [d1, d2] }
  | _ => none }
def fnExactNeedToPruneRow : OpenClaim := { program := "ytofhefmbioblbaagreat", sum := "8d3758d65162ce43e63035555174cee0986a761cef6ba0275e9aa9c3602c9b64", func := "loop.example/g00083/laws.FnExactNeedToPrune", spec := "fnExactNeedToPrune", inPlace := ["slices.overlaps[int]"], unfollowed := true, recurses := true, apart := false }
def FnExactNeedToPruneSaid : Prop := fnExactNeedToPruneRow.holds Tryz.pinned (OpenSpec.ofChange fnExactNeedToPruneSpec)

/-- ITS FALSE NEIGHBOUR: 'it returns false'. Refute it at one input. -/
def fnExactNeedToPruneWrong : ChangeSpec := { name := "fnExactNeedToPrune", fn := fun _ => fun
  | [d1, d2] => { results := [.lit (.bool false)], args := [d1, d2] }
  | _ => none }
def FnExactNeedToPruneWrongFalsely : Prop := fnExactNeedToPruneRow.holds Tryz.pinned (OpenSpec.ofChange fnExactNeedToPruneWrong)

/-- 'laws.FnExactNeedToSubmit': WHATEVER THE INPUT: true; the input reads as it did. -/
def fnExactNeedToSubmitSpec : ChangeSpec := { name := "fnExactNeedToSubmit", fn := fun _ => fun
  | [d1, d2, d3] => { results := [.lit (.bool true)], args := [d1, d2, d3] }
  | _ => none }
def fnExactNeedToSubmitRow : OpenClaim := { program := "ytofhefmbioblbaagreat", sum := "8d3758d65162ce43e63035555174cee0986a761cef6ba0275e9aa9c3602c9b64", func := "loop.example/g00083/laws.FnExactNeedToSubmit", spec := "fnExactNeedToSubmit", inPlace := ["slices.overlaps[int]"], unfollowed := true, recurses := true, apart := false }
def FnExactNeedToSubmitSaid : Prop := fnExactNeedToSubmitRow.holds Tryz.pinned (OpenSpec.ofChange fnExactNeedToSubmitSpec)

/-- ITS FALSE NEIGHBOUR: 'it returns false'. Refute it at one input. -/
def fnExactNeedToSubmitWrong : ChangeSpec := { name := "fnExactNeedToSubmit", fn := fun _ => fun
  | [d1, d2, d3] => { results := [.lit (.bool false)], args := [d1, d2, d3] }
  | _ => none }
def FnExactNeedToSubmitWrongFalsely : Prop := fnExactNeedToSubmitRow.holds Tryz.pinned (OpenSpec.ofChange fnExactNeedToSubmitWrong)

/-- 'laws.FnExactStorePrune': WHATEVER THE INPUT: true; the input reads as it did. -/
def fnExactStorePruneSpec : ChangeSpec := { name := "fnExactStorePrune", fn := fun _ => fun
  | [d1, d2] => { results := [.lit (.bool true)], args := [d1, d2] }
  | _ => none }
def fnExactStorePruneRow : OpenClaim := { program := "ytofhefmbioblbaagreat", sum := "8d3758d65162ce43e63035555174cee0986a761cef6ba0275e9aa9c3602c9b64", func := "loop.example/g00083/laws.FnExactStorePrune", spec := "fnExactStorePrune", inPlace := ["slices.overlaps[int]"], unfollowed := true, recurses := true, apart := false }
def FnExactStorePruneSaid : Prop := fnExactStorePruneRow.holds Tryz.pinned (OpenSpec.ofChange fnExactStorePruneSpec)

/-- ITS FALSE NEIGHBOUR: 'it returns false'. Refute it at one input. -/
def fnExactStorePruneWrong : ChangeSpec := { name := "fnExactStorePrune", fn := fun _ => fun
  | [d1, d2] => { results := [.lit (.bool false)], args := [d1, d2] }
  | _ => none }
def FnExactStorePruneWrongFalsely : Prop := fnExactStorePruneRow.holds Tryz.pinned (OpenSpec.ofChange fnExactStorePruneWrong)

/-- 'laws.FnExactStoreSubmit': WHATEVER THE INPUT: true; the input reads as it did. -/
def fnExactStoreSubmitSpec : ChangeSpec := { name := "fnExactStoreSubmit", fn := fun _ => fun
  | [d1, d2, d3] => { results := [.lit (.bool true)], args := [d1, d2, d3] }
  | _ => none }
def fnExactStoreSubmitRow : OpenClaim := { program := "ytofhefmbioblbaagreat", sum := "8d3758d65162ce43e63035555174cee0986a761cef6ba0275e9aa9c3602c9b64", func := "loop.example/g00083/laws.FnExactStoreSubmit", spec := "fnExactStoreSubmit", inPlace := ["slices.overlaps[int]"], unfollowed := true, recurses := true, apart := false }
def FnExactStoreSubmitSaid : Prop := fnExactStoreSubmitRow.holds Tryz.pinned (OpenSpec.ofChange fnExactStoreSubmitSpec)

/-- ITS FALSE NEIGHBOUR: 'it returns false'. Refute it at one input. -/
def fnExactStoreSubmitWrong : ChangeSpec := { name := "fnExactStoreSubmit", fn := fun _ => fun
  | [d1, d2, d3] => { results := [.lit (.bool false)], args := [d1, d2, d3] }
  | _ => none }
def FnExactStoreSubmitWrongFalsely : Prop := fnExactStoreSubmitRow.holds Tryz.pinned (OpenSpec.ofChange fnExactStoreSubmitWrong)

/- THE SECOND FORM. 'bulk': how many values and letters a reading holds, each counted each time it is reached (what is shared counts as often as it is met; a slice's spare places count too). A statement '..UptoSaid' is the law's where the arguments, and the package variables that the reading takes, are together of bulk at most 1048576: NARROWER than '..Said'. Prove '..Said' where nothing that the law and all that it calls make is longer than what came in: it says more and counts as full. Else prove '..UptoSaid'. A law counts once. -/
mutual
def uptoBulk {H : Type} : DataW H → Nat
  | .lit (.string bytes) => bytes.length + 1
  | .lit _ => 1
  | .nil => 1
  | .ptr d => uptoBulk d + 1
  | .slice elems spare => uptoBulkAll elems + uptoBulkAll spare + 1
  | .agg parts => uptoBulkAll parts + 1
  | .iface _ d => uptoBulk d + 1
  | .map entries => uptoBulkEntries entries + 1
  | .held _ => 1
def uptoBulkAll {H : Type} : List (DataW H) → Nat
  | [] => 0
  | d :: r => uptoBulk d + uptoBulkAll r
def uptoBulkEntries {H : Type} : List (Lit × DataW H) → Nat
  | [] => 0
  | x :: r => uptoBulkEntry x + uptoBulkEntries r
def uptoBulkEntry {H : Type} : Lit × DataW H → Nat
  | (.string bytes, d) => bytes.length + uptoBulk d + 1
  | (_, d) => uptoBulk d + 1
 end
def uptoSmall : (H : Type) → List (DataW H) → Bool := fun _ ds => decide (uptoBulkAll ds ≤ 1048576)
def OpenSpec.upto (s : _root_.Go.ChangeSpec) : _root_.Go.OpenSpec := { _root_.Go.OpenSpec.ofChange s with cond := some uptoSmall }

/-- 'laws.FnExactMakeStore', WHERE WHAT IT READS IS OF BULK AT MOST 1048576: true; the input reads as it did. -/
def fnExactMakeStoreUptoRow : OpenClaim := { program := "ytofhefmbioblbaagreat", sum := "8d3758d65162ce43e63035555174cee0986a761cef6ba0275e9aa9c3602c9b64", func := "loop.example/g00083/laws.FnExactMakeStore", spec := "fnExactMakeStore", inPlace := ["slices.overlaps[int]"], unfollowed := true, recurses := true, apart := false, narrowed := true }
def FnExactMakeStoreUptoSaid : Prop := fnExactMakeStoreUptoRow.holds Tryz.pinned (OpenSpec.upto fnExactMakeStoreSpec)

/-- 'laws.FnExactGoodStore', WHERE WHAT IT READS IS OF BULK AT MOST 1048576: true; the input reads as it did. -/
def fnExactGoodStoreUptoRow : OpenClaim := { program := "ytofhefmbioblbaagreat", sum := "8d3758d65162ce43e63035555174cee0986a761cef6ba0275e9aa9c3602c9b64", func := "loop.example/g00083/laws.FnExactGoodStore", spec := "fnExactGoodStore", inPlace := ["slices.overlaps[int]"], unfollowed := true, recurses := true, apart := false, narrowed := true }
def FnExactGoodStoreUptoSaid : Prop := fnExactGoodStoreUptoRow.holds Tryz.pinned (OpenSpec.upto fnExactGoodStoreSpec)

/-- 'laws.FnExactReachIn', WHERE WHAT IT READS IS OF BULK AT MOST 1048576: true; the input reads as it did. -/
def fnExactReachInUptoRow : OpenClaim := { program := "ytofhefmbioblbaagreat", sum := "8d3758d65162ce43e63035555174cee0986a761cef6ba0275e9aa9c3602c9b64", func := "loop.example/g00083/laws.FnExactReachIn", spec := "fnExactReachIn", inPlace := ["slices.overlaps[int]"], unfollowed := true, recurses := true, apart := false, narrowed := true }
def FnExactReachInUptoSaid : Prop := fnExactReachInUptoRow.holds Tryz.pinned (OpenSpec.upto fnExactReachInSpec)

/-- 'laws.FnExactStoreText', WHERE WHAT IT READS IS OF BULK AT MOST 1048576: true; the input reads as it did. -/
def fnExactStoreTextUptoRow : OpenClaim := { program := "ytofhefmbioblbaagreat", sum := "8d3758d65162ce43e63035555174cee0986a761cef6ba0275e9aa9c3602c9b64", func := "loop.example/g00083/laws.FnExactStoreText", spec := "fnExactStoreText", inPlace := ["slices.overlaps[int]"], unfollowed := true, recurses := true, apart := false, narrowed := true }
def FnExactStoreTextUptoSaid : Prop := fnExactStoreTextUptoRow.holds Tryz.pinned (OpenSpec.upto fnExactStoreTextSpec)

/-- 'laws.FnExactStoreBetween', WHERE WHAT IT READS IS OF BULK AT MOST 1048576: true; the input reads as it did. -/
def fnExactStoreBetweenUptoRow : OpenClaim := { program := "ytofhefmbioblbaagreat", sum := "8d3758d65162ce43e63035555174cee0986a761cef6ba0275e9aa9c3602c9b64", func := "loop.example/g00083/laws.FnExactStoreBetween", spec := "fnExactStoreBetween", inPlace := ["slices.overlaps[int]"], unfollowed := true, recurses := true, apart := false, narrowed := true }
def FnExactStoreBetweenUptoSaid : Prop := fnExactStoreBetweenUptoRow.holds Tryz.pinned (OpenSpec.upto fnExactStoreBetweenSpec)

/-- 'laws.FnExactOpenStore', WHERE WHAT IT READS IS OF BULK AT MOST 1048576: true; the input reads as it did. -/
def fnExactOpenStoreUptoRow : OpenClaim := { program := "ytofhefmbioblbaagreat", sum := "8d3758d65162ce43e63035555174cee0986a761cef6ba0275e9aa9c3602c9b64", func := "loop.example/g00083/laws.FnExactOpenStore", spec := "fnExactOpenStore", inPlace := ["slices.overlaps[int]"], unfollowed := true, recurses := true, apart := false, narrowed := true }
def FnExactOpenStoreUptoSaid : Prop := fnExactOpenStoreUptoRow.holds Tryz.pinned (OpenSpec.upto fnExactOpenStoreSpec)

/-- 'laws.FnExactHistoryIn', WHERE WHAT IT READS IS OF BULK AT MOST 1048576: true; the input reads as it did. -/
def fnExactHistoryInUptoRow : OpenClaim := { program := "ytofhefmbioblbaagreat", sum := "8d3758d65162ce43e63035555174cee0986a761cef6ba0275e9aa9c3602c9b64", func := "loop.example/g00083/laws.FnExactHistoryIn", spec := "fnExactHistoryIn", inPlace := ["slices.overlaps[int]"], unfollowed := true, recurses := true, apart := false, narrowed := true }
def FnExactHistoryInUptoSaid : Prop := fnExactHistoryInUptoRow.holds Tryz.pinned (OpenSpec.upto fnExactHistoryInSpec)

/-- 'laws.FnExactExportFrom', WHERE WHAT IT READS IS OF BULK AT MOST 1048576: true; the input reads as it did. -/
def fnExactExportFromUptoRow : OpenClaim := { program := "ytofhefmbioblbaagreat", sum := "8d3758d65162ce43e63035555174cee0986a761cef6ba0275e9aa9c3602c9b64", func := "loop.example/g00083/laws.FnExactExportFrom", spec := "fnExactExportFrom", inPlace := ["slices.overlaps[int]"], unfollowed := true, recurses := true, apart := false, narrowed := true }
def FnExactExportFromUptoSaid : Prop := fnExactExportFromUptoRow.holds Tryz.pinned (OpenSpec.upto fnExactExportFromSpec)

/-- 'laws.FnExactNeedToPrune', WHERE WHAT IT READS IS OF BULK AT MOST 1048576: true; the input reads as it did. -/
def fnExactNeedToPruneUptoRow : OpenClaim := { program := "ytofhefmbioblbaagreat", sum := "8d3758d65162ce43e63035555174cee0986a761cef6ba0275e9aa9c3602c9b64", func := "loop.example/g00083/laws.FnExactNeedToPrune", spec := "fnExactNeedToPrune", inPlace := ["slices.overlaps[int]"], unfollowed := true, recurses := true, apart := false, narrowed := true }
def FnExactNeedToPruneUptoSaid : Prop := fnExactNeedToPruneUptoRow.holds Tryz.pinned (OpenSpec.upto fnExactNeedToPruneSpec)

/-- 'laws.FnExactNeedToSubmit', WHERE WHAT IT READS IS OF BULK AT MOST 1048576: true; the input reads as it did. -/
def fnExactNeedToSubmitUptoRow : OpenClaim := { program := "ytofhefmbioblbaagreat", sum := "8d3758d65162ce43e63035555174cee0986a761cef6ba0275e9aa9c3602c9b64", func := "loop.example/g00083/laws.FnExactNeedToSubmit", spec := "fnExactNeedToSubmit", inPlace := ["slices.overlaps[int]"], unfollowed := true, recurses := true, apart := false, narrowed := true }
def FnExactNeedToSubmitUptoSaid : Prop := fnExactNeedToSubmitUptoRow.holds Tryz.pinned (OpenSpec.upto fnExactNeedToSubmitSpec)

/-- 'laws.FnExactStorePrune', WHERE WHAT IT READS IS OF BULK AT MOST 1048576: true; the input reads as it did. -/
def fnExactStorePruneUptoRow : OpenClaim := { program := "ytofhefmbioblbaagreat", sum := "8d3758d65162ce43e63035555174cee0986a761cef6ba0275e9aa9c3602c9b64", func := "loop.example/g00083/laws.FnExactStorePrune", spec := "fnExactStorePrune", inPlace := ["slices.overlaps[int]"], unfollowed := true, recurses := true, apart := false, narrowed := true }
def FnExactStorePruneUptoSaid : Prop := fnExactStorePruneUptoRow.holds Tryz.pinned (OpenSpec.upto fnExactStorePruneSpec)

/-- 'laws.FnExactStoreSubmit', WHERE WHAT IT READS IS OF BULK AT MOST 1048576: true; the input reads as it did. -/
def fnExactStoreSubmitUptoRow : OpenClaim := { program := "ytofhefmbioblbaagreat", sum := "8d3758d65162ce43e63035555174cee0986a761cef6ba0275e9aa9c3602c9b64", func := "loop.example/g00083/laws.FnExactStoreSubmit", spec := "fnExactStoreSubmit", inPlace := ["slices.overlaps[int]"], unfollowed := true, recurses := true, apart := false, narrowed := true }
def FnExactStoreSubmitUptoSaid : Prop := fnExactStoreSubmitUptoRow.holds Tryz.pinned (OpenSpec.upto fnExactStoreSubmitSpec)

end Rows
end Go.Proofs.YtofhefmbioblbaaGreat
