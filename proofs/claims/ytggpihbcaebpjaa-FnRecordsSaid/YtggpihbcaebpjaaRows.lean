/-
  No cell of these rows narrows 'for every input' (looked for: loops, veiled, ifaces, maps, wideKeys, modest, calm, conditions, laid).
  DERIVED. THE GIVEN ROWS OF THIS SEAT. 11 by the template 'for every input the law returns true; each argument reads behind the call as it read before'; 0 by the template 'total and deterministic' (their statements: YtggpihbcaebpjaaTotals.lean).
  GIVEN WITH THE SEED: the statements are not yours to turn. If you find one false, say at which input.
  Laid BY PROGRAM, IN A SANDBOX (cutbox-rows.mjs): the forced cells as the released guide's own fill.sh prints them over the translation 8bb299156c6fe9af… (all of the seat's roots in one cut). By AI agents, Wed Nov 11 2026. No macro, syntax, notation, axiom, sorry.
-/
import Derived.Test.YtggpihbcaebpjaaChecked
import GoSem.Claim
import GoSem.ClaimJoined
import GoSem.ClaimMapViews
import Derived.JoinedTies
import Derived.KernelRfl
namespace Go.Proofs.Ytggpihbcaebpjaa
/- THE CELL 'sum', in the pinned program and in every row, IS THE sha256 OF THE DUMP (.gsa) THAT YtggpihbcaebpjaaProg.lean LOADS. Nothing in Lean hashes anything: it is a label: what it is worth is what the hold of that sum in a sandbox is worth. -/
noncomputable def Try.pinned : Pinned := { name := "ytggpihbcaebpjaa", sum := "8bb299156c6fe9af909e6484a6e79b67ac0838970f1df881a9245e705cffd915", checked := Try.checked }
namespace Rows
def none {H : Type} : Left H := { results := [], args := [] }

/-- 'laws.FnExactTakeBlock': WHATEVER THE INPUT: true; the input reads as it did. -/
def fnExactTakeBlockSpec : ChangeSpec := { name := "fnExactTakeBlock", fn := fun _ => fun
  | [d] => { results := [.lit (.bool true)], args := [d] }
  | _ => none }
def fnExactTakeBlockRow : OpenClaim := { program := "ytggpihbcaebpjaa", sum := "8bb299156c6fe9af909e6484a6e79b67ac0838970f1df881a9245e705cffd915", func := "loop.example/g00083/laws.FnExactTakeBlock", spec := "fnExactTakeBlock", inPlace := ["slices.overlaps[int]"], unfollowed := true, recurses := true, apart := false }
def FnExactTakeBlockSaid : Prop := fnExactTakeBlockRow.holds Try.pinned (OpenSpec.ofChange fnExactTakeBlockSpec)

/-- ITS FALSE NEIGHBOUR: 'it returns false'. Refute it at one input. -/
def fnExactTakeBlockWrong : ChangeSpec := { name := "fnExactTakeBlock", fn := fun _ => fun
  | [d] => { results := [.lit (.bool false)], args := [d] }
  | _ => none }
def FnExactTakeBlockWrongFalsely : Prop := fnExactTakeBlockRow.holds Try.pinned (OpenSpec.ofChange fnExactTakeBlockWrong)

/-- 'laws.FnSpaces': WHATEVER THE INPUT: true; the input reads as it did. -/
def fnSpacesSpec : ChangeSpec := { name := "fnSpaces", fn := fun _ => fun
  | [d] => { results := [.lit (.bool true)], args := [d] }
  | _ => none }
def fnSpacesRow : OpenClaim := { program := "ytggpihbcaebpjaa", sum := "8bb299156c6fe9af909e6484a6e79b67ac0838970f1df881a9245e705cffd915", func := "loop.example/g00083/laws.FnSpaces", spec := "fnSpaces", inPlace := ["slices.overlaps[int]"], unfollowed := true, recurses := true, apart := false }
def FnSpacesSaid : Prop := fnSpacesRow.holds Try.pinned (OpenSpec.ofChange fnSpacesSpec)

/-- ITS FALSE NEIGHBOUR: 'it returns false'. Refute it at one input. -/
def fnSpacesWrong : ChangeSpec := { name := "fnSpaces", fn := fun _ => fun
  | [d] => { results := [.lit (.bool false)], args := [d] }
  | _ => none }
def FnSpacesWrongFalsely : Prop := fnSpacesRow.holds Try.pinned (OpenSpec.ofChange fnSpacesWrong)

/-- 'laws.FnExactCacheWrite': WHATEVER THE INPUT: true; the input reads as it did. -/
def fnExactCacheWriteSpec : ChangeSpec := { name := "fnExactCacheWrite", fn := fun _ => fun
  | [d1, d2, d3, d4] => { results := [.lit (.bool true)], args := [d1, d2, d3, d4] }
  | _ => none }
def fnExactCacheWriteRow : OpenClaim := { program := "ytggpihbcaebpjaa", sum := "8bb299156c6fe9af909e6484a6e79b67ac0838970f1df881a9245e705cffd915", func := "loop.example/g00083/laws.FnExactCacheWrite", spec := "fnExactCacheWrite", inPlace := ["slices.overlaps[loop.example/g00083/impl.CacheLine]"], unfollowed := true, recurses := true, apart := false }
def FnExactCacheWriteSaid : Prop := fnExactCacheWriteRow.holds Try.pinned (OpenSpec.ofChange fnExactCacheWriteSpec)

/-- ITS FALSE NEIGHBOUR: 'it returns false'. Refute it at one input. -/
def fnExactCacheWriteWrong : ChangeSpec := { name := "fnExactCacheWrite", fn := fun _ => fun
  | [d1, d2, d3, d4] => { results := [.lit (.bool false)], args := [d1, d2, d3, d4] }
  | _ => none }
def FnExactCacheWriteWrongFalsely : Prop := fnExactCacheWriteRow.holds Try.pinned (OpenSpec.ofChange fnExactCacheWriteWrong)

/-- 'laws.FnExactCacheRead': WHATEVER THE INPUT: true; the input reads as it did. -/
def fnExactCacheReadSpec : ChangeSpec := { name := "fnExactCacheRead", fn := fun _ => fun
  | [d1, d2, d3] => { results := [.lit (.bool true)], args := [d1, d2, d3] }
  | _ => none }
def fnExactCacheReadRow : OpenClaim := { program := "ytggpihbcaebpjaa", sum := "8bb299156c6fe9af909e6484a6e79b67ac0838970f1df881a9245e705cffd915", func := "loop.example/g00083/laws.FnExactCacheRead", spec := "fnExactCacheRead", inPlace := ["slices.overlaps[loop.example/g00083/impl.CacheLine]"], unfollowed := true, recurses := true, apart := false }
def FnExactCacheReadSaid : Prop := fnExactCacheReadRow.holds Try.pinned (OpenSpec.ofChange fnExactCacheReadSpec)

/-- ITS FALSE NEIGHBOUR: 'it returns false'. Refute it at one input. -/
def fnExactCacheReadWrong : ChangeSpec := { name := "fnExactCacheRead", fn := fun _ => fun
  | [d1, d2, d3] => { results := [.lit (.bool false)], args := [d1, d2, d3] }
  | _ => none }
def FnExactCacheReadWrongFalsely : Prop := fnExactCacheReadRow.holds Try.pinned (OpenSpec.ofChange fnExactCacheReadWrong)

/-- 'laws.FnCached': WHATEVER THE INPUT: true; the input reads as it did. -/
def fnCachedSpec : ChangeSpec := { name := "fnCached", fn := fun _ => fun
  | [d] => { results := [.lit (.bool true)], args := [d] }
  | _ => none }
def fnCachedRow : OpenClaim := { program := "ytggpihbcaebpjaa", sum := "8bb299156c6fe9af909e6484a6e79b67ac0838970f1df881a9245e705cffd915", func := "loop.example/g00083/laws.FnCached", spec := "fnCached", inPlace := ["slices.overlaps[loop.example/g00083/impl.CacheLine]"], unfollowed := true, recurses := true, apart := false }
def FnCachedSaid : Prop := fnCachedRow.holds Try.pinned (OpenSpec.ofChange fnCachedSpec)

/-- ITS FALSE NEIGHBOUR: 'it returns false'. Refute it at one input. -/
def fnCachedWrong : ChangeSpec := { name := "fnCached", fn := fun _ => fun
  | [d] => { results := [.lit (.bool false)], args := [d] }
  | _ => none }
def FnCachedWrongFalsely : Prop := fnCachedRow.holds Try.pinned (OpenSpec.ofChange fnCachedWrong)

/-- 'laws.FnExactLayRecord': WHATEVER THE INPUT: true; the input reads as it did. -/
def fnExactLayRecordSpec : ChangeSpec := { name := "fnExactLayRecord", fn := fun _ => fun
  | [d1, d2] => { results := [.lit (.bool true)], args := [d1, d2] }
  | _ => none }
def fnExactLayRecordRow : OpenClaim := { program := "ytggpihbcaebpjaa", sum := "8bb299156c6fe9af909e6484a6e79b67ac0838970f1df881a9245e705cffd915", func := "loop.example/g00083/laws.FnExactLayRecord", spec := "fnExactLayRecord", inPlace := ["slices.overlaps[int]"], unfollowed := true, recurses := true, apart := false }
def FnExactLayRecordSaid : Prop := fnExactLayRecordRow.holds Try.pinned (OpenSpec.ofChange fnExactLayRecordSpec)

/-- ITS FALSE NEIGHBOUR: 'it returns false'. Refute it at one input. -/
def fnExactLayRecordWrong : ChangeSpec := { name := "fnExactLayRecord", fn := fun _ => fun
  | [d1, d2] => { results := [.lit (.bool false)], args := [d1, d2] }
  | _ => none }
def FnExactLayRecordWrongFalsely : Prop := fnExactLayRecordRow.holds Try.pinned (OpenSpec.ofChange fnExactLayRecordWrong)

/-- 'laws.FnExactDropText': WHATEVER THE INPUT: true; the input reads as it did. -/
def fnExactDropTextSpec : ChangeSpec := { name := "fnExactDropText", fn := fun _ => fun
  | [d1, d2] => { results := [.lit (.bool true)], args := [d1, d2] }
  | _ => none }
def fnExactDropTextRow : OpenClaim := { program := "ytggpihbcaebpjaa", sum := "8bb299156c6fe9af909e6484a6e79b67ac0838970f1df881a9245e705cffd915", func := "loop.example/g00083/laws.FnExactDropText", spec := "fnExactDropText", inPlace := ["slices.overlaps[int]"], unfollowed := true, recurses := true, apart := false }
def FnExactDropTextSaid : Prop := fnExactDropTextRow.holds Try.pinned (OpenSpec.ofChange fnExactDropTextSpec)

/-- ITS FALSE NEIGHBOUR: 'it returns false'. Refute it at one input. -/
def fnExactDropTextWrong : ChangeSpec := { name := "fnExactDropText", fn := fun _ => fun
  | [d1, d2] => { results := [.lit (.bool false)], args := [d1, d2] }
  | _ => none }
def FnExactDropTextWrongFalsely : Prop := fnExactDropTextRow.holds Try.pinned (OpenSpec.ofChange fnExactDropTextWrong)

/-- 'laws.FnExactLayText': WHATEVER THE INPUT: true; the input reads as it did. -/
def fnExactLayTextSpec : ChangeSpec := { name := "fnExactLayText", fn := fun _ => fun
  | [d1, d2, d3] => { results := [.lit (.bool true)], args := [d1, d2, d3] }
  | _ => none }
def fnExactLayTextRow : OpenClaim := { program := "ytggpihbcaebpjaa", sum := "8bb299156c6fe9af909e6484a6e79b67ac0838970f1df881a9245e705cffd915", func := "loop.example/g00083/laws.FnExactLayText", spec := "fnExactLayText", inPlace := ["slices.overlaps[int]"], unfollowed := true, recurses := true, apart := false }
def FnExactLayTextSaid : Prop := fnExactLayTextRow.holds Try.pinned (OpenSpec.ofChange fnExactLayTextSpec)

/-- ITS FALSE NEIGHBOUR: 'it returns false'. Refute it at one input. -/
def fnExactLayTextWrong : ChangeSpec := { name := "fnExactLayText", fn := fun _ => fun
  | [d1, d2, d3] => { results := [.lit (.bool false)], args := [d1, d2, d3] }
  | _ => none }
def FnExactLayTextWrongFalsely : Prop := fnExactLayTextRow.holds Try.pinned (OpenSpec.ofChange fnExactLayTextWrong)

/-- 'laws.FnTrees': WHATEVER THE INPUT: true; the input reads as it did. -/
def fnTreesSpec : ChangeSpec := { name := "fnTrees", fn := fun _ => fun
  | [d] => { results := [.lit (.bool true)], args := [d] }
  | _ => none }
def fnTreesRow : OpenClaim := { program := "ytggpihbcaebpjaa", sum := "8bb299156c6fe9af909e6484a6e79b67ac0838970f1df881a9245e705cffd915", func := "loop.example/g00083/laws.FnTrees", spec := "fnTrees", inPlace := ["slices.overlaps[int]"], unfollowed := true, recurses := true, apart := false }
def FnTreesSaid : Prop := fnTreesRow.holds Try.pinned (OpenSpec.ofChange fnTreesSpec)

/-- ITS FALSE NEIGHBOUR: 'it returns false'. Refute it at one input. -/
def fnTreesWrong : ChangeSpec := { name := "fnTrees", fn := fun _ => fun
  | [d] => { results := [.lit (.bool false)], args := [d] }
  | _ => none }
def FnTreesWrongFalsely : Prop := fnTreesRow.holds Try.pinned (OpenSpec.ofChange fnTreesWrong)

/-- 'laws.FnRecords': WHATEVER THE INPUT: true; the input reads as it did. -/
def fnRecordsSpec : ChangeSpec := { name := "fnRecords", fn := fun _ => fun
  | [d1, d2] => { results := [.lit (.bool true)], args := [d1, d2] }
  | _ => none }
def fnRecordsRow : OpenClaim := { program := "ytggpihbcaebpjaa", sum := "8bb299156c6fe9af909e6484a6e79b67ac0838970f1df881a9245e705cffd915", func := "loop.example/g00083/laws.FnRecords", spec := "fnRecords", inPlace := ["slices.overlaps[int]"], unfollowed := true, recurses := true, apart := false }
def FnRecordsSaid : Prop := fnRecordsRow.holds Try.pinned (OpenSpec.ofChange fnRecordsSpec)

/-- ITS FALSE NEIGHBOUR: 'it returns false'. Refute it at one input. -/
def fnRecordsWrong : ChangeSpec := { name := "fnRecords", fn := fun _ => fun
  | [d1, d2] => { results := [.lit (.bool false)], args := [d1, d2] }
  | _ => none }
def FnRecordsWrongFalsely : Prop := fnRecordsRow.holds Try.pinned (OpenSpec.ofChange fnRecordsWrong)

/-- 'laws.FnExactSetKeys': WHATEVER THE INPUT: true; the input reads as it did. -/
def fnExactSetKeysSpec : ChangeSpec := { name := "fnExactSetKeys", fn := fun _ => fun
  | [d1, d2, d3] => { results := [.lit (.bool true)], args := [d1, d2, d3] }
  | _ => none }
def fnExactSetKeysRow : OpenClaim := { program := "ytggpihbcaebpjaa", sum := "8bb299156c6fe9af909e6484a6e79b67ac0838970f1df881a9245e705cffd915", func := "loop.example/g00083/laws.FnExactSetKeys", spec := "fnExactSetKeys", inPlace := ["slices.overlaps[int]"], unfollowed := true, recurses := true, apart := false }
def FnExactSetKeysSaid : Prop := fnExactSetKeysRow.holds Try.pinned (OpenSpec.ofChange fnExactSetKeysSpec)

/-- ITS FALSE NEIGHBOUR: 'it returns false'. Refute it at one input. -/
def fnExactSetKeysWrong : ChangeSpec := { name := "fnExactSetKeys", fn := fun _ => fun
  | [d1, d2, d3] => { results := [.lit (.bool false)], args := [d1, d2, d3] }
  | _ => none }
def FnExactSetKeysWrongFalsely : Prop := fnExactSetKeysRow.holds Try.pinned (OpenSpec.ofChange fnExactSetKeysWrong)

/- THE SECOND FORM. 'bulk': how many values and letters a reading holds, each counted each time it is reached (what is shared counts as often as it is met; a slice's spare places count too). A statement '..UptoSaid' is the law's where the arguments, and the package variables that the reading takes, are together of bulk at most 1048576: NARROWER than '..Said'. Prove '..Said' where nothing that the law and all that it calls make is longer than what came in: it says more and counts as full. Else prove '..UptoSaid'. A law counts once. -/
mutual
def uptoBulk {H : Type} : DataW H → Nat
  | .lit (.string bytes) => bytes.length + 1
  | .lit _ => 1
  | .nil => 1
  | .ptr d => uptoBulk d + 1
  | .slice elems spare => uptoBulkAll elems + uptoBulkAll spare + 1
  | .agg parts => uptoBulkAll parts + 1
  | .iface _ d => uptoBulk d + 1
  | .map entries => uptoBulkEntries entries + 1
  | .held _ => 1
def uptoBulkAll {H : Type} : List (DataW H) → Nat
  | [] => 0
  | d :: r => uptoBulk d + uptoBulkAll r
def uptoBulkEntries {H : Type} : List (Lit × DataW H) → Nat
  | [] => 0
  | x :: r => uptoBulkEntry x + uptoBulkEntries r
def uptoBulkEntry {H : Type} : Lit × DataW H → Nat
  | (.string bytes, d) => bytes.length + uptoBulk d + 1
  | (_, d) => uptoBulk d + 1
 end
def uptoSmall : (H : Type) → List (DataW H) → Bool := fun _ ds => decide (uptoBulkAll ds ≤ 1048576)
def OpenSpec.upto (s : _root_.Go.ChangeSpec) : _root_.Go.OpenSpec := { _root_.Go.OpenSpec.ofChange s with cond := some uptoSmall }

/-- 'laws.FnExactTakeBlock', WHERE WHAT IT READS IS OF BULK AT MOST 1048576: true; the input reads as it did. -/
def fnExactTakeBlockUptoRow : OpenClaim := { program := "ytggpihbcaebpjaa", sum := "8bb299156c6fe9af909e6484a6e79b67ac0838970f1df881a9245e705cffd915", func := "loop.example/g00083/laws.FnExactTakeBlock", spec := "fnExactTakeBlock", inPlace := ["slices.overlaps[int]"], unfollowed := true, recurses := true, apart := false, narrowed := true }
def FnExactTakeBlockUptoSaid : Prop := fnExactTakeBlockUptoRow.holds Try.pinned (OpenSpec.upto fnExactTakeBlockSpec)

/-- 'laws.FnSpaces', WHERE WHAT IT READS IS OF BULK AT MOST 1048576: true; the input reads as it did. -/
def fnSpacesUptoRow : OpenClaim := { program := "ytggpihbcaebpjaa", sum := "8bb299156c6fe9af909e6484a6e79b67ac0838970f1df881a9245e705cffd915", func := "loop.example/g00083/laws.FnSpaces", spec := "fnSpaces", inPlace := ["slices.overlaps[int]"], unfollowed := true, recurses := true, apart := false, narrowed := true }
def FnSpacesUptoSaid : Prop := fnSpacesUptoRow.holds Try.pinned (OpenSpec.upto fnSpacesSpec)

/-- 'laws.FnExactCacheWrite', WHERE WHAT IT READS IS OF BULK AT MOST 1048576: true; the input reads as it did. -/
def fnExactCacheWriteUptoRow : OpenClaim := { program := "ytggpihbcaebpjaa", sum := "8bb299156c6fe9af909e6484a6e79b67ac0838970f1df881a9245e705cffd915", func := "loop.example/g00083/laws.FnExactCacheWrite", spec := "fnExactCacheWrite", inPlace := ["slices.overlaps[loop.example/g00083/impl.CacheLine]"], unfollowed := true, recurses := true, apart := false, narrowed := true }
def FnExactCacheWriteUptoSaid : Prop := fnExactCacheWriteUptoRow.holds Try.pinned (OpenSpec.upto fnExactCacheWriteSpec)

/-- 'laws.FnExactCacheRead', WHERE WHAT IT READS IS OF BULK AT MOST 1048576: true; the input reads as it did. -/
def fnExactCacheReadUptoRow : OpenClaim := { program := "ytggpihbcaebpjaa", sum := "8bb299156c6fe9af909e6484a6e79b67ac0838970f1df881a9245e705cffd915", func := "loop.example/g00083/laws.FnExactCacheRead", spec := "fnExactCacheRead", inPlace := ["slices.overlaps[loop.example/g00083/impl.CacheLine]"], unfollowed := true, recurses := true, apart := false, narrowed := true }
def FnExactCacheReadUptoSaid : Prop := fnExactCacheReadUptoRow.holds Try.pinned (OpenSpec.upto fnExactCacheReadSpec)

/-- 'laws.FnCached', WHERE WHAT IT READS IS OF BULK AT MOST 1048576: true; the input reads as it did. -/
def fnCachedUptoRow : OpenClaim := { program := "ytggpihbcaebpjaa", sum := "8bb299156c6fe9af909e6484a6e79b67ac0838970f1df881a9245e705cffd915", func := "loop.example/g00083/laws.FnCached", spec := "fnCached", inPlace := ["slices.overlaps[loop.example/g00083/impl.CacheLine]"], unfollowed := true, recurses := true, apart := false, narrowed := true }
def FnCachedUptoSaid : Prop := fnCachedUptoRow.holds Try.pinned (OpenSpec.upto fnCachedSpec)

/-- 'laws.FnExactLayRecord', WHERE WHAT IT READS IS OF BULK AT MOST 1048576: true; the input reads as it did. -/
def fnExactLayRecordUptoRow : OpenClaim := { program := "ytggpihbcaebpjaa", sum := "8bb299156c6fe9af909e6484a6e79b67ac0838970f1df881a9245e705cffd915", func := "loop.example/g00083/laws.FnExactLayRecord", spec := "fnExactLayRecord", inPlace := ["slices.overlaps[int]"], unfollowed := true, recurses := true, apart := false, narrowed := true }
def FnExactLayRecordUptoSaid : Prop := fnExactLayRecordUptoRow.holds Try.pinned (OpenSpec.upto fnExactLayRecordSpec)

/-- 'laws.FnExactDropText', WHERE WHAT IT READS IS OF BULK AT MOST 1048576: true; the input reads as it did. -/
def fnExactDropTextUptoRow : OpenClaim := { program := "ytggpihbcaebpjaa", sum := "8bb299156c6fe9af909e6484a6e79b67ac0838970f1df881a9245e705cffd915", func := "loop.example/g00083/laws.FnExactDropText", spec := "fnExactDropText", inPlace := ["slices.overlaps[int]"], unfollowed := true, recurses := true, apart := false, narrowed := true }
def FnExactDropTextUptoSaid : Prop := fnExactDropTextUptoRow.holds Try.pinned (OpenSpec.upto fnExactDropTextSpec)

/-- 'laws.FnExactLayText', WHERE WHAT IT READS IS OF BULK AT MOST 1048576: true; the input reads as it did. -/
def fnExactLayTextUptoRow : OpenClaim := { program := "ytggpihbcaebpjaa", sum := "8bb299156c6fe9af909e6484a6e79b67ac0838970f1df881a9245e705cffd915", func := "loop.example/g00083/laws.FnExactLayText", spec := "fnExactLayText", inPlace := ["slices.overlaps[int]"], unfollowed := true, recurses := true, apart := false, narrowed := true }
def FnExactLayTextUptoSaid : Prop := fnExactLayTextUptoRow.holds Try.pinned (OpenSpec.upto fnExactLayTextSpec)

/-- 'laws.FnTrees', WHERE WHAT IT READS IS OF BULK AT MOST 1048576: true; the input reads as it did. -/
def fnTreesUptoRow : OpenClaim := { program := "ytggpihbcaebpjaa", sum := "8bb299156c6fe9af909e6484a6e79b67ac0838970f1df881a9245e705cffd915", func := "loop.example/g00083/laws.FnTrees", spec := "fnTrees", inPlace := ["slices.overlaps[int]"], unfollowed := true, recurses := true, apart := false, narrowed := true }
def FnTreesUptoSaid : Prop := fnTreesUptoRow.holds Try.pinned (OpenSpec.upto fnTreesSpec)

/-- 'laws.FnRecords', WHERE WHAT IT READS IS OF BULK AT MOST 1048576: true; the input reads as it did. -/
def fnRecordsUptoRow : OpenClaim := { program := "ytggpihbcaebpjaa", sum := "8bb299156c6fe9af909e6484a6e79b67ac0838970f1df881a9245e705cffd915", func := "loop.example/g00083/laws.FnRecords", spec := "fnRecords", inPlace := ["slices.overlaps[int]"], unfollowed := true, recurses := true, apart := false, narrowed := true }
def FnRecordsUptoSaid : Prop := fnRecordsUptoRow.holds Try.pinned (OpenSpec.upto fnRecordsSpec)

/-- 'laws.FnExactSetKeys', WHERE WHAT IT READS IS OF BULK AT MOST 1048576: true; the input reads as it did. -/
def fnExactSetKeysUptoRow : OpenClaim := { program := "ytggpihbcaebpjaa", sum := "8bb299156c6fe9af909e6484a6e79b67ac0838970f1df881a9245e705cffd915", func := "loop.example/g00083/laws.FnExactSetKeys", spec := "fnExactSetKeys", inPlace := ["slices.overlaps[int]"], unfollowed := true, recurses := true, apart := false, narrowed := true }
def FnExactSetKeysUptoSaid : Prop := fnExactSetKeysUptoRow.holds Try.pinned (OpenSpec.upto fnExactSetKeysSpec)

end Rows
end Go.Proofs.Ytggpihbcaebpjaa
