/-
  No cell of these rows narrows 'for every input' (looked for: loops, veiled, ifaces, maps, wideKeys, modest, calm, conditions, laid).
  DERIVED. THE GIVEN ROWS OF THIS SEAT. 5 by the template 'for every input the law returns true; each argument reads behind the call as it read before'; 0 by the template 'total and deterministic' (their statements: YtijemcbcchnnjaaTotals.lean).
  GIVEN WITH THE SEED: the statements are not yours to turn. If you find one false, say at which input.
  Laid BY PROGRAM, IN A SANDBOX (cutbox-rows.mjs): the forced cells as the released guide's own fill.sh prints them over the translation a6742e1ac3b97f80… (all of the seat's roots in one cut). By AI agents, Wed Nov 11 2026. No macro, syntax, notation, axiom, sorry.
-/
import Derived.Test.YtijemcbcchnnjaaChecked
import GoSem.Claim
import GoSem.ClaimJoined
import GoSem.ClaimMapViews
import Derived.JoinedTies
import Derived.KernelRfl
namespace Go.Proofs.Ytijemcbcchnnjaa
/- THE CELL 'sum', in the pinned program and in every row, IS THE sha256 OF THE DUMP (.gsa) THAT YtijemcbcchnnjaaProg.lean LOADS. Nothing in Lean hashes anything: it is a label: what it is worth is what the hold of that sum in a sandbox is worth. -/
noncomputable def Try.pinned : Pinned := { name := "ytijemcbcchnnjaa", sum := "a6742e1ac3b97f80c6ac2165b05ad3b336d94444b26993e531d2c110264a6172", checked := Try.checked }
namespace Rows
def none {H : Type} : Left H := { results := [], args := [] }

/-- 'laws.FnTrees': WHATEVER THE INPUT: true; the input reads as it did. -/
def fnTreesSpec : ChangeSpec := { name := "fnTrees", fn := fun _ => fun
  | [d] => { results := [.lit (.bool true)], args := [d] }
  | _ => none }
def fnTreesRow : OpenClaim := { program := "ytijemcbcchnnjaa", sum := "a6742e1ac3b97f80c6ac2165b05ad3b336d94444b26993e531d2c110264a6172", func := "loop.example/g00083/laws.FnTrees", spec := "fnTrees", inPlace := ["slices.overlaps[int]"], unfollowed := true, recurses := true, apart := false }
def FnTreesSaid : Prop := fnTreesRow.holds Try.pinned (OpenSpec.ofChange fnTreesSpec)

/-- ITS FALSE NEIGHBOUR: 'it returns false'. Refute it at one input. -/
def fnTreesWrong : ChangeSpec := { name := "fnTrees", fn := fun _ => fun
  | [d] => { results := [.lit (.bool false)], args := [d] }
  | _ => none }
def FnTreesWrongFalsely : Prop := fnTreesRow.holds Try.pinned (OpenSpec.ofChange fnTreesWrong)

/-- 'laws.FnExactSetKeys': WHATEVER THE INPUT: true; the input reads as it did. -/
def fnExactSetKeysSpec : ChangeSpec := { name := "fnExactSetKeys", fn := fun _ => fun
  | [d1, d2, d3] => { results := [.lit (.bool true)], args := [d1, d2, d3] }
  | _ => none }
def fnExactSetKeysRow : OpenClaim := { program := "ytijemcbcchnnjaa", sum := "a6742e1ac3b97f80c6ac2165b05ad3b336d94444b26993e531d2c110264a6172", func := "loop.example/g00083/laws.FnExactSetKeys", spec := "fnExactSetKeys", inPlace := ["slices.overlaps[int]"], unfollowed := true, recurses := true, apart := false }
def FnExactSetKeysSaid : Prop := fnExactSetKeysRow.holds Try.pinned (OpenSpec.ofChange fnExactSetKeysSpec)

/-- ITS FALSE NEIGHBOUR: 'it returns false'. Refute it at one input. -/
def fnExactSetKeysWrong : ChangeSpec := { name := "fnExactSetKeys", fn := fun _ => fun
  | [d1, d2, d3] => { results := [.lit (.bool false)], args := [d1, d2, d3] }
  | _ => none }
def FnExactSetKeysWrongFalsely : Prop := fnExactSetKeysRow.holds Try.pinned (OpenSpec.ofChange fnExactSetKeysWrong)

/-- 'laws.FnExactCacheWrite': WHATEVER THE INPUT: true; the input reads as it did. -/
def fnExactCacheWriteSpec : ChangeSpec := { name := "fnExactCacheWrite", fn := fun _ => fun
  | [d1, d2, d3, d4] => { results := [.lit (.bool true)], args := [d1, d2, d3, d4] }
  | _ => none }
def fnExactCacheWriteRow : OpenClaim := { program := "ytijemcbcchnnjaa", sum := "a6742e1ac3b97f80c6ac2165b05ad3b336d94444b26993e531d2c110264a6172", func := "loop.example/g00083/laws.FnExactCacheWrite", spec := "fnExactCacheWrite", inPlace := ["slices.overlaps[loop.example/g00083/impl.CacheLine]"], unfollowed := true, recurses := true, apart := false }
def FnExactCacheWriteSaid : Prop := fnExactCacheWriteRow.holds Try.pinned (OpenSpec.ofChange fnExactCacheWriteSpec)

/-- ITS FALSE NEIGHBOUR: 'it returns false'. Refute it at one input. -/
def fnExactCacheWriteWrong : ChangeSpec := { name := "fnExactCacheWrite", fn := fun _ => fun
  | [d1, d2, d3, d4] => { results := [.lit (.bool false)], args := [d1, d2, d3, d4] }
  | _ => none }
def FnExactCacheWriteWrongFalsely : Prop := fnExactCacheWriteRow.holds Try.pinned (OpenSpec.ofChange fnExactCacheWriteWrong)

/-- 'laws.FnExactCacheRead': WHATEVER THE INPUT: true; the input reads as it did. -/
def fnExactCacheReadSpec : ChangeSpec := { name := "fnExactCacheRead", fn := fun _ => fun
  | [d1, d2, d3] => { results := [.lit (.bool true)], args := [d1, d2, d3] }
  | _ => none }
def fnExactCacheReadRow : OpenClaim := { program := "ytijemcbcchnnjaa", sum := "a6742e1ac3b97f80c6ac2165b05ad3b336d94444b26993e531d2c110264a6172", func := "loop.example/g00083/laws.FnExactCacheRead", spec := "fnExactCacheRead", inPlace := ["slices.overlaps[loop.example/g00083/impl.CacheLine]"], unfollowed := true, recurses := true, apart := false }
def FnExactCacheReadSaid : Prop := fnExactCacheReadRow.holds Try.pinned (OpenSpec.ofChange fnExactCacheReadSpec)

/-- ITS FALSE NEIGHBOUR: 'it returns false'. Refute it at one input. -/
def fnExactCacheReadWrong : ChangeSpec := { name := "fnExactCacheRead", fn := fun _ => fun
  | [d1, d2, d3] => { results := [.lit (.bool false)], args := [d1, d2, d3] }
  | _ => none }
def FnExactCacheReadWrongFalsely : Prop := fnExactCacheReadRow.holds Try.pinned (OpenSpec.ofChange fnExactCacheReadWrong)

/-- 'laws.FnCached': WHATEVER THE INPUT: true; the input reads as it did. -/
def fnCachedSpec : ChangeSpec := { name := "fnCached", fn := fun _ => fun
  | [d] => { results := [.lit (.bool true)], args := [d] }
  | _ => none }
def fnCachedRow : OpenClaim := { program := "ytijemcbcchnnjaa", sum := "a6742e1ac3b97f80c6ac2165b05ad3b336d94444b26993e531d2c110264a6172", func := "loop.example/g00083/laws.FnCached", spec := "fnCached", inPlace := ["slices.overlaps[loop.example/g00083/impl.CacheLine]"], unfollowed := true, recurses := true, apart := false }
def FnCachedSaid : Prop := fnCachedRow.holds Try.pinned (OpenSpec.ofChange fnCachedSpec)

/-- ITS FALSE NEIGHBOUR: 'it returns false'. Refute it at one input. -/
def fnCachedWrong : ChangeSpec := { name := "fnCached", fn := fun _ => fun
  | [d] => { results := [.lit (.bool false)], args := [d] }
  | _ => none }
def FnCachedWrongFalsely : Prop := fnCachedRow.holds Try.pinned (OpenSpec.ofChange fnCachedWrong)

/- THE SECOND FORM. 'bulk': how many values and letters a reading holds, each counted each time it is reached (what is shared counts as often as it is met; a slice's spare places count too). A statement '..UptoSaid' is the law's where the arguments, and the package variables that the reading takes, are together of bulk at most 1048576: NARROWER than '..Said'. Prove '..Said' where nothing that the law and all that it calls make is longer than what came in: it says more and counts as full. Else prove '..UptoSaid'. A law counts once. -/
mutual
def uptoBulk {H : Type} : DataW H → Nat
  | .lit (.string bytes) => bytes.length + 1
  | .lit _ => 1
  | .nil => 1
  | .ptr d => uptoBulk d + 1
  | .slice elems spare => uptoBulkAll elems + uptoBulkAll spare + 1
  | .agg parts => uptoBulkAll parts + 1
  | .iface _ d => uptoBulk d + 1
  | .map entries => uptoBulkEntries entries + 1
  | .held _ => 1
def uptoBulkAll {H : Type} : List (DataW H) → Nat
  | [] => 0
  | d :: r => uptoBulk d + uptoBulkAll r
def uptoBulkEntries {H : Type} : List (Lit × DataW H) → Nat
  | [] => 0
  | x :: r => uptoBulkEntry x + uptoBulkEntries r
def uptoBulkEntry {H : Type} : Lit × DataW H → Nat
  | (.string bytes, d) => bytes.length + uptoBulk d + 1
  | (_, d) => uptoBulk d + 1
 end
def uptoSmall : (H : Type) → List (DataW H) → Bool := fun _ ds => decide (uptoBulkAll ds ≤ 1048576)
def OpenSpec.upto (s : _root_.Go.ChangeSpec) : _root_.Go.OpenSpec := { _root_.Go.OpenSpec.ofChange s with cond := some uptoSmall }

/-- 'laws.FnTrees', WHERE WHAT IT READS IS OF BULK AT MOST 1048576: true; the input reads as it did. -/
def fnTreesUptoRow : OpenClaim := { program := "ytijemcbcchnnjaa", sum := "a6742e1ac3b97f80c6ac2165b05ad3b336d94444b26993e531d2c110264a6172", func := "loop.example/g00083/laws.FnTrees", spec := "fnTrees", inPlace := ["slices.overlaps[int]"], unfollowed := true, recurses := true, apart := false, narrowed := true }
def FnTreesUptoSaid : Prop := fnTreesUptoRow.holds Try.pinned (OpenSpec.upto fnTreesSpec)

/-- 'laws.FnExactSetKeys', WHERE WHAT IT READS IS OF BULK AT MOST 1048576: true; the input reads as it did. -/
def fnExactSetKeysUptoRow : OpenClaim := { program := "ytijemcbcchnnjaa", sum := "a6742e1ac3b97f80c6ac2165b05ad3b336d94444b26993e531d2c110264a6172", func := "loop.example/g00083/laws.FnExactSetKeys", spec := "fnExactSetKeys", inPlace := ["slices.overlaps[int]"], unfollowed := true, recurses := true, apart := false, narrowed := true }
def FnExactSetKeysUptoSaid : Prop := fnExactSetKeysUptoRow.holds Try.pinned (OpenSpec.upto fnExactSetKeysSpec)

/-- 'laws.FnExactCacheWrite', WHERE WHAT IT READS IS OF BULK AT MOST 1048576: true; the input reads as it did. -/
def fnExactCacheWriteUptoRow : OpenClaim := { program := "ytijemcbcchnnjaa", sum := "a6742e1ac3b97f80c6ac2165b05ad3b336d94444b26993e531d2c110264a6172", func := "loop.example/g00083/laws.FnExactCacheWrite", spec := "fnExactCacheWrite", inPlace := ["slices.overlaps[loop.example/g00083/impl.CacheLine]"], unfollowed := true, recurses := true, apart := false, narrowed := true }
def FnExactCacheWriteUptoSaid : Prop := fnExactCacheWriteUptoRow.holds Try.pinned (OpenSpec.upto fnExactCacheWriteSpec)

/-- 'laws.FnExactCacheRead', WHERE WHAT IT READS IS OF BULK AT MOST 1048576: true; the input reads as it did. -/
def fnExactCacheReadUptoRow : OpenClaim := { program := "ytijemcbcchnnjaa", sum := "a6742e1ac3b97f80c6ac2165b05ad3b336d94444b26993e531d2c110264a6172", func := "loop.example/g00083/laws.FnExactCacheRead", spec := "fnExactCacheRead", inPlace := ["slices.overlaps[loop.example/g00083/impl.CacheLine]"], unfollowed := true, recurses := true, apart := false, narrowed := true }
def FnExactCacheReadUptoSaid : Prop := fnExactCacheReadUptoRow.holds Try.pinned (OpenSpec.upto fnExactCacheReadSpec)

/-- 'laws.FnCached', WHERE WHAT IT READS IS OF BULK AT MOST 1048576: true; the input reads as it did. -/
def fnCachedUptoRow : OpenClaim := { program := "ytijemcbcchnnjaa", sum := "a6742e1ac3b97f80c6ac2165b05ad3b336d94444b26993e531d2c110264a6172", func := "loop.example/g00083/laws.FnCached", spec := "fnCached", inPlace := ["slices.overlaps[loop.example/g00083/impl.CacheLine]"], unfollowed := true, recurses := true, apart := false, narrowed := true }
def FnCachedUptoSaid : Prop := fnCachedUptoRow.holds Try.pinned (OpenSpec.upto fnCachedSpec)

end Rows
end Go.Proofs.Ytijemcbcchnnjaa
