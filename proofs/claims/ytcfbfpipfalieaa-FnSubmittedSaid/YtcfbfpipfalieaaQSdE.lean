import Derived.Test.YtcfbfpipfalieaaQSdD
import Derived.Test.YtcfbfpipfalieaaProg
import Derived.KernelRfl
import Derived.Test.YtcfbfpipfalieaaRows
import Derived.WalkKit
import Derived.ProofKit
import Derived.OpenShut
import Derived.ShutString
import Derived.ChangeOld
import Derived.Below
set_option linter.unusedVariables false
set_option maxRecDepth 100000
namespace Go.Proofs.Ytcfbfpipfalieaa
open Go.V
def tiL : List TI := [
  .other,
  .other,
  .cell (.int .i64),
  .cell (.int .i64),
  .cell .bool,
  .cell (.int .u8),
  .cell (.int .u8),
  .other,
  .other,
  .cell .str,
  .cell .str,
  .cell .str,
  .cell (.int .u64),
  .other,
  .other,
  .ptr 247,
  .ptr 250,
  .ptr 258,
  .other,
  .other,
  .other,
  .cell (.int .i32),
  .slice 196 [(.int .i64), (.sl true 5 (.int .u8)), .bool, (.int .i64), (.int .i64)] 56,
  .struct [(0, 1, false), (1, 1, false), (2, 1, false)] [(.int .i64), (.int .i64), (.sl true 196 (.pair (.int .i64) (.pair (.sl true 5 (.int .u8)) (.pair .bool (.pair (.int .i64) (.int .i64))))))] false,
  .struct [(0, 1, false), (1, 1, false), (2, 1, false)] [(.int .i64), (.int .i64), (.sl true 196 (.pair (.int .i64) (.pair (.sl true 5 (.int .u8)) (.pair .bool (.pair (.int .i64) (.int .i64))))))] false,
  .slice 43 [(.sl true 5 (.int .u8))] 24,
  .struct [(0, 1, false), (1, 1, false), (2, 1, false), (3, 1, false)] [(.sl true 43 (.sl true 5 (.int .u8))), (.int .i64), .bool, (.int .i64)] false,
  .struct [(0, 1, false), (1, 1, false), (2, 1, false), (3, 1, false)] [(.sl true 43 (.sl true 5 (.int .u8))), (.int .i64), .bool, (.int .i64)] false,
  .other,
  .other,
  .slice 120 [(.int .i64), (.sl true 5 (.int .u8)), .bool, (.int .i64), (.int .i64)] 56,
  .struct [(0, 1, false), (1, 1, false), (2, 1, false)] [(.int .i64), (.int .i64), (.sl true 120 (.pair (.int .i64) (.pair (.sl true 5 (.int .u8)) (.pair .bool (.pair (.int .i64) (.int .i64))))))] false,
  .struct [(0, 1, false), (1, 1, false), (2, 1, false)] [(.int .i64), (.int .i64), (.sl true 120 (.pair (.int .i64) (.pair (.sl true 5 (.int .u8)) (.pair .bool (.pair (.int .i64) (.int .i64))))))] false,
  .other,
  .other,
  .other,
  .struct [(0, 1, false), (1, 1, false), (2, 1, false), (3, 1, false)] [(.sl true 43 (.sl true 5 (.int .u8))), (.int .i64), .bool, (.int .i64)] false,
  .other,
  .other,
  .other,
  .other,
  .other,
  .other,
  .slice 5 [(.int .u8)] 1,
  .slice 144 [(.int .i64), (.int .i64)] 16,
  .slice 55 [(.int .i64), (.int .i64), .str] 32,
  .other,
  .other,
  .other,
  .other,
  .other,
  .other,
  .other,
  .other,
  .struct [(0, 1, false), (1, 1, false), (2, 1, false)] [(.int .i64), (.int .i64), .str] true,
  .struct [(0, 1, false), (1, 1, false), (2, 1, false)] [(.int .i64), (.int .i64), .str] true,
  .other,
  .other,
  .other,
  .other,
  .other,
  .slice 215 [(.int .i64), (.int .i64)] 16,
  .slice 213 [(.sl true 179 (.pair (.int .i64) (.pair (.int .i64) .str)))] 24,
  .struct [(0, 1, false), (1, 1, false), (2, 1, false), (3, 1, false)] [(.int .i64), .str, (.sl true 215 (.pair (.int .i64) (.int .i64))), (.sl true 213 (.sl true 179 (.pair (.int .i64) (.pair (.int .i64) .str))))] false,
  .struct [(0, 1, false), (1, 1, false), (2, 1, false), (3, 1, false)] [(.int .i64), .str, (.sl true 215 (.pair (.int .i64) (.int .i64))), (.sl true 213 (.sl true 179 (.pair (.int .i64) (.pair (.int .i64) .str))))] false,
  .other,
  .other,
  .other,
  .slice 93 [(.sl true 55 (.pair (.int .i64) (.pair (.int .i64) .str)))] 24,
  .struct [(0, 1, false), (1, 1, false), (2, 1, false), (3, 1, false)] [(.int .i64), .str, (.sl true 144 (.pair (.int .i64) (.int .i64))), (.sl true 93 (.sl true 55 (.pair (.int .i64) (.pair (.int .i64) .str))))] false,
  .struct [(0, 1, false), (1, 1, false), (2, 1, false), (3, 1, false)] [(.int .i64), .str, (.sl true 144 (.pair (.int .i64) (.int .i64))), (.sl true 93 (.sl true 55 (.pair (.int .i64) (.pair (.int .i64) .str))))] false,
  .other,
  .other,
  .other,
  .other,
  .other,
  .other,
  .other,
  .other,
  .other,
  .other,
  .other,
  .other,
  .other,
  .other,
  .other,
  .other,
  .other,
  .other,
  .other,
  .other,
  .other,
  .struct [(0, 1, false)] [(.sl true 55 (.pair (.int .i64) (.pair (.int .i64) .str)))] false,
  .struct [(0, 1, false)] [(.sl true 55 (.pair (.int .i64) (.pair (.int .i64) .str)))] false,
  .other,
  .other,
  .slice 179 [(.int .i64), (.int .i64), .str] 32,
  .other,
  .other,
  .other,
  .other,
  .other,
  .other,
  .other,
  .other,
  .other,
  .other,
  .other,
  .other,
  .other,
  .other,
  .other,
  .other,
  .cell (.int .u64),
  .other,
  .other,
  .other,
  .other,
  .other,
  .struct [(0, 1, false), (1, 1, false), (2, 1, false), (3, 1, false), (4, 1, false)] [(.int .i64), (.sl true 5 (.int .u8)), .bool, (.int .i64), (.int .i64)] false,
  .struct [(0, 1, false), (1, 1, false), (2, 1, false), (3, 1, false), (4, 1, false)] [(.int .i64), (.sl true 5 (.int .u8)), .bool, (.int .i64), (.int .i64)] false,
  .other,
  .other,
  .other,
  .other,
  .other,
  .other,
  .other,
  .other,
  .other,
  .ptr 133,
  .cell (.int .u64),
  .struct [(0, 1, false), (1, 1, false), (2, 1, false)] [(.sl true 5 (.int .u8)), (.int .i64), (.int .u64)] false,
  .struct [(0, 1, false), (1, 1, false), (2, 1, false)] [(.sl true 5 (.int .u8)), (.int .i64), (.int .u64)] false,
  .other,
  .other,
  .other,
  .other,
  .slice 3 [(.int .i64)] 8,
  .other,
  .other,
  .other,
  .other,
  .struct [(0, 1, false), (1, 1, false)] [(.int .i64), (.int .i64)] true,
  .struct [(0, 1, false), (1, 1, false)] [(.int .i64), (.int .i64)] true,
  .other,
  .other,
  .other,
  .other,
  .other,
  .other,
  .other,
  .other,
  .other,
  .other,
  .other,
  .other,
  .other,
  .other,
  .other,
  .other,
  .other,
  .other,
  .other,
  .other,
  .other,
  .other,
  .other,
  .other,
  .other,
  .other,
  .other,
  .cell (.int .u32),
  .other,
  .other,
  .other,
  .other,
  .other,
  .other,
  .struct [(0, 1, false), (1, 1, false), (2, 1, false)] [(.int .i64), (.int .i64), .str] true,
  .other,
  .other,
  .other,
  .other,
  .other,
  .other,
  .ptr 188,
  .struct [(0, 1, false), (1, 1, false), (2, 1, false)] [(.sl true 5 (.int .u8)), (.int .i64), .bool] false,
  .struct [(0, 1, false), (1, 1, false), (2, 1, false)] [(.sl true 5 (.int .u8)), (.int .i64), .bool] false,
  .other,
  .other,
  .other,
  .ptr 194,
  .struct [(0, 1, false), (1, 1, false)] [(.sl true 5 (.int .u8)), .bool] false,
  .struct [(0, 1, false), (1, 1, false)] [(.sl true 5 (.int .u8)), .bool] false,
  .other,
  .struct [(0, 1, false), (1, 1, false), (2, 1, false), (3, 1, false), (4, 1, false)] [(.int .i64), (.sl true 5 (.int .u8)), .bool, (.int .i64), (.int .i64)] false,
  .other,
  .other,
  .other,
  .other,
  .ptr 32,
  .other,
  .other,
  .other,
  .other,
  .other,
  .other,
  .other,
  .other,
  .other,
  .other,
  .struct [(0, 1, false)] [(.sl true 179 (.pair (.int .i64) (.pair (.int .i64) .str)))] false,
  .struct [(0, 1, false)] [(.sl true 179 (.pair (.int .i64) (.pair (.int .i64) .str)))] false,
  .other,
  .struct [(0, 1, false), (1, 1, false)] [(.int .i64), (.int .i64)] true,
  .other,
  .other,
  .other,
  .slice 4 [.bool] 1,
  .slice 9 [.str] 16,
  .struct [(0, 1, false), (1, 1, false)] [(.sl true 4 .bool), (.sl true 9 .str)] false,
  .struct [(0, 1, false), (1, 1, false)] [(.sl true 4 .bool), (.sl true 9 .str)] false,
  .other,
  .struct [(0, 1, false), (1, 1, false)] [(.sl true 4 .bool), (.sl true 9 .str)] false,
  .struct [(0, 1, false), (1, 1, false)] [(.sl true 4 .bool), (.sl true 9 .str)] false,
  .other,
  .other,
  .other,
  .other,
  .struct [(0, 1, false)] [(.sl true 55 (.pair (.int .i64) (.pair (.int .i64) .str)))] false,
  .struct [(0, 1, false)] [(.sl true 55 (.pair (.int .i64) (.pair (.int .i64) .str)))] false,
  .other,
  .other,
  .other,
  .other,
  .other,
  .other,
  .other,
  .other,
  .other,
  .ptr 231,
  .ptr 55,
  .other,
  .other,
  .other,
  .other,
  .other,
  .other,
  .other,
  .other,
  .cell (.int .u8),
  .cell (.int .u8),
  .other,
  .ptr 5,
  .cell (.int .i32),
  .cell (.int .i32),
  .other,
  .other,
  .other]
def ti (t : TypeId) : TI := tiL.getD t .other
theorem tab : TabOk Try.prog ti := tabOf Try.prog tiL (by kernel_rfl)
theorem mix : Try.prog.follows .mixedOrders = true := by kernel_rfl
end Go.Proofs.Ytcfbfpipfalieaa

set_option maxRecDepth 100000
namespace Go.Proofs.Ytcfbfpipfalieaa
open Go.V
theorem own : ownKnob Try.prog.godebug = none := by kernel_rfl
theorem laidOut : laidOutB Try.prog = true := by kernel_rfl
theorem tab2 : ∀ t, tyOk2 Try.prog ti t (ti t) = true := tabOf2 Try.prog tiL (by kernel_rfl)
end Go.Proofs.Ytcfbfpipfalieaa

set_option linter.unusedVariables false
set_option maxRecDepth 100000
namespace Go.Proofs.Ytcfbfpipfalieaa
open Go.V
noncomputable section
def J_s_l10New : Joins := [(.r, ⟨[.int .i64, .str], [(0, .pl 0 0)], [(0, [.h 0, .h 1, .nil, .nil])], [], [], []⟩)]
def ann_s_l10New : Ann := .nil
def env_s_l10New : Env := envOf ti [] []
theorem eok_s_l10New : EnvOk Try.prog env_s_l10New := envOf_ok tab mix _ _ (by
  intro k hk; cases hk)
theorem v_s_l10New  : (vfun env_s_l10New Try.f210 J_s_l10New ann_s_l10New [] [] []).run = (G.s_l10New ).bind fun y => some (Res.mk [.ag [⟨.int .i64, y.1⟩, ⟨.str, y.2⟩, ⟨.sl true 144 (.pair (.int .i64) (.int .i64)), []⟩, ⟨.sl true 93 (.sl true 55 (.pair (.int .i64) (.pair (.int .i64) .str))), []⟩]] [] []) := by kernel_rfl
def k_s_l10New : Kn := ⟨210, [], fun args rows => match args, rows with
  | [], [] => some ⟨_, G.s_l10New , fun y => ⟨[.ag [⟨.int .i64, y.1⟩, ⟨.str, y.2⟩, ⟨.sl true 144 (.pair (.int .i64) (.int .i64)), []⟩, ⟨.sl true 93 (.sl true 55 (.pair (.int .i64) (.pair (.int .i64) .str))), []⟩]], [], []⟩⟩
  | _, _ => none, []⟩
theorem s_s_l10New : KnOk Try.prog k_s_l10New := by
  intro args rows a h y hy
  simp only [k_s_l10New] at h
  split at h
  · injection h with h
    subst h
    exact vfun_ok eok_s_l10New Try.func210 rfl (by rw [v_s_l10New]; simp only at hy; rw [hy]; rfl)
  · cases h
def J_s_l1Cur_next_f : Joins := [(.r, ⟨[.int .i64, .sl false 5 (.int .u8), .int .i64, .int .u64], [(2, .one (.h 0))], [(63, [.h 1, .h 2, .h 3])], [], [], []⟩)]
def ann_s_l1Cur_next_f : Ann := .seq .nil (.seq .nil (.seq (.seq .nil (.cond [(.n, ⟨[.int .i64, .sl false 5 (.int .u8), .int .i64, .int .u64], [(0, .pl 63 0), (3, .one (.h 0))], [(63, [.h 1, .h 2, .h 3])], [], [], []⟩)] .nil .nil)) .nil))
def env_s_l1Cur_next_f : Env := envOf ti [] []
theorem eok_s_l1Cur_next_f : EnvOk Try.prog env_s_l1Cur_next_f := envOf_ok tab mix _ _ (by
  intro k hk; cases hk)
theorem v_s_l1Cur_next_f (x0 : List Int) (x1 : Int) (x2 : Int) : (vfun env_s_l1Cur_next_f Try.f189 J_s_l1Cur_next_f ann_s_l1Cur_next_f [] [.pl 0 0] [[⟨.sl false 5 (.int .u8), x0⟩, ⟨.int .i64, x1⟩, ⟨.int .u64, x2⟩]]).run = (G.s_l1Cur_next_f x0 x1 x2).bind fun y => some (Res.mk [.one ⟨.int .i64, y.1⟩] [[⟨.sl false 5 (.int .u8), y.2.1⟩, ⟨.int .i64, y.2.2.1⟩, ⟨.int .u64, y.2.2.2⟩]] []) := by kernel_rfl
def k_s_l1Cur_next_f : Kn := ⟨189, [0], fun args rows => match args, rows with
  | [.pl 0 0], [[⟨.sl false 5 (.int .u8), x0⟩, ⟨.int .i64, x1⟩, ⟨.int .u64, x2⟩]] => some ⟨_, G.s_l1Cur_next_f x0 x1 x2, fun y => ⟨[.one ⟨.int .i64, y.1⟩], [[⟨.sl false 5 (.int .u8), y.2.1⟩, ⟨.int .i64, y.2.2.1⟩, ⟨.int .u64, y.2.2.2⟩]], []⟩⟩
  | _, _ => none, []⟩
theorem s_s_l1Cur_next_f : KnOk Try.prog k_s_l1Cur_next_f := by
  intro args rows a h y hy
  simp only [k_s_l1Cur_next_f] at h
  split at h
  · injection h with h
    subst h
    exact vfun_ok eok_s_l1Cur_next_f Try.func189 rfl (by rw [v_s_l1Cur_next_f]; simp only at hy; rw [hy]; rfl)
  · cases h
def J_s_l1Cur_pick_f : Joins := [(.r, ⟨[.int .i64, .sl false 5 (.int .u8), .int .i64, .int .u64], [(4, .one (.h 0))], [(21, [.h 1, .h 2, .h 3])], [], [], []⟩)]
def ann_s_l1Cur_pick_f : Ann := .seq .nil (.seq .nil (.seq .nil (.seq (.seq .nil (.cond [(.n, ⟨[.int .i64, .int .i64, .sl false 5 (.int .u8), .int .i64, .int .u64], [(1, .one (.h 0)), (5, .one (.h 1))], [(21, [.h 2, .h 3, .h 4])], [], [], []⟩)] .nil .nil)) .nil)))
def env_s_l1Cur_pick_f : Env := envOf ti [k_s_l1Cur_next_f] []
theorem eok_s_l1Cur_pick_f : EnvOk Try.prog env_s_l1Cur_pick_f := envOf_ok tab mix _ _ (by
  intro k hk
  simp only [List.mem_cons, List.not_mem_nil, or_false] at hk
  rcases hk with rfl
  · exact s_s_l1Cur_next_f)
theorem v_s_l1Cur_pick_f (x0 : Int) (x1 : List Int) (x2 : Int) (x3 : Int) : (vfun env_s_l1Cur_pick_f Try.f105 J_s_l1Cur_pick_f ann_s_l1Cur_pick_f [] [.pl 0 0, .one ⟨.int .i64, x0⟩] [[⟨.sl false 5 (.int .u8), x1⟩, ⟨.int .i64, x2⟩, ⟨.int .u64, x3⟩]]).run = (G.s_l1Cur_pick_f x0 x1 x2 x3).bind fun y => some (Res.mk [.one ⟨.int .i64, y.1⟩] [[⟨.sl false 5 (.int .u8), y.2.1⟩, ⟨.int .i64, y.2.2.1⟩, ⟨.int .u64, y.2.2.2⟩]] []) := by kernel_rfl
def k_s_l1Cur_pick_f : Kn := ⟨105, [0, 0], fun args rows => match args, rows with
  | [.pl 0 0, .one ⟨.int .i64, x0⟩], [[⟨.sl false 5 (.int .u8), x1⟩, ⟨.int .i64, x2⟩, ⟨.int .u64, x3⟩]] => some ⟨_, G.s_l1Cur_pick_f x0 x1 x2 x3, fun y => ⟨[.one ⟨.int .i64, y.1⟩], [[⟨.sl false 5 (.int .u8), y.2.1⟩, ⟨.int .i64, y.2.2.1⟩, ⟨.int .u64, y.2.2.2⟩]], []⟩⟩
  | _, _ => none, []⟩
theorem s_s_l1Cur_pick_f : KnOk Try.prog k_s_l1Cur_pick_f := by
  intro args rows a h y hy
  simp only [k_s_l1Cur_pick_f] at h
  split at h
  · injection h with h
    subst h
    exact vfun_ok eok_s_l1Cur_pick_f Try.func105 rfl (by rw [v_s_l1Cur_pick_f]; simp only at hy; rw [hy]; rfl)
  · cases h
def J_s_l1Cur_one_f : Joins := [(.r, ⟨[.bool, .sl false 5 (.int .u8), .int .i64, .int .u64], [(4, .one (.h 0))], [(10, [.h 1, .h 2, .h 3])], [], [], []⟩)]
def ann_s_l1Cur_one_f : Ann := .nil
def env_s_l1Cur_one_f : Env := envOf ti [k_s_l1Cur_pick_f] []
theorem eok_s_l1Cur_one_f : EnvOk Try.prog env_s_l1Cur_one_f := envOf_ok tab mix _ _ (by
  intro k hk
  simp only [List.mem_cons, List.not_mem_nil, or_false] at hk
  rcases hk with rfl
  · exact s_s_l1Cur_pick_f)
theorem v_s_l1Cur_one_f (x0 : Int) (x1 : List Int) (x2 : Int) (x3 : Int) : (vfun env_s_l1Cur_one_f Try.f104 J_s_l1Cur_one_f ann_s_l1Cur_one_f [] [.pl 0 0, .one ⟨.int .i64, x0⟩] [[⟨.sl false 5 (.int .u8), x1⟩, ⟨.int .i64, x2⟩, ⟨.int .u64, x3⟩]]).run = (G.s_l1Cur_one_f x0 x1 x2 x3).bind fun y => some (Res.mk [.one ⟨.bool, y.1⟩] [[⟨.sl false 5 (.int .u8), y.2.1⟩, ⟨.int .i64, y.2.2.1⟩, ⟨.int .u64, y.2.2.2⟩]] []) := by kernel_rfl
def k_s_l1Cur_one_f : Kn := ⟨104, [0, 0], fun args rows => match args, rows with
  | [.pl 0 0, .one ⟨.int .i64, x0⟩], [[⟨.sl false 5 (.int .u8), x1⟩, ⟨.int .i64, x2⟩, ⟨.int .u64, x3⟩]] => some ⟨_, G.s_l1Cur_one_f x0 x1 x2 x3, fun y => ⟨[.one ⟨.bool, y.1⟩], [[⟨.sl false 5 (.int .u8), y.2.1⟩, ⟨.int .i64, y.2.2.1⟩, ⟨.int .u64, y.2.2.2⟩]], []⟩⟩
  | _, _ => none, []⟩
theorem s_s_l1Cur_one_f : KnOk Try.prog k_s_l1Cur_one_f := by
  intro args rows a h y hy
  simp only [k_s_l1Cur_one_f] at h
  split at h
  · injection h with h
    subst h
    exact vfun_ok eok_s_l1Cur_one_f Try.func104 rfl (by rw [v_s_l1Cur_one_f]; simp only at hy; rw [hy]; rfl)
  · cases h
def J_s_l1Cur_textOf_f : Joins := [(.r, ⟨[.str, .sl false 5 (.int .u8), .int .i64, .int .u64], [(4, .one (.h 0))], [(25, [.h 1, .h 2, .h 3])], [], [], []⟩)]
def ann_s_l1Cur_textOf_f : Ann := .seq .nil (.seq .nil (.seq (.seq .nil (.block [] (.loop ⟨[.sl true 5 (.int .u8), .int .i64, .int .i64, .sl false 5 (.int .u8), .int .i64, .int .u64], [(0, .pl 25 0), (5, .one (.vw 126976)), (10, .one (.h 1)), (11, .one (.h 2))], [(25, [.h 3, .h 4, .h 5])], [(126976, 0)], [], []⟩ [(.x 0, ⟨[.sl true 5 (.int .u8), .sl false 5 (.int .u8), .int .i64, .int .u64], [(5, .one (.vw 127040))], [(25, [.h 1, .h 2, .h 3])], [(127040, 0)], [], []⟩)] .nil))) .nil))
def env_s_l1Cur_textOf_f : Env := envOf ti [k_s_l1Cur_pick_f] []
theorem eok_s_l1Cur_textOf_f : EnvOk Try.prog env_s_l1Cur_textOf_f := envOf_ok tab mix _ _ (by
  intro k hk
  simp only [List.mem_cons, List.not_mem_nil, or_false] at hk
  rcases hk with rfl
  · exact s_s_l1Cur_pick_f)
theorem v_s_l1Cur_textOf_f (x0 : Int) (x1 : List Int) (x2 : Int) (x3 : Int) : (vfun env_s_l1Cur_textOf_f Try.f211 J_s_l1Cur_textOf_f ann_s_l1Cur_textOf_f [] [.pl 0 0, .one ⟨.int .i64, x0⟩] [[⟨.sl false 5 (.int .u8), x1⟩, ⟨.int .i64, x2⟩, ⟨.int .u64, x3⟩]]).run = (G.s_l1Cur_textOf_f x0 x1 x2 x3).bind fun y => some (Res.mk [.one ⟨.str, y.1⟩] [[⟨.sl false 5 (.int .u8), y.2.1⟩, ⟨.int .i64, y.2.2.1⟩, ⟨.int .u64, y.2.2.2⟩]] []) := by kernel_rfl
def k_s_l1Cur_textOf_f : Kn := ⟨211, [0, 0], fun args rows => match args, rows with
  | [.pl 0 0, .one ⟨.int .i64, x0⟩], [[⟨.sl false 5 (.int .u8), x1⟩, ⟨.int .i64, x2⟩, ⟨.int .u64, x3⟩]] => some ⟨_, G.s_l1Cur_textOf_f x0 x1 x2 x3, fun y => ⟨[.one ⟨.str, y.1⟩], [[⟨.sl false 5 (.int .u8), y.2.1⟩, ⟨.int .i64, y.2.2.1⟩, ⟨.int .u64, y.2.2.2⟩]], []⟩⟩
  | _, _ => none, []⟩
theorem s_s_l1Cur_textOf_f : KnOk Try.prog k_s_l1Cur_textOf_f := by
  intro args rows a h y hy
  simp only [k_s_l1Cur_textOf_f] at h
  split at h
  · injection h with h
    subst h
    exact vfun_ok eok_s_l1Cur_textOf_f Try.func211 rfl (by rw [v_s_l1Cur_textOf_f]; simp only at hy; rw [hy]; rfl)
  · cases h
def J_s_l9Add : Joins := [(.r, ⟨[.sl true 144 (.pair (.int .i64) (.int .i64))], [(4, .one (.vw 144385))], [], [(144385, 0)], [], []⟩)]
def ann_s_l9Add : Ann := .seq .nil (.seq .nil (.seq (.seq .nil (.seq (.reg [(.n, ⟨[.sl true 144 (.pair (.int .i64) (.int .i64)), .int .i64, .bool, .int .i64, .int .i64], [(0, .one (.vw 144384)), (3, .pl 3 0), (5, .one (.h 1)), (24, .one (.h 2))], [(3, [.h 3, .h 4])], [(144384, 0)], [], []⟩)]) .nil)) .nil))
def env_s_l9Add : Env := envOf ti [] []
theorem eok_s_l9Add : EnvOk Try.prog env_s_l9Add := envOf_ok tab mix _ _ (by
  intro k hk; cases hk)
theorem v_s_l9Add (x0 : List (Int × Int)) (x1 : Int) (x2 : Int) : (vfun env_s_l9Add Try.f190 J_s_l9Add ann_s_l9Add [] [.one ⟨.sl true 144 (.pair (.int .i64) (.int .i64)), x0⟩, .ag [⟨.int .i64, x1⟩, ⟨.int .i64, x2⟩]] []).run = (G.s_l9Add x0 x1 x2).bind fun y => some (Res.mk [.one ⟨.sl true 144 (.pair (.int .i64) (.int .i64)), y⟩] [] []) := by kernel_rfl
def k_s_l9Add : Kn := ⟨190, [1, 0], fun args rows => match args, rows with
  | [.one ⟨.sl true 144 (.pair (.int .i64) (.int .i64)), x0⟩, .ag [⟨.int .i64, x1⟩, ⟨.int .i64, x2⟩]], [] => some ⟨_, G.s_l9Add x0 x1 x2, fun y => ⟨[.one ⟨.sl true 144 (.pair (.int .i64) (.int .i64)), y⟩], [], []⟩⟩
  | _, _ => none, []⟩
theorem s_s_l9Add : KnOk Try.prog k_s_l9Add := by
  intro args rows a h y hy
  simp only [k_s_l9Add] at h
  split at h
  · injection h with h
    subst h
    exact vfun_ok eok_s_l9Add Try.func190 rfl (by rw [v_s_l9Add]; simp only at hy; rw [hy]; rfl)
  · cases h
def J_s_l1Cur_among_f : Joins := [(.r, ⟨[.int .i64, .sl false 5 (.int .u8), .int .i64, .int .u64], [(4, .one (.h 0))], [(13, [.h 1, .h 2, .h 3])], [], [], []⟩)]
def ann_s_l1Cur_among_f : Ann := .nil
def env_s_l1Cur_among_f : Env := envOf ti [k_s_l1Cur_pick_f] []
theorem eok_s_l1Cur_among_f : EnvOk Try.prog env_s_l1Cur_among_f := envOf_ok tab mix _ _ (by
  intro k hk
  simp only [List.mem_cons, List.not_mem_nil, or_false] at hk
  rcases hk with rfl
  · exact s_s_l1Cur_pick_f)
theorem v_s_l1Cur_among_f (x0 : List Int) (x1 : List Int) (x2 : Int) (x3 : Int) : (vfun env_s_l1Cur_among_f Try.f106 J_s_l1Cur_among_f ann_s_l1Cur_among_f [] [.pl 0 0, .one ⟨.sl true 3 (.int .i64), x0⟩] [[⟨.sl false 5 (.int .u8), x1⟩, ⟨.int .i64, x2⟩, ⟨.int .u64, x3⟩]]).run = (G.s_l1Cur_among_f x0 x1 x2 x3).bind fun y => some (Res.mk [.one ⟨.int .i64, y.1⟩] [[⟨.sl false 5 (.int .u8), y.2.1⟩, ⟨.int .i64, y.2.2.1⟩, ⟨.int .u64, y.2.2.2⟩]] []) := by kernel_rfl
def k_s_l1Cur_among_f : Kn := ⟨106, [0, 1], fun args rows => match args, rows with
  | [.pl 0 0, .one ⟨.sl true 3 (.int .i64), x0⟩], [[⟨.sl false 5 (.int .u8), x1⟩, ⟨.int .i64, x2⟩, ⟨.int .u64, x3⟩]] => some ⟨_, G.s_l1Cur_among_f x0 x1 x2 x3, fun y => ⟨[.one ⟨.int .i64, y.1⟩], [[⟨.sl false 5 (.int .u8), y.2.1⟩, ⟨.int .i64, y.2.2.1⟩, ⟨.int .u64, y.2.2.2⟩]], []⟩⟩
  | _, _ => none, []⟩
theorem s_s_l1Cur_among_f : KnOk Try.prog k_s_l1Cur_among_f := by
  intro args rows a h y hy
  simp only [k_s_l1Cur_among_f] at h
  split at h
  · injection h with h
    subst h
    exact vfun_ok eok_s_l1Cur_among_f Try.func106 rfl (by rw [v_s_l1Cur_among_f]; simp only at hy; rw [hy]; rfl)
  · cases h
def J_s_l1Cur_runs_f : Joins := [(.r, ⟨[.sl true 144 (.pair (.int .i64) (.int .i64)), .sl false 5 (.int .u8), .int .i64, .int .u64], [(6, .one (.vw 161861))], [(59, [.h 1, .h 2, .h 3])], [(161861, 0)], [], []⟩)]
def ann_s_l1Cur_runs_f : Ann := .seq .nil (.seq .nil (.seq (.block [] (.loop ⟨[.int .i64, .int .i64, .sl true 144 (.pair (.int .i64) (.int .i64)), .sl false 5 (.int .u8), .int .i64, .int .u64], [(0, .pl 59 0), (1, .one (.h 0)), (2, .one (.h 1)), (7, .one (.vw 161792))], [(59, [.h 3, .h 4, .h 5])], [(161792, 2)], [], []⟩ [(.x 0, ⟨[.sl true 144 (.pair (.int .i64) (.int .i64)), .sl false 5 (.int .u8), .int .i64, .int .u64], [(0, .pl 59 0), (7, .one (.vw 161857))], [(59, [.h 1, .h 2, .h 3])], [(161857, 0)], [], []⟩)] (.seq .nil (.block [] (.seq .nil (.seq (.seq .nil (.cond [(.n, ⟨[.int .i64, .int .i64, .sl true 144 (.pair (.int .i64) (.int .i64)), .int .i64, .sl false 5 (.int .u8), .int .i64, .int .u64], [(0, .pl 59 0), (1, .one (.h 0)), (2, .one (.h 1)), (7, .one (.vw 161856)), (8, .one (.h 3))], [(59, [.h 4, .h 5, .h 6])], [(161856, 2)], [], []⟩)] .nil .nil)) .nil)))))) (.seq (.seq .nil (.block [] (.seq .nil (.cond [(.n, ⟨[.sl true 144 (.pair (.int .i64) (.int .i64)), .sl false 5 (.int .u8), .int .i64, .int .u64], [(7, .one (.vw 161860))], [(59, [.h 1, .h 2, .h 3])], [(161860, 0)], [], []⟩)] .nil (.seq .nil (.cond [(.n, ⟨[.sl true 144 (.pair (.int .i64) (.int .i64)), .sl false 5 (.int .u8), .int .i64, .int .u64], [(7, .one (.vw 161859))], [(59, [.h 1, .h 2, .h 3])], [(161859, 0)], [], []⟩)] (.seq .nil (.cond [(.n, ⟨[.sl true 144 (.pair (.int .i64) (.int .i64)), .sl false 5 (.int .u8), .int .i64, .int .u64], [(7, .one (.vw 161858))], [(59, [.h 1, .h 2, .h 3])], [(161858, 0)], [], []⟩)] .nil .nil)) .nil)))))) .nil)))
def env_s_l1Cur_runs_f : Env := envOf ti [k_s_l1Cur_pick_f, k_s_l9Add, k_s_l1Cur_among_f] []
theorem eok_s_l1Cur_runs_f : EnvOk Try.prog env_s_l1Cur_runs_f := envOf_ok tab mix _ _ (by
  intro k hk
  simp only [List.mem_cons, List.not_mem_nil, or_false] at hk
  rcases hk with rfl | rfl | rfl
  · exact s_s_l1Cur_pick_f
  · exact s_s_l9Add
  · exact s_s_l1Cur_among_f)
theorem v_s_l1Cur_runs_f (x0 : Int) (x1 : Int) (x2 : List Int) (x3 : Int) (x4 : Int) : (vfun env_s_l1Cur_runs_f Try.f107 J_s_l1Cur_runs_f ann_s_l1Cur_runs_f [] [.pl 0 0, .one ⟨.int .i64, x0⟩, .one ⟨.int .i64, x1⟩] [[⟨.sl false 5 (.int .u8), x2⟩, ⟨.int .i64, x3⟩, ⟨.int .u64, x4⟩]]).run = (G.s_l1Cur_runs_f x0 x1 x2 x3 x4).bind fun y => some (Res.mk [.one ⟨.sl true 144 (.pair (.int .i64) (.int .i64)), y.1⟩] [[⟨.sl false 5 (.int .u8), y.2.1⟩, ⟨.int .i64, y.2.2.1⟩, ⟨.int .u64, y.2.2.2⟩]] []) := by kernel_rfl
def k_s_l1Cur_runs_f : Kn := ⟨107, [0, 0, 0], fun args rows => match args, rows with
  | [.pl 0 0, .one ⟨.int .i64, x0⟩, .one ⟨.int .i64, x1⟩], [[⟨.sl false 5 (.int .u8), x2⟩, ⟨.int .i64, x3⟩, ⟨.int .u64, x4⟩]] => some ⟨_, G.s_l1Cur_runs_f x0 x1 x2 x3 x4, fun y => ⟨[.one ⟨.sl true 144 (.pair (.int .i64) (.int .i64)), y.1⟩], [[⟨.sl false 5 (.int .u8), y.2.1⟩, ⟨.int .i64, y.2.2.1⟩, ⟨.int .u64, y.2.2.2⟩]], []⟩⟩
  | _, _ => none, []⟩
theorem s_s_l1Cur_runs_f : KnOk Try.prog k_s_l1Cur_runs_f := by
  intro args rows a h y hy
  simp only [k_s_l1Cur_runs_f] at h
  split at h
  · injection h with h
    subst h
    exact vfun_ok eok_s_l1Cur_runs_f Try.func107 rfl (by rw [v_s_l1Cur_runs_f]; simp only at hy; rw [hy]; rfl)
  · cases h
def J_s_l1In : Joins := [(.r, ⟨[.bool], [(6, .one (.h 0))], [], [], [], []⟩)]
def ann_s_l1In : Ann := .seq .nil (.seq (.reg [(.n, ⟨[.bool], [(6, .one (.h 0))], [], [], [], []⟩)]) .nil)
def env_s_l1In : Env := envOf ti [] []
theorem eok_s_l1In : EnvOk Try.prog env_s_l1In := envOf_ok tab mix _ _ (by
  intro k hk; cases hk)
theorem v_s_l1In (x0 : Int) (x1 : Int) (x2 : Int) : (vfun env_s_l1In Try.f88 J_s_l1In ann_s_l1In [] [.one ⟨.int .i64, x0⟩, .one ⟨.int .i64, x1⟩, .one ⟨.int .i64, x2⟩] []).run = (G.s_l1In x0 x1 x2).bind fun y => some (Res.mk [.one ⟨.bool, y⟩] [] []) := by kernel_rfl
def k_s_l1In : Kn := ⟨88, [0, 0, 0], fun args rows => match args, rows with
  | [.one ⟨.int .i64, x0⟩, .one ⟨.int .i64, x1⟩, .one ⟨.int .i64, x2⟩], [] => some ⟨_, G.s_l1In x0 x1 x2, fun y => ⟨[.one ⟨.bool, y⟩], [], []⟩⟩
  | _, _ => none, []⟩
theorem s_s_l1In : KnOk Try.prog k_s_l1In := by
  intro args rows a h y hy
  simp only [k_s_l1In] at h
  split at h
  · injection h with h
    subst h
    exact vfun_ok eok_s_l1In Try.func88 rfl (by rw [v_s_l1In]; simp only at hy; rw [hy]; rfl)
  · cases h
def J_s_GoodRuns : Joins := [(.r, ⟨[.bool], [(6, .one (.h 0))], [], [], [], []⟩)]
def ann_s_GoodRuns : Ann := .seq .nil (.seq (.seq (.reg [(.n, ⟨[.sl false 144 (.pair (.int .i64) (.int .i64)), .int .i64, .int .i64, .bool], [(0, .one (.h 0)), (1, .one (.h 1)), (2, .one (.h 2)), (17, .one (.h 3))], [], [], [], []⟩)]) .nil) (.seq .nil (.seq (.seq .nil (.block [] (.loop ⟨[.sl false 144 (.pair (.int .i64) (.int .i64)), .int .i64, .int .i64, .int .i64, .sl false 144 (.pair (.int .i64) (.int .i64)), .int .i64, .int .i64], [(0, .one (.h 0)), (1, .one (.h 1)), (2, .one (.h 2)), (7, .one (.h 3)), (18, .one (.h 4)), (19, .one (.h 5)), (20, .one (.h 6))], [], [], [], []⟩ [(.x 0, ⟨[.int .i64, .int .i64], [(1, .one (.h 0)), (7, .one (.h 1))], [], [], [], []⟩), (.r, ⟨[.bool], [(6, .one (.h 0))], [], [], [], []⟩)] (.seq .nil (.seq .nil (.seq (.block [] (.seq .nil (.seq (.seq (.reg [(.n, ⟨[.sl false 144 (.pair (.int .i64) (.int .i64)), .int .i64, .int .i64, .int .i64, .sl false 144 (.pair (.int .i64) (.int .i64)), .int .i64, .int .i64, .bool, .int .i64, .int .i64], [(0, .one (.h 0)), (1, .one (.h 1)), (2, .one (.h 2)), (7, .one (.h 3)), (9, .pl 9 0), (18, .one (.h 4)), (19, .one (.h 5)), (20, .one (.h 6)), (53, .one (.h 7))], [(9, [.h 8, .h 9])], [], [], []⟩)]) .nil) .nil))) .nil)))))) .nil)))
def env_s_GoodRuns : Env := envOf ti [k_s_l1In] []
theorem eok_s_GoodRuns : EnvOk Try.prog env_s_GoodRuns := envOf_ok tab mix _ _ (by
  intro k hk
  simp only [List.mem_cons, List.not_mem_nil, or_false] at hk
  rcases hk with rfl
  · exact s_s_l1In)
theorem v_s_GoodRuns (x0 : List (Int × Int)) (x1 : Int) (x2 : Int) : (vfun env_s_GoodRuns Try.f111 J_s_GoodRuns ann_s_GoodRuns [] [.one ⟨.sl false 144 (.pair (.int .i64) (.int .i64)), x0⟩, .one ⟨.int .i64, x1⟩, .one ⟨.int .i64, x2⟩] []).run = (G.s_GoodRuns x0 x1 x2).bind fun y => some (Res.mk [.one ⟨.bool, y⟩] [] []) := by kernel_rfl
def k_s_GoodRuns : Kn := ⟨111, [0, 0, 0], fun args rows => match args, rows with
  | [.one ⟨.sl false 144 (.pair (.int .i64) (.int .i64)), x0⟩, .one ⟨.int .i64, x1⟩, .one ⟨.int .i64, x2⟩], [] => some ⟨_, G.s_GoodRuns x0 x1 x2, fun y => ⟨[.one ⟨.bool, y⟩], [], []⟩⟩
  | _, _ => none, []⟩
theorem s_s_GoodRuns : KnOk Try.prog k_s_GoodRuns := by
  intro args rows a h y hy
  simp only [k_s_GoodRuns] at h
  split at h
  · injection h with h
    subst h
    exact vfun_ok eok_s_GoodRuns Try.func111 rfl (by rw [v_s_GoodRuns]; simp only at hy; rw [hy]; rfl)
  · cases h
def J_s_l1Kind : Joins := [(.r, ⟨[.int .i64], [(2, .one (.h 0))], [], [], [], []⟩)]
def ann_s_l1Kind : Ann := .seq .nil (.seq (.block [] (.seq (.reg [(.n, ⟨[.bool, .int .i64, .int .i64, .str], [(1, .pl 1 0), (3, .one (.h 0))], [(1, [.h 1, .h 2, .h 3])], [], [], []⟩)]) (.cond [] .nil (.seq (.reg [(.n, ⟨[.bool, .int .i64, .int .i64, .str], [(1, .pl 1 0), (17, .one (.h 0))], [(1, [.h 1, .h 2, .h 3])], [], [], []⟩)]) (.cond [] .nil (.seq (.reg [(.n, ⟨[.bool], [(31, .one (.h 0))], [], [], [], []⟩)]) .nil)))))) .nil)
def env_s_l1Kind : Env := envOf ti [] []
theorem eok_s_l1Kind : EnvOk Try.prog env_s_l1Kind := envOf_ok tab mix _ _ (by
  intro k hk; cases hk)
theorem v_s_l1Kind (x0 : Int) (x1 : Int) (x2 : List UInt8) : (vfun env_s_l1Kind Try.f194 J_s_l1Kind ann_s_l1Kind [] [.ag [⟨.int .i64, x0⟩, ⟨.int .i64, x1⟩, ⟨.str, x2⟩]] []).run = (G.s_l1Kind x0 x1 x2).bind fun y => some (Res.mk [.one ⟨.int .i64, y⟩] [] []) := by kernel_rfl
def k_s_l1Kind : Kn := ⟨194, [0], fun args rows => match args, rows with
  | [.ag [⟨.int .i64, x0⟩, ⟨.int .i64, x1⟩, ⟨.str, x2⟩]], [] => some ⟨_, G.s_l1Kind x0 x1 x2, fun y => ⟨[.one ⟨.int .i64, y⟩], [], []⟩⟩
  | _, _ => none, []⟩
theorem s_s_l1Kind : KnOk Try.prog k_s_l1Kind := by
  intro args rows a h y hy
  simp only [k_s_l1Kind] at h
  split at h
  · injection h with h
    subst h
    exact vfun_ok eok_s_l1Kind Try.func194 rfl (by rw [v_s_l1Kind]; simp only at hy; rw [hy]; rfl)
  · cases h
def J_s_GoodChange : Joins := [(.r, ⟨[.bool], [(2, .one (.h 0))], [], [], [], []⟩)]
def ann_s_GoodChange : Ann := .seq .nil (.seq .nil (.seq .nil (.seq (.seq .nil (.block [] (.loop ⟨[.sl false 55 (.pair (.int .i64) (.pair (.int .i64) .str)), .int .i64, .int .i64, .sl false 55 (.pair (.int .i64) (.pair (.int .i64) .str)), .int .i64, .int .i64], [(0, .one (.h 0)), (3, .one (.h 1)), (4, .one (.h 2)), (8, .one (.h 3)), (9, .one (.h 4)), (10, .one (.h 5))], [], [], [], []⟩ [(.x 0, ⟨[], [], [], [], [], []⟩), (.r, ⟨[.bool], [(2, .one (.h 0))], [], [], [], []⟩)] (.seq .nil (.seq .nil (.seq (.block [] (.seq .nil (.seq .nil (.seq (.seq (.reg [(.n, ⟨[.sl false 55 (.pair (.int .i64) (.pair (.int .i64) .str)), .int .i64, .int .i64, .sl false 55 (.pair (.int .i64) (.pair (.int .i64) .str)), .int .i64, .int .i64, .bool, .int .i64, .int .i64, .str], [(0, .one (.h 0)), (3, .one (.h 1)), (4, .one (.h 2)), (6, .pl 6 0), (8, .one (.h 3)), (9, .one (.h 4)), (10, .one (.h 5)), (48, .one (.h 6))], [(6, [.h 7, .h 8, .h 9])], [], [], []⟩)]) .nil) (.seq .nil (.seq .nil (.seq (.reg [(.n, ⟨[.sl false 55 (.pair (.int .i64) (.pair (.int .i64) .str)), .int .i64, .int .i64, .sl false 55 (.pair (.int .i64) (.pair (.int .i64) .str)), .int .i64, .int .i64, .bool], [(0, .one (.h 0)), (3, .one (.h 1)), (4, .one (.h 2)), (8, .one (.h 3)), (9, .one (.h 4)), (10, .one (.h 5)), (69, .one (.h 6))], [], [], [], []⟩)]) .nil))))))) .nil)))))) .nil)))
def env_s_GoodChange : Env := envOf ti [k_s_l1Kind] []
theorem eok_s_GoodChange : EnvOk Try.prog env_s_GoodChange := envOf_ok tab mix _ _ (by
  intro k hk
  simp only [List.mem_cons, List.not_mem_nil, or_false] at hk
  rcases hk with rfl
  · exact s_s_l1Kind)
theorem v_s_GoodChange (x0 : List (Int × (Int × List UInt8))) : (vfun env_s_GoodChange Try.f110 J_s_GoodChange ann_s_GoodChange [] [.one ⟨.sl false 55 (.pair (.int .i64) (.pair (.int .i64) .str)), x0⟩] []).run = (G.s_GoodChange x0).bind fun y => some (Res.mk [.one ⟨.bool, y⟩] [] []) := by kernel_rfl
def k_s_GoodChange : Kn := ⟨110, [0], fun args rows => match args, rows with
  | [.one ⟨.sl false 55 (.pair (.int .i64) (.pair (.int .i64) .str)), x0⟩], [] => some ⟨_, G.s_GoodChange x0, fun y => ⟨[.one ⟨.bool, y⟩], [], []⟩⟩
  | _, _ => none, []⟩
theorem s_s_GoodChange : KnOk Try.prog k_s_GoodChange := by
  intro args rows a h y hy
  simp only [k_s_GoodChange] at h
  split at h
  · injection h with h
    subst h
    exact vfun_ok eok_s_GoodChange Try.func110 rfl (by rw [v_s_GoodChange]; simp only at hy; rw [hy]; rfl)
  · cases h
end
end Go.Proofs.Ytcfbfpipfalieaa

set_option linter.unusedVariables false
set_option maxRecDepth 100000
namespace Go.Proofs.Ytcfbfpipfalieaa
open Go.V
noncomputable section
def J_s_l1Source : Joins := [(.r, ⟨[.int .i64], [(2, .one (.h 0))], [], [], [], []⟩)]
def ann_s_l1Source : Ann := .seq .nil (.seq .nil (.seq (.seq .nil (.block [] (.loop ⟨[.int .i64, .sl false 55 (.pair (.int .i64) (.pair (.int .i64) .str)), .int .i64, .int .i64], [(3, .one (.h 0)), (6, .one (.h 1)), (7, .one (.h 2)), (8, .one (.h 3))], [], [], [], []⟩ [(.x 0, ⟨[.int .i64], [(3, .one (.h 0))], [], [], [], []⟩)] .nil))) .nil))
def env_s_l1Source : Env := envOf ti [] []
theorem eok_s_l1Source : EnvOk Try.prog env_s_l1Source := envOf_ok tab mix _ _ (by
  intro k hk; cases hk)
theorem v_s_l1Source (x0 : List (Int × (Int × List UInt8))) : (vfun env_s_l1Source Try.f112 J_s_l1Source ann_s_l1Source [] [.one ⟨.sl false 55 (.pair (.int .i64) (.pair (.int .i64) .str)), x0⟩] []).run = (G.s_l1Source x0).bind fun y => some (Res.mk [.one ⟨.int .i64, y⟩] [] []) := by kernel_rfl
def k_s_l1Source : Kn := ⟨112, [0], fun args rows => match args, rows with
  | [.one ⟨.sl false 55 (.pair (.int .i64) (.pair (.int .i64) .str)), x0⟩], [] => some ⟨_, G.s_l1Source x0, fun y => ⟨[.one ⟨.int .i64, y⟩], [], []⟩⟩
  | _, _ => none, []⟩
theorem s_s_l1Source : KnOk Try.prog k_s_l1Source := by
  intro args rows a h y hy
  simp only [k_s_l1Source] at h
  split at h
  · injection h with h
    subst h
    exact vfun_ok eok_s_l1Source Try.func112 rfl (by rw [v_s_l1Source]; simp only at hy; rw [hy]; rfl)
  · cases h
def J_s_l1Target : Joins := [(.r, ⟨[.int .i64], [(2, .one (.h 0))], [], [], [], []⟩)]
def ann_s_l1Target : Ann := .seq .nil (.seq .nil (.seq (.seq .nil (.block [] (.loop ⟨[.int .i64, .sl false 55 (.pair (.int .i64) (.pair (.int .i64) .str)), .int .i64, .int .i64], [(3, .one (.h 0)), (6, .one (.h 1)), (7, .one (.h 2)), (8, .one (.h 3))], [], [], [], []⟩ [(.x 0, ⟨[.int .i64], [(3, .one (.h 0))], [], [], [], []⟩)] .nil))) .nil))
def env_s_l1Target : Env := envOf ti [] []
theorem eok_s_l1Target : EnvOk Try.prog env_s_l1Target := envOf_ok tab mix _ _ (by
  intro k hk; cases hk)
theorem v_s_l1Target (x0 : List (Int × (Int × List UInt8))) : (vfun env_s_l1Target Try.f114 J_s_l1Target ann_s_l1Target [] [.one ⟨.sl false 55 (.pair (.int .i64) (.pair (.int .i64) .str)), x0⟩] []).run = (G.s_l1Target x0).bind fun y => some (Res.mk [.one ⟨.int .i64, y⟩] [] []) := by kernel_rfl
def k_s_l1Target : Kn := ⟨114, [0], fun args rows => match args, rows with
  | [.one ⟨.sl false 55 (.pair (.int .i64) (.pair (.int .i64) .str)), x0⟩], [] => some ⟨_, G.s_l1Target x0, fun y => ⟨[.one ⟨.int .i64, y⟩], [], []⟩⟩
  | _, _ => none, []⟩
theorem s_s_l1Target : KnOk Try.prog k_s_l1Target := by
  intro args rows a h y hy
  simp only [k_s_l1Target] at h
  split at h
  · injection h with h
    subst h
    exact vfun_ok eok_s_l1Target Try.func114 rfl (by rw [v_s_l1Target]; simp only at hy; rw [hy]; rfl)
  · cases h
def J_s_GoodHistory : Joins := [(.r, ⟨[.bool], [(2, .one (.h 0))], [], [], [], []⟩)]
def ann_s_GoodHistory : Ann := .seq .nil (.seq (.seq (.reg [(.n, ⟨[.bool, .int .i64, .str, .sl false 144 (.pair (.int .i64) (.int .i64)), .sl false 93 (.sl false 55 (.pair (.int .i64) (.pair (.int .i64) .str)))], [(1, .pl 1 0), (35, .one (.h 0))], [(1, [.h 1, .h 2, .h 3, .h 4])], [], [], []⟩)]) .nil) (.seq .nil (.seq (.seq .nil (.block [] (.loop ⟨[.int .i64, .sl false 93 (.sl false 55 (.pair (.int .i64) (.pair (.int .i64) .str))), .int .i64, .int .i64], [(3, .one (.h 0)), (40, .one (.h 1)), (41, .one (.h 2)), (42, .one (.h 3))], [], [], [], []⟩ [(.x 0, ⟨[], [], [], [], [], []⟩), (.r, ⟨[.bool], [(2, .one (.h 0))], [], [], [], []⟩)] (.seq .nil (.seq .nil (.seq (.block [] (.seq .nil (.seq (.seq (.reg [(.n, ⟨[.sl false 93 (.sl false 55 (.pair (.int .i64) (.pair (.int .i64) .str))), .int .i64, .int .i64, .bool, .sl false 55 (.pair (.int .i64) (.pair (.int .i64) .str))], [(5, .pl 5 0), (40, .one (.h 0)), (41, .one (.h 1)), (42, .one (.h 2)), (56, .one (.h 3))], [(5, [.h 4])], [], [], []⟩)]) .nil) .nil))) .nil)))))) .nil)))
def env_s_GoodHistory : Env := envOf ti [k_s_l1In, k_s_GoodRuns, k_s_GoodChange, k_s_l1Source, k_s_l1Target] []
theorem eok_s_GoodHistory : EnvOk Try.prog env_s_GoodHistory := envOf_ok tab mix _ _ (by
  intro k hk
  simp only [List.mem_cons, List.not_mem_nil, or_false] at hk
  rcases hk with rfl | rfl | rfl | rfl | rfl
  · exact s_s_l1In
  · exact s_s_GoodRuns
  · exact s_s_GoodChange
  · exact s_s_l1Source
  · exact s_s_l1Target)
theorem v_s_GoodHistory (x0 : Int) (x1 : List UInt8) (x2 : List (Int × Int)) (x3 : List (List (Int × (Int × List UInt8)))) : (vfun env_s_GoodHistory Try.f158 J_s_GoodHistory ann_s_GoodHistory [] [.ag [⟨.int .i64, x0⟩, ⟨.str, x1⟩, ⟨.sl false 144 (.pair (.int .i64) (.int .i64)), x2⟩, ⟨.sl false 93 (.sl false 55 (.pair (.int .i64) (.pair (.int .i64) .str))), x3⟩]] []).run = (G.s_GoodHistory x0 x1 x2 x3).bind fun y => some (Res.mk [.one ⟨.bool, y⟩] [] []) := by kernel_rfl
def k_s_GoodHistory : Kn := ⟨158, [0], fun args rows => match args, rows with
  | [.ag [⟨.int .i64, x0⟩, ⟨.str, x1⟩, ⟨.sl false 144 (.pair (.int .i64) (.int .i64)), x2⟩, ⟨.sl false 93 (.sl false 55 (.pair (.int .i64) (.pair (.int .i64) .str))), x3⟩]], [] => some ⟨_, G.s_GoodHistory x0 x1 x2 x3, fun y => ⟨[.one ⟨.bool, y⟩], [], []⟩⟩
  | _, _ => none, []⟩
theorem s_s_GoodHistory : KnOk Try.prog k_s_GoodHistory := by
  intro args rows a h y hy
  simp only [k_s_GoodHistory] at h
  split at h
  · injection h with h
    subst h
    exact vfun_ok eok_s_GoodHistory Try.func158 rfl (by rw [v_s_GoodHistory]; simp only at hy; rw [hy]; rfl)
  · cases h
def J_s_l10Head : Joins := [(.r, ⟨[.int .i64], [(2, .one (.h 0))], [], [], [], []⟩)]
def ann_s_l10Head : Ann := .nil
def env_s_l10Head : Env := envOf ti [] []
theorem eok_s_l10Head : EnvOk Try.prog env_s_l10Head := envOf_ok tab mix _ _ (by
  intro k hk; cases hk)
theorem v_s_l10Head (x0 : Int) (x1 : List UInt8) (x2 : List (Int × Int)) (x3 : List (List (Int × (Int × List UInt8)))) : (vfun env_s_l10Head Try.f151 J_s_l10Head ann_s_l10Head [] [.ag [⟨.int .i64, x0⟩, ⟨.str, x1⟩, ⟨.sl false 144 (.pair (.int .i64) (.int .i64)), x2⟩, ⟨.sl false 93 (.sl false 55 (.pair (.int .i64) (.pair (.int .i64) .str))), x3⟩]] []).run = (G.s_l10Head x0 x1 x2 x3).bind fun y => some (Res.mk [.one ⟨.int .i64, y⟩] [] []) := by kernel_rfl
def k_s_l10Head : Kn := ⟨151, [0], fun args rows => match args, rows with
  | [.ag [⟨.int .i64, x0⟩, ⟨.str, x1⟩, ⟨.sl false 144 (.pair (.int .i64) (.int .i64)), x2⟩, ⟨.sl false 93 (.sl false 55 (.pair (.int .i64) (.pair (.int .i64) .str))), x3⟩]], [] => some ⟨_, G.s_l10Head x0 x1 x2 x3, fun y => ⟨[.one ⟨.int .i64, y⟩], [], []⟩⟩
  | _, _ => none, []⟩
theorem s_s_l10Head : KnOk Try.prog k_s_l10Head := by
  intro args rows a h y hy
  simp only [k_s_l10Head] at h
  split at h
  · injection h with h
    subst h
    exact vfun_ok eok_s_l10Head Try.func151 rfl (by rw [v_s_l10Head]; simp only at hy; rw [hy]; rfl)
  · cases h
def J_s_ApplyChange : Joins := [(.r, ⟨[.str, .bool], [(4, .one (.h 0)), (5, .one (.h 1))], [], [], [], []⟩)]
def ann_s_ApplyChange : Ann := .seq .nil (.seq (.seq (.reg [(.n, ⟨[.str, .sl false 55 (.pair (.int .i64) (.pair (.int .i64) .str)), .bool], [(0, .one (.h 0)), (1, .one (.h 1)), (19, .one (.h 2))], [], [], [], []⟩)]) .nil) (.seq .nil (.seq .nil (.seq (.seq .nil (.block [] (.loop ⟨[.str, .str, .int .i64, .sl false 55 (.pair (.int .i64) (.pair (.int .i64) .str)), .int .i64, .int .i64], [(0, .one (.h 0)), (6, .one (.h 1)), (7, .one (.h 2)), (20, .one (.h 3)), (21, .one (.h 4)), (22, .one (.h 5))], [], [], [], []⟩ [(.x 0, ⟨[.str], [(6, .one (.h 0))], [], [], [], []⟩)] .nil))) .nil))))
def env_s_ApplyChange : Env := envOf ti [k_s_GoodChange, k_s_l1Source] []
theorem eok_s_ApplyChange : EnvOk Try.prog env_s_ApplyChange := envOf_ok tab mix _ _ (by
  intro k hk
  simp only [List.mem_cons, List.not_mem_nil, or_false] at hk
  rcases hk with rfl | rfl
  · exact s_s_GoodChange
  · exact s_s_l1Source)
theorem v_s_ApplyChange (x0 : List UInt8) (x1 : List (Int × (Int × List UInt8))) : (vfun env_s_ApplyChange Try.f202 J_s_ApplyChange ann_s_ApplyChange [] [.one ⟨.str, x0⟩, .one ⟨.sl false 55 (.pair (.int .i64) (.pair (.int .i64) .str)), x1⟩] []).run = (G.s_ApplyChange x0 x1).bind fun y => some (Res.mk [.one ⟨.str, y.1⟩, .one ⟨.bool, y.2⟩] [] []) := by kernel_rfl
def k_s_ApplyChange : Kn := ⟨202, [0, 0], fun args rows => match args, rows with
  | [.one ⟨.str, x0⟩, .one ⟨.sl false 55 (.pair (.int .i64) (.pair (.int .i64) .str)), x1⟩], [] => some ⟨_, G.s_ApplyChange x0 x1, fun y => ⟨[.one ⟨.str, y.1⟩, .one ⟨.bool, y.2⟩], [], []⟩⟩
  | _, _ => none, []⟩
theorem s_s_ApplyChange : KnOk Try.prog k_s_ApplyChange := by
  intro args rows a h y hy
  simp only [k_s_ApplyChange] at h
  split at h
  · injection h with h
    subst h
    exact vfun_ok eok_s_ApplyChange Try.func202 rfl (by rw [v_s_ApplyChange]; simp only at hy; rw [hy]; rfl)
  · cases h
def J_s_l10Text : Joins := [(.r, ⟨[.str], [(4, .one (.h 0))], [], [], [], []⟩)]
def ann_s_l10Text : Ann := .seq .nil (.seq .nil (.seq (.seq .nil (.block [] (.loop ⟨[.str, .sl false 93 (.sl false 55 (.pair (.int .i64) (.pair (.int .i64) .str))), .int .i64, .int .i64], [(5, .one (.h 0)), (16, .one (.h 1)), (17, .one (.h 2)), (18, .one (.h 3))], [], [], [], []⟩ [(.x 0, ⟨[.str], [(5, .one (.h 0))], [], [], [], []⟩)] .nil))) .nil))
def env_s_l10Text : Env := envOf ti [k_s_ApplyChange] []
theorem eok_s_l10Text : EnvOk Try.prog env_s_l10Text := envOf_ok tab mix _ _ (by
  intro k hk
  simp only [List.mem_cons, List.not_mem_nil, or_false] at hk
  rcases hk with rfl
  · exact s_s_ApplyChange)
theorem v_s_l10Text (x0 : Int) (x1 : List UInt8) (x2 : List (Int × Int)) (x3 : List (List (Int × (Int × List UInt8)))) (x4 : Int) : (vfun env_s_l10Text Try.f130 J_s_l10Text ann_s_l10Text [] [.ag [⟨.int .i64, x0⟩, ⟨.str, x1⟩, ⟨.sl false 144 (.pair (.int .i64) (.int .i64)), x2⟩, ⟨.sl false 93 (.sl false 55 (.pair (.int .i64) (.pair (.int .i64) .str))), x3⟩], .one ⟨.int .i64, x4⟩] []).run = (G.s_l10Text x0 x1 x2 x3 x4).bind fun y => some (Res.mk [.one ⟨.str, y⟩] [] []) := by kernel_rfl
def k_s_l10Text : Kn := ⟨130, [0, 0], fun args rows => match args, rows with
  | [.ag [⟨.int .i64, x0⟩, ⟨.str, x1⟩, ⟨.sl false 144 (.pair (.int .i64) (.int .i64)), x2⟩, ⟨.sl false 93 (.sl false 55 (.pair (.int .i64) (.pair (.int .i64) .str))), x3⟩], .one ⟨.int .i64, x4⟩], [] => some ⟨_, G.s_l10Text x0 x1 x2 x3 x4, fun y => ⟨[.one ⟨.str, y⟩], [], []⟩⟩
  | _, _ => none, []⟩
theorem s_s_l10Text : KnOk Try.prog k_s_l10Text := by
  intro args rows a h y hy
  simp only [k_s_l10Text] at h
  split at h
  · injection h with h
    subst h
    exact vfun_ok eok_s_l10Text Try.func130 rfl (by rw [v_s_l10Text]; simp only at hy; rw [hy]; rfl)
  · cases h
def J_s_l1Cur_of_f : Joins := [(.r, ⟨[.str, .sl false 5 (.int .u8), .int .i64, .int .u64], [(4, .one (.h 0))], [(13, [.h 1, .h 2, .h 3])], [], [], []⟩)]
def ann_s_l1Cur_of_f : Ann := .nil
def env_s_l1Cur_of_f : Env := envOf ti [k_s_l1Cur_pick_f] []
theorem eok_s_l1Cur_of_f : EnvOk Try.prog env_s_l1Cur_of_f := envOf_ok tab mix _ _ (by
  intro k hk
  simp only [List.mem_cons, List.not_mem_nil, or_false] at hk
  rcases hk with rfl
  · exact s_s_l1Cur_pick_f)
theorem v_s_l1Cur_of_f (x0 : List (List UInt8)) (x1 : List Int) (x2 : Int) (x3 : Int) : (vfun env_s_l1Cur_of_f Try.f223 J_s_l1Cur_of_f ann_s_l1Cur_of_f [] [.pl 0 0, .one ⟨.sl true 9 .str, x0⟩] [[⟨.sl false 5 (.int .u8), x1⟩, ⟨.int .i64, x2⟩, ⟨.int .u64, x3⟩]]).run = (G.s_l1Cur_of_f x0 x1 x2 x3).bind fun y => some (Res.mk [.one ⟨.str, y.1⟩] [[⟨.sl false 5 (.int .u8), y.2.1⟩, ⟨.int .i64, y.2.2.1⟩, ⟨.int .u64, y.2.2.2⟩]] []) := by kernel_rfl
def k_s_l1Cur_of_f : Kn := ⟨223, [0, 1], fun args rows => match args, rows with
  | [.pl 0 0, .one ⟨.sl true 9 .str, x0⟩], [[⟨.sl false 5 (.int .u8), x1⟩, ⟨.int .i64, x2⟩, ⟨.int .u64, x3⟩]] => some ⟨_, G.s_l1Cur_of_f x0 x1 x2 x3, fun y => ⟨[.one ⟨.str, y.1⟩], [[⟨.sl false 5 (.int .u8), y.2.1⟩, ⟨.int .i64, y.2.2.1⟩, ⟨.int .u64, y.2.2.2⟩]], []⟩⟩
  | _, _ => none, []⟩
theorem s_s_l1Cur_of_f : KnOk Try.prog k_s_l1Cur_of_f := by
  intro args rows a h y hy
  simp only [k_s_l1Cur_of_f] at h
  split at h
  · injection h with h
    subst h
    exact vfun_ok eok_s_l1Cur_of_f Try.func223 rfl (by rw [v_s_l1Cur_of_f]; simp only at hy; rw [hy]; rfl)
  · cases h
def J_s_l1Cur_put_f : Joins := [(.r, ⟨[.str, .sl false 5 (.int .u8), .int .i64, .int .u64], [(2, .one (.h 0))], [(7, [.h 1, .h 2, .h 3])], [], [], []⟩)]
def ann_s_l1Cur_put_f : Ann := .nil
def env_s_l1Cur_put_f : Env := envOf ti [k_s_l1Cur_of_f] []
theorem eok_s_l1Cur_put_f : EnvOk Try.prog env_s_l1Cur_put_f := envOf_ok tab mix _ _ (by
  intro k hk
  simp only [List.mem_cons, List.not_mem_nil, or_false] at hk
  rcases hk with rfl
  · exact s_s_l1Cur_of_f)
theorem v_s_l1Cur_put_f (x0 : List Int) (x1 : Int) (x2 : Int) : (vfun env_s_l1Cur_put_f Try.f186 J_s_l1Cur_put_f ann_s_l1Cur_put_f [] [.pl 0 0] [[⟨.sl false 5 (.int .u8), x0⟩, ⟨.int .i64, x1⟩, ⟨.int .u64, x2⟩]]).run = (G.s_l1Cur_put_f x0 x1 x2).bind fun y => some (Res.mk [.one ⟨.str, y.1⟩] [[⟨.sl false 5 (.int .u8), y.2.1⟩, ⟨.int .i64, y.2.2.1⟩, ⟨.int .u64, y.2.2.2⟩]] []) := by kernel_rfl
def k_s_l1Cur_put_f : Kn := ⟨186, [0], fun args rows => match args, rows with
  | [.pl 0 0], [[⟨.sl false 5 (.int .u8), x0⟩, ⟨.int .i64, x1⟩, ⟨.int .u64, x2⟩]] => some ⟨_, G.s_l1Cur_put_f x0 x1 x2, fun y => ⟨[.one ⟨.str, y.1⟩], [[⟨.sl false 5 (.int .u8), y.2.1⟩, ⟨.int .i64, y.2.2.1⟩, ⟨.int .u64, y.2.2.2⟩]], []⟩⟩
  | _, _ => none, []⟩
theorem s_s_l1Cur_put_f : KnOk Try.prog k_s_l1Cur_put_f := by
  intro args rows a h y hy
  simp only [k_s_l1Cur_put_f] at h
  split at h
  · injection h with h
    subst h
    exact vfun_ok eok_s_l1Cur_put_f Try.func186 rfl (by rw [v_s_l1Cur_put_f]; simp only at hy; rw [hy]; rfl)
  · cases h
def J_s_l1Add : Joins := [(.r, ⟨[.sl true 55 (.pair (.int .i64) (.pair (.int .i64) .str))], [(4, .one (.vw 165889))], [], [(165889, 0)], [], []⟩)]
def ann_s_l1Add : Ann := .seq .nil (.seq .nil (.seq (.seq .nil (.seq (.reg [(.n, ⟨[.sl true 55 (.pair (.int .i64) (.pair (.int .i64) .str)), .int .i64, .bool, .int .i64, .int .i64, .str], [(0, .one (.vw 165888)), (3, .pl 3 0), (5, .one (.h 1)), (24, .one (.h 2))], [(3, [.h 3, .h 4, .h 5])], [(165888, 0)], [], []⟩)]) .nil)) .nil))
def env_s_l1Add : Env := envOf ti [k_s_l1Kind] []
theorem eok_s_l1Add : EnvOk Try.prog env_s_l1Add := envOf_ok tab mix _ _ (by
  intro k hk
  simp only [List.mem_cons, List.not_mem_nil, or_false] at hk
  rcases hk with rfl
  · exact s_s_l1Kind)
theorem v_s_l1Add (x0 : List (Int × (Int × List UInt8))) (x1 : Int) (x2 : Int) (x3 : List UInt8) : (vfun env_s_l1Add Try.f187 J_s_l1Add ann_s_l1Add [] [.one ⟨.sl true 55 (.pair (.int .i64) (.pair (.int .i64) .str)), x0⟩, .ag [⟨.int .i64, x1⟩, ⟨.int .i64, x2⟩, ⟨.str, x3⟩]] []).run = (G.s_l1Add x0 x1 x2 x3).bind fun y => some (Res.mk [.one ⟨.sl true 55 (.pair (.int .i64) (.pair (.int .i64) .str)), y⟩] [] []) := by kernel_rfl
def k_s_l1Add : Kn := ⟨187, [1, 0], fun args rows => match args, rows with
  | [.one ⟨.sl true 55 (.pair (.int .i64) (.pair (.int .i64) .str)), x0⟩, .ag [⟨.int .i64, x1⟩, ⟨.int .i64, x2⟩, ⟨.str, x3⟩]], [] => some ⟨_, G.s_l1Add x0 x1 x2 x3, fun y => ⟨[.one ⟨.sl true 55 (.pair (.int .i64) (.pair (.int .i64) .str)), y⟩], [], []⟩⟩
  | _, _ => none, []⟩
theorem s_s_l1Add : KnOk Try.prog k_s_l1Add := by
  intro args rows a h y hy
  simp only [k_s_l1Add] at h
  split at h
  · injection h with h
    subst h
    exact vfun_ok eok_s_l1Add Try.func187 rfl (by rw [v_s_l1Add]; simp only at hy; rw [hy]; rfl)
  · cases h
def J_s_l1Cur_wide_f : Joins := [(.r, ⟨[.int .i64, .sl false 5 (.int .u8), .int .i64, .int .u64], [(2, .one (.h 0))], [(16, [.h 1, .h 2, .h 3])], [], [], []⟩)]
def ann_s_l1Cur_wide_f : Ann := .seq .nil (.seq .nil (.seq (.seq .nil (.block [] (.loop ⟨[.int .i64, .int .i64, .sl false 5 (.int .u8), .int .i64, .int .u64], [(0, .pl 16 0), (3, .one (.h 0)), (4, .one (.h 1))], [(16, [.h 2, .h 3, .h 4])], [], [], []⟩ [(.x 0, ⟨[.int .i64, .sl false 5 (.int .u8), .int .i64, .int .u64], [(3, .one (.h 0))], [(16, [.h 1, .h 2, .h 3])], [], [], []⟩)] .nil))) .nil))
def env_s_l1Cur_wide_f : Env := envOf ti [k_s_l1Cur_next_f] []
theorem eok_s_l1Cur_wide_f : EnvOk Try.prog env_s_l1Cur_wide_f := envOf_ok tab mix _ _ (by
  intro k hk
  simp only [List.mem_cons, List.not_mem_nil, or_false] at hk
  rcases hk with rfl
  · exact s_s_l1Cur_next_f)
theorem v_s_l1Cur_wide_f (x0 : List Int) (x1 : Int) (x2 : Int) : (vfun env_s_l1Cur_wide_f Try.f229 J_s_l1Cur_wide_f ann_s_l1Cur_wide_f [] [.pl 0 0] [[⟨.sl false 5 (.int .u8), x0⟩, ⟨.int .i64, x1⟩, ⟨.int .u64, x2⟩]]).run = (G.s_l1Cur_wide_f x0 x1 x2).bind fun y => some (Res.mk [.one ⟨.int .i64, y.1⟩] [[⟨.sl false 5 (.int .u8), y.2.1⟩, ⟨.int .i64, y.2.2.1⟩, ⟨.int .u64, y.2.2.2⟩]] []) := by kernel_rfl
def k_s_l1Cur_wide_f : Kn := ⟨229, [0], fun args rows => match args, rows with
  | [.pl 0 0], [[⟨.sl false 5 (.int .u8), x0⟩, ⟨.int .i64, x1⟩, ⟨.int .u64, x2⟩]] => some ⟨_, G.s_l1Cur_wide_f x0 x1 x2, fun y => ⟨[.one ⟨.int .i64, y.1⟩], [[⟨.sl false 5 (.int .u8), y.2.1⟩, ⟨.int .i64, y.2.2.1⟩, ⟨.int .u64, y.2.2.2⟩]], []⟩⟩
  | _, _ => none, []⟩
theorem s_s_l1Cur_wide_f : KnOk Try.prog k_s_l1Cur_wide_f := by
  intro args rows a h y hy
  simp only [k_s_l1Cur_wide_f] at h
  split at h
  · injection h with h
    subst h
    exact vfun_ok eok_s_l1Cur_wide_f Try.func229 rfl (by rw [v_s_l1Cur_wide_f]; simp only at hy; rw [hy]; rfl)
  · cases h
def J_s_l1Cur_sized_f : Joins := [(.r, ⟨[.int .i64, .sl false 5 (.int .u8), .int .i64, .int .u64], [(2, .one (.h 0))], [(39, [.h 1, .h 2, .h 3])], [], [], []⟩)]
def ann_s_l1Cur_sized_f : Ann := .seq .nil (.seq .nil (.seq (.seq .nil (.block [] (.seq .nil (.cond [(.n, ⟨[.int .i64, .sl false 5 (.int .u8), .int .i64, .int .u64], [(0, .pl 39 0), (3, .one (.h 0))], [(39, [.h 1, .h 2, .h 3])], [], [], []⟩)] .nil (.seq .nil (.cond [(.n, ⟨[.int .i64, .sl false 5 (.int .u8), .int .i64, .int .u64], [(0, .pl 39 0), (3, .one (.h 0))], [(39, [.h 1, .h 2, .h 3])], [], [], []⟩)] .nil (.seq .nil (.cond [(.n, ⟨[.int .i64, .sl false 5 (.int .u8), .int .i64, .int .u64], [(0, .pl 39 0), (3, .one (.h 0))], [(39, [.h 1, .h 2, .h 3])], [], [], []⟩)] .nil (.seq .nil (.cond [(.n, ⟨[.int .i64, .sl false 5 (.int .u8), .int .i64, .int .u64], [(0, .pl 39 0), (3, .one (.h 0))], [(39, [.h 1, .h 2, .h 3])], [], [], []⟩)] .nil .nil)))))))))) (.seq (.seq .nil (.cond [(.n, ⟨[.int .i64, .sl false 5 (.int .u8), .int .i64, .int .u64], [(3, .one (.h 0))], [(39, [.h 1, .h 2, .h 3])], [], [], []⟩)] .nil .nil)) .nil)))
def env_s_l1Cur_sized_f : Env := envOf ti [k_s_l1Cur_pick_f, k_s_l1Cur_wide_f, k_s_l1Cur_one_f] []
theorem eok_s_l1Cur_sized_f : EnvOk Try.prog env_s_l1Cur_sized_f := envOf_ok tab mix _ _ (by
  intro k hk
  simp only [List.mem_cons, List.not_mem_nil, or_false] at hk
  rcases hk with rfl | rfl | rfl
  · exact s_s_l1Cur_pick_f
  · exact s_s_l1Cur_wide_f
  · exact s_s_l1Cur_one_f)
theorem v_s_l1Cur_sized_f (x0 : List Int) (x1 : Int) (x2 : Int) : (vfun env_s_l1Cur_sized_f Try.f224 J_s_l1Cur_sized_f ann_s_l1Cur_sized_f [] [.pl 0 0] [[⟨.sl false 5 (.int .u8), x0⟩, ⟨.int .i64, x1⟩, ⟨.int .u64, x2⟩]]).run = (G.s_l1Cur_sized_f x0 x1 x2).bind fun y => some (Res.mk [.one ⟨.int .i64, y.1⟩] [[⟨.sl false 5 (.int .u8), y.2.1⟩, ⟨.int .i64, y.2.2.1⟩, ⟨.int .u64, y.2.2.2⟩]] []) := by kernel_rfl
def k_s_l1Cur_sized_f : Kn := ⟨224, [0], fun args rows => match args, rows with
  | [.pl 0 0], [[⟨.sl false 5 (.int .u8), x0⟩, ⟨.int .i64, x1⟩, ⟨.int .u64, x2⟩]] => some ⟨_, G.s_l1Cur_sized_f x0 x1 x2, fun y => ⟨[.one ⟨.int .i64, y.1⟩], [[⟨.sl false 5 (.int .u8), y.2.1⟩, ⟨.int .i64, y.2.2.1⟩, ⟨.int .u64, y.2.2.2⟩]], []⟩⟩
  | _, _ => none, []⟩
theorem s_s_l1Cur_sized_f : KnOk Try.prog k_s_l1Cur_sized_f := by
  intro args rows a h y hy
  simp only [k_s_l1Cur_sized_f] at h
  split at h
  · injection h with h
    subst h
    exact vfun_ok eok_s_l1Cur_sized_f Try.func224 rfl (by rw [v_s_l1Cur_sized_f]; simp only at hy; rw [hy]; rfl)
  · cases h
def J_s_l1Cur_part_f : Joins := [(.r, ⟨[.int .i64, .int .i64, .str, .sl false 5 (.int .u8), .int .i64, .int .u64], [(2, .pl 2 0)], [(2, [.h 0, .h 1, .h 2]), (28, [.h 3, .h 4, .h 5])], [], [], []⟩)]
def ann_s_l1Cur_part_f : Ann := .nil
def env_s_l1Cur_part_f : Env := envOf ti [k_s_l1Cur_pick_f, k_s_l1Cur_sized_f] []
theorem eok_s_l1Cur_part_f : EnvOk Try.prog env_s_l1Cur_part_f := envOf_ok tab mix _ _ (by
  intro k hk
  simp only [List.mem_cons, List.not_mem_nil, or_false] at hk
  rcases hk with rfl | rfl
  · exact s_s_l1Cur_pick_f
  · exact s_s_l1Cur_sized_f)
theorem v_s_l1Cur_part_f (x0 : List Int) (x1 : Int) (x2 : Int) : (vfun env_s_l1Cur_part_f Try.f188 J_s_l1Cur_part_f ann_s_l1Cur_part_f [] [.pl 0 0] [[⟨.sl false 5 (.int .u8), x0⟩, ⟨.int .i64, x1⟩, ⟨.int .u64, x2⟩]]).run = (G.s_l1Cur_part_f x0 x1 x2).bind fun y => some (Res.mk [.ag [⟨.int .i64, y.1⟩, ⟨.int .i64, y.2.1⟩, ⟨.str, y.2.2.1⟩]] [[⟨.sl false 5 (.int .u8), y.2.2.2.1⟩, ⟨.int .i64, y.2.2.2.2.1⟩, ⟨.int .u64, y.2.2.2.2.2⟩]] []) := by kernel_rfl
def k_s_l1Cur_part_f : Kn := ⟨188, [0], fun args rows => match args, rows with
  | [.pl 0 0], [[⟨.sl false 5 (.int .u8), x0⟩, ⟨.int .i64, x1⟩, ⟨.int .u64, x2⟩]] => some ⟨_, G.s_l1Cur_part_f x0 x1 x2, fun y => ⟨[.ag [⟨.int .i64, y.1⟩, ⟨.int .i64, y.2.1⟩, ⟨.str, y.2.2.1⟩]], [[⟨.sl false 5 (.int .u8), y.2.2.2.1⟩, ⟨.int .i64, y.2.2.2.2.1⟩, ⟨.int .u64, y.2.2.2.2.2⟩]], []⟩⟩
  | _, _ => none, []⟩
theorem s_s_l1Cur_part_f : KnOk Try.prog k_s_l1Cur_part_f := by
  intro args rows a h y hy
  simp only [k_s_l1Cur_part_f] at h
  split at h
  · injection h with h
    subst h
    exact vfun_ok eok_s_l1Cur_part_f Try.func188 rfl (by rw [v_s_l1Cur_part_f]; simp only at hy; rw [hy]; rfl)
  · cases h
end
end Go.Proofs.Ytcfbfpipfalieaa

set_option linter.unusedVariables false
set_option maxRecDepth 100000
namespace Go.Proofs.Ytcfbfpipfalieaa
open Go.V
noncomputable section
def J_s_l1Cur_changeOf_f : Joins := [(.r, ⟨[.sl true 55 (.pair (.int .i64) (.pair (.int .i64) .str)), .sl false 5 (.int .u8), .int .i64, .int .u64], [(4, .one (.vw 184393))], [(81, [.h 1, .h 2, .h 3])], [(184393, 0)], [], []⟩)]
def ann_s_l1Cur_changeOf_f : Ann := .seq .nil (.seq .nil (.seq .nil (.seq (.block [] (.loop ⟨[.int .i64, .sl true 55 (.pair (.int .i64) (.pair (.int .i64) .str)), .int .i64, .sl false 5 (.int .u8), .int .i64, .int .u64], [(0, .pl 81 0), (1, .one (.h 0)), (5, .one (.vw 184320)), (6, .one (.h 2))], [(81, [.h 3, .h 4, .h 5])], [(184320, 1)], [], []⟩ [(.x 0, ⟨[.sl true 55 (.pair (.int .i64) (.pair (.int .i64) .str)), .int .i64, .sl false 5 (.int .u8), .int .i64, .int .u64], [(0, .pl 81 0), (5, .one (.vw 184389)), (6, .one (.h 1))], [(81, [.h 2, .h 3, .h 4])], [(184389, 0)], [], []⟩)] (.seq .nil (.block [] (.seq (.seq .nil (.seq (.reg [(.n, ⟨[.int .i64, .sl true 55 (.pair (.int .i64) (.pair (.int .i64) .str)), .int .i64, .str, .bool, .sl false 5 (.int .u8), .int .i64, .int .u64], [(0, .pl 81 0), (1, .one (.h 0)), (5, .one (.vw 184384)), (6, .one (.h 2)), (7, .one (.h 3)), (23, .one (.h 4))], [(81, [.h 5, .h 6, .h 7])], [(184384, 1)], [], []⟩)]) (.cond [(.n, ⟨[.int .i64, .sl true 55 (.pair (.int .i64) (.pair (.int .i64) .str)), .int .i64, .sl false 5 (.int .u8), .int .i64, .int .u64], [(0, .pl 81 0), (1, .one (.h 0)), (5, .one (.vw 184385)), (6, .one (.h 2))], [(81, [.h 3, .h 4, .h 5])], [(184385, 1)], [], []⟩)] .nil .nil))) (.seq .nil (.seq (.seq .nil (.cond [(.n, ⟨[.int .i64, .sl true 55 (.pair (.int .i64) (.pair (.int .i64) .str)), .int .i64, .int .i64, .sl false 5 (.int .u8), .int .i64, .int .u64], [(0, .pl 81 0), (1, .one (.h 0)), (5, .one (.vw 184386)), (6, .one (.h 2)), (8, .one (.h 3))], [(81, [.h 4, .h 5, .h 6])], [(184386, 1)], [], []⟩)] .nil .nil)) (.seq (.seq .nil (.cond [(.n, ⟨[.int .i64, .sl true 55 (.pair (.int .i64) (.pair (.int .i64) .str)), .int .i64, .int .i64, .sl false 5 (.int .u8), .int .i64, .int .u64], [(0, .pl 81 0), (1, .one (.h 0)), (5, .one (.vw 184387)), (6, .one (.h 2)), (8, .one (.h 3))], [(81, [.h 4, .h 5, .h 6])], [(184387, 1)], [], []⟩)] .nil .nil)) (.seq (.seq .nil (.cond [(.n, ⟨[.int .i64, .sl true 55 (.pair (.int .i64) (.pair (.int .i64) .str)), .int .i64, .int .i64, .sl false 5 (.int .u8), .int .i64, .int .u64], [(0, .pl 81 0), (1, .one (.h 0)), (5, .one (.vw 184388)), (6, .one (.h 2)), (8, .one (.h 3))], [(81, [.h 4, .h 5, .h 6])], [(184388, 1)], [], []⟩)] .nil .nil)) .nil))))))))) (.seq (.seq .nil (.seq (.reg [(.n, ⟨[.sl true 55 (.pair (.int .i64) (.pair (.int .i64) .str)), .str, .bool, .sl false 5 (.int .u8), .int .i64, .int .u64], [(0, .pl 81 0), (5, .one (.vw 184390)), (9, .one (.h 1)), (67, .one (.h 2))], [(81, [.h 3, .h 4, .h 5])], [(184390, 0)], [], []⟩)]) (.cond [(.n, ⟨[.sl true 55 (.pair (.int .i64) (.pair (.int .i64) .str)), .sl false 5 (.int .u8), .int .i64, .int .u64], [(0, .pl 81 0), (5, .one (.vw 184391))], [(81, [.h 1, .h 2, .h 3])], [(184391, 0)], [], []⟩)] .nil .nil))) (.seq (.seq .nil (.cond [(.n, ⟨[.sl true 55 (.pair (.int .i64) (.pair (.int .i64) .str)), .sl false 5 (.int .u8), .int .i64, .int .u64], [(5, .one (.vw 184392))], [(81, [.h 1, .h 2, .h 3])], [(184392, 0)], [], []⟩)] .nil .nil)) .nil)))))
def env_s_l1Cur_changeOf_f : Env := envOf ti [k_s_l1Cur_put_f, k_s_l1Cur_one_f, k_s_l1Add, k_s_l1Cur_pick_f, k_s_l1Cur_part_f] []
theorem eok_s_l1Cur_changeOf_f : EnvOk Try.prog env_s_l1Cur_changeOf_f := envOf_ok tab mix _ _ (by
  intro k hk
  simp only [List.mem_cons, List.not_mem_nil, or_false] at hk
  rcases hk with rfl | rfl | rfl | rfl | rfl
  · exact s_s_l1Cur_put_f
  · exact s_s_l1Cur_one_f
  · exact s_s_l1Add
  · exact s_s_l1Cur_pick_f
  · exact s_s_l1Cur_part_f)
theorem v_s_l1Cur_changeOf_f (x0 : Int) (x1 : List Int) (x2 : Int) (x3 : Int) : (vfun env_s_l1Cur_changeOf_f Try.f103 J_s_l1Cur_changeOf_f ann_s_l1Cur_changeOf_f [] [.pl 0 0, .one ⟨.int .i64, x0⟩] [[⟨.sl false 5 (.int .u8), x1⟩, ⟨.int .i64, x2⟩, ⟨.int .u64, x3⟩]]).run = (G.s_l1Cur_changeOf_f x0 x1 x2 x3).bind fun y => some (Res.mk [.one ⟨.sl true 55 (.pair (.int .i64) (.pair (.int .i64) .str)), y.1⟩] [[⟨.sl false 5 (.int .u8), y.2.1⟩, ⟨.int .i64, y.2.2.1⟩, ⟨.int .u64, y.2.2.2⟩]] []) := by kernel_rfl
def k_s_l1Cur_changeOf_f : Kn := ⟨103, [0, 0], fun args rows => match args, rows with
  | [.pl 0 0, .one ⟨.int .i64, x0⟩], [[⟨.sl false 5 (.int .u8), x1⟩, ⟨.int .i64, x2⟩, ⟨.int .u64, x3⟩]] => some ⟨_, G.s_l1Cur_changeOf_f x0 x1 x2 x3, fun y => ⟨[.one ⟨.sl true 55 (.pair (.int .i64) (.pair (.int .i64) .str)), y.1⟩], [[⟨.sl false 5 (.int .u8), y.2.1⟩, ⟨.int .i64, y.2.2.1⟩, ⟨.int .u64, y.2.2.2⟩]], []⟩⟩
  | _, _ => none, []⟩
theorem s_s_l1Cur_changeOf_f : KnOk Try.prog k_s_l1Cur_changeOf_f := by
  intro args rows a h y hy
  simp only [k_s_l1Cur_changeOf_f] at h
  split at h
  · injection h with h
    subst h
    exact vfun_ok eok_s_l1Cur_changeOf_f Try.func103 rfl (by rw [v_s_l1Cur_changeOf_f]; simp only at hy; rw [hy]; rfl)
  · cases h
def J_s_l10Range : Joins := [(.r, ⟨[.int .i64], [(6, .one (.h 0))], [], [], [], []⟩)]
def ann_s_l10Range : Ann := .seq .nil (.seq (.block [] (.seq .nil (.cond [] .nil (.seq (.reg [(.n, ⟨[.bool], [(11, .one (.h 0))], [], [], [], []⟩)]) .nil)))) .nil)
def env_s_l10Range : Env := envOf ti [k_s_GoodHistory, k_s_l1In, k_s_l10Head] []
theorem eok_s_l10Range : EnvOk Try.prog env_s_l10Range := envOf_ok tab mix _ _ (by
  intro k hk
  simp only [List.mem_cons, List.not_mem_nil, or_false] at hk
  rcases hk with rfl | rfl | rfl
  · exact s_s_GoodHistory
  · exact s_s_l1In
  · exact s_s_l10Head)
theorem v_s_l10Range (x0 : Int) (x1 : List UInt8) (x2 : List (Int × Int)) (x3 : List (List (Int × (Int × List UInt8)))) (x4 : Int) (x5 : Int) : (vfun env_s_l10Range Try.f121 J_s_l10Range ann_s_l10Range [] [.ag [⟨.int .i64, x0⟩, ⟨.str, x1⟩, ⟨.sl false 144 (.pair (.int .i64) (.int .i64)), x2⟩, ⟨.sl false 93 (.sl false 55 (.pair (.int .i64) (.pair (.int .i64) .str))), x3⟩], .one ⟨.int .i64, x4⟩, .one ⟨.int .i64, x5⟩] []).run = (G.s_l10Range x0 x1 x2 x3 x4 x5).bind fun y => some (Res.mk [.one ⟨.int .i64, y⟩] [] []) := by kernel_rfl
def k_s_l10Range : Kn := ⟨121, [0, 0, 0], fun args rows => match args, rows with
  | [.ag [⟨.int .i64, x0⟩, ⟨.str, x1⟩, ⟨.sl false 144 (.pair (.int .i64) (.int .i64)), x2⟩, ⟨.sl false 93 (.sl false 55 (.pair (.int .i64) (.pair (.int .i64) .str))), x3⟩], .one ⟨.int .i64, x4⟩, .one ⟨.int .i64, x5⟩], [] => some ⟨_, G.s_l10Range x0 x1 x2 x3 x4 x5, fun y => ⟨[.one ⟨.int .i64, y⟩], [], []⟩⟩
  | _, _ => none, []⟩
theorem s_s_l10Range : KnOk Try.prog k_s_l10Range := by
  intro args rows a h y hy
  simp only [k_s_l10Range] at h
  split at h
  · injection h with h
    subst h
    exact vfun_ok eok_s_l10Range Try.func121 rfl (by rw [v_s_l10Range]; simp only at hy; rw [hy]; rfl)
  · cases h
def J_s_l1Open : Joins := [(.r, ⟨[.sl true 4 .bool, .sl true 9 .str], [(2, .pl 2 0)], [(2, [.vw 154756, .vw 154757])], [(154756, 0), (154757, 1)], [], []⟩)]
def ann_s_l1Open : Ann := .seq .nil (.seq .nil (.seq (.seq .nil (.block [] (.loop ⟨[.sl false 55 (.pair (.int .i64) (.pair (.int .i64) .str)), .int .i64, .int .i64, .sl true 4 .bool, .sl true 9 .str], [(2, .pl 2 0), (3, .pl 3 0), (9, .one (.h 0)), (10, .one (.h 1)), (11, .one (.h 2))], [(2, [.nil, .nil]), (3, [.vw 154624, .vw 154625])], [(154624, 3), (154625, 4)], [], []⟩ [(.x 0, ⟨[.sl true 4 .bool, .sl true 9 .str], [(2, .pl 2 0), (3, .pl 3 0)], [(2, [.nil, .nil]), (3, [.vw 154754, .vw 154755])], [(154754, 0), (154755, 1)], [], []⟩)] (.seq .nil (.seq .nil (.seq (.block [] (.seq .nil (.seq .nil (.seq .nil (.block [] (.loop ⟨[.int .i64, .sl false 55 (.pair (.int .i64) (.pair (.int .i64) .str)), .int .i64, .int .i64, .sl true 4 .bool, .sl true 9 .str, .int .i64, .int .i64, .str], [(2, .pl 2 0), (3, .pl 3 0), (5, .pl 5 0), (6, .one (.h 0)), (9, .one (.h 1)), (10, .one (.h 2)), (11, .one (.h 3))], [(2, [.nil, .nil]), (3, [.vw 154688, .vw 154689]), (5, [.h 6, .h 7, .h 8])], [(154688, 4), (154689, 5)], [], []⟩ [(.x 2, ⟨[.sl false 55 (.pair (.int .i64) (.pair (.int .i64) .str)), .int .i64, .int .i64, .sl true 4 .bool, .sl true 9 .str], [(2, .pl 2 0), (3, .pl 3 0), (9, .one (.h 0)), (10, .one (.h 1)), (11, .one (.h 2))], [(2, [.nil, .nil]), (3, [.vw 154752, .vw 154753])], [(154752, 3), (154753, 4)], [], []⟩)] .nil)))))) .nil)))))) .nil))
def env_s_l1Open : Env := envOf ti [] []
theorem eok_s_l1Open : EnvOk Try.prog env_s_l1Open := envOf_ok tab mix _ _ (by
  intro k hk; cases hk)
theorem v_s_l1Open (x0 : List (Int × (Int × List UInt8))) : (vfun env_s_l1Open Try.f203 J_s_l1Open ann_s_l1Open [] [.one ⟨.sl false 55 (.pair (.int .i64) (.pair (.int .i64) .str)), x0⟩] []).run = (G.s_l1Open x0).bind fun y => some (Res.mk [.ag [⟨.sl true 4 .bool, y.1⟩, ⟨.sl true 9 .str, y.2⟩]] [] []) := by kernel_rfl
def k_s_l1Open : Kn := ⟨203, [0], fun args rows => match args, rows with
  | [.one ⟨.sl false 55 (.pair (.int .i64) (.pair (.int .i64) .str)), x0⟩], [] => some ⟨_, G.s_l1Open x0, fun y => ⟨[.ag [⟨.sl true 4 .bool, y.1⟩, ⟨.sl true 9 .str, y.2⟩]], [], []⟩⟩
  | _, _ => none, []⟩
theorem s_s_l1Open : KnOk Try.prog k_s_l1Open := by
  intro args rows a h y hy
  simp only [k_s_l1Open] at h
  split at h
  · injection h with h
    subst h
    exact vfun_ok eok_s_l1Open Try.func203 rfl (by rw [v_s_l1Open]; simp only at hy; rw [hy]; rfl)
  · cases h
def J_s_l1Close : Joins := [(.r, ⟨[.sl true 55 (.pair (.int .i64) (.pair (.int .i64) .str))], [(2, .one (.vw 139331))], [], [(139331, 0)], [], []⟩)]
def ann_s_l1Close : Ann := .seq .nil (.seq .nil (.seq (.seq .nil (.block [] (.loop ⟨[.sl true 55 (.pair (.int .i64) (.pair (.int .i64) .str)), .sl false 9 .str, .int .i64, .int .i64, .sl false 4 .bool, .sl false 9 .str], [(1, .pl 1 0), (3, .one (.vw 139264)), (7, .one (.h 1)), (8, .one (.h 2)), (9, .one (.h 3))], [(1, [.h 4, .h 5])], [(139264, 0)], [], []⟩ [(.x 0, ⟨[.sl true 55 (.pair (.int .i64) (.pair (.int .i64) .str))], [(3, .one (.vw 139330))], [], [(139330, 0)], [], []⟩)] (.seq .nil (.seq .nil (.seq (.block [] (.seq .nil (.seq .nil (.seq .nil (.cond [(.n, ⟨[.sl true 55 (.pair (.int .i64) (.pair (.int .i64) .str)), .sl false 9 .str, .int .i64, .int .i64, .sl false 4 .bool, .sl false 9 .str], [(1, .pl 1 0), (3, .one (.vw 139329)), (7, .one (.h 1)), (8, .one (.h 2)), (9, .one (.h 3))], [(1, [.h 4, .h 5])], [(139329, 0)], [], []⟩)] (.seq .nil (.cond [(.n, ⟨[.sl true 55 (.pair (.int .i64) (.pair (.int .i64) .str)), .sl false 9 .str, .int .i64, .int .i64, .sl false 4 .bool, .sl false 9 .str], [(1, .pl 1 0), (3, .one (.vw 139328)), (7, .one (.h 1)), (8, .one (.h 2)), (9, .one (.h 3))], [(1, [.h 4, .h 5])], [(139328, 0)], [], []⟩)] .nil .nil)) .nil))))) .nil)))))) .nil))
def env_s_l1Close : Env := envOf ti [k_s_l1Add] []
theorem eok_s_l1Close : EnvOk Try.prog env_s_l1Close := envOf_ok tab mix _ _ (by
  intro k hk
  simp only [List.mem_cons, List.not_mem_nil, or_false] at hk
  rcases hk with rfl
  · exact s_s_l1Add)
theorem v_s_l1Close (x0 : List Bool) (x1 : List (List UInt8)) : (vfun env_s_l1Close Try.f214 J_s_l1Close ann_s_l1Close [] [.ag [⟨.sl false 4 .bool, x0⟩, ⟨.sl false 9 .str, x1⟩]] []).run = (G.s_l1Close x0 x1).bind fun y => some (Res.mk [.one ⟨.sl true 55 (.pair (.int .i64) (.pair (.int .i64) .str)), y⟩] [] []) := by kernel_rfl
def k_s_l1Close : Kn := ⟨214, [0], fun args rows => match args, rows with
  | [.ag [⟨.sl false 4 .bool, x0⟩, ⟨.sl false 9 .str, x1⟩]], [] => some ⟨_, G.s_l1Close x0 x1, fun y => ⟨[.one ⟨.sl true 55 (.pair (.int .i64) (.pair (.int .i64) .str)), y⟩], [], []⟩⟩
  | _, _ => none, []⟩
theorem s_s_l1Close : KnOk Try.prog k_s_l1Close := by
  intro args rows a h y hy
  simp only [k_s_l1Close] at h
  split at h
  · injection h with h
    subst h
    exact vfun_ok eok_s_l1Close Try.func214 rfl (by rw [v_s_l1Close]; simp only at hy; rw [hy]; rfl)
  · cases h
def J_s_l1Compose : Joins := [(.r, ⟨[.sl true 55 (.pair (.int .i64) (.pair (.int .i64) .str))], [(4, .one (.vw 219286))], [], [(219286, 0)], [], []⟩)]
def ann_s_l1Compose : Ann := .seq .nil (.seq .nil (.seq .nil (.seq .nil (.seq .nil (.seq .nil (.seq (.seq .nil (.block [] (.loop ⟨[.int .i64, .sl true 9 .str, .int .i64, .int .i64, .sl true 4 .bool, .sl true 4 .bool, .sl true 9 .str, .sl true 4 .bool, .sl true 9 .str], [(5, .pl 5 0), (6, .pl 6 0), (7, .pl 7 0), (8, .one (.h 0)), (29, .one (.vw 219136)), (30, .one (.h 2)), (31, .one (.h 3))], [(5, [.vw 219137, .vw 219136]), (6, [.vw 219138, .vw 219139]), (7, [.vw 219140, .vw 219141])], [(219136, 1), (219137, 4), (219138, 5), (219139, 6), (219140, 7), (219141, 8)], [], []⟩ [(.x 0, ⟨[.sl true 4 .bool, .sl true 9 .str], [(7, .pl 7 0)], [(7, [.vw 219284, .vw 219285])], [(219284, 0), (219285, 1)], [], []⟩)] (.seq .nil (.seq .nil (.seq (.block [(.n, ⟨[.int .i64, .sl true 9 .str, .int .i64, .int .i64, .sl true 4 .bool, .sl true 4 .bool, .sl true 9 .str, .sl true 4 .bool, .sl true 9 .str], [(5, .pl 5 0), (6, .pl 6 0), (7, .pl 7 0), (8, .one (.h 0)), (29, .one (.vw 219276)), (30, .one (.h 2)), (31, .one (.h 3))], [(5, [.vw 219277, .vw 219276]), (6, [.vw 219278, .vw 219279]), (7, [.vw 219280, .vw 219281])], [(219276, 1), (219277, 4), (219278, 5), (219279, 6), (219280, 7), (219281, 8)], [], []⟩), (.x 0, ⟨[.sl true 4 .bool, .sl true 9 .str], [(7, .pl 7 0)], [(7, [.vw 219282, .vw 219283])], [(219282, 0), (219283, 1)], [], []⟩)] (.seq .nil (.seq (.seq .nil (.block [] (.loop ⟨[.int .i64, .int .i64, .str, .int .i64, .sl true 9 .str, .int .i64, .int .i64, .sl true 4 .bool, .sl true 4 .bool, .sl true 9 .str, .sl true 4 .bool, .sl true 9 .str], [(5, .pl 5 0), (6, .pl 6 0), (7, .pl 7 0), (8, .one (.h 0)), (9, .one (.h 1)), (10, .one (.h 2)), (11, .one (.h 3)), (29, .one (.vw 219200)), (30, .one (.h 5)), (31, .one (.h 6))], [(5, [.vw 219201, .vw 219200]), (6, [.vw 219202, .vw 219203]), (7, [.vw 219204, .vw 219205])], [(219200, 4), (219201, 7), (219202, 8), (219203, 9), (219204, 10), (219205, 11)], [], []⟩ [(.x 2, ⟨[.int .i64, .int .i64, .sl true 9 .str, .int .i64, .int .i64, .sl true 4 .bool, .sl true 4 .bool, .sl true 9 .str, .sl true 4 .bool, .sl true 9 .str], [(5, .pl 5 0), (6, .pl 6 0), (7, .pl 7 0), (8, .one (.h 0)), (9, .one (.h 1)), (29, .one (.vw 219270)), (30, .one (.h 3)), (31, .one (.h 4))], [(5, [.vw 219271, .vw 219270]), (6, [.vw 219272, .vw 219273]), (7, [.vw 219274, .vw 219275])], [(219270, 2), (219271, 5), (219272, 6), (219273, 7), (219274, 8), (219275, 9)], [], []⟩)] (.seq .nil (.seq (.block [] (.seq (.seq .nil (.cond [(.n, ⟨[.int .i64, .int .i64, .str, .int .i64, .sl true 9 .str, .int .i64, .int .i64, .sl true 4 .bool, .sl true 4 .bool, .sl true 9 .str, .sl true 4 .bool, .sl true 9 .str], [(5, .pl 5 0), (6, .pl 6 0), (7, .pl 7 0), (8, .one (.h 0)), (9, .one (.h 1)), (10, .one (.h 2)), (11, .one (.h 3)), (29, .one (.vw 219264)), (30, .one (.h 5)), (31, .one (.h 6))], [(5, [.vw 219265, .vw 219264]), (6, [.vw 219266, .vw 219267]), (7, [.vw 219268, .vw 219269])], [(219264, 4), (219265, 7), (219266, 8), (219267, 9), (219268, 10), (219269, 11)], [], []⟩)] .nil .nil)) .nil)) .nil))))) .nil))) .nil)))))) .nil))))))
def env_s_l1Compose : Env := envOf ti [k_s_l1Open, k_s_l1Close] []
theorem eok_s_l1Compose : EnvOk Try.prog env_s_l1Compose := envOf_ok tab mix _ _ (by
  intro k hk
  simp only [List.mem_cons, List.not_mem_nil, or_false] at hk
  rcases hk with rfl | rfl
  · exact s_s_l1Open
  · exact s_s_l1Close)
theorem v_s_l1Compose (x0 : List (Int × (Int × List UInt8))) (x1 : List (Int × (Int × List UInt8))) : (vfun env_s_l1Compose Try.f162 J_s_l1Compose ann_s_l1Compose [] [.one ⟨.sl false 55 (.pair (.int .i64) (.pair (.int .i64) .str)), x0⟩, .one ⟨.sl false 55 (.pair (.int .i64) (.pair (.int .i64) .str)), x1⟩] []).run = (G.s_l1Compose x0 x1).bind fun y => some (Res.mk [.one ⟨.sl true 55 (.pair (.int .i64) (.pair (.int .i64) .str)), y⟩] [] []) := by kernel_rfl
def k_s_l1Compose : Kn := ⟨162, [0, 0], fun args rows => match args, rows with
  | [.one ⟨.sl false 55 (.pair (.int .i64) (.pair (.int .i64) .str)), x0⟩, .one ⟨.sl false 55 (.pair (.int .i64) (.pair (.int .i64) .str)), x1⟩], [] => some ⟨_, G.s_l1Compose x0 x1, fun y => ⟨[.one ⟨.sl true 55 (.pair (.int .i64) (.pair (.int .i64) .str)), y⟩], [], []⟩⟩
  | _, _ => none, []⟩
theorem s_s_l1Compose : KnOk Try.prog k_s_l1Compose := by
  intro args rows a h y hy
  simp only [k_s_l1Compose] at h
  split at h
  · injection h with h
    subst h
    exact vfun_ok eok_s_l1Compose Try.func162 rfl (by rw [v_s_l1Compose]; simp only at hy; rw [hy]; rfl)
  · cases h
def J_s_l10Between : Joins := [(.r, ⟨[.sl true 55 (.pair (.int .i64) (.pair (.int .i64) .str))], [(6, .one (.vw 141377))], [], [(141377, 0)], [], []⟩)]
def ann_s_l10Between : Ann := .seq .nil (.seq .nil (.seq (.seq .nil (.block [] (.loop ⟨[.sl true 55 (.pair (.int .i64) (.pair (.int .i64) .str)), .sl false 93 (.sl false 55 (.pair (.int .i64) (.pair (.int .i64) .str))), .int .i64, .int .i64], [(7, .one (.vw 141312)), (26, .one (.h 1)), (27, .one (.h 2)), (28, .one (.h 3))], [], [(141312, 0)], [], []⟩ [(.x 0, ⟨[.sl true 55 (.pair (.int .i64) (.pair (.int .i64) .str))], [(7, .one (.vw 141376))], [], [(141376, 0)], [], []⟩)] .nil))) .nil))
def env_s_l10Between : Env := envOf ti [k_s_l10Text, k_s_l1Add, k_s_l1Compose] []
theorem eok_s_l10Between : EnvOk Try.prog env_s_l10Between := envOf_ok tab mix _ _ (by
  intro k hk
  simp only [List.mem_cons, List.not_mem_nil, or_false] at hk
  rcases hk with rfl | rfl | rfl
  · exact s_s_l10Text
  · exact s_s_l1Add
  · exact s_s_l1Compose)
theorem v_s_l10Between (x0 : Int) (x1 : List UInt8) (x2 : List (Int × Int)) (x3 : List (List (Int × (Int × List UInt8)))) (x4 : Int) (x5 : Int) : (vfun env_s_l10Between Try.f132 J_s_l10Between ann_s_l10Between [] [.ag [⟨.int .i64, x0⟩, ⟨.str, x1⟩, ⟨.sl false 144 (.pair (.int .i64) (.int .i64)), x2⟩, ⟨.sl false 93 (.sl false 55 (.pair (.int .i64) (.pair (.int .i64) .str))), x3⟩], .one ⟨.int .i64, x4⟩, .one ⟨.int .i64, x5⟩] []).run = (G.s_l10Between x0 x1 x2 x3 x4 x5).bind fun y => some (Res.mk [.one ⟨.sl true 55 (.pair (.int .i64) (.pair (.int .i64) .str)), y⟩] [] []) := by kernel_rfl
def k_s_l10Between : Kn := ⟨132, [0, 0, 0], fun args rows => match args, rows with
  | [.ag [⟨.int .i64, x0⟩, ⟨.str, x1⟩, ⟨.sl false 144 (.pair (.int .i64) (.int .i64)), x2⟩, ⟨.sl false 93 (.sl false 55 (.pair (.int .i64) (.pair (.int .i64) .str))), x3⟩], .one ⟨.int .i64, x4⟩, .one ⟨.int .i64, x5⟩], [] => some ⟨_, G.s_l10Between x0 x1 x2 x3 x4 x5, fun y => ⟨[.one ⟨.sl true 55 (.pair (.int .i64) (.pair (.int .i64) .str)), y⟩], [], []⟩⟩
  | _, _ => none, []⟩
theorem s_s_l10Between : KnOk Try.prog k_s_l10Between := by
  intro args rows a h y hy
  simp only [k_s_l10Between] at h
  split at h
  · injection h with h
    subst h
    exact vfun_ok eok_s_l10Between Try.func132 rfl (by rw [v_s_l10Between]; simp only at hy; rw [hy]; rfl)
  · cases h
def J_s_l1Carry : Joins := [(.r, ⟨[.sl true 55 (.pair (.int .i64) (.pair (.int .i64) .str))], [(6, .one (.vw 174170))], [], [(174170, 0)], [], []⟩)]
def ann_s_l1Carry : Ann := .seq .nil (.seq .nil (.seq .nil (.seq .nil (.seq (.seq .nil (.block [] (.loop ⟨[.bool, .sl true 55 (.pair (.int .i64) (.pair (.int .i64) .str)), .sl true 9 .str, .int .i64, .int .i64, .sl true 4 .bool, .sl true 4 .bool, .sl true 9 .str], [(2, .one (.h 0)), (7, .pl 7 0), (8, .pl 8 0), (9, .one (.vw 174080)), (17, .one (.vw 174081)), (18, .one (.h 3)), (19, .one (.h 4))], [(7, [.vw 174082, .vw 174081]), (8, [.vw 174083, .vw 174084])], [(174080, 1), (174081, 2), (174082, 5), (174083, 6), (174084, 7)], [], []⟩ [(.x 0, ⟨[.sl true 55 (.pair (.int .i64) (.pair (.int .i64) .str))], [(9, .one (.vw 174169))], [], [(174169, 0)], [], []⟩)] (.seq .nil (.seq .nil (.seq (.block [(.n, ⟨[.bool, .sl true 55 (.pair (.int .i64) (.pair (.int .i64) .str)), .sl true 9 .str, .int .i64, .int .i64, .sl true 4 .bool, .sl true 4 .bool, .sl true 9 .str], [(2, .one (.h 0)), (7, .pl 7 0), (8, .pl 8 0), (9, .one (.vw 174164)), (17, .one (.vw 174165)), (18, .one (.h 3)), (19, .one (.h 4))], [(7, [.vw 174166, .vw 174165]), (8, [.vw 174167, .vw 174168])], [(174164, 1), (174165, 2), (174166, 5), (174167, 6), (174168, 7)], [], []⟩)] (.seq .nil (.seq (.seq .nil (.cond [(.n, ⟨[.bool, .sl true 55 (.pair (.int .i64) (.pair (.int .i64) .str)), .int .i64, .str, .sl true 9 .str, .int .i64, .int .i64, .sl true 4 .bool, .sl true 4 .bool, .sl true 9 .str], [(2, .one (.h 0)), (7, .pl 7 0), (8, .pl 8 0), (9, .one (.vw 174144)), (10, .one (.h 2)), (11, .one (.h 3)), (17, .one (.vw 174145)), (18, .one (.h 5)), (19, .one (.h 6))], [(7, [.vw 174146, .vw 174145]), (8, [.vw 174147, .vw 174148])], [(174144, 1), (174145, 4), (174146, 7), (174147, 8), (174148, 9)], [], []⟩)] .nil .nil)) (.seq .nil (.seq (.seq .nil (.cond [(.n, ⟨[.bool, .sl true 55 (.pair (.int .i64) (.pair (.int .i64) .str)), .int .i64, .sl true 9 .str, .int .i64, .int .i64, .sl true 4 .bool, .sl true 4 .bool, .sl true 9 .str], [(2, .one (.h 0)), (7, .pl 7 0), (8, .pl 8 0), (9, .one (.vw 174149)), (10, .one (.h 2)), (17, .one (.vw 174150)), (18, .one (.h 4)), (19, .one (.h 5))], [(7, [.vw 174151, .vw 174150]), (8, [.vw 174152, .vw 174153])], [(174149, 1), (174150, 3), (174151, 6), (174152, 7), (174153, 8)], [], []⟩)] .nil .nil)) (.seq (.seq (.reg [(.n, ⟨[.bool, .sl true 55 (.pair (.int .i64) (.pair (.int .i64) .str)), .int .i64, .sl true 9 .str, .int .i64, .int .i64, .bool, .sl true 4 .bool, .sl true 4 .bool, .sl true 9 .str], [(2, .one (.h 0)), (7, .pl 7 0), (8, .pl 8 0), (9, .one (.vw 174154)), (10, .one (.h 2)), (17, .one (.vw 174155)), (18, .one (.h 4)), (19, .one (.h 5)), (56, .one (.h 6))], [(7, [.vw 174156, .vw 174155]), (8, [.vw 174157, .vw 174158])], [(174154, 1), (174155, 3), (174156, 7), (174157, 8), (174158, 9)], [], []⟩)]) .nil) (.seq .nil (.cond [(.n, ⟨[.bool, .sl true 55 (.pair (.int .i64) (.pair (.int .i64) .str)), .sl true 9 .str, .int .i64, .int .i64, .sl true 4 .bool, .sl true 4 .bool, .sl true 9 .str], [(2, .one (.h 0)), (7, .pl 7 0), (8, .pl 8 0), (9, .one (.vw 174159)), (17, .one (.vw 174160)), (18, .one (.h 3)), (19, .one (.h 4))], [(7, [.vw 174161, .vw 174160]), (8, [.vw 174162, .vw 174163])], [(174159, 1), (174160, 2), (174161, 5), (174162, 6), (174163, 7)], [], []⟩)] .nil .nil)))))))) .nil)))))) .nil))))
def env_s_l1Carry : Env := envOf ti [k_s_l1Open, k_s_l1Add] []
theorem eok_s_l1Carry : EnvOk Try.prog env_s_l1Carry := envOf_ok tab mix _ _ (by
  intro k hk
  simp only [List.mem_cons, List.not_mem_nil, or_false] at hk
  rcases hk with rfl | rfl
  · exact s_s_l1Open
  · exact s_s_l1Add)
theorem v_s_l1Carry (x0 : List (Int × (Int × List UInt8))) (x1 : List (Int × (Int × List UInt8))) (x2 : Bool) : (vfun env_s_l1Carry Try.f212 J_s_l1Carry ann_s_l1Carry [] [.one ⟨.sl false 55 (.pair (.int .i64) (.pair (.int .i64) .str)), x0⟩, .one ⟨.sl false 55 (.pair (.int .i64) (.pair (.int .i64) .str)), x1⟩, .one ⟨.bool, x2⟩] []).run = (G.s_l1Carry x0 x1 x2).bind fun y => some (Res.mk [.one ⟨.sl true 55 (.pair (.int .i64) (.pair (.int .i64) .str)), y⟩] [] []) := by kernel_rfl
def k_s_l1Carry : Kn := ⟨212, [0, 0, 0], fun args rows => match args, rows with
  | [.one ⟨.sl false 55 (.pair (.int .i64) (.pair (.int .i64) .str)), x0⟩, .one ⟨.sl false 55 (.pair (.int .i64) (.pair (.int .i64) .str)), x1⟩, .one ⟨.bool, x2⟩], [] => some ⟨_, G.s_l1Carry x0 x1 x2, fun y => ⟨[.one ⟨.sl true 55 (.pair (.int .i64) (.pair (.int .i64) .str)), y⟩], [], []⟩⟩
  | _, _ => none, []⟩
theorem s_s_l1Carry : KnOk Try.prog k_s_l1Carry := by
  intro args rows a h y hy
  simp only [k_s_l1Carry] at h
  split at h
  · injection h with h
    subst h
    exact vfun_ok eok_s_l1Carry Try.func212 rfl (by rw [v_s_l1Carry]; simp only at hy; rw [hy]; rfl)
  · cases h
def J_s_CarryChange : Joins := [(.r, ⟨[.sl true 55 (.pair (.int .i64) (.pair (.int .i64) .str)), .bool], [(6, .one (.vw 135168)), (7, .one (.h 1))], [], [(135168, 0)], [], []⟩)]
def ann_s_CarryChange : Ann := .seq .nil (.seq (.seq (.reg [(.n, ⟨[.sl false 55 (.pair (.int .i64) (.pair (.int .i64) .str)), .sl false 55 (.pair (.int .i64) (.pair (.int .i64) .str)), .bool, .bool], [(0, .one (.h 0)), (1, .one (.h 1)), (2, .one (.h 2)), (23, .one (.h 3))], [], [], [], []⟩)]) .nil) .nil)
def env_s_CarryChange : Env := envOf ti [k_s_GoodChange, k_s_l1Source, k_s_l1Carry] []
theorem eok_s_CarryChange : EnvOk Try.prog env_s_CarryChange := envOf_ok tab mix _ _ (by
  intro k hk
  simp only [List.mem_cons, List.not_mem_nil, or_false] at hk
  rcases hk with rfl | rfl | rfl
  · exact s_s_GoodChange
  · exact s_s_l1Source
  · exact s_s_l1Carry)
theorem v_s_CarryChange (x0 : List (Int × (Int × List UInt8))) (x1 : List (Int × (Int × List UInt8))) (x2 : Bool) : (vfun env_s_CarryChange Try.f150 J_s_CarryChange ann_s_CarryChange [] [.one ⟨.sl false 55 (.pair (.int .i64) (.pair (.int .i64) .str)), x0⟩, .one ⟨.sl false 55 (.pair (.int .i64) (.pair (.int .i64) .str)), x1⟩, .one ⟨.bool, x2⟩] []).run = (G.s_CarryChange x0 x1 x2).bind fun y => some (Res.mk [.one ⟨.sl true 55 (.pair (.int .i64) (.pair (.int .i64) .str)), y.1⟩, .one ⟨.bool, y.2⟩] [] []) := by kernel_rfl
def k_s_CarryChange : Kn := ⟨150, [0, 0, 0], fun args rows => match args, rows with
  | [.one ⟨.sl false 55 (.pair (.int .i64) (.pair (.int .i64) .str)), x0⟩, .one ⟨.sl false 55 (.pair (.int .i64) (.pair (.int .i64) .str)), x1⟩, .one ⟨.bool, x2⟩], [] => some ⟨_, G.s_CarryChange x0 x1 x2, fun y => ⟨[.one ⟨.sl true 55 (.pair (.int .i64) (.pair (.int .i64) .str)), y.1⟩, .one ⟨.bool, y.2⟩], [], []⟩⟩
  | _, _ => none, []⟩
theorem s_s_CarryChange : KnOk Try.prog k_s_CarryChange := by
  intro args rows a h y hy
  simp only [k_s_CarryChange] at h
  split at h
  · injection h with h
    subst h
    exact vfun_ok eok_s_CarryChange Try.func150 rfl (by rw [v_s_CarryChange]; simp only at hy; rw [hy]; rfl)
  · cases h
def J_s_RebaseOf : Joins := [(.r, ⟨[.sl true 55 (.pair (.int .i64) (.pair (.int .i64) .str)), .int .i64], [(6, .one (.vw 146432)), (7, .one (.h 1))], [], [(146432, 0)], [], []⟩)]
def ann_s_RebaseOf : Ann := .seq .nil (.seq .nil (.seq (.seq (.reg [(.n, ⟨[.int .i64, .sl false 55 (.pair (.int .i64) (.pair (.int .i64) .str)), .bool, .int .i64, .str, .sl false 144 (.pair (.int .i64) (.int .i64)), .sl false 93 (.sl false 55 (.pair (.int .i64) (.pair (.int .i64) .str)))], [(1, .one (.h 0)), (2, .one (.h 1)), (3, .pl 3 0), (29, .one (.h 2))], [(3, [.h 3, .h 4, .h 5, .h 6])], [], [], []⟩)]) .nil) .nil))
def env_s_RebaseOf : Env := envOf ti [k_s_l10Range, k_s_GoodChange, k_s_l1Source, k_s_l10Text, k_s_l10Head, k_s_l10Between, k_s_CarryChange] []
theorem eok_s_RebaseOf : EnvOk Try.prog env_s_RebaseOf := envOf_ok tab mix _ _ (by
  intro k hk
  simp only [List.mem_cons, List.not_mem_nil, or_false] at hk
  rcases hk with rfl | rfl | rfl | rfl | rfl | rfl | rfl
  · exact s_s_l10Range
  · exact s_s_GoodChange
  · exact s_s_l1Source
  · exact s_s_l10Text
  · exact s_s_l10Head
  · exact s_s_l10Between
  · exact s_s_CarryChange)
theorem v_s_RebaseOf (x0 : Int) (x1 : List UInt8) (x2 : List (Int × Int)) (x3 : List (List (Int × (Int × List UInt8)))) (x4 : Int) (x5 : List (Int × (Int × List UInt8))) : (vfun env_s_RebaseOf Try.f64 J_s_RebaseOf ann_s_RebaseOf [] [.ag [⟨.int .i64, x0⟩, ⟨.str, x1⟩, ⟨.sl false 144 (.pair (.int .i64) (.int .i64)), x2⟩, ⟨.sl false 93 (.sl false 55 (.pair (.int .i64) (.pair (.int .i64) .str))), x3⟩], .one ⟨.int .i64, x4⟩, .one ⟨.sl false 55 (.pair (.int .i64) (.pair (.int .i64) .str)), x5⟩] []).run = (G.s_RebaseOf x0 x1 x2 x3 x4 x5).bind fun y => some (Res.mk [.one ⟨.sl true 55 (.pair (.int .i64) (.pair (.int .i64) .str)), y.1⟩, .one ⟨.int .i64, y.2⟩] [] []) := by kernel_rfl
def k_s_RebaseOf : Kn := ⟨64, [0, 0, 0], fun args rows => match args, rows with
  | [.ag [⟨.int .i64, x0⟩, ⟨.str, x1⟩, ⟨.sl false 144 (.pair (.int .i64) (.int .i64)), x2⟩, ⟨.sl false 93 (.sl false 55 (.pair (.int .i64) (.pair (.int .i64) .str))), x3⟩], .one ⟨.int .i64, x4⟩, .one ⟨.sl false 55 (.pair (.int .i64) (.pair (.int .i64) .str)), x5⟩], [] => some ⟨_, G.s_RebaseOf x0 x1 x2 x3 x4 x5, fun y => ⟨[.one ⟨.sl true 55 (.pair (.int .i64) (.pair (.int .i64) .str)), y.1⟩, .one ⟨.int .i64, y.2⟩], [], []⟩⟩
  | _, _ => none, []⟩
theorem s_s_RebaseOf : KnOk Try.prog k_s_RebaseOf := by
  intro args rows a h y hy
  simp only [k_s_RebaseOf] at h
  split at h
  · injection h with h
    subst h
    exact vfun_ok eok_s_RebaseOf Try.func64 rfl (by rw [v_s_RebaseOf]; simp only at hy; rw [hy]; rfl)
  · cases h
def J_s_l10Own : Joins := [(.r, ⟨[.int .i64, .str, .sl true 144 (.pair (.int .i64) (.int .i64)), .sl true 93 (.sl true 55 (.pair (.int .i64) (.pair (.int .i64) .str)))], [(2, .pl 2 0)], [(2, [.h 0, .h 1, .vw 135233, .vw 135234])], [(135233, 2), (135234, 3)], [], []⟩)]
def ann_s_l10Own : Ann := .seq .nil (.seq .nil (.seq (.seq .nil (.block [] (.loop ⟨[.sl true 93 (.sl true 55 (.pair (.int .i64) (.pair (.int .i64) .str))), .sl false 93 (.sl false 55 (.pair (.int .i64) (.pair (.int .i64) .str))), .int .i64, .int .i64, .int .i64, .str, .sl false 144 (.pair (.int .i64) (.int .i64)), .sl false 93 (.sl false 55 (.pair (.int .i64) (.pair (.int .i64) .str))), .int .i64, .str], [(1, .pl 1 0), (2, .pl 2 0), (3, .one (.vw 135168)), (7, .one (.h 1)), (8, .one (.h 2)), (9, .one (.h 3))], [(1, [.h 4, .h 5, .h 6, .h 7]), (2, [.h 8, .h 9, .nil, .nil])], [(135168, 0)], [], []⟩ [(.x 0, ⟨[.sl true 93 (.sl true 55 (.pair (.int .i64) (.pair (.int .i64) .str))), .int .i64, .str, .sl false 144 (.pair (.int .i64) (.int .i64)), .sl false 93 (.sl false 55 (.pair (.int .i64) (.pair (.int .i64) .str))), .int .i64, .str], [(1, .pl 1 0), (2, .pl 2 0), (3, .one (.vw 135232))], [(1, [.h 1, .h 2, .h 3, .h 4]), (2, [.h 5, .h 6, .nil, .nil])], [(135232, 0)], [], []⟩)] .nil))) .nil))
def env_s_l10Own : Env := envOf ti [] []
theorem eok_s_l10Own : EnvOk Try.prog env_s_l10Own := envOf_ok tab mix _ _ (by
  intro k hk; cases hk)
theorem v_s_l10Own (x0 : Int) (x1 : List UInt8) (x2 : List (Int × Int)) (x3 : List (List (Int × (Int × List UInt8)))) : (vfun env_s_l10Own Try.f136 J_s_l10Own ann_s_l10Own [] [.ag [⟨.int .i64, x0⟩, ⟨.str, x1⟩, ⟨.sl false 144 (.pair (.int .i64) (.int .i64)), x2⟩, ⟨.sl false 93 (.sl false 55 (.pair (.int .i64) (.pair (.int .i64) .str))), x3⟩]] []).run = (G.s_l10Own x0 x1 x2 x3).bind fun y => some (Res.mk [.ag [⟨.int .i64, y.1⟩, ⟨.str, y.2.1⟩, ⟨.sl true 144 (.pair (.int .i64) (.int .i64)), y.2.2.1⟩, ⟨.sl true 93 (.sl true 55 (.pair (.int .i64) (.pair (.int .i64) .str))), y.2.2.2⟩]] [] []) := by kernel_rfl
def k_s_l10Own : Kn := ⟨136, [0], fun args rows => match args, rows with
  | [.ag [⟨.int .i64, x0⟩, ⟨.str, x1⟩, ⟨.sl false 144 (.pair (.int .i64) (.int .i64)), x2⟩, ⟨.sl false 93 (.sl false 55 (.pair (.int .i64) (.pair (.int .i64) .str))), x3⟩]], [] => some ⟨_, G.s_l10Own x0 x1 x2 x3, fun y => ⟨[.ag [⟨.int .i64, y.1⟩, ⟨.str, y.2.1⟩, ⟨.sl true 144 (.pair (.int .i64) (.int .i64)), y.2.2.1⟩, ⟨.sl true 93 (.sl true 55 (.pair (.int .i64) (.pair (.int .i64) .str))), y.2.2.2⟩]], [], []⟩⟩
  | _, _ => none, []⟩
theorem s_s_l10Own : KnOk Try.prog k_s_l10Own := by
  intro args rows a h y hy
  simp only [k_s_l10Own] at h
  split at h
  · injection h with h
    subst h
    exact vfun_ok eok_s_l10Own Try.func136 rfl (by rw [v_s_l10Own]; simp only at hy; rw [hy]; rfl)
  · cases h
def J_s_Submit : Joins := [(.r, ⟨[.int .i64, .int .i64, .int .i64, .str, .sl true 144 (.pair (.int .i64) (.int .i64)), .sl true 93 (.sl true 55 (.pair (.int .i64) (.pair (.int .i64) .str)))], [(6, .pl 6 0), (7, .one (.h 0)), (8, .one (.h 1))], [(6, [.h 2, .h 3, .vw 148486, .vw 148487])], [(148486, 4), (148487, 5)], [], []⟩)]
def ann_s_Submit : Ann := .seq .nil (.seq .nil (.seq .nil (.seq .nil (.seq (.seq (.reg [(.n, ⟨[.sl true 55 (.pair (.int .i64) (.pair (.int .i64) .str)), .int .i64, .bool, .int .i64, .str, .sl true 144 (.pair (.int .i64) (.int .i64)), .sl true 93 (.sl true 55 (.pair (.int .i64) (.pair (.int .i64) .str))), .int .i64, .str], [(3, .pl 3 0), (6, .pl 6 0), (9, .one (.vw 148480)), (10, .one (.h 1)), (30, .one (.h 2))], [(3, [.h 3, .h 4, .vw 148481, .vw 148482]), (6, [.h 7, .h 8, .nil, .nil])], [(148480, 0), (148481, 5), (148482, 6)], [], []⟩)]) (.cond [(.n, ⟨[.sl true 55 (.pair (.int .i64) (.pair (.int .i64) .str)), .int .i64, .int .i64, .str, .sl true 144 (.pair (.int .i64) (.int .i64)), .sl true 93 (.sl true 55 (.pair (.int .i64) (.pair (.int .i64) .str))), .int .i64, .str], [(3, .pl 3 0), (6, .pl 6 0), (9, .one (.vw 148483)), (10, .one (.h 1))], [(3, [.h 2, .h 3, .vw 148484, .vw 148485]), (6, [.h 6, .h 7, .nil, .nil])], [(148483, 0), (148484, 4), (148485, 5)], [], []⟩)] .nil .nil)) .nil))))
def env_s_Submit : Env := envOf ti [k_s_GoodHistory, k_s_RebaseOf, k_s_l10Own, k_s_l10Head] []
theorem eok_s_Submit : EnvOk Try.prog env_s_Submit := envOf_ok tab mix _ _ (by
  intro k hk
  simp only [List.mem_cons, List.not_mem_nil, or_false] at hk
  rcases hk with rfl | rfl | rfl | rfl
  · exact s_s_GoodHistory
  · exact s_s_RebaseOf
  · exact s_s_l10Own
  · exact s_s_l10Head)
theorem v_s_Submit (x0 : Int) (x1 : List UInt8) (x2 : List (Int × Int)) (x3 : List (List (Int × (Int × List UInt8)))) (x4 : Int) (x5 : List (Int × (Int × List UInt8))) : (vfun env_s_Submit Try.f71 J_s_Submit ann_s_Submit [] [.ag [⟨.int .i64, x0⟩, ⟨.str, x1⟩, ⟨.sl false 144 (.pair (.int .i64) (.int .i64)), x2⟩, ⟨.sl false 93 (.sl false 55 (.pair (.int .i64) (.pair (.int .i64) .str))), x3⟩], .one ⟨.int .i64, x4⟩, .one ⟨.sl false 55 (.pair (.int .i64) (.pair (.int .i64) .str)), x5⟩] []).run = (G.s_Submit x0 x1 x2 x3 x4 x5).bind fun y => some (Res.mk [.ag [⟨.int .i64, y.2.2.1⟩, ⟨.str, y.2.2.2.1⟩, ⟨.sl true 144 (.pair (.int .i64) (.int .i64)), y.2.2.2.2.1⟩, ⟨.sl true 93 (.sl true 55 (.pair (.int .i64) (.pair (.int .i64) .str))), y.2.2.2.2.2⟩], .one ⟨.int .i64, y.1⟩, .one ⟨.int .i64, y.2.1⟩] [] []) := by kernel_rfl
def k_s_Submit : Kn := ⟨71, [0, 0, 0], fun args rows => match args, rows with
  | [.ag [⟨.int .i64, x0⟩, ⟨.str, x1⟩, ⟨.sl false 144 (.pair (.int .i64) (.int .i64)), x2⟩, ⟨.sl false 93 (.sl false 55 (.pair (.int .i64) (.pair (.int .i64) .str))), x3⟩], .one ⟨.int .i64, x4⟩, .one ⟨.sl false 55 (.pair (.int .i64) (.pair (.int .i64) .str)), x5⟩], [] => some ⟨_, G.s_Submit x0 x1 x2 x3 x4 x5, fun y => ⟨[.ag [⟨.int .i64, y.2.2.1⟩, ⟨.str, y.2.2.2.1⟩, ⟨.sl true 144 (.pair (.int .i64) (.int .i64)), y.2.2.2.2.1⟩, ⟨.sl true 93 (.sl true 55 (.pair (.int .i64) (.pair (.int .i64) .str))), y.2.2.2.2.2⟩], .one ⟨.int .i64, y.1⟩, .one ⟨.int .i64, y.2.1⟩], [], []⟩⟩
  | _, _ => none, []⟩
theorem s_s_Submit : KnOk Try.prog k_s_Submit := by
  intro args rows a h y hy
  simp only [k_s_Submit] at h
  split at h
  · injection h with h
    subst h
    exact vfun_ok eok_s_Submit Try.func71 rfl (by rw [v_s_Submit]; simp only at hy; rw [hy]; rfl)
  · cases h
def J_s_l1Cur_history_f : Joins := [(.r, ⟨[.int .i64, .str, .sl true 144 (.pair (.int .i64) (.int .i64)), .sl true 93 (.sl true 55 (.pair (.int .i64) (.pair (.int .i64) .str))), .sl false 5 (.int .u8), .int .i64, .int .u64], [(2, .pl 2 0)], [(2, [.h 0, .h 1, .vw 206930, .vw 206931]), (103, [.h 4, .h 5, .h 6])], [(206930, 2), (206931, 3)], [], []⟩)]
def ann_s_l1Cur_history_f : Ann := .seq .nil (.seq .nil (.seq (.seq .nil (.cond [(.n, ⟨[.int .i64, .str, .int .i64, .str, .sl true 144 (.pair (.int .i64) (.int .i64)), .sl true 93 (.sl true 55 (.pair (.int .i64) (.pair (.int .i64) .str))), .sl false 5 (.int .u8), .int .i64, .int .u64], [(0, .pl 103 0), (2, .pl 2 0), (3, .pl 3 0)], [(2, [.h 0, .h 1, .nil, .nil]), (3, [.h 2, .h 3, .vw 206848, .vw 206849]), (103, [.h 6, .h 7, .h 8])], [(206848, 4), (206849, 5)], [], []⟩)] .nil .nil)) (.seq .nil (.seq (.seq .nil (.cond [(.n, ⟨[.int .i64, .int .i64, .str, .int .i64, .str, .sl true 144 (.pair (.int .i64) (.int .i64)), .sl true 93 (.sl true 55 (.pair (.int .i64) (.pair (.int .i64) .str))), .sl false 5 (.int .u8), .int .i64, .int .u64], [(0, .pl 103 0), (2, .pl 2 0), (3, .pl 3 0), (5, .one (.h 0))], [(2, [.h 1, .h 2, .nil, .nil]), (3, [.h 3, .h 4, .vw 206850, .vw 206851]), (103, [.h 7, .h 8, .h 9])], [(206850, 5), (206851, 6)], [], []⟩)] .nil .nil)) (.seq (.block [] (.loop ⟨[.int .i64, .int .i64, .str, .int .i64, .str, .sl true 144 (.pair (.int .i64) (.int .i64)), .sl true 93 (.sl true 55 (.pair (.int .i64) (.pair (.int .i64) .str))), .sl false 5 (.int .u8), .int .i64, .int .u64], [(0, .pl 103 0), (2, .pl 2 0), (3, .pl 3 0), (5, .one (.h 0))], [(2, [.h 1, .h 2, .nil, .nil]), (3, [.h 3, .h 4, .vw 206852, .vw 206853]), (103, [.h 7, .h 8, .h 9])], [(206852, 5), (206853, 6)], [], []⟩ [(.x 0, ⟨[.int .i64, .str, .int .i64, .str, .sl true 144 (.pair (.int .i64) (.int .i64)), .sl true 93 (.sl true 55 (.pair (.int .i64) (.pair (.int .i64) .str))), .sl false 5 (.int .u8), .int .i64, .int .u64], [(0, .pl 103 0), (2, .pl 2 0), (3, .pl 3 0)], [(2, [.h 0, .h 1, .nil, .nil]), (3, [.h 2, .h 3, .vw 206922, .vw 206923]), (103, [.h 6, .h 7, .h 8])], [(206922, 4), (206923, 5)], [], []⟩)] (.seq (.seq (.reg [(.n, ⟨[.int .i64, .bool, .int .i64, .str, .int .i64, .str, .sl true 144 (.pair (.int .i64) (.int .i64)), .sl true 93 (.sl true 55 (.pair (.int .i64) (.pair (.int .i64) .str))), .sl false 5 (.int .u8), .int .i64, .int .u64], [(0, .pl 103 0), (2, .pl 2 0), (3, .pl 3 0), (5, .one (.h 0)), (45, .one (.h 1))], [(2, [.h 2, .h 3, .nil, .nil]), (3, [.h 4, .h 5, .vw 206916, .vw 206917]), (103, [.h 8, .h 9, .h 10])], [(206916, 6), (206917, 7)], [], []⟩)]) .nil) (.seq (.block [] (.seq .nil (.seq (.seq .nil (.cond [(.n, ⟨[.int .i64, .int .i64, .int .i64, .str, .int .i64, .str, .sl true 144 (.pair (.int .i64) (.int .i64)), .sl true 93 (.sl true 55 (.pair (.int .i64) (.pair (.int .i64) .str))), .sl false 5 (.int .u8), .int .i64, .int .u64], [(0, .pl 103 0), (2, .pl 2 0), (3, .pl 3 0), (5, .one (.h 0)), (6, .one (.h 1))], [(2, [.h 2, .h 3, .nil, .nil]), (3, [.h 4, .h 5, .vw 206918, .vw 206919]), (103, [.h 8, .h 9, .h 10])], [(206918, 6), (206919, 7)], [], []⟩)] .nil .nil)) (.seq .nil (.seq .nil (.cond [(.n, ⟨[.int .i64, .int .i64, .str, .int .i64, .str, .sl true 144 (.pair (.int .i64) (.int .i64)), .sl true 93 (.sl true 55 (.pair (.int .i64) (.pair (.int .i64) .str))), .sl false 5 (.int .u8), .int .i64, .int .u64], [(0, .pl 103 0), (2, .pl 2 0), (3, .pl 3 0), (5, .one (.h 0))], [(2, [.h 1, .h 2, .nil, .nil]), (3, [.h 3, .h 4, .vw 206920, .vw 206921]), (103, [.h 7, .h 8, .h 9])], [(206920, 5), (206921, 6)], [], []⟩)] .nil .nil)))))) .nil)))) (.seq (.seq .nil (.block [] (.seq .nil (.cond [(.n, ⟨[.int .i64, .str, .int .i64, .str, .sl true 144 (.pair (.int .i64) (.int .i64)), .sl true 93 (.sl true 55 (.pair (.int .i64) (.pair (.int .i64) .str))), .sl false 5 (.int .u8), .int .i64, .int .u64], [(2, .pl 2 0), (3, .pl 3 0)], [(2, [.h 0, .h 1, .nil, .nil]), (3, [.h 2, .h 3, .vw 206928, .vw 206929]), (103, [.h 6, .h 7, .h 8])], [(206928, 4), (206929, 5)], [], []⟩)] .nil (.seq .nil (.cond [(.n, ⟨[.int .i64, .str, .int .i64, .str, .sl true 144 (.pair (.int .i64) (.int .i64)), .sl true 93 (.sl true 55 (.pair (.int .i64) (.pair (.int .i64) .str))), .sl false 5 (.int .u8), .int .i64, .int .u64], [(2, .pl 2 0), (3, .pl 3 0)], [(2, [.h 0, .h 1, .nil, .nil]), (3, [.h 2, .h 3, .vw 206926, .vw 206927]), (103, [.h 6, .h 7, .h 8])], [(206926, 4), (206927, 5)], [], []⟩)] .nil (.seq .nil (.cond [(.n, ⟨[.int .i64, .str, .int .i64, .str, .sl true 144 (.pair (.int .i64) (.int .i64)), .sl true 93 (.sl true 55 (.pair (.int .i64) (.pair (.int .i64) .str))), .sl false 5 (.int .u8), .int .i64, .int .u64], [(2, .pl 2 0), (3, .pl 3 0)], [(2, [.h 0, .h 1, .nil, .nil]), (3, [.h 2, .h 3, .vw 206924, .vw 206925]), (103, [.h 6, .h 7, .h 8])], [(206924, 4), (206925, 5)], [], []⟩)] .nil .nil)))))))) .nil))))))
def env_s_l1Cur_history_f : Env := envOf ti [k_s_l10New, k_s_l1Cur_one_f, k_s_l1Cur_pick_f, k_s_l1Cur_textOf_f, k_s_l1Cur_runs_f, k_s_GoodHistory, k_s_l10Head, k_s_l10Text, k_s_l1Cur_changeOf_f, k_s_Submit, k_s_l1Cur_among_f] []
theorem eok_s_l1Cur_history_f : EnvOk Try.prog env_s_l1Cur_history_f := envOf_ok tab mix _ _ (by
  intro k hk
  simp only [List.mem_cons, List.not_mem_nil, or_false] at hk
  rcases hk with rfl | rfl | rfl | rfl | rfl | rfl | rfl | rfl | rfl | rfl | rfl
  · exact s_s_l10New
  · exact s_s_l1Cur_one_f
  · exact s_s_l1Cur_pick_f
  · exact s_s_l1Cur_textOf_f
  · exact s_s_l1Cur_runs_f
  · exact s_s_GoodHistory
  · exact s_s_l10Head
  · exact s_s_l10Text
  · exact s_s_l1Cur_changeOf_f
  · exact s_s_Submit
  · exact s_s_l1Cur_among_f)
theorem v_s_l1Cur_history_f (x0 : List Int) (x1 : Int) (x2 : Int) : (vfun env_s_l1Cur_history_f Try.f146 J_s_l1Cur_history_f ann_s_l1Cur_history_f [] [.pl 0 0] [[⟨.sl false 5 (.int .u8), x0⟩, ⟨.int .i64, x1⟩, ⟨.int .u64, x2⟩]]).run = (G.s_l1Cur_history_f x0 x1 x2).bind fun y => some (Res.mk [.ag [⟨.int .i64, y.1⟩, ⟨.str, y.2.1⟩, ⟨.sl true 144 (.pair (.int .i64) (.int .i64)), y.2.2.1⟩, ⟨.sl true 93 (.sl true 55 (.pair (.int .i64) (.pair (.int .i64) .str))), y.2.2.2.1⟩]] [[⟨.sl false 5 (.int .u8), y.2.2.2.2.1⟩, ⟨.int .i64, y.2.2.2.2.2.1⟩, ⟨.int .u64, y.2.2.2.2.2.2⟩]] []) := by kernel_rfl
def k_s_l1Cur_history_f : Kn := ⟨146, [0], fun args rows => match args, rows with
  | [.pl 0 0], [[⟨.sl false 5 (.int .u8), x0⟩, ⟨.int .i64, x1⟩, ⟨.int .u64, x2⟩]] => some ⟨_, G.s_l1Cur_history_f x0 x1 x2, fun y => ⟨[.ag [⟨.int .i64, y.1⟩, ⟨.str, y.2.1⟩, ⟨.sl true 144 (.pair (.int .i64) (.int .i64)), y.2.2.1⟩, ⟨.sl true 93 (.sl true 55 (.pair (.int .i64) (.pair (.int .i64) .str))), y.2.2.2.1⟩]], [[⟨.sl false 5 (.int .u8), y.2.2.2.2.1⟩, ⟨.int .i64, y.2.2.2.2.2.1⟩, ⟨.int .u64, y.2.2.2.2.2.2⟩]], []⟩⟩
  | _, _ => none, []⟩
theorem s_s_l1Cur_history_f : KnOk Try.prog k_s_l1Cur_history_f := by
  intro args rows a h y hy
  simp only [k_s_l1Cur_history_f] at h
  split at h
  · injection h with h
    subst h
    exact vfun_ok eok_s_l1Cur_history_f Try.func146 rfl (by rw [v_s_l1Cur_history_f]; simp only at hy; rw [hy]; rfl)
  · cases h
end
end Go.Proofs.Ytcfbfpipfalieaa

set_option linter.unusedVariables false
set_option maxRecDepth 100000
namespace Go.Proofs.Ytcfbfpipfalieaa
open Go.V
noncomputable section
def J_s_TextAt : Joins := [(.r, ⟨[.str, .int .i64], [(4, .one (.h 0)), (5, .one (.h 1))], [], [], [], []⟩)]
def ann_s_TextAt : Ann := .nil
def env_s_TextAt : Env := envOf ti [k_s_l10Range, k_s_l10Text] []
theorem eok_s_TextAt : EnvOk Try.prog env_s_TextAt := envOf_ok tab mix _ _ (by
  intro k hk
  simp only [List.mem_cons, List.not_mem_nil, or_false] at hk
  rcases hk with rfl | rfl
  · exact s_s_l10Range
  · exact s_s_l10Text)
theorem v_s_TextAt (x0 : Int) (x1 : List UInt8) (x2 : List (Int × Int)) (x3 : List (List (Int × (Int × List UInt8)))) (x4 : Int) : (vfun env_s_TextAt Try.f148 J_s_TextAt ann_s_TextAt [] [.ag [⟨.int .i64, x0⟩, ⟨.str, x1⟩, ⟨.sl false 144 (.pair (.int .i64) (.int .i64)), x2⟩, ⟨.sl false 93 (.sl false 55 (.pair (.int .i64) (.pair (.int .i64) .str))), x3⟩], .one ⟨.int .i64, x4⟩] []).run = (G.s_TextAt x0 x1 x2 x3 x4).bind fun y => some (Res.mk [.one ⟨.str, y.1⟩, .one ⟨.int .i64, y.2⟩] [] []) := by kernel_rfl
def k_s_TextAt : Kn := ⟨148, [0, 0], fun args rows => match args, rows with
  | [.ag [⟨.int .i64, x0⟩, ⟨.str, x1⟩, ⟨.sl false 144 (.pair (.int .i64) (.int .i64)), x2⟩, ⟨.sl false 93 (.sl false 55 (.pair (.int .i64) (.pair (.int .i64) .str))), x3⟩], .one ⟨.int .i64, x4⟩], [] => some ⟨_, G.s_TextAt x0 x1 x2 x3 x4, fun y => ⟨[.one ⟨.str, y.1⟩, .one ⟨.int .i64, y.2⟩], [], []⟩⟩
  | _, _ => none, []⟩
theorem s_s_TextAt : KnOk Try.prog k_s_TextAt := by
  intro args rows a h y hy
  simp only [k_s_TextAt] at h
  split at h
  · injection h with h
    subst h
    exact vfun_ok eok_s_TextAt Try.func148 rfl (by rw [v_s_TextAt]; simp only at hy; rw [hy]; rfl)
  · cases h
def J_s_l1Cur_revIn_l_f : Joins := [(.r, ⟨[.int .i64, .str, .sl true 144 (.pair (.int .i64) (.int .i64)), .sl true 93 (.sl true 55 (.pair (.int .i64) (.pair (.int .i64) .str))), .int .i64, .sl false 5 (.int .u8), .int .i64, .int .u64], [(1, .ag [.h 0, .h 1, .vw 128000, .vw 128001]), (4, .one (.h 4))], [(26, [.h 5, .h 6, .h 7])], [(128000, 2), (128001, 3)], [], []⟩)]
def ann_s_l1Cur_revIn_l_f : Ann := .nil
def env_s_l1Cur_revIn_l_f : Env := envOf ti [k_s_l1Cur_one_f, k_s_l10Head, k_s_l1Cur_among_f, k_s_l1Cur_pick_f] [1]
theorem eok_s_l1Cur_revIn_l_f : EnvOk Try.prog env_s_l1Cur_revIn_l_f := envOf_ok tab mix _ _ (by
  intro k hk
  simp only [List.mem_cons, List.not_mem_nil, or_false] at hk
  rcases hk with rfl | rfl | rfl | rfl
  · exact s_s_l1Cur_one_f
  · exact s_s_l10Head
  · exact s_s_l1Cur_among_f
  · exact s_s_l1Cur_pick_f)
theorem v_s_l1Cur_revIn_l_f (x0 : Int) (x1 : List UInt8) (x2 : List (Int × Int)) (x3 : List (List (Int × (Int × List UInt8)))) (x4 : List Int) (x5 : Int) (x6 : Int) : (vfun env_s_l1Cur_revIn_l_f Try.f147 J_s_l1Cur_revIn_l_f ann_s_l1Cur_revIn_l_f [(1, 2), (1, 3)] [.pl 0 0, .ag [⟨.int .i64, x0⟩, ⟨.str, x1⟩, ⟨.sl true 144 (.pair (.int .i64) (.int .i64)), x2⟩, ⟨.sl true 93 (.sl true 55 (.pair (.int .i64) (.pair (.int .i64) .str))), x3⟩]] [[⟨.sl false 5 (.int .u8), x4⟩, ⟨.int .i64, x5⟩, ⟨.int .u64, x6⟩]]).run = (G.s_l1Cur_revIn_l_f x0 x1 x2 x3 x4 x5 x6).bind fun y => some (Res.mk [.one ⟨.int .i64, y.2.2.2.2.1⟩] [[⟨.sl false 5 (.int .u8), y.2.2.2.2.2.1⟩, ⟨.int .i64, y.2.2.2.2.2.2.1⟩, ⟨.int .u64, y.2.2.2.2.2.2.2⟩]] [((1, 2), ⟨.sl true 144 (.pair (.int .i64) (.int .i64)), y.2.2.1⟩), ((1, 3), ⟨.sl true 93 (.sl true 55 (.pair (.int .i64) (.pair (.int .i64) .str))), y.2.2.2.1⟩)]) := by kernel_rfl
def k_s_l1Cur_revIn_l_f : Kn := ⟨147, [0, 2], fun args rows => match args, rows with
  | [.pl 0 0, .ag [⟨.int .i64, x0⟩, ⟨.str, x1⟩, ⟨.sl true 144 (.pair (.int .i64) (.int .i64)), x2⟩, ⟨.sl true 93 (.sl true 55 (.pair (.int .i64) (.pair (.int .i64) .str))), x3⟩]], [[⟨.sl false 5 (.int .u8), x4⟩, ⟨.int .i64, x5⟩, ⟨.int .u64, x6⟩]] => some ⟨_, G.s_l1Cur_revIn_l_f x0 x1 x2 x3 x4 x5 x6, fun y => ⟨[.one ⟨.int .i64, y.2.2.2.2.1⟩], [[⟨.sl false 5 (.int .u8), y.2.2.2.2.2.1⟩, ⟨.int .i64, y.2.2.2.2.2.2.1⟩, ⟨.int .u64, y.2.2.2.2.2.2.2⟩]], [((1, 2), ⟨.sl true 144 (.pair (.int .i64) (.int .i64)), y.2.2.1⟩), ((1, 3), ⟨.sl true 93 (.sl true 55 (.pair (.int .i64) (.pair (.int .i64) .str))), y.2.2.2.1⟩)]⟩⟩
  | _, _ => none, []⟩
theorem s_s_l1Cur_revIn_l_f : KnOk Try.prog k_s_l1Cur_revIn_l_f := by
  intro args rows a h y hy
  simp only [k_s_l1Cur_revIn_l_f] at h
  split at h
  · injection h with h
    subst h
    exact vfun_ok eok_s_l1Cur_revIn_l_f Try.func147 rfl (by rw [v_s_l1Cur_revIn_l_f]; simp only at hy; rw [hy]; rfl)
  · cases h
def J_s_DrawRebaseOf : Joins := [(.r, ⟨[.int .i64, .sl true 55 (.pair (.int .i64) (.pair (.int .i64) .str)), .int .i64, .str, .sl true 144 (.pair (.int .i64) (.int .i64)), .sl true 93 (.sl true 55 (.pair (.int .i64) (.pair (.int .i64) .str)))], [(2, .pl 2 0), (3, .one (.h 0)), (4, .one (.vw 144388))], [(2, [.h 2, .h 3, .vw 144389, .vw 144390])], [(144388, 1), (144389, 4), (144390, 5)], [], []⟩)]
def ann_s_DrawRebaseOf : Ann := .seq .nil (.seq .nil (.seq .nil (.seq .nil (.seq .nil (.seq (.seq .nil (.seq (.reg [(.n, ⟨[.int .i64, .int .i64, .str, .bool, .int .i64, .str, .int .i64, .str, .sl true 144 (.pair (.int .i64) (.int .i64)), .sl true 93 (.sl true 55 (.pair (.int .i64) (.pair (.int .i64) .str))), .sl false 5 (.int .u8), .int .i64, .int .u64], [(2, .pl 2 0), (5, .pl 13 0), (6, .pl 6 0), (7, .one (.h 0)), (8, .one (.h 1)), (9, .one (.h 2)), (33, .one (.h 3))], [(2, [.h 4, .h 5, .nil, .nil]), (6, [.h 6, .h 7, .vw 144384, .vw 144385]), (13, [.h 10, .h 11, .h 12])], [(144384, 8), (144385, 9)], [], []⟩)]) (.cond [(.n, ⟨[.int .i64, .int .i64, .int .i64, .str, .int .i64, .str, .sl true 144 (.pair (.int .i64) (.int .i64)), .sl true 93 (.sl true 55 (.pair (.int .i64) (.pair (.int .i64) .str))), .sl false 5 (.int .u8), .int .i64, .int .u64], [(2, .pl 2 0), (5, .pl 13 0), (6, .pl 6 0), (7, .one (.h 0)), (8, .one (.h 1))], [(2, [.h 2, .h 3, .nil, .nil]), (6, [.h 4, .h 5, .vw 144386, .vw 144387]), (13, [.h 8, .h 9, .h 10])], [(144386, 6), (144387, 7)], [], []⟩)] .nil .nil))) .nil)))))
def env_s_DrawRebaseOf : Env := envOf ti [k_s_l1Cur_history_f, k_s_l1Cur_revIn_l_f, k_s_l1Cur_pick_f, k_s_TextAt, k_s_l1Cur_one_f, k_s_l1Cur_changeOf_f] []
theorem eok_s_DrawRebaseOf : EnvOk Try.prog env_s_DrawRebaseOf := envOf_ok tab mix _ _ (by
  intro k hk
  simp only [List.mem_cons, List.not_mem_nil, or_false] at hk
  rcases hk with rfl | rfl | rfl | rfl | rfl | rfl
  · exact s_s_l1Cur_history_f
  · exact s_s_l1Cur_revIn_l_f
  · exact s_s_l1Cur_pick_f
  · exact s_s_TextAt
  · exact s_s_l1Cur_one_f
  · exact s_s_l1Cur_changeOf_f)
theorem v_s_DrawRebaseOf (x0 : List Int) : (vfun env_s_DrawRebaseOf Try.f62 J_s_DrawRebaseOf ann_s_DrawRebaseOf [] [.one ⟨.sl false 5 (.int .u8), x0⟩] []).run = (G.s_DrawRebaseOf x0).bind fun y => some (Res.mk [.ag [⟨.int .i64, y.2.2.1⟩, ⟨.str, y.2.2.2.1⟩, ⟨.sl true 144 (.pair (.int .i64) (.int .i64)), y.2.2.2.2.1⟩, ⟨.sl true 93 (.sl true 55 (.pair (.int .i64) (.pair (.int .i64) .str))), y.2.2.2.2.2⟩], .one ⟨.int .i64, y.1⟩, .one ⟨.sl true 55 (.pair (.int .i64) (.pair (.int .i64) .str)), y.2.1⟩] [] []) := by kernel_rfl
def k_s_DrawRebaseOf : Kn := ⟨62, [0], fun args rows => match args, rows with
  | [.one ⟨.sl false 5 (.int .u8), x0⟩], [] => some ⟨_, G.s_DrawRebaseOf x0, fun y => ⟨[.ag [⟨.int .i64, y.2.2.1⟩, ⟨.str, y.2.2.2.1⟩, ⟨.sl true 144 (.pair (.int .i64) (.int .i64)), y.2.2.2.2.1⟩, ⟨.sl true 93 (.sl true 55 (.pair (.int .i64) (.pair (.int .i64) .str))), y.2.2.2.2.2⟩], .one ⟨.int .i64, y.1⟩, .one ⟨.sl true 55 (.pair (.int .i64) (.pair (.int .i64) .str)), y.2.1⟩], [], []⟩⟩
  | _, _ => none, []⟩
theorem s_s_DrawRebaseOf : KnOk Try.prog k_s_DrawRebaseOf := by
  intro args rows a h y hy
  simp only [k_s_DrawRebaseOf] at h
  split at h
  · injection h with h
    subst h
    exact vfun_ok eok_s_DrawRebaseOf Try.func62 rfl (by rw [v_s_DrawRebaseOf]; simp only at hy; rw [hy]; rfl)
  · cases h
def J_s_DrawSubmit : Joins := [(.r, ⟨[.int .i64, .sl true 55 (.pair (.int .i64) (.pair (.int .i64) .str)), .int .i64, .str, .sl true 144 (.pair (.int .i64) (.int .i64)), .sl true 93 (.sl true 55 (.pair (.int .i64) (.pair (.int .i64) .str)))], [(2, .pl 2 0), (3, .one (.h 0)), (4, .one (.vw 112640))], [(2, [.h 2, .h 3, .vw 112641, .vw 112642])], [(112640, 1), (112641, 4), (112642, 5)], [], []⟩)]
def ann_s_DrawSubmit : Ann := .nil
def env_s_DrawSubmit : Env := envOf ti [k_s_DrawRebaseOf] []
theorem eok_s_DrawSubmit : EnvOk Try.prog env_s_DrawSubmit := envOf_ok tab mix _ _ (by
  intro k hk
  simp only [List.mem_cons, List.not_mem_nil, or_false] at hk
  rcases hk with rfl
  · exact s_s_DrawRebaseOf)
theorem v_s_DrawSubmit (x0 : List Int) : (vfun env_s_DrawSubmit Try.f69 J_s_DrawSubmit ann_s_DrawSubmit [] [.one ⟨.sl false 5 (.int .u8), x0⟩] []).run = (G.s_DrawSubmit x0).bind fun y => some (Res.mk [.ag [⟨.int .i64, y.2.2.1⟩, ⟨.str, y.2.2.2.1⟩, ⟨.sl true 144 (.pair (.int .i64) (.int .i64)), y.2.2.2.2.1⟩, ⟨.sl true 93 (.sl true 55 (.pair (.int .i64) (.pair (.int .i64) .str))), y.2.2.2.2.2⟩], .one ⟨.int .i64, y.1⟩, .one ⟨.sl true 55 (.pair (.int .i64) (.pair (.int .i64) .str)), y.2.1⟩] [] []) := by kernel_rfl
def k_s_DrawSubmit : Kn := ⟨69, [0], fun args rows => match args, rows with
  | [.one ⟨.sl false 5 (.int .u8), x0⟩], [] => some ⟨_, G.s_DrawSubmit x0, fun y => ⟨[.ag [⟨.int .i64, y.2.2.1⟩, ⟨.str, y.2.2.2.1⟩, ⟨.sl true 144 (.pair (.int .i64) (.int .i64)), y.2.2.2.2.1⟩, ⟨.sl true 93 (.sl true 55 (.pair (.int .i64) (.pair (.int .i64) .str))), y.2.2.2.2.2⟩], .one ⟨.int .i64, y.1⟩, .one ⟨.sl true 55 (.pair (.int .i64) (.pair (.int .i64) .str)), y.2.1⟩], [], []⟩⟩
  | _, _ => none, []⟩
theorem s_s_DrawSubmit : KnOk Try.prog k_s_DrawSubmit := by
  intro args rows a h y hy
  simp only [k_s_DrawSubmit] at h
  split at h
  · injection h with h
    subst h
    exact vfun_ok eok_s_DrawSubmit Try.func69 rfl (by rw [v_s_DrawSubmit]; simp only at hy; rw [hy]; rfl)
  · cases h
def J_i_within : Joins := [(.r, ⟨[.bool], [(6, .one (.h 0))], [], [], [], []⟩)]
def ann_i_within : Ann := .seq .nil (.seq (.reg [(.n, ⟨[.bool], [(6, .one (.h 0))], [], [], [], []⟩)]) .nil)
def env_i_within : Env := envOf ti [] []
theorem eok_i_within : EnvOk Try.prog env_i_within := envOf_ok tab mix _ _ (by
  intro k hk; cases hk)
theorem v_i_within (x0 : Int) (x1 : Int) (x2 : Int) : (vfun env_i_within Try.f96 J_i_within ann_i_within [] [.one ⟨.int .i64, x0⟩, .one ⟨.int .i64, x1⟩, .one ⟨.int .i64, x2⟩] []).run = (G.i_within x0 x1 x2).bind fun y => some (Res.mk [.one ⟨.bool, y⟩] [] []) := by kernel_rfl
def k_i_within : Kn := ⟨96, [0, 0, 0], fun args rows => match args, rows with
  | [.one ⟨.int .i64, x0⟩, .one ⟨.int .i64, x1⟩, .one ⟨.int .i64, x2⟩], [] => some ⟨_, G.i_within x0 x1 x2, fun y => ⟨[.one ⟨.bool, y⟩], [], []⟩⟩
  | _, _ => none, []⟩
theorem s_i_within : KnOk Try.prog k_i_within := by
  intro args rows a h y hy
  simp only [k_i_within] at h
  split at h
  · injection h with h
    subst h
    exact vfun_ok eok_i_within Try.func96 rfl (by rw [v_i_within]; simp only at hy; rw [hy]; rfl)
  · cases h
def J_i_GoodRuns : Joins := [(.r, ⟨[.bool], [(6, .one (.h 0))], [], [], [], []⟩)]
def ann_i_GoodRuns : Ann := .seq .nil (.seq (.seq (.reg [(.n, ⟨[.sl false 144 (.pair (.int .i64) (.int .i64)), .int .i64, .int .i64, .bool], [(0, .one (.h 0)), (1, .one (.h 1)), (2, .one (.h 2)), (17, .one (.h 3))], [], [], [], []⟩)]) .nil) (.seq .nil (.seq (.seq .nil (.block [] (.loop ⟨[.sl false 144 (.pair (.int .i64) (.int .i64)), .int .i64, .int .i64, .int .i64, .sl false 144 (.pair (.int .i64) (.int .i64)), .int .i64, .int .i64], [(0, .one (.h 0)), (1, .one (.h 1)), (2, .one (.h 2)), (7, .one (.h 3)), (18, .one (.h 4)), (19, .one (.h 5)), (20, .one (.h 6))], [], [], [], []⟩ [(.x 0, ⟨[.int .i64, .int .i64], [(1, .one (.h 0)), (7, .one (.h 1))], [], [], [], []⟩), (.r, ⟨[.bool], [(6, .one (.h 0))], [], [], [], []⟩)] (.seq .nil (.seq .nil (.seq (.block [] (.seq .nil (.seq (.seq (.reg [(.n, ⟨[.sl false 144 (.pair (.int .i64) (.int .i64)), .int .i64, .int .i64, .int .i64, .sl false 144 (.pair (.int .i64) (.int .i64)), .int .i64, .int .i64, .bool, .int .i64, .int .i64], [(0, .one (.h 0)), (1, .one (.h 1)), (2, .one (.h 2)), (7, .one (.h 3)), (9, .pl 9 0), (18, .one (.h 4)), (19, .one (.h 5)), (20, .one (.h 6)), (50, .one (.h 7))], [(9, [.h 8, .h 9])], [], [], []⟩)]) .nil) .nil))) .nil)))))) .nil)))
def env_i_GoodRuns : Env := envOf ti [k_i_within] []
theorem eok_i_GoodRuns : EnvOk Try.prog env_i_GoodRuns := envOf_ok tab mix _ _ (by
  intro k hk
  simp only [List.mem_cons, List.not_mem_nil, or_false] at hk
  rcases hk with rfl
  · exact s_i_within)
theorem v_i_GoodRuns (x0 : List (Int × Int)) (x1 : Int) (x2 : Int) : (vfun env_i_GoodRuns Try.f34 J_i_GoodRuns ann_i_GoodRuns [] [.one ⟨.sl false 144 (.pair (.int .i64) (.int .i64)), x0⟩, .one ⟨.int .i64, x1⟩, .one ⟨.int .i64, x2⟩] []).run = (G.i_GoodRuns x0 x1 x2).bind fun y => some (Res.mk [.one ⟨.bool, y⟩] [] []) := by kernel_rfl
def k_i_GoodRuns : Kn := ⟨34, [0, 0, 0], fun args rows => match args, rows with
  | [.one ⟨.sl false 144 (.pair (.int .i64) (.int .i64)), x0⟩, .one ⟨.int .i64, x1⟩, .one ⟨.int .i64, x2⟩], [] => some ⟨_, G.i_GoodRuns x0 x1 x2, fun y => ⟨[.one ⟨.bool, y⟩], [], []⟩⟩
  | _, _ => none, []⟩
theorem s_i_GoodRuns : KnOk Try.prog k_i_GoodRuns := by
  intro args rows a h y hy
  simp only [k_i_GoodRuns] at h
  split at h
  · injection h with h
    subst h
    exact vfun_ok eok_i_GoodRuns Try.func34 rfl (by rw [v_i_GoodRuns]; simp only at hy; rw [hy]; rfl)
  · cases h
def J_i_Part_kind : Joins := [(.r, ⟨[.int .i64], [(2, .one (.h 0))], [], [], [], []⟩)]
def ann_i_Part_kind : Ann := .seq .nil (.seq (.block [] (.seq (.reg [(.n, ⟨[.bool, .int .i64, .int .i64, .str], [(1, .pl 1 0), (3, .one (.h 0))], [(1, [.h 1, .h 2, .h 3])], [], [], []⟩)]) (.cond [] .nil (.seq (.reg [(.n, ⟨[.bool, .int .i64, .int .i64, .str], [(1, .pl 1 0), (17, .one (.h 0))], [(1, [.h 1, .h 2, .h 3])], [], [], []⟩)]) (.cond [] .nil (.seq (.reg [(.n, ⟨[.bool], [(31, .one (.h 0))], [], [], [], []⟩)]) .nil)))))) .nil)
def env_i_Part_kind : Env := envOf ti [] []
theorem eok_i_Part_kind : EnvOk Try.prog env_i_Part_kind := envOf_ok tab mix _ _ (by
  intro k hk; cases hk)
theorem v_i_Part_kind (x0 : Int) (x1 : Int) (x2 : List UInt8) : (vfun env_i_Part_kind Try.f225 J_i_Part_kind ann_i_Part_kind [] [.ag [⟨.int .i64, x0⟩, ⟨.int .i64, x1⟩, ⟨.str, x2⟩]] []).run = (G.i_Part_kind x0 x1 x2).bind fun y => some (Res.mk [.one ⟨.int .i64, y⟩] [] []) := by kernel_rfl
def k_i_Part_kind : Kn := ⟨225, [0], fun args rows => match args, rows with
  | [.ag [⟨.int .i64, x0⟩, ⟨.int .i64, x1⟩, ⟨.str, x2⟩]], [] => some ⟨_, G.i_Part_kind x0 x1 x2, fun y => ⟨[.one ⟨.int .i64, y⟩], [], []⟩⟩
  | _, _ => none, []⟩
theorem s_i_Part_kind : KnOk Try.prog k_i_Part_kind := by
  intro args rows a h y hy
  simp only [k_i_Part_kind] at h
  split at h
  · injection h with h
    subst h
    exact vfun_ok eok_i_Part_kind Try.func225 rfl (by rw [v_i_Part_kind]; simp only at hy; rw [hy]; rfl)
  · cases h
def J_i_lengths : Joins := [(.r, ⟨[.int .i64, .int .i64, .bool], [(2, .one (.h 0)), (3, .one (.h 1)), (4, .one (.h 2))], [], [], [], []⟩)]
def ann_i_lengths : Ann := .seq .nil (.seq .nil (.seq (.seq .nil (.block [] (.loop ⟨[.int .i64, .int .i64, .sl false 55 (.pair (.int .i64) (.pair (.int .i64) .str)), .int .i64, .int .i64], [(5, .one (.h 0)), (6, .one (.h 1)), (9, .one (.h 2)), (10, .one (.h 3)), (11, .one (.h 4))], [], [], [], []⟩ [(.x 0, ⟨[.int .i64, .int .i64], [(5, .one (.h 0)), (6, .one (.h 1))], [], [], [], []⟩), (.r, ⟨[.int .i64, .int .i64, .bool], [(2, .one (.h 0)), (3, .one (.h 1)), (4, .one (.h 2))], [], [], [], []⟩)] (.seq .nil (.seq .nil (.seq (.block [] (.seq .nil (.seq (.seq (.reg [(.n, ⟨[.int .i64, .int .i64, .sl false 55 (.pair (.int .i64) (.pair (.int .i64) .str)), .int .i64, .int .i64, .bool, .int .i64, .int .i64, .str], [(5, .one (.h 0)), (6, .one (.h 1)), (8, .pl 8 0), (9, .one (.h 2)), (10, .one (.h 3)), (11, .one (.h 4)), (22, .one (.h 5))], [(8, [.h 6, .h 7, .h 8])], [], [], []⟩)]) .nil) (.seq .nil (.seq .nil (.seq (.reg [(.n, ⟨[.int .i64, .int .i64, .sl false 55 (.pair (.int .i64) (.pair (.int .i64) .str)), .int .i64, .int .i64, .bool], [(5, .one (.h 0)), (6, .one (.h 1)), (9, .one (.h 2)), (10, .one (.h 3)), (11, .one (.h 4)), (43, .one (.h 5))], [], [], [], []⟩)]) .nil)))))) .nil)))))) .nil))
def env_i_lengths : Env := envOf ti [] []
theorem eok_i_lengths : EnvOk Try.prog env_i_lengths := envOf_ok tab mix _ _ (by
  intro k hk; cases hk)
theorem v_i_lengths (x0 : List (Int × (Int × List UInt8))) : (vfun env_i_lengths Try.f192 J_i_lengths ann_i_lengths [] [.one ⟨.sl false 55 (.pair (.int .i64) (.pair (.int .i64) .str)), x0⟩] []).run = (G.i_lengths x0).bind fun y => some (Res.mk [.one ⟨.int .i64, y.1⟩, .one ⟨.int .i64, y.2.1⟩, .one ⟨.bool, y.2.2⟩] [] []) := by kernel_rfl
def k_i_lengths : Kn := ⟨192, [0], fun args rows => match args, rows with
  | [.one ⟨.sl false 55 (.pair (.int .i64) (.pair (.int .i64) .str)), x0⟩], [] => some ⟨_, G.i_lengths x0, fun y => ⟨[.one ⟨.int .i64, y.1⟩, .one ⟨.int .i64, y.2.1⟩, .one ⟨.bool, y.2.2⟩], [], []⟩⟩
  | _, _ => none, []⟩
theorem s_i_lengths : KnOk Try.prog k_i_lengths := by
  intro args rows a h y hy
  simp only [k_i_lengths] at h
  split at h
  · injection h with h
    subst h
    exact vfun_ok eok_i_lengths Try.func192 rfl (by rw [v_i_lengths]; simp only at hy; rw [hy]; rfl)
  · cases h
def J_i_GoodChange : Joins := [(.r, ⟨[.bool], [(2, .one (.h 0))], [], [], [], []⟩)]
def ann_i_GoodChange : Ann := .seq .nil (.seq (.seq .nil (.block [] (.loop ⟨[.sl false 55 (.pair (.int .i64) (.pair (.int .i64) .str)), .sl false 55 (.pair (.int .i64) (.pair (.int .i64) .str)), .int .i64, .int .i64], [(0, .one (.h 0)), (9, .one (.h 1)), (10, .one (.h 2)), (11, .one (.h 3))], [], [], [], []⟩ [(.x 0, ⟨[.sl false 55 (.pair (.int .i64) (.pair (.int .i64) .str))], [(0, .one (.h 0))], [], [], [], []⟩), (.r, ⟨[.bool], [(2, .one (.h 0))], [], [], [], []⟩)] (.seq .nil (.seq .nil (.seq (.block [] (.seq .nil (.seq .nil (.seq (.reg [(.n, ⟨[.sl false 55 (.pair (.int .i64) (.pair (.int .i64) .str)), .sl false 55 (.pair (.int .i64) (.pair (.int .i64) .str)), .int .i64, .int .i64, .bool], [(0, .one (.h 0)), (9, .one (.h 1)), (10, .one (.h 2)), (11, .one (.h 3)), (33, .one (.h 4))], [], [], [], []⟩)]) .nil)))) .nil)))))) .nil)
def env_i_GoodChange : Env := envOf ti [k_i_Part_kind, k_i_lengths] []
theorem eok_i_GoodChange : EnvOk Try.prog env_i_GoodChange := envOf_ok tab mix _ _ (by
  intro k hk
  simp only [List.mem_cons, List.not_mem_nil, or_false] at hk
  rcases hk with rfl | rfl
  · exact s_i_Part_kind
  · exact s_i_lengths)
theorem v_i_GoodChange (x0 : List (Int × (Int × List UInt8))) : (vfun env_i_GoodChange Try.f191 J_i_GoodChange ann_i_GoodChange [] [.one ⟨.sl false 55 (.pair (.int .i64) (.pair (.int .i64) .str)), x0⟩] []).run = (G.i_GoodChange x0).bind fun y => some (Res.mk [.one ⟨.bool, y⟩] [] []) := by kernel_rfl
def k_i_GoodChange : Kn := ⟨191, [0], fun args rows => match args, rows with
  | [.one ⟨.sl false 55 (.pair (.int .i64) (.pair (.int .i64) .str)), x0⟩], [] => some ⟨_, G.i_GoodChange x0, fun y => ⟨[.one ⟨.bool, y⟩], [], []⟩⟩
  | _, _ => none, []⟩
theorem s_i_GoodChange : KnOk Try.prog k_i_GoodChange := by
  intro args rows a h y hy
  simp only [k_i_GoodChange] at h
  split at h
  · injection h with h
    subst h
    exact vfun_ok eok_i_GoodChange Try.func191 rfl (by rw [v_i_GoodChange]; simp only at hy; rw [hy]; rfl)
  · cases h
def J_i_LengthsOf : Joins := [(.r, ⟨[.int .i64, .int .i64, .bool], [(2, .one (.h 0)), (3, .one (.h 1)), (4, .one (.h 2))], [], [], [], []⟩)]
def ann_i_LengthsOf : Ann := .nil
def env_i_LengthsOf : Env := envOf ti [k_i_GoodChange, k_i_lengths] []
theorem eok_i_LengthsOf : EnvOk Try.prog env_i_LengthsOf := envOf_ok tab mix _ _ (by
  intro k hk
  simp only [List.mem_cons, List.not_mem_nil, or_false] at hk
  rcases hk with rfl | rfl
  · exact s_i_GoodChange
  · exact s_i_lengths)
theorem v_i_LengthsOf (x0 : List (Int × (Int × List UInt8))) : (vfun env_i_LengthsOf Try.f108 J_i_LengthsOf ann_i_LengthsOf [] [.one ⟨.sl false 55 (.pair (.int .i64) (.pair (.int .i64) .str)), x0⟩] []).run = (G.i_LengthsOf x0).bind fun y => some (Res.mk [.one ⟨.int .i64, y.1⟩, .one ⟨.int .i64, y.2.1⟩, .one ⟨.bool, y.2.2⟩] [] []) := by kernel_rfl
def k_i_LengthsOf : Kn := ⟨108, [0], fun args rows => match args, rows with
  | [.one ⟨.sl false 55 (.pair (.int .i64) (.pair (.int .i64) .str)), x0⟩], [] => some ⟨_, G.i_LengthsOf x0, fun y => ⟨[.one ⟨.int .i64, y.1⟩, .one ⟨.int .i64, y.2.1⟩, .one ⟨.bool, y.2.2⟩], [], []⟩⟩
  | _, _ => none, []⟩
theorem s_i_LengthsOf : KnOk Try.prog k_i_LengthsOf := by
  intro args rows a h y hy
  simp only [k_i_LengthsOf] at h
  split at h
  · injection h with h
    subst h
    exact vfun_ok eok_i_LengthsOf Try.func108 rfl (by rw [v_i_LengthsOf]; simp only at hy; rw [hy]; rfl)
  · cases h
def J_i_chained : Joins := [(.r, ⟨[.bool], [(4, .one (.h 0))], [], [], [], []⟩)]
def ann_i_chained : Ann := .seq .nil (.seq (.seq .nil (.block [] (.loop ⟨[.int .i64, .sl false 93 (.sl false 55 (.pair (.int .i64) (.pair (.int .i64) .str))), .int .i64, .int .i64], [(0, .one (.h 0)), (10, .one (.h 1)), (11, .one (.h 2)), (12, .one (.h 3))], [], [], [], []⟩ [(.x 0, ⟨[], [], [], [], [], []⟩), (.r, ⟨[.bool], [(4, .one (.h 0))], [], [], [], []⟩)] (.seq .nil (.seq .nil (.seq (.block [] (.seq .nil (.seq .nil (.seq (.seq (.reg [(.n, ⟨[.int .i64, .sl false 93 (.sl false 55 (.pair (.int .i64) (.pair (.int .i64) .str))), .int .i64, .int .i64, .bool], [(8, .one (.h 0)), (10, .one (.h 1)), (11, .one (.h 2)), (12, .one (.h 3)), (29, .one (.h 4))], [], [], [], []⟩)]) .nil) .nil)))) .nil)))))) .nil)
def env_i_chained : Env := envOf ti [k_i_LengthsOf] []
theorem eok_i_chained : EnvOk Try.prog env_i_chained := envOf_ok tab mix _ _ (by
  intro k hk
  simp only [List.mem_cons, List.not_mem_nil, or_false] at hk
  rcases hk with rfl
  · exact s_i_LengthsOf)
theorem v_i_chained (x0 : Int) (x1 : List (List (Int × (Int × List UInt8)))) : (vfun env_i_chained Try.f219 J_i_chained ann_i_chained [] [.one ⟨.int .i64, x0⟩, .one ⟨.sl false 93 (.sl false 55 (.pair (.int .i64) (.pair (.int .i64) .str))), x1⟩] []).run = (G.i_chained x0 x1).bind fun y => some (Res.mk [.one ⟨.bool, y⟩] [] []) := by kernel_rfl
def k_i_chained : Kn := ⟨219, [0, 0], fun args rows => match args, rows with
  | [.one ⟨.int .i64, x0⟩, .one ⟨.sl false 93 (.sl false 55 (.pair (.int .i64) (.pair (.int .i64) .str))), x1⟩], [] => some ⟨_, G.i_chained x0 x1, fun y => ⟨[.one ⟨.bool, y⟩], [], []⟩⟩
  | _, _ => none, []⟩
theorem s_i_chained : KnOk Try.prog k_i_chained := by
  intro args rows a h y hy
  simp only [k_i_chained] at h
  split at h
  · injection h with h
    subst h
    exact vfun_ok eok_i_chained Try.func219 rfl (by rw [v_i_chained]; simp only at hy; rw [hy]; rfl)
  · cases h
end
end Go.Proofs.Ytcfbfpipfalieaa

set_option linter.unusedVariables false
set_option maxRecDepth 100000
namespace Go.Proofs.Ytcfbfpipfalieaa
open Go.V
noncomputable section
def J_i_GoodHistory : Joins := [(.r, ⟨[.bool], [(2, .one (.h 0))], [], [], [], []⟩)]
def ann_i_GoodHistory : Ann := .seq .nil (.seq (.reg [(.n, ⟨[.bool], [(2, .one (.h 0))], [], [], [], []⟩)]) .nil)
def env_i_GoodHistory : Env := envOf ti [k_i_within, k_i_GoodRuns, k_i_chained] []
theorem eok_i_GoodHistory : EnvOk Try.prog env_i_GoodHistory := envOf_ok tab mix _ _ (by
  intro k hk
  simp only [List.mem_cons, List.not_mem_nil, or_false] at hk
  rcases hk with rfl | rfl | rfl
  · exact s_i_within
  · exact s_i_GoodRuns
  · exact s_i_chained)
theorem v_i_GoodHistory (x0 : Int) (x1 : List UInt8) (x2 : List (Int × Int)) (x3 : List (List (Int × (Int × List UInt8)))) : (vfun env_i_GoodHistory Try.f173 J_i_GoodHistory ann_i_GoodHistory [] [.ag [⟨.int .i64, x0⟩, ⟨.str, x1⟩, ⟨.sl false 144 (.pair (.int .i64) (.int .i64)), x2⟩, ⟨.sl false 93 (.sl false 55 (.pair (.int .i64) (.pair (.int .i64) .str))), x3⟩]] []).run = (G.i_GoodHistory x0 x1 x2 x3).bind fun y => some (Res.mk [.one ⟨.bool, y⟩] [] []) := by kernel_rfl
def k_i_GoodHistory : Kn := ⟨173, [0], fun args rows => match args, rows with
  | [.ag [⟨.int .i64, x0⟩, ⟨.str, x1⟩, ⟨.sl false 144 (.pair (.int .i64) (.int .i64)), x2⟩, ⟨.sl false 93 (.sl false 55 (.pair (.int .i64) (.pair (.int .i64) .str))), x3⟩]], [] => some ⟨_, G.i_GoodHistory x0 x1 x2 x3, fun y => ⟨[.one ⟨.bool, y⟩], [], []⟩⟩
  | _, _ => none, []⟩
theorem s_i_GoodHistory : KnOk Try.prog k_i_GoodHistory := by
  intro args rows a h y hy
  simp only [k_i_GoodHistory] at h
  split at h
  · injection h with h
    subst h
    exact vfun_ok eok_i_GoodHistory Try.func173 rfl (by rw [v_i_GoodHistory]; simp only at hy; rw [hy]; rfl)
  · cases h
def J_i_History_head : Joins := [(.r, ⟨[.int .i64], [(2, .one (.h 0))], [], [], [], []⟩)]
def ann_i_History_head : Ann := .nil
def env_i_History_head : Env := envOf ti [] []
theorem eok_i_History_head : EnvOk Try.prog env_i_History_head := envOf_ok tab mix _ _ (by
  intro k hk; cases hk)
theorem v_i_History_head (x0 : Int) (x1 : List UInt8) (x2 : List (Int × Int)) (x3 : List (List (Int × (Int × List UInt8)))) : (vfun env_i_History_head Try.f157 J_i_History_head ann_i_History_head [] [.ag [⟨.int .i64, x0⟩, ⟨.str, x1⟩, ⟨.sl false 144 (.pair (.int .i64) (.int .i64)), x2⟩, ⟨.sl false 93 (.sl false 55 (.pair (.int .i64) (.pair (.int .i64) .str))), x3⟩]] []).run = (G.i_History_head x0 x1 x2 x3).bind fun y => some (Res.mk [.one ⟨.int .i64, y⟩] [] []) := by kernel_rfl
def k_i_History_head : Kn := ⟨157, [0], fun args rows => match args, rows with
  | [.ag [⟨.int .i64, x0⟩, ⟨.str, x1⟩, ⟨.sl false 144 (.pair (.int .i64) (.int .i64)), x2⟩, ⟨.sl false 93 (.sl false 55 (.pair (.int .i64) (.pair (.int .i64) .str))), x3⟩]], [] => some ⟨_, G.i_History_head x0 x1 x2 x3, fun y => ⟨[.one ⟨.int .i64, y⟩], [], []⟩⟩
  | _, _ => none, []⟩
theorem s_i_History_head : KnOk Try.prog k_i_History_head := by
  intro args rows a h y hy
  simp only [k_i_History_head] at h
  split at h
  · injection h with h
    subst h
    exact vfun_ok eok_i_History_head Try.func157 rfl (by rw [v_i_History_head]; simp only at hy; rw [hy]; rfl)
  · cases h
def J_i_History_code : Joins := [(.r, ⟨[.int .i64], [(6, .one (.h 0))], [], [], [], []⟩)]
def ann_i_History_code : Ann := .seq .nil (.seq (.block [] (.seq .nil (.cond [] .nil (.seq (.reg [(.n, ⟨[.bool], [(11, .one (.h 0))], [], [], [], []⟩)]) .nil)))) .nil)
def env_i_History_code : Env := envOf ti [k_i_GoodHistory, k_i_History_head] []
theorem eok_i_History_code : EnvOk Try.prog env_i_History_code := envOf_ok tab mix _ _ (by
  intro k hk
  simp only [List.mem_cons, List.not_mem_nil, or_false] at hk
  rcases hk with rfl | rfl
  · exact s_i_GoodHistory
  · exact s_i_History_head)
theorem v_i_History_code (x0 : Int) (x1 : List UInt8) (x2 : List (Int × Int)) (x3 : List (List (Int × (Int × List UInt8)))) (x4 : Int) (x5 : Int) : (vfun env_i_History_code Try.f125 J_i_History_code ann_i_History_code [] [.ag [⟨.int .i64, x0⟩, ⟨.str, x1⟩, ⟨.sl false 144 (.pair (.int .i64) (.int .i64)), x2⟩, ⟨.sl false 93 (.sl false 55 (.pair (.int .i64) (.pair (.int .i64) .str))), x3⟩], .one ⟨.int .i64, x4⟩, .one ⟨.int .i64, x5⟩] []).run = (G.i_History_code x0 x1 x2 x3 x4 x5).bind fun y => some (Res.mk [.one ⟨.int .i64, y⟩] [] []) := by kernel_rfl
def k_i_History_code : Kn := ⟨125, [0, 0, 0], fun args rows => match args, rows with
  | [.ag [⟨.int .i64, x0⟩, ⟨.str, x1⟩, ⟨.sl false 144 (.pair (.int .i64) (.int .i64)), x2⟩, ⟨.sl false 93 (.sl false 55 (.pair (.int .i64) (.pair (.int .i64) .str))), x3⟩], .one ⟨.int .i64, x4⟩, .one ⟨.int .i64, x5⟩], [] => some ⟨_, G.i_History_code x0 x1 x2 x3 x4 x5, fun y => ⟨[.one ⟨.int .i64, y⟩], [], []⟩⟩
  | _, _ => none, []⟩
theorem s_i_History_code : KnOk Try.prog k_i_History_code := by
  intro args rows a h y hy
  simp only [k_i_History_code] at h
  split at h
  · injection h with h
    subst h
    exact vfun_ok eok_i_History_code Try.func125 rfl (by rw [v_i_History_code]; simp only at hy; rw [hy]; rfl)
  · cases h
def J_i_apply : Joins := [(.r, ⟨[.str], [(4, .one (.h 0))], [], [], [], []⟩)]
def ann_i_apply : Ann := .seq .nil (.seq .nil (.seq (.seq .nil (.block [] (.loop ⟨[.str, .str, .int .i64, .sl false 55 (.pair (.int .i64) (.pair (.int .i64) .str)), .int .i64, .int .i64], [(0, .one (.h 0)), (5, .one (.h 1)), (6, .one (.h 2)), (9, .one (.h 3)), (10, .one (.h 4)), (11, .one (.h 5))], [], [], [], []⟩ [(.x 0, ⟨[.str], [(5, .one (.h 0))], [], [], [], []⟩)] .nil))) .nil))
def env_i_apply : Env := envOf ti [] []
theorem eok_i_apply : EnvOk Try.prog env_i_apply := envOf_ok tab mix _ _ (by
  intro k hk; cases hk)
theorem v_i_apply (x0 : List UInt8) (x1 : List (Int × (Int × List UInt8))) : (vfun env_i_apply Try.f159 J_i_apply ann_i_apply [] [.one ⟨.str, x0⟩, .one ⟨.sl false 55 (.pair (.int .i64) (.pair (.int .i64) .str)), x1⟩] []).run = (G.i_apply x0 x1).bind fun y => some (Res.mk [.one ⟨.str, y⟩] [] []) := by kernel_rfl
def k_i_apply : Kn := ⟨159, [0, 0], fun args rows => match args, rows with
  | [.one ⟨.str, x0⟩, .one ⟨.sl false 55 (.pair (.int .i64) (.pair (.int .i64) .str)), x1⟩], [] => some ⟨_, G.i_apply x0 x1, fun y => ⟨[.one ⟨.str, y⟩], [], []⟩⟩
  | _, _ => none, []⟩
theorem s_i_apply : KnOk Try.prog k_i_apply := by
  intro args rows a h y hy
  simp only [k_i_apply] at h
  split at h
  · injection h with h
    subst h
    exact vfun_ok eok_i_apply Try.func159 rfl (by rw [v_i_apply]; simp only at hy; rw [hy]; rfl)
  · cases h
def J_i_History_text : Joins := [(.r, ⟨[.str], [(4, .one (.h 0))], [], [], [], []⟩)]
def ann_i_History_text : Ann := .seq .nil (.seq .nil (.seq (.seq .nil (.block [] (.loop ⟨[.str, .sl false 93 (.sl false 55 (.pair (.int .i64) (.pair (.int .i64) .str))), .int .i64, .int .i64], [(5, .one (.h 0)), (16, .one (.h 1)), (17, .one (.h 2)), (18, .one (.h 3))], [], [], [], []⟩ [(.x 0, ⟨[.str], [(5, .one (.h 0))], [], [], [], []⟩)] .nil))) .nil))
def env_i_History_text : Env := envOf ti [k_i_apply] []
theorem eok_i_History_text : EnvOk Try.prog env_i_History_text := envOf_ok tab mix _ _ (by
  intro k hk
  simp only [List.mem_cons, List.not_mem_nil, or_false] at hk
  rcases hk with rfl
  · exact s_i_apply)
theorem v_i_History_text (x0 : Int) (x1 : List UInt8) (x2 : List (Int × Int)) (x3 : List (List (Int × (Int × List UInt8)))) (x4 : Int) : (vfun env_i_History_text Try.f133 J_i_History_text ann_i_History_text [] [.ag [⟨.int .i64, x0⟩, ⟨.str, x1⟩, ⟨.sl false 144 (.pair (.int .i64) (.int .i64)), x2⟩, ⟨.sl false 93 (.sl false 55 (.pair (.int .i64) (.pair (.int .i64) .str))), x3⟩], .one ⟨.int .i64, x4⟩] []).run = (G.i_History_text x0 x1 x2 x3 x4).bind fun y => some (Res.mk [.one ⟨.str, y⟩] [] []) := by kernel_rfl
def k_i_History_text : Kn := ⟨133, [0, 0], fun args rows => match args, rows with
  | [.ag [⟨.int .i64, x0⟩, ⟨.str, x1⟩, ⟨.sl false 144 (.pair (.int .i64) (.int .i64)), x2⟩, ⟨.sl false 93 (.sl false 55 (.pair (.int .i64) (.pair (.int .i64) .str))), x3⟩], .one ⟨.int .i64, x4⟩], [] => some ⟨_, G.i_History_text x0 x1 x2 x3 x4, fun y => ⟨[.one ⟨.str, y⟩], [], []⟩⟩
  | _, _ => none, []⟩
theorem s_i_History_text : KnOk Try.prog k_i_History_text := by
  intro args rows a h y hy
  simp only [k_i_History_text] at h
  split at h
  · injection h with h
    subst h
    exact vfun_ok eok_i_History_text Try.func133 rfl (by rw [v_i_History_text]; simp only at hy; rw [hy]; rfl)
  · cases h
def J_i_fits : Joins := [(.r, ⟨[.bool], [(4, .one (.h 0))], [], [], [], []⟩)]
def ann_i_fits : Ann := .seq .nil (.seq .nil (.seq (.reg [(.n, ⟨[.bool], [(4, .one (.h 0))], [], [], [], []⟩)]) .nil))
def env_i_fits : Env := envOf ti [k_i_LengthsOf] []
theorem eok_i_fits : EnvOk Try.prog env_i_fits := envOf_ok tab mix _ _ (by
  intro k hk
  simp only [List.mem_cons, List.not_mem_nil, or_false] at hk
  rcases hk with rfl
  · exact s_i_LengthsOf)
theorem v_i_fits (x0 : List (Int × (Int × List UInt8))) (x1 : Int) : (vfun env_i_fits Try.f152 J_i_fits ann_i_fits [] [.one ⟨.sl false 55 (.pair (.int .i64) (.pair (.int .i64) .str)), x0⟩, .one ⟨.int .i64, x1⟩] []).run = (G.i_fits x0 x1).bind fun y => some (Res.mk [.one ⟨.bool, y⟩] [] []) := by kernel_rfl
def k_i_fits : Kn := ⟨152, [0, 0], fun args rows => match args, rows with
  | [.one ⟨.sl false 55 (.pair (.int .i64) (.pair (.int .i64) .str)), x0⟩, .one ⟨.int .i64, x1⟩], [] => some ⟨_, G.i_fits x0 x1, fun y => ⟨[.one ⟨.bool, y⟩], [], []⟩⟩
  | _, _ => none, []⟩
theorem s_i_fits : KnOk Try.prog k_i_fits := by
  intro args rows a h y hy
  simp only [k_i_fits] at h
  split at h
  · injection h with h
    subst h
    exact vfun_ok eok_i_fits Try.func152 rfl (by rw [v_i_fits]; simp only at hy; rw [hy]; rfl)
  · cases h
def J_slices_Clone_loop_example_g00083_impl_Part_loop_example_g00083_impl_Part : Joins := [(.r, ⟨[.sl true 55 (.pair (.int .i64) (.pair (.int .i64) .str))], [(2, .one (.vw 110593))], [], [(110593, 0)], [], []⟩)]
def ann_slices_Clone_loop_example_g00083_impl_Part_loop_example_g00083_impl_Part : Ann := .seq .nil (.both [(.r, ⟨[.sl true 55 (.pair (.int .i64) (.pair (.int .i64) .str))], [(2, .one (.vw 110592))], [], [(110592, 0)], [], []⟩)] .nil .nil .nil .nil .nil)
def env_slices_Clone_loop_example_g00083_impl_Part_loop_example_g00083_impl_Part : Env := envOf ti [] []
theorem eok_slices_Clone_loop_example_g00083_impl_Part_loop_example_g00083_impl_Part : EnvOk Try.prog env_slices_Clone_loop_example_g00083_impl_Part_loop_example_g00083_impl_Part := envOf_ok tab mix _ _ (by
  intro k hk; cases hk)
theorem v_slices_Clone_loop_example_g00083_impl_Part_loop_example_g00083_impl_Part (x0 : List (Int × (Int × List UInt8))) : (vfun env_slices_Clone_loop_example_g00083_impl_Part_loop_example_g00083_impl_Part Try.f207 J_slices_Clone_loop_example_g00083_impl_Part_loop_example_g00083_impl_Part ann_slices_Clone_loop_example_g00083_impl_Part_loop_example_g00083_impl_Part [] [.one ⟨.sl false 55 (.pair (.int .i64) (.pair (.int .i64) .str)), x0⟩] []).run = (G.slices_Clone_loop_example_g00083_impl_Part_loop_example_g00083_impl_Part x0).bind fun y => some (Res.mk [.one ⟨.sl true 55 (.pair (.int .i64) (.pair (.int .i64) .str)), y⟩] [] []) := by kernel_rfl
def k_slices_Clone_loop_example_g00083_impl_Part_loop_example_g00083_impl_Part : Kn := ⟨207, [0], fun args rows => match args, rows with
  | [.one ⟨.sl false 55 (.pair (.int .i64) (.pair (.int .i64) .str)), x0⟩], [] => some ⟨_, G.slices_Clone_loop_example_g00083_impl_Part_loop_example_g00083_impl_Part x0, fun y => ⟨[.one ⟨.sl true 55 (.pair (.int .i64) (.pair (.int .i64) .str)), y⟩], [], []⟩⟩
  | _, _ => none, []⟩
theorem s_slices_Clone_loop_example_g00083_impl_Part_loop_example_g00083_impl_Part : KnOk Try.prog k_slices_Clone_loop_example_g00083_impl_Part_loop_example_g00083_impl_Part := by
  intro args rows a h y hy
  simp only [k_slices_Clone_loop_example_g00083_impl_Part_loop_example_g00083_impl_Part] at h
  split at h
  · injection h with h
    subst h
    exact vfun_ok eok_slices_Clone_loop_example_g00083_impl_Part_loop_example_g00083_impl_Part Try.func207 rfl (by rw [v_slices_Clone_loop_example_g00083_impl_Part_loop_example_g00083_impl_Part]; simp only at hy; rw [hy]; rfl)
  · cases h
def J_i_same : Joins := [(.r, ⟨[.sl true 55 (.pair (.int .i64) (.pair (.int .i64) .str))], [(2, .one (.vw 111616))], [], [(111616, 0)], [], []⟩)]
def ann_i_same : Ann := .nil
def env_i_same : Env := envOf ti [] []
theorem eok_i_same : EnvOk Try.prog env_i_same := envOf_ok tab mix _ _ (by
  intro k hk; cases hk)
theorem v_i_same (x0 : Int) : (vfun env_i_same Try.f205 J_i_same ann_i_same [] [.one ⟨.int .i64, x0⟩] []).run = (G.i_same x0).bind fun y => some (Res.mk [.one ⟨.sl true 55 (.pair (.int .i64) (.pair (.int .i64) .str)), y⟩] [] []) := by kernel_rfl
def k_i_same : Kn := ⟨205, [0], fun args rows => match args, rows with
  | [.one ⟨.int .i64, x0⟩], [] => some ⟨_, G.i_same x0, fun y => ⟨[.one ⟨.sl true 55 (.pair (.int .i64) (.pair (.int .i64) .str)), y⟩], [], []⟩⟩
  | _, _ => none, []⟩
theorem s_i_same : KnOk Try.prog k_i_same := by
  intro args rows a h y hy
  simp only [k_i_same] at h
  split at h
  · injection h with h
    subst h
    exact vfun_ok eok_i_same Try.func205 rfl (by rw [v_i_same]; simp only at hy; rw [hy]; rfl)
  · cases h
def J_i_tell : Joins := [(.r, ⟨[.sl true 4 .bool, .sl true 9 .str], [(2, .pl 2 0)], [(2, [.vw 152708, .vw 152709])], [(152708, 0), (152709, 1)], [], []⟩)]
def ann_i_tell : Ann := .seq .nil (.seq .nil (.seq (.seq .nil (.block [] (.loop ⟨[.sl false 55 (.pair (.int .i64) (.pair (.int .i64) .str)), .int .i64, .int .i64, .sl true 4 .bool, .sl true 9 .str], [(2, .pl 2 0), (3, .pl 3 0), (8, .one (.h 0)), (9, .one (.h 1)), (10, .one (.h 2))], [(2, [.nil, .nil]), (3, [.vw 152576, .vw 152577])], [(152576, 3), (152577, 4)], [], []⟩ [(.x 0, ⟨[.sl true 4 .bool, .sl true 9 .str], [(2, .pl 2 0), (3, .pl 3 0)], [(2, [.nil, .nil]), (3, [.vw 152706, .vw 152707])], [(152706, 0), (152707, 1)], [], []⟩)] (.seq .nil (.seq .nil (.seq (.block [] (.seq .nil (.seq .nil (.seq .nil (.block [] (.loop ⟨[.sl false 55 (.pair (.int .i64) (.pair (.int .i64) .str)), .int .i64, .int .i64, .int .i64, .int .i64, .sl true 4 .bool, .sl true 9 .str, .int .i64, .int .i64, .str], [(2, .pl 2 0), (3, .pl 3 0), (5, .pl 5 0), (8, .one (.h 0)), (9, .one (.h 1)), (10, .one (.h 2)), (30, .one (.h 3)), (31, .one (.h 4))], [(2, [.nil, .nil]), (3, [.vw 152640, .vw 152641]), (5, [.h 7, .h 8, .h 9])], [(152640, 5), (152641, 6)], [], []⟩ [(.x 2, ⟨[.sl false 55 (.pair (.int .i64) (.pair (.int .i64) .str)), .int .i64, .int .i64, .sl true 4 .bool, .sl true 9 .str], [(2, .pl 2 0), (3, .pl 3 0), (8, .one (.h 0)), (9, .one (.h 1)), (10, .one (.h 2))], [(2, [.nil, .nil]), (3, [.vw 152704, .vw 152705])], [(152704, 3), (152705, 4)], [], []⟩)] .nil)))))) .nil)))))) .nil))
def env_i_tell : Env := envOf ti [] []
theorem eok_i_tell : EnvOk Try.prog env_i_tell := envOf_ok tab mix _ _ (by
  intro k hk; cases hk)
theorem v_i_tell (x0 : List (Int × (Int × List UInt8))) : (vfun env_i_tell Try.f204 J_i_tell ann_i_tell [] [.one ⟨.sl false 55 (.pair (.int .i64) (.pair (.int .i64) .str)), x0⟩] []).run = (G.i_tell x0).bind fun y => some (Res.mk [.ag [⟨.sl true 4 .bool, y.1⟩, ⟨.sl true 9 .str, y.2⟩]] [] []) := by kernel_rfl
def k_i_tell : Kn := ⟨204, [0], fun args rows => match args, rows with
  | [.one ⟨.sl false 55 (.pair (.int .i64) (.pair (.int .i64) .str)), x0⟩], [] => some ⟨_, G.i_tell x0, fun y => ⟨[.ag [⟨.sl true 4 .bool, y.1⟩, ⟨.sl true 9 .str, y.2⟩]], [], []⟩⟩
  | _, _ => none, []⟩
theorem s_i_tell : KnOk Try.prog k_i_tell := by
  intro args rows a h y hy
  simp only [k_i_tell] at h
  split at h
  · injection h with h
    subst h
    exact vfun_ok eok_i_tell Try.func204 rfl (by rw [v_i_tell]; simp only at hy; rw [hy]; rfl)
  · cases h
def J_i_builder_add_o : Joins := [(.n, ⟨[.sl true 55 (.pair (.int .i64) (.pair (.int .i64) .str))], [], [(80, [.vw 183299])], [(183299, 0)], [], []⟩)]
def ann_i_builder_add_o : Ann := .seq .nil (.seq .nil (.block [] (.seq .nil (.cond [(.n, ⟨[.sl true 55 (.pair (.int .i64) (.pair (.int .i64) .str))], [], [(80, [.vw 183298])], [(183298, 0)], [], []⟩)] .nil (.seq (.reg [(.n, ⟨[.int .i64, .bool, .int .i64, .int .i64, .str, .sl true 55 (.pair (.int .i64) (.pair (.int .i64) .str))], [(0, .pl 80 0), (3, .pl 3 0), (4, .one (.h 0)), (25, .one (.h 1))], [(3, [.h 2, .h 3, .h 4]), (80, [.vw 183296])], [(183296, 5)], [], []⟩)]) (.cond [(.n, ⟨[.sl true 55 (.pair (.int .i64) (.pair (.int .i64) .str))], [], [(80, [.vw 183297])], [(183297, 0)], [], []⟩)] .nil .nil))))))
def env_i_builder_add_o : Env := envOf ti [k_i_Part_kind] []
theorem eok_i_builder_add_o : EnvOk Try.prog env_i_builder_add_o := envOf_ok tab mix _ _ (by
  intro k hk
  simp only [List.mem_cons, List.not_mem_nil, or_false] at hk
  rcases hk with rfl
  · exact s_i_Part_kind)
theorem v_i_builder_add_o (x0 : Int) (x1 : Int) (x2 : List UInt8) (x3 : List (Int × (Int × List UInt8))) : (vfun env_i_builder_add_o Try.f213 J_i_builder_add_o ann_i_builder_add_o [] [.pl 0 0, .ag [⟨.int .i64, x0⟩, ⟨.int .i64, x1⟩, ⟨.str, x2⟩]] [[⟨.sl true 55 (.pair (.int .i64) (.pair (.int .i64) .str)), x3⟩]]).run = (G.i_builder_add_o x0 x1 x2 x3).bind fun y => some (Res.mk [] [[⟨.sl true 55 (.pair (.int .i64) (.pair (.int .i64) .str)), y⟩]] []) := by kernel_rfl
def k_i_builder_add_o : Kn := ⟨213, [0, 0], fun args rows => match args, rows with
  | [.pl 0 0, .ag [⟨.int .i64, x0⟩, ⟨.int .i64, x1⟩, ⟨.str, x2⟩]], [[⟨.sl true 55 (.pair (.int .i64) (.pair (.int .i64) .str)), x3⟩]] => some ⟨_, G.i_builder_add_o x0 x1 x2 x3, fun y => ⟨[], [[⟨.sl true 55 (.pair (.int .i64) (.pair (.int .i64) .str)), y⟩]], []⟩⟩
  | _, _ => none, []⟩
theorem s_i_builder_add_o : KnOk Try.prog k_i_builder_add_o := by
  intro args rows a h y hy
  simp only [k_i_builder_add_o] at h
  split at h
  · injection h with h
    subst h
    exact vfun_ok eok_i_builder_add_o Try.func213 rfl (by rw [v_i_builder_add_o]; simp only at hy; rw [hy]; rfl)
  · cases h
def J_i_told_parts : Joins := [(.r, ⟨[.sl true 55 (.pair (.int .i64) (.pair (.int .i64) .str))], [(2, .one (.vw 142404))], [], [(142404, 0)], [], []⟩)]
def ann_i_told_parts : Ann := .seq .nil (.seq .nil (.seq (.seq .nil (.block [] (.loop ⟨[.sl false 9 .str, .int .i64, .int .i64, .sl false 4 .bool, .sl false 9 .str, .sl true 55 (.pair (.int .i64) (.pair (.int .i64) .str))], [(1, .pl 1 0), (3, .pl 3 0), (8, .one (.h 0)), (9, .one (.h 1)), (10, .one (.h 2))], [(1, [.h 3, .h 4]), (3, [.vw 142336])], [(142336, 5)], [], []⟩ [(.x 0, ⟨[.sl true 55 (.pair (.int .i64) (.pair (.int .i64) .str))], [(3, .pl 3 0)], [(3, [.vw 142403])], [(142403, 0)], [], []⟩)] (.seq .nil (.seq .nil (.seq (.block [] (.seq .nil (.seq (.seq .nil (.cond [(.n, ⟨[.int .i64, .sl false 9 .str, .int .i64, .int .i64, .sl false 4 .bool, .sl false 9 .str, .sl true 55 (.pair (.int .i64) (.pair (.int .i64) .str))], [(1, .pl 1 0), (3, .pl 3 0), (4, .one (.h 0)), (8, .one (.h 1)), (9, .one (.h 2)), (10, .one (.h 3))], [(1, [.h 4, .h 5]), (3, [.vw 142400])], [(142400, 6)], [], []⟩)] .nil .nil)) (.block [] (.seq .nil (.cond [(.n, ⟨[.sl false 9 .str, .int .i64, .int .i64, .sl false 4 .bool, .sl false 9 .str, .sl true 55 (.pair (.int .i64) (.pair (.int .i64) .str))], [(1, .pl 1 0), (3, .pl 3 0), (8, .one (.h 0)), (9, .one (.h 1)), (10, .one (.h 2))], [(1, [.h 3, .h 4]), (3, [.vw 142402])], [(142402, 5)], [], []⟩)] .nil (.seq .nil (.cond [(.n, ⟨[.sl false 9 .str, .int .i64, .int .i64, .sl false 4 .bool, .sl false 9 .str, .sl true 55 (.pair (.int .i64) (.pair (.int .i64) .str))], [(1, .pl 1 0), (3, .pl 3 0), (8, .one (.h 0)), (9, .one (.h 1)), (10, .one (.h 2))], [(1, [.h 3, .h 4]), (3, [.vw 142401])], [(142401, 5)], [], []⟩)] .nil .nil)))))))) .nil)))))) .nil))
def env_i_told_parts : Env := envOf ti [k_i_builder_add_o] []
theorem eok_i_told_parts : EnvOk Try.prog env_i_told_parts := envOf_ok tab mix _ _ (by
  intro k hk
  simp only [List.mem_cons, List.not_mem_nil, or_false] at hk
  rcases hk with rfl
  · exact s_i_builder_add_o)
theorem v_i_told_parts (x0 : List Bool) (x1 : List (List UInt8)) : (vfun env_i_told_parts Try.f215 J_i_told_parts ann_i_told_parts [] [.ag [⟨.sl false 4 .bool, x0⟩, ⟨.sl false 9 .str, x1⟩]] []).run = (G.i_told_parts x0 x1).bind fun y => some (Res.mk [.one ⟨.sl true 55 (.pair (.int .i64) (.pair (.int .i64) .str)), y⟩] [] []) := by kernel_rfl
def k_i_told_parts : Kn := ⟨215, [0], fun args rows => match args, rows with
  | [.ag [⟨.sl false 4 .bool, x0⟩, ⟨.sl false 9 .str, x1⟩]], [] => some ⟨_, G.i_told_parts x0 x1, fun y => ⟨[.one ⟨.sl true 55 (.pair (.int .i64) (.pair (.int .i64) .str)), y⟩], [], []⟩⟩
  | _, _ => none, []⟩
theorem s_i_told_parts : KnOk Try.prog k_i_told_parts := by
  intro args rows a h y hy
  simp only [k_i_told_parts] at h
  split at h
  · injection h with h
    subst h
    exact vfun_ok eok_i_told_parts Try.func215 rfl (by rw [v_i_told_parts]; simp only at hy; rw [hy]; rfl)
  · cases h
def J_i_compose : Joins := [(.r, ⟨[.sl true 55 (.pair (.int .i64) (.pair (.int .i64) .str))], [(4, .one (.vw 208022))], [], [(208022, 0)], [], []⟩)]
def ann_i_compose : Ann := .seq .nil (.seq .nil (.seq .nil (.seq .nil (.seq .nil (.seq (.seq .nil (.block [] (.loop ⟨[.int .i64, .str, .sl true 9 .str, .int .i64, .int .i64, .sl true 4 .bool, .sl true 4 .bool, .sl true 9 .str, .sl true 4 .bool, .sl true 9 .str], [(5, .pl 5 0), (6, .pl 6 0), (7, .pl 7 0), (8, .one (.h 0)), (9, .one (.h 1)), (24, .one (.vw 207872)), (25, .one (.h 3)), (26, .one (.h 4))], [(5, [.vw 207873, .vw 207872]), (6, [.vw 207874, .vw 207875]), (7, [.vw 207876, .vw 207877])], [(207872, 2), (207873, 5), (207874, 6), (207875, 7), (207876, 8), (207877, 9)], [], []⟩ [(.x 0, ⟨[.sl true 4 .bool, .sl true 9 .str], [(7, .pl 7 0)], [(7, [.vw 208020, .vw 208021])], [(208020, 0), (208021, 1)], [], []⟩)] (.seq .nil (.seq .nil (.seq (.block [(.n, ⟨[.int .i64, .str, .sl true 9 .str, .int .i64, .int .i64, .sl true 4 .bool, .sl true 4 .bool, .sl true 9 .str, .sl true 4 .bool, .sl true 9 .str], [(5, .pl 5 0), (6, .pl 6 0), (7, .pl 7 0), (8, .one (.h 0)), (9, .one (.h 1)), (24, .one (.vw 208012)), (25, .one (.h 3)), (26, .one (.h 4))], [(5, [.vw 208013, .vw 208012]), (6, [.vw 208014, .vw 208015]), (7, [.vw 208016, .vw 208017])], [(208012, 2), (208013, 5), (208014, 6), (208015, 7), (208016, 8), (208017, 9)], [], []⟩), (.x 0, ⟨[.sl true 4 .bool, .sl true 9 .str], [(7, .pl 7 0)], [(7, [.vw 208018, .vw 208019])], [(208018, 0), (208019, 1)], [], []⟩)] (.seq .nil (.seq .nil (.seq (.seq .nil (.block [] (.loop ⟨[.int .i64, .int .i64, .str, .str, .sl true 9 .str, .int .i64, .int .i64, .int .i64, .int .i64, .sl true 4 .bool, .sl true 4 .bool, .sl true 9 .str, .sl true 4 .bool, .sl true 9 .str], [(5, .pl 5 0), (6, .pl 6 0), (7, .pl 7 0), (8, .one (.h 0)), (10, .one (.h 1)), (11, .one (.h 2)), (12, .one (.h 3)), (24, .one (.vw 207936)), (25, .one (.h 5)), (26, .one (.h 6)), (33, .one (.h 7)), (34, .one (.h 8))], [(5, [.vw 207937, .vw 207936]), (6, [.vw 207938, .vw 207939]), (7, [.vw 207940, .vw 207941])], [(207936, 4), (207937, 9), (207938, 10), (207939, 11), (207940, 12), (207941, 13)], [], []⟩ [(.x 2, ⟨[.int .i64, .int .i64, .str, .sl true 9 .str, .int .i64, .int .i64, .sl true 4 .bool, .sl true 4 .bool, .sl true 9 .str, .sl true 4 .bool, .sl true 9 .str], [(5, .pl 5 0), (6, .pl 6 0), (7, .pl 7 0), (8, .one (.h 0)), (10, .one (.h 1)), (12, .one (.h 2)), (24, .one (.vw 208006)), (25, .one (.h 4)), (26, .one (.h 5))], [(5, [.vw 208007, .vw 208006]), (6, [.vw 208008, .vw 208009]), (7, [.vw 208010, .vw 208011])], [(208006, 3), (208007, 6), (208008, 7), (208009, 8), (208010, 9), (208011, 10)], [], []⟩)] (.seq .nil (.seq .nil (.seq (.block [] (.seq .nil (.seq (.seq .nil (.cond [(.n, ⟨[.int .i64, .int .i64, .str, .str, .sl true 9 .str, .int .i64, .int .i64, .int .i64, .int .i64, .sl true 4 .bool, .sl true 4 .bool, .sl true 9 .str, .sl true 4 .bool, .sl true 9 .str], [(5, .pl 5 0), (6, .pl 6 0), (7, .pl 7 0), (8, .one (.h 0)), (10, .one (.h 1)), (11, .one (.h 2)), (12, .one (.h 3)), (24, .one (.vw 208000)), (25, .one (.h 5)), (26, .one (.h 6)), (33, .one (.h 7)), (34, .one (.h 8))], [(5, [.vw 208001, .vw 208000]), (6, [.vw 208002, .vw 208003]), (7, [.vw 208004, .vw 208005])], [(208000, 4), (208001, 9), (208002, 10), (208003, 11), (208004, 12), (208005, 13)], [], []⟩)] .nil .nil)) .nil))) .nil)))))) .nil)))) .nil)))))) .nil)))))
def env_i_compose : Env := envOf ti [k_i_tell, k_i_told_parts] []
theorem eok_i_compose : EnvOk Try.prog env_i_compose := envOf_ok tab mix _ _ (by
  intro k hk
  simp only [List.mem_cons, List.not_mem_nil, or_false] at hk
  rcases hk with rfl | rfl
  · exact s_i_tell
  · exact s_i_told_parts)
theorem v_i_compose (x0 : List (Int × (Int × List UInt8))) (x1 : List (Int × (Int × List UInt8))) : (vfun env_i_compose Try.f163 J_i_compose ann_i_compose [] [.one ⟨.sl false 55 (.pair (.int .i64) (.pair (.int .i64) .str)), x0⟩, .one ⟨.sl false 55 (.pair (.int .i64) (.pair (.int .i64) .str)), x1⟩] []).run = (G.i_compose x0 x1).bind fun y => some (Res.mk [.one ⟨.sl true 55 (.pair (.int .i64) (.pair (.int .i64) .str)), y⟩] [] []) := by kernel_rfl
def k_i_compose : Kn := ⟨163, [0, 0], fun args rows => match args, rows with
  | [.one ⟨.sl false 55 (.pair (.int .i64) (.pair (.int .i64) .str)), x0⟩, .one ⟨.sl false 55 (.pair (.int .i64) (.pair (.int .i64) .str)), x1⟩], [] => some ⟨_, G.i_compose x0 x1, fun y => ⟨[.one ⟨.sl true 55 (.pair (.int .i64) (.pair (.int .i64) .str)), y⟩], [], []⟩⟩
  | _, _ => none, []⟩
theorem s_i_compose : KnOk Try.prog k_i_compose := by
  intro args rows a h y hy
  simp only [k_i_compose] at h
  split at h
  · injection h with h
    subst h
    exact vfun_ok eok_i_compose Try.func163 rfl (by rw [v_i_compose]; simp only at hy; rw [hy]; rfl)
  · cases h
end
end Go.Proofs.Ytcfbfpipfalieaa

set_option linter.unusedVariables false
set_option maxRecDepth 100000
namespace Go.Proofs.Ytcfbfpipfalieaa
open Go.V
noncomputable section
def J_i_composed : Joins := [(.r, ⟨[.sl true 55 (.pair (.int .i64) (.pair (.int .i64) .str))], [(2, .one (.vw 128064))], [], [(128064, 0)], [], []⟩)]
def ann_i_composed : Ann := .seq .nil (.seq .nil (.seq (.seq .nil (.block [] (.loop ⟨[.sl false 55 (.pair (.int .i64) (.pair (.int .i64) .str)), .sl false 93 (.sl false 55 (.pair (.int .i64) (.pair (.int .i64) .str))), .int .i64, .int .i64], [(3, .one (.h 0)), (11, .one (.h 1)), (12, .one (.h 2)), (13, .one (.h 3))], [], [], [], [.sl 3]⟩ [(.x 0, ⟨[.sl false 55 (.pair (.int .i64) (.pair (.int .i64) .str))], [(3, .one (.h 0))], [], [], [], []⟩)] .nil))) .nil))
def env_i_composed : Env := envOf ti [k_i_compose] []
theorem eok_i_composed : EnvOk Try.prog env_i_composed := envOf_ok tab mix _ _ (by
  intro k hk
  simp only [List.mem_cons, List.not_mem_nil, or_false] at hk
  rcases hk with rfl
  · exact s_i_compose)
theorem v_i_composed (x0 : List (List (Int × (Int × List UInt8)))) : (vfun env_i_composed Try.f206 J_i_composed ann_i_composed [] [.one ⟨.sl false 93 (.sl false 55 (.pair (.int .i64) (.pair (.int .i64) .str))), x0⟩] []).run = (G.i_composed x0).bind fun y => some (Res.mk [.one ⟨.sl true 55 (.pair (.int .i64) (.pair (.int .i64) .str)), y⟩] [] []) := by kernel_rfl
def k_i_composed : Kn := ⟨206, [0], fun args rows => match args, rows with
  | [.one ⟨.sl false 93 (.sl false 55 (.pair (.int .i64) (.pair (.int .i64) .str))), x0⟩], [] => some ⟨_, G.i_composed x0, fun y => ⟨[.one ⟨.sl true 55 (.pair (.int .i64) (.pair (.int .i64) .str)), y⟩], [], []⟩⟩
  | _, _ => none, []⟩
theorem s_i_composed : KnOk Try.prog k_i_composed := by
  intro args rows a h y hy
  simp only [k_i_composed] at h
  split at h
  · injection h with h
    subst h
    exact vfun_ok eok_i_composed Try.func206 rfl (by rw [v_i_composed]; simp only at hy; rw [hy]; rfl)
  · cases h
def J_i_History_between : Joins := [(.r, ⟨[.sl true 55 (.pair (.int .i64) (.pair (.int .i64) .str))], [(6, .one (.vw 130048))], [], [(130048, 0)], [], []⟩)]
def ann_i_History_between : Ann := .nil
def env_i_History_between : Env := envOf ti [k_i_History_text, k_i_same, k_i_composed] []
theorem eok_i_History_between : EnvOk Try.prog env_i_History_between := envOf_ok tab mix _ _ (by
  intro k hk
  simp only [List.mem_cons, List.not_mem_nil, or_false] at hk
  rcases hk with rfl | rfl | rfl
  · exact s_i_History_text
  · exact s_i_same
  · exact s_i_composed)
theorem v_i_History_between (x0 : Int) (x1 : List UInt8) (x2 : List (Int × Int)) (x3 : List (List (Int × (Int × List UInt8)))) (x4 : Int) (x5 : Int) : (vfun env_i_History_between Try.f135 J_i_History_between ann_i_History_between [] [.ag [⟨.int .i64, x0⟩, ⟨.str, x1⟩, ⟨.sl false 144 (.pair (.int .i64) (.int .i64)), x2⟩, ⟨.sl false 93 (.sl false 55 (.pair (.int .i64) (.pair (.int .i64) .str))), x3⟩], .one ⟨.int .i64, x4⟩, .one ⟨.int .i64, x5⟩] []).run = (G.i_History_between x0 x1 x2 x3 x4 x5).bind fun y => some (Res.mk [.one ⟨.sl true 55 (.pair (.int .i64) (.pair (.int .i64) .str)), y⟩] [] []) := by kernel_rfl
def k_i_History_between : Kn := ⟨135, [0, 0, 0], fun args rows => match args, rows with
  | [.ag [⟨.int .i64, x0⟩, ⟨.str, x1⟩, ⟨.sl false 144 (.pair (.int .i64) (.int .i64)), x2⟩, ⟨.sl false 93 (.sl false 55 (.pair (.int .i64) (.pair (.int .i64) .str))), x3⟩], .one ⟨.int .i64, x4⟩, .one ⟨.int .i64, x5⟩], [] => some ⟨_, G.i_History_between x0 x1 x2 x3 x4 x5, fun y => ⟨[.one ⟨.sl true 55 (.pair (.int .i64) (.pair (.int .i64) .str)), y⟩], [], []⟩⟩
  | _, _ => none, []⟩
theorem s_i_History_between : KnOk Try.prog k_i_History_between := by
  intro args rows a h y hy
  simp only [k_i_History_between] at h
  split at h
  · injection h with h
    subst h
    exact vfun_ok eok_i_History_between Try.func135 rfl (by rw [v_i_History_between]; simp only at hy; rw [hy]; rfl)
  · cases h
def J_i_carry : Joins := [(.r, ⟨[.sl true 55 (.pair (.int .i64) (.pair (.int .i64) .str)), .bool], [(6, .one (.vw 179290)), (7, .one (.h 1))], [], [(179290, 0)], [], []⟩)]
def ann_i_carry : Ann := .seq .nil (.seq .nil (.seq .nil (.seq (.seq .nil (.block [] (.loop ⟨[.bool, .int .i64, .int .i64, .sl true 4 .bool, .sl true 9 .str, .sl true 4 .bool, .sl true 9 .str, .sl true 55 (.pair (.int .i64) (.pair (.int .i64) .str))], [(2, .one (.h 0)), (8, .pl 8 0), (9, .pl 9 0), (10, .pl 10 0), (20, .one (.h 1)), (21, .one (.h 2))], [(8, [.vw 179200, .vw 179201]), (9, [.vw 179202, .vw 179203]), (10, [.vw 179204])], [(179200, 3), (179201, 4), (179202, 5), (179203, 6), (179204, 7)], [], []⟩ [(.x 0, ⟨[.sl true 55 (.pair (.int .i64) (.pair (.int .i64) .str))], [(10, .pl 10 0)], [(10, [.vw 179289])], [(179289, 0)], [], []⟩)] (.seq .nil (.seq .nil (.seq (.block [] (.seq .nil (.seq .nil (.seq (.seq .nil (.cond [(.n, ⟨[.bool, .int .i64, .int .i64, .int .i64, .sl true 4 .bool, .sl true 9 .str, .sl true 4 .bool, .sl true 9 .str, .sl true 55 (.pair (.int .i64) (.pair (.int .i64) .str)), .int .i64, .int .i64, .str], [(2, .one (.h 0)), (8, .pl 8 0), (9, .pl 9 0), (10, .pl 10 0), (11, .one (.h 1)), (12, .pl 12 0), (20, .one (.h 2)), (21, .one (.h 3))], [(8, [.vw 179264, .vw 179265]), (9, [.vw 179266, .vw 179267]), (10, [.vw 179268]), (12, [.h 9, .h 10, .h 11])], [(179264, 4), (179265, 5), (179266, 6), (179267, 7), (179268, 8)], [], []⟩)] .nil .nil)) (.seq .nil (.seq (.seq .nil (.cond [(.n, ⟨[.bool, .int .i64, .int .i64, .int .i64, .sl true 4 .bool, .sl true 9 .str, .sl true 4 .bool, .sl true 9 .str, .sl true 55 (.pair (.int .i64) (.pair (.int .i64) .str))], [(2, .one (.h 0)), (8, .pl 8 0), (9, .pl 9 0), (10, .pl 10 0), (11, .one (.h 1)), (20, .one (.h 2)), (21, .one (.h 3))], [(8, [.vw 179269, .vw 179270]), (9, [.vw 179271, .vw 179272]), (10, [.vw 179273])], [(179269, 4), (179270, 5), (179271, 6), (179272, 7), (179273, 8)], [], []⟩)] .nil .nil)) (.block [] (.seq (.reg [(.n, ⟨[.bool, .int .i64, .int .i64, .int .i64, .bool, .sl true 4 .bool, .sl true 9 .str, .sl true 4 .bool, .sl true 9 .str, .sl true 55 (.pair (.int .i64) (.pair (.int .i64) .str))], [(2, .one (.h 0)), (8, .pl 8 0), (9, .pl 9 0), (10, .pl 10 0), (11, .one (.h 1)), (20, .one (.h 2)), (21, .one (.h 3)), (47, .one (.h 4))], [(8, [.vw 179274, .vw 179275]), (9, [.vw 179276, .vw 179277]), (10, [.vw 179278])], [(179274, 5), (179275, 6), (179276, 7), (179277, 8), (179278, 9)], [], []⟩)]) (.cond [(.n, ⟨[.bool, .int .i64, .int .i64, .sl true 4 .bool, .sl true 9 .str, .sl true 4 .bool, .sl true 9 .str, .sl true 55 (.pair (.int .i64) (.pair (.int .i64) .str))], [(2, .one (.h 0)), (8, .pl 8 0), (9, .pl 9 0), (10, .pl 10 0), (20, .one (.h 1)), (21, .one (.h 2))], [(8, [.vw 179284, .vw 179285]), (9, [.vw 179286, .vw 179287]), (10, [.vw 179288])], [(179284, 3), (179285, 4), (179286, 5), (179287, 6), (179288, 7)], [], []⟩)] .nil (.seq .nil (.cond [(.n, ⟨[.bool, .int .i64, .int .i64, .sl true 4 .bool, .sl true 9 .str, .sl true 4 .bool, .sl true 9 .str, .sl true 55 (.pair (.int .i64) (.pair (.int .i64) .str))], [(2, .one (.h 0)), (8, .pl 8 0), (9, .pl 9 0), (10, .pl 10 0), (20, .one (.h 1)), (21, .one (.h 2))], [(8, [.vw 179279, .vw 179280]), (9, [.vw 179281, .vw 179282]), (10, [.vw 179283])], [(179279, 3), (179280, 4), (179281, 5), (179282, 6), (179283, 7)], [], []⟩)] .nil .nil))))))))))) .nil)))))) .nil)))
def env_i_carry : Env := envOf ti [k_i_tell, k_i_builder_add_o, k_i_GoodChange] []
theorem eok_i_carry : EnvOk Try.prog env_i_carry := envOf_ok tab mix _ _ (by
  intro k hk
  simp only [List.mem_cons, List.not_mem_nil, or_false] at hk
  rcases hk with rfl | rfl | rfl
  · exact s_i_tell
  · exact s_i_builder_add_o
  · exact s_i_GoodChange)
theorem v_i_carry (x0 : List (Int × (Int × List UInt8))) (x1 : List (Int × (Int × List UInt8))) (x2 : Bool) : (vfun env_i_carry Try.f153 J_i_carry ann_i_carry [] [.one ⟨.sl false 55 (.pair (.int .i64) (.pair (.int .i64) .str)), x0⟩, .one ⟨.sl false 55 (.pair (.int .i64) (.pair (.int .i64) .str)), x1⟩, .one ⟨.bool, x2⟩] []).run = (G.i_carry x0 x1 x2).bind fun y => some (Res.mk [.one ⟨.sl true 55 (.pair (.int .i64) (.pair (.int .i64) .str)), y.1⟩, .one ⟨.bool, y.2⟩] [] []) := by kernel_rfl
def k_i_carry : Kn := ⟨153, [0, 0, 0], fun args rows => match args, rows with
  | [.one ⟨.sl false 55 (.pair (.int .i64) (.pair (.int .i64) .str)), x0⟩, .one ⟨.sl false 55 (.pair (.int .i64) (.pair (.int .i64) .str)), x1⟩, .one ⟨.bool, x2⟩], [] => some ⟨_, G.i_carry x0 x1 x2, fun y => ⟨[.one ⟨.sl true 55 (.pair (.int .i64) (.pair (.int .i64) .str)), y.1⟩, .one ⟨.bool, y.2⟩], [], []⟩⟩
  | _, _ => none, []⟩
theorem s_i_carry : KnOk Try.prog k_i_carry := by
  intro args rows a h y hy
  simp only [k_i_carry] at h
  split at h
  · injection h with h
    subst h
    exact vfun_ok eok_i_carry Try.func153 rfl (by rw [v_i_carry]; simp only at hy; rw [hy]; rfl)
  · cases h
def J_i_History_rebased : Joins := [(.r, ⟨[.sl true 55 (.pair (.int .i64) (.pair (.int .i64) .str)), .int .i64], [(6, .one (.vw 147456)), (7, .one (.h 1))], [], [(147456, 0)], [], []⟩)]
def ann_i_History_rebased : Ann := .nil
def env_i_History_rebased : Env := envOf ti [k_i_History_code, k_i_History_text, k_i_fits, k_i_History_head, k_slices_Clone_loop_example_g00083_impl_Part_loop_example_g00083_impl_Part, k_i_History_between, k_i_carry] []
theorem eok_i_History_rebased : EnvOk Try.prog env_i_History_rebased := envOf_ok tab mix _ _ (by
  intro k hk
  simp only [List.mem_cons, List.not_mem_nil, or_false] at hk
  rcases hk with rfl | rfl | rfl | rfl | rfl | rfl | rfl
  · exact s_i_History_code
  · exact s_i_History_text
  · exact s_i_fits
  · exact s_i_History_head
  · exact s_slices_Clone_loop_example_g00083_impl_Part_loop_example_g00083_impl_Part
  · exact s_i_History_between
  · exact s_i_carry)
theorem v_i_History_rebased (x0 : Int) (x1 : List UInt8) (x2 : List (Int × Int)) (x3 : List (List (Int × (Int × List UInt8)))) (x4 : Int) (x5 : List (Int × (Int × List UInt8))) : (vfun env_i_History_rebased Try.f149 J_i_History_rebased ann_i_History_rebased [] [.ag [⟨.int .i64, x0⟩, ⟨.str, x1⟩, ⟨.sl false 144 (.pair (.int .i64) (.int .i64)), x2⟩, ⟨.sl false 93 (.sl false 55 (.pair (.int .i64) (.pair (.int .i64) .str))), x3⟩], .one ⟨.int .i64, x4⟩, .one ⟨.sl false 55 (.pair (.int .i64) (.pair (.int .i64) .str)), x5⟩] []).run = (G.i_History_rebased x0 x1 x2 x3 x4 x5).bind fun y => some (Res.mk [.one ⟨.sl true 55 (.pair (.int .i64) (.pair (.int .i64) .str)), y.1⟩, .one ⟨.int .i64, y.2⟩] [] []) := by kernel_rfl
def k_i_History_rebased : Kn := ⟨149, [0, 0, 0], fun args rows => match args, rows with
  | [.ag [⟨.int .i64, x0⟩, ⟨.str, x1⟩, ⟨.sl false 144 (.pair (.int .i64) (.int .i64)), x2⟩, ⟨.sl false 93 (.sl false 55 (.pair (.int .i64) (.pair (.int .i64) .str))), x3⟩], .one ⟨.int .i64, x4⟩, .one ⟨.sl false 55 (.pair (.int .i64) (.pair (.int .i64) .str)), x5⟩], [] => some ⟨_, G.i_History_rebased x0 x1 x2 x3 x4 x5, fun y => ⟨[.one ⟨.sl true 55 (.pair (.int .i64) (.pair (.int .i64) .str)), y.1⟩, .one ⟨.int .i64, y.2⟩], [], []⟩⟩
  | _, _ => none, []⟩
theorem s_i_History_rebased : KnOk Try.prog k_i_History_rebased := by
  intro args rows a h y hy
  simp only [k_i_History_rebased] at h
  split at h
  · injection h with h
    subst h
    exact vfun_ok eok_i_History_rebased Try.func149 rfl (by rw [v_i_History_rebased]; simp only at hy; rw [hy]; rfl)
  · cases h
def J_slices_Clone_loop_example_g00083_impl_Run_loop_example_g00083_impl_Run : Joins := [(.r, ⟨[.sl true 144 (.pair (.int .i64) (.int .i64))], [(2, .one (.vw 110593))], [], [(110593, 0)], [], []⟩)]
def ann_slices_Clone_loop_example_g00083_impl_Run_loop_example_g00083_impl_Run : Ann := .seq .nil (.both [(.r, ⟨[.sl true 144 (.pair (.int .i64) (.int .i64))], [(2, .one (.vw 110592))], [], [(110592, 0)], [], []⟩)] .nil .nil .nil .nil .nil)
def env_slices_Clone_loop_example_g00083_impl_Run_loop_example_g00083_impl_Run : Env := envOf ti [] []
theorem eok_slices_Clone_loop_example_g00083_impl_Run_loop_example_g00083_impl_Run : EnvOk Try.prog env_slices_Clone_loop_example_g00083_impl_Run_loop_example_g00083_impl_Run := envOf_ok tab mix _ _ (by
  intro k hk; cases hk)
theorem v_slices_Clone_loop_example_g00083_impl_Run_loop_example_g00083_impl_Run (x0 : List (Int × Int)) : (vfun env_slices_Clone_loop_example_g00083_impl_Run_loop_example_g00083_impl_Run Try.f200 J_slices_Clone_loop_example_g00083_impl_Run_loop_example_g00083_impl_Run ann_slices_Clone_loop_example_g00083_impl_Run_loop_example_g00083_impl_Run [] [.one ⟨.sl false 144 (.pair (.int .i64) (.int .i64)), x0⟩] []).run = (G.slices_Clone_loop_example_g00083_impl_Run_loop_example_g00083_impl_Run x0).bind fun y => some (Res.mk [.one ⟨.sl true 144 (.pair (.int .i64) (.int .i64)), y⟩] [] []) := by kernel_rfl
def k_slices_Clone_loop_example_g00083_impl_Run_loop_example_g00083_impl_Run : Kn := ⟨200, [0], fun args rows => match args, rows with
  | [.one ⟨.sl false 144 (.pair (.int .i64) (.int .i64)), x0⟩], [] => some ⟨_, G.slices_Clone_loop_example_g00083_impl_Run_loop_example_g00083_impl_Run x0, fun y => ⟨[.one ⟨.sl true 144 (.pair (.int .i64) (.int .i64)), y⟩], [], []⟩⟩
  | _, _ => none, []⟩
theorem s_slices_Clone_loop_example_g00083_impl_Run_loop_example_g00083_impl_Run : KnOk Try.prog k_slices_Clone_loop_example_g00083_impl_Run_loop_example_g00083_impl_Run := by
  intro args rows a h y hy
  simp only [k_slices_Clone_loop_example_g00083_impl_Run_loop_example_g00083_impl_Run] at h
  split at h
  · injection h with h
    subst h
    exact vfun_ok eok_slices_Clone_loop_example_g00083_impl_Run_loop_example_g00083_impl_Run Try.func200 rfl (by rw [v_slices_Clone_loop_example_g00083_impl_Run_loop_example_g00083_impl_Run]; simp only at hy; rw [hy]; rfl)
  · cases h
def J_i_History_copied : Joins := [(.r, ⟨[.int .i64, .str, .sl true 144 (.pair (.int .i64) (.int .i64)), .sl true 93 (.sl true 55 (.pair (.int .i64) (.pair (.int .i64) .str)))], [(2, .pl 2 0)], [(2, [.h 0, .h 1, .vw 135234, .vw 135235])], [(135234, 2), (135235, 3)], [], []⟩)]
def ann_i_History_copied : Ann := .seq .nil (.seq .nil (.seq (.seq .nil (.block [] (.loop ⟨[.sl false 93 (.sl false 55 (.pair (.int .i64) (.pair (.int .i64) .str))), .int .i64, .int .i64, .int .i64, .str, .int .i64, .str, .sl true 144 (.pair (.int .i64) (.int .i64)), .sl true 93 (.sl true 55 (.pair (.int .i64) (.pair (.int .i64) .str)))], [(2, .pl 2 0), (3, .pl 3 0), (15, .one (.h 0)), (16, .one (.h 1)), (17, .one (.h 2))], [(2, [.h 3, .h 4, .nil, .nil]), (3, [.h 5, .h 6, .vw 135168, .vw 135169])], [(135168, 7), (135169, 8)], [], []⟩ [(.x 0, ⟨[.int .i64, .str, .int .i64, .str, .sl true 144 (.pair (.int .i64) (.int .i64)), .sl true 93 (.sl true 55 (.pair (.int .i64) (.pair (.int .i64) .str)))], [(2, .pl 2 0), (3, .pl 3 0)], [(2, [.h 0, .h 1, .nil, .nil]), (3, [.h 2, .h 3, .vw 135232, .vw 135233])], [(135232, 4), (135233, 5)], [], []⟩)] .nil))) .nil))
def env_i_History_copied : Env := envOf ti [k_slices_Clone_loop_example_g00083_impl_Run_loop_example_g00083_impl_Run, k_slices_Clone_loop_example_g00083_impl_Part_loop_example_g00083_impl_Part] []
theorem eok_i_History_copied : EnvOk Try.prog env_i_History_copied := envOf_ok tab mix _ _ (by
  intro k hk
  simp only [List.mem_cons, List.not_mem_nil, or_false] at hk
  rcases hk with rfl | rfl
  · exact s_slices_Clone_loop_example_g00083_impl_Run_loop_example_g00083_impl_Run
  · exact s_slices_Clone_loop_example_g00083_impl_Part_loop_example_g00083_impl_Part)
theorem v_i_History_copied (x0 : Int) (x1 : List UInt8) (x2 : List (Int × Int)) (x3 : List (List (Int × (Int × List UInt8)))) : (vfun env_i_History_copied Try.f138 J_i_History_copied ann_i_History_copied [] [.ag [⟨.int .i64, x0⟩, ⟨.str, x1⟩, ⟨.sl false 144 (.pair (.int .i64) (.int .i64)), x2⟩, ⟨.sl false 93 (.sl false 55 (.pair (.int .i64) (.pair (.int .i64) .str))), x3⟩]] []).run = (G.i_History_copied x0 x1 x2 x3).bind fun y => some (Res.mk [.ag [⟨.int .i64, y.1⟩, ⟨.str, y.2.1⟩, ⟨.sl true 144 (.pair (.int .i64) (.int .i64)), y.2.2.1⟩, ⟨.sl true 93 (.sl true 55 (.pair (.int .i64) (.pair (.int .i64) .str))), y.2.2.2⟩]] [] []) := by kernel_rfl
def k_i_History_copied : Kn := ⟨138, [0], fun args rows => match args, rows with
  | [.ag [⟨.int .i64, x0⟩, ⟨.str, x1⟩, ⟨.sl false 144 (.pair (.int .i64) (.int .i64)), x2⟩, ⟨.sl false 93 (.sl false 55 (.pair (.int .i64) (.pair (.int .i64) .str))), x3⟩]], [] => some ⟨_, G.i_History_copied x0 x1 x2 x3, fun y => ⟨[.ag [⟨.int .i64, y.1⟩, ⟨.str, y.2.1⟩, ⟨.sl true 144 (.pair (.int .i64) (.int .i64)), y.2.2.1⟩, ⟨.sl true 93 (.sl true 55 (.pair (.int .i64) (.pair (.int .i64) .str))), y.2.2.2⟩]], [], []⟩⟩
  | _, _ => none, []⟩
theorem s_i_History_copied : KnOk Try.prog k_i_History_copied := by
  intro args rows a h y hy
  simp only [k_i_History_copied] at h
  split at h
  · injection h with h
    subst h
    exact vfun_ok eok_i_History_copied Try.func138 rfl (by rw [v_i_History_copied]; simp only at hy; rw [hy]; rfl)
  · cases h
def J_i_History_submitted : Joins := [(.r, ⟨[.int .i64, .int .i64, .str, .sl true 144 (.pair (.int .i64) (.int .i64)), .sl true 93 (.sl true 55 (.pair (.int .i64) (.pair (.int .i64) .str)))], [(6, .pl 6 0), (7, .one (.h 0))], [(6, [.h 1, .h 2, .vw 142338, .vw 142339])], [(142338, 3), (142339, 4)], [], []⟩)]
def ann_i_History_submitted : Ann := .seq .nil (.seq .nil (.seq (.seq (.reg [(.n, ⟨[.sl true 55 (.pair (.int .i64) (.pair (.int .i64) .str)), .int .i64, .bool, .int .i64, .str, .sl false 144 (.pair (.int .i64) (.int .i64)), .sl false 93 (.sl false 55 (.pair (.int .i64) (.pair (.int .i64) .str))), .int .i64, .str], [(3, .pl 3 0), (6, .pl 6 0), (8, .one (.vw 142336)), (9, .one (.h 1)), (24, .one (.h 2))], [(3, [.h 3, .h 4, .h 5, .h 6]), (6, [.h 7, .h 8, .nil, .nil])], [(142336, 0)], [], []⟩)]) (.cond [(.n, ⟨[.sl true 55 (.pair (.int .i64) (.pair (.int .i64) .str)), .int .i64, .int .i64, .str, .sl false 144 (.pair (.int .i64) (.int .i64)), .sl false 93 (.sl false 55 (.pair (.int .i64) (.pair (.int .i64) .str))), .int .i64, .str], [(3, .pl 3 0), (6, .pl 6 0), (8, .one (.vw 142337)), (9, .one (.h 1))], [(3, [.h 2, .h 3, .h 4, .h 5]), (6, [.h 6, .h 7, .nil, .nil])], [(142337, 0)], [], []⟩)] .nil .nil)) .nil))
def env_i_History_submitted : Env := envOf ti [k_i_History_rebased, k_i_History_head, k_i_History_copied] []
theorem eok_i_History_submitted : EnvOk Try.prog env_i_History_submitted := envOf_ok tab mix _ _ (by
  intro k hk
  simp only [List.mem_cons, List.not_mem_nil, or_false] at hk
  rcases hk with rfl | rfl | rfl
  · exact s_i_History_rebased
  · exact s_i_History_head
  · exact s_i_History_copied)
theorem v_i_History_submitted (x0 : Int) (x1 : List UInt8) (x2 : List (Int × Int)) (x3 : List (List (Int × (Int × List UInt8)))) (x4 : Int) (x5 : List (Int × (Int × List UInt8))) : (vfun env_i_History_submitted Try.f156 J_i_History_submitted ann_i_History_submitted [] [.ag [⟨.int .i64, x0⟩, ⟨.str, x1⟩, ⟨.sl false 144 (.pair (.int .i64) (.int .i64)), x2⟩, ⟨.sl false 93 (.sl false 55 (.pair (.int .i64) (.pair (.int .i64) .str))), x3⟩], .one ⟨.int .i64, x4⟩, .one ⟨.sl false 55 (.pair (.int .i64) (.pair (.int .i64) .str)), x5⟩] []).run = (G.i_History_submitted x0 x1 x2 x3 x4 x5).bind fun y => some (Res.mk [.ag [⟨.int .i64, y.2.1⟩, ⟨.str, y.2.2.1⟩, ⟨.sl true 144 (.pair (.int .i64) (.int .i64)), y.2.2.2.1⟩, ⟨.sl true 93 (.sl true 55 (.pair (.int .i64) (.pair (.int .i64) .str))), y.2.2.2.2⟩], .one ⟨.int .i64, y.1⟩] [] []) := by kernel_rfl
def k_i_History_submitted : Kn := ⟨156, [0, 0, 0], fun args rows => match args, rows with
  | [.ag [⟨.int .i64, x0⟩, ⟨.str, x1⟩, ⟨.sl false 144 (.pair (.int .i64) (.int .i64)), x2⟩, ⟨.sl false 93 (.sl false 55 (.pair (.int .i64) (.pair (.int .i64) .str))), x3⟩], .one ⟨.int .i64, x4⟩, .one ⟨.sl false 55 (.pair (.int .i64) (.pair (.int .i64) .str)), x5⟩], [] => some ⟨_, G.i_History_submitted x0 x1 x2 x3 x4 x5, fun y => ⟨[.ag [⟨.int .i64, y.2.1⟩, ⟨.str, y.2.2.1⟩, ⟨.sl true 144 (.pair (.int .i64) (.int .i64)), y.2.2.2.1⟩, ⟨.sl true 93 (.sl true 55 (.pair (.int .i64) (.pair (.int .i64) .str))), y.2.2.2.2⟩], .one ⟨.int .i64, y.1⟩], [], []⟩⟩
  | _, _ => none, []⟩
theorem s_i_History_submitted : KnOk Try.prog k_i_History_submitted := by
  intro args rows a h y hy
  simp only [k_i_History_submitted] at h
  split at h
  · injection h with h
    subst h
    exact vfun_ok eok_i_History_submitted Try.func156 rfl (by rw [v_i_History_submitted]; simp only at hy; rw [hy]; rfl)
  · cases h
def J_i_Submit : Joins := [(.r, ⟨[.int .i64, .int .i64, .int .i64, .str, .sl true 144 (.pair (.int .i64) (.int .i64)), .sl true 93 (.sl true 55 (.pair (.int .i64) (.pair (.int .i64) .str)))], [(6, .pl 6 0), (7, .one (.h 0)), (8, .one (.h 1))], [(6, [.h 2, .h 3, .vw 133120, .vw 133121])], [(133120, 4), (133121, 5)], [], []⟩)]
def ann_i_Submit : Ann := .nil
def env_i_Submit : Env := envOf ti [k_i_History_submitted, k_i_History_head, k_i_History_copied] []
theorem eok_i_Submit : EnvOk Try.prog env_i_Submit := envOf_ok tab mix _ _ (by
  intro k hk
  simp only [List.mem_cons, List.not_mem_nil, or_false] at hk
  rcases hk with rfl | rfl | rfl
  · exact s_i_History_submitted
  · exact s_i_History_head
  · exact s_i_History_copied)
theorem v_i_Submit (x0 : Int) (x1 : List UInt8) (x2 : List (Int × Int)) (x3 : List (List (Int × (Int × List UInt8)))) (x4 : Int) (x5 : List (Int × (Int × List UInt8))) : (vfun env_i_Submit Try.f70 J_i_Submit ann_i_Submit [] [.ag [⟨.int .i64, x0⟩, ⟨.str, x1⟩, ⟨.sl false 144 (.pair (.int .i64) (.int .i64)), x2⟩, ⟨.sl false 93 (.sl false 55 (.pair (.int .i64) (.pair (.int .i64) .str))), x3⟩], .one ⟨.int .i64, x4⟩, .one ⟨.sl false 55 (.pair (.int .i64) (.pair (.int .i64) .str)), x5⟩] []).run = (G.i_Submit x0 x1 x2 x3 x4 x5).bind fun y => some (Res.mk [.ag [⟨.int .i64, y.2.2.1⟩, ⟨.str, y.2.2.2.1⟩, ⟨.sl true 144 (.pair (.int .i64) (.int .i64)), y.2.2.2.2.1⟩, ⟨.sl true 93 (.sl true 55 (.pair (.int .i64) (.pair (.int .i64) .str))), y.2.2.2.2.2⟩], .one ⟨.int .i64, y.1⟩, .one ⟨.int .i64, y.2.1⟩] [] []) := by kernel_rfl
def k_i_Submit : Kn := ⟨70, [0, 0, 0], fun args rows => match args, rows with
  | [.ag [⟨.int .i64, x0⟩, ⟨.str, x1⟩, ⟨.sl false 144 (.pair (.int .i64) (.int .i64)), x2⟩, ⟨.sl false 93 (.sl false 55 (.pair (.int .i64) (.pair (.int .i64) .str))), x3⟩], .one ⟨.int .i64, x4⟩, .one ⟨.sl false 55 (.pair (.int .i64) (.pair (.int .i64) .str)), x5⟩], [] => some ⟨_, G.i_Submit x0 x1 x2 x3 x4 x5, fun y => ⟨[.ag [⟨.int .i64, y.2.2.1⟩, ⟨.str, y.2.2.2.1⟩, ⟨.sl true 144 (.pair (.int .i64) (.int .i64)), y.2.2.2.2.1⟩, ⟨.sl true 93 (.sl true 55 (.pair (.int .i64) (.pair (.int .i64) .str))), y.2.2.2.2.2⟩], .one ⟨.int .i64, y.1⟩, .one ⟨.int .i64, y.2.1⟩], [], []⟩⟩
  | _, _ => none, []⟩
theorem s_i_Submit : KnOk Try.prog k_i_Submit := by
  intro args rows a h y hy
  simp only [k_i_Submit] at h
  split at h
  · injection h with h
    subst h
    exact vfun_ok eok_i_Submit Try.func70 rfl (by rw [v_i_Submit]; simp only at hy; rw [hy]; rfl)
  · cases h
def J_l_sameRuns : Joins := [(.r, ⟨[.bool], [(4, .one (.h 0))], [], [], [], []⟩)]
def ann_l_sameRuns : Ann := .seq .nil (.seq .nil (.seq (.seq .nil (.block [] (.loop ⟨[.sl false 144 (.pair (.int .i64) (.int .i64)), .sl false 144 (.pair (.int .i64) (.int .i64)), .int .i64, .int .i64], [(0, .one (.h 0)), (1, .one (.h 1)), (12, .one (.h 2)), (13, .one (.h 3))], [], [], [], []⟩ [(.x 0, ⟨[], [], [], [], [], []⟩), (.r, ⟨[.bool], [(4, .one (.h 0))], [], [], [], []⟩)] .nil))) .nil))
def env_l_sameRuns : Env := envOf ti [] []
theorem eok_l_sameRuns : EnvOk Try.prog env_l_sameRuns := envOf_ok tab mix _ _ (by
  intro k hk; cases hk)
theorem v_l_sameRuns (x0 : List (Int × Int)) (x1 : List (Int × Int)) : (vfun env_l_sameRuns Try.f32 J_l_sameRuns ann_l_sameRuns [] [.one ⟨.sl false 144 (.pair (.int .i64) (.int .i64)), x0⟩, .one ⟨.sl false 144 (.pair (.int .i64) (.int .i64)), x1⟩] []).run = (G.l_sameRuns x0 x1).bind fun y => some (Res.mk [.one ⟨.bool, y⟩] [] []) := by kernel_rfl
def k_l_sameRuns : Kn := ⟨32, [0, 0], fun args rows => match args, rows with
  | [.one ⟨.sl false 144 (.pair (.int .i64) (.int .i64)), x0⟩, .one ⟨.sl false 144 (.pair (.int .i64) (.int .i64)), x1⟩], [] => some ⟨_, G.l_sameRuns x0 x1, fun y => ⟨[.one ⟨.bool, y⟩], [], []⟩⟩
  | _, _ => none, []⟩
theorem s_l_sameRuns : KnOk Try.prog k_l_sameRuns := by
  intro args rows a h y hy
  simp only [k_l_sameRuns] at h
  split at h
  · injection h with h
    subst h
    exact vfun_ok eok_l_sameRuns Try.func32 rfl (by rw [v_l_sameRuns]; simp only at hy; rw [hy]; rfl)
  · cases h
def J_l_sameParts : Joins := [(.r, ⟨[.bool], [(4, .one (.h 0))], [], [], [], []⟩)]
def ann_l_sameParts : Ann := .seq .nil (.seq .nil (.seq (.seq .nil (.block [] (.loop ⟨[.sl false 55 (.pair (.int .i64) (.pair (.int .i64) .str)), .sl false 55 (.pair (.int .i64) (.pair (.int .i64) .str)), .int .i64, .int .i64], [(0, .one (.h 0)), (1, .one (.h 1)), (12, .one (.h 2)), (13, .one (.h 3))], [], [], [], []⟩ [(.x 0, ⟨[], [], [], [], [], []⟩), (.r, ⟨[.bool], [(4, .one (.h 0))], [], [], [], []⟩)] .nil))) .nil))
def env_l_sameParts : Env := envOf ti [] []
theorem eok_l_sameParts : EnvOk Try.prog env_l_sameParts := envOf_ok tab mix _ _ (by
  intro k hk; cases hk)
theorem v_l_sameParts (x0 : List (Int × (Int × List UInt8))) (x1 : List (Int × (Int × List UInt8))) : (vfun env_l_sameParts Try.f65 J_l_sameParts ann_l_sameParts [] [.one ⟨.sl false 55 (.pair (.int .i64) (.pair (.int .i64) .str)), x0⟩, .one ⟨.sl false 55 (.pair (.int .i64) (.pair (.int .i64) .str)), x1⟩] []).run = (G.l_sameParts x0 x1).bind fun y => some (Res.mk [.one ⟨.bool, y⟩] [] []) := by kernel_rfl
def k_l_sameParts : Kn := ⟨65, [0, 0], fun args rows => match args, rows with
  | [.one ⟨.sl false 55 (.pair (.int .i64) (.pair (.int .i64) .str)), x0⟩, .one ⟨.sl false 55 (.pair (.int .i64) (.pair (.int .i64) .str)), x1⟩], [] => some ⟨_, G.l_sameParts x0 x1, fun y => ⟨[.one ⟨.bool, y⟩], [], []⟩⟩
  | _, _ => none, []⟩
theorem s_l_sameParts : KnOk Try.prog k_l_sameParts := by
  intro args rows a h y hy
  simp only [k_l_sameParts] at h
  split at h
  · injection h with h
    subst h
    exact vfun_ok eok_l_sameParts Try.func65 rfl (by rw [v_l_sameParts]; simp only at hy; rw [hy]; rfl)
  · cases h
def J_l_sameHistories : Joins := [(.r, ⟨[.bool], [(4, .one (.h 0))], [], [], [], []⟩)]
def ann_l_sameHistories : Ann := .seq .nil (.seq (.seq (.reg [(.n, ⟨[.bool, .int .i64, .str, .sl false 144 (.pair (.int .i64) (.int .i64)), .sl false 93 (.sl false 55 (.pair (.int .i64) (.pair (.int .i64) .str))), .int .i64, .str, .sl false 144 (.pair (.int .i64) (.int .i64)), .sl false 93 (.sl false 55 (.pair (.int .i64) (.pair (.int .i64) .str)))], [(2, .pl 2 0), (3, .pl 3 0), (34, .one (.h 0))], [(2, [.h 1, .h 2, .h 3, .h 4]), (3, [.h 5, .h 6, .h 7, .h 8])], [], [], []⟩)]) .nil) (.seq (.seq .nil (.block [] (.loop ⟨[.int .i64, .int .i64, .int .i64, .str, .sl false 144 (.pair (.int .i64) (.int .i64)), .sl false 93 (.sl false 55 (.pair (.int .i64) (.pair (.int .i64) .str))), .int .i64, .str, .sl false 144 (.pair (.int .i64) (.int .i64)), .sl false 93 (.sl false 55 (.pair (.int .i64) (.pair (.int .i64) .str)))], [(2, .pl 2 0), (3, .pl 3 0), (37, .one (.h 0)), (38, .one (.h 1))], [(2, [.h 2, .h 3, .h 4, .h 5]), (3, [.h 6, .h 7, .h 8, .h 9])], [], [], []⟩ [(.x 0, ⟨[], [], [], [], [], []⟩), (.r, ⟨[.bool], [(4, .one (.h 0))], [], [], [], []⟩)] .nil))) .nil))
def env_l_sameHistories : Env := envOf ti [k_l_sameRuns, k_l_sameParts] []
theorem eok_l_sameHistories : EnvOk Try.prog env_l_sameHistories := envOf_ok tab mix _ _ (by
  intro k hk
  simp only [List.mem_cons, List.not_mem_nil, or_false] at hk
  rcases hk with rfl | rfl
  · exact s_l_sameRuns
  · exact s_l_sameParts)
theorem v_l_sameHistories (x0 : Int) (x1 : List UInt8) (x2 : List (Int × Int)) (x3 : List (List (Int × (Int × List UInt8)))) (x4 : Int) (x5 : List UInt8) (x6 : List (Int × Int)) (x7 : List (List (Int × (Int × List UInt8)))) : (vfun env_l_sameHistories Try.f72 J_l_sameHistories ann_l_sameHistories [] [.ag [⟨.int .i64, x0⟩, ⟨.str, x1⟩, ⟨.sl false 144 (.pair (.int .i64) (.int .i64)), x2⟩, ⟨.sl false 93 (.sl false 55 (.pair (.int .i64) (.pair (.int .i64) .str))), x3⟩], .ag [⟨.int .i64, x4⟩, ⟨.str, x5⟩, ⟨.sl false 144 (.pair (.int .i64) (.int .i64)), x6⟩, ⟨.sl false 93 (.sl false 55 (.pair (.int .i64) (.pair (.int .i64) .str))), x7⟩]] []).run = (G.l_sameHistories x0 x1 x2 x3 x4 x5 x6 x7).bind fun y => some (Res.mk [.one ⟨.bool, y⟩] [] []) := by kernel_rfl
def k_l_sameHistories : Kn := ⟨72, [0, 0], fun args rows => match args, rows with
  | [.ag [⟨.int .i64, x0⟩, ⟨.str, x1⟩, ⟨.sl false 144 (.pair (.int .i64) (.int .i64)), x2⟩, ⟨.sl false 93 (.sl false 55 (.pair (.int .i64) (.pair (.int .i64) .str))), x3⟩], .ag [⟨.int .i64, x4⟩, ⟨.str, x5⟩, ⟨.sl false 144 (.pair (.int .i64) (.int .i64)), x6⟩, ⟨.sl false 93 (.sl false 55 (.pair (.int .i64) (.pair (.int .i64) .str))), x7⟩]], [] => some ⟨_, G.l_sameHistories x0 x1 x2 x3 x4 x5 x6 x7, fun y => ⟨[.one ⟨.bool, y⟩], [], []⟩⟩
  | _, _ => none, []⟩
theorem s_l_sameHistories : KnOk Try.prog k_l_sameHistories := by
  intro args rows a h y hy
  simp only [k_l_sameHistories] at h
  split at h
  · injection h with h
    subst h
    exact vfun_ok eok_l_sameHistories Try.func72 rfl (by rw [v_l_sameHistories]; simp only at hy; rw [hy]; rfl)
  · cases h
def J_i_TextAt : Joins := [(.r, ⟨[.str, .int .i64], [(4, .one (.h 0)), (5, .one (.h 1))], [], [], [], []⟩)]
def ann_i_TextAt : Ann := .nil
def env_i_TextAt : Env := envOf ti [k_i_History_code, k_i_History_text] []
theorem eok_i_TextAt : EnvOk Try.prog env_i_TextAt := envOf_ok tab mix _ _ (by
  intro k hk
  simp only [List.mem_cons, List.not_mem_nil, or_false] at hk
  rcases hk with rfl | rfl
  · exact s_i_History_code
  · exact s_i_History_text)
theorem v_i_TextAt (x0 : Int) (x1 : List UInt8) (x2 : List (Int × Int)) (x3 : List (List (Int × (Int × List UInt8)))) (x4 : Int) : (vfun env_i_TextAt Try.f73 J_i_TextAt ann_i_TextAt [] [.ag [⟨.int .i64, x0⟩, ⟨.str, x1⟩, ⟨.sl false 144 (.pair (.int .i64) (.int .i64)), x2⟩, ⟨.sl false 93 (.sl false 55 (.pair (.int .i64) (.pair (.int .i64) .str))), x3⟩], .one ⟨.int .i64, x4⟩] []).run = (G.i_TextAt x0 x1 x2 x3 x4).bind fun y => some (Res.mk [.one ⟨.str, y.1⟩, .one ⟨.int .i64, y.2⟩] [] []) := by kernel_rfl
def k_i_TextAt : Kn := ⟨73, [0, 0], fun args rows => match args, rows with
  | [.ag [⟨.int .i64, x0⟩, ⟨.str, x1⟩, ⟨.sl false 144 (.pair (.int .i64) (.int .i64)), x2⟩, ⟨.sl false 93 (.sl false 55 (.pair (.int .i64) (.pair (.int .i64) .str))), x3⟩], .one ⟨.int .i64, x4⟩], [] => some ⟨_, G.i_TextAt x0 x1 x2 x3 x4, fun y => ⟨[.one ⟨.str, y.1⟩, .one ⟨.int .i64, y.2⟩], [], []⟩⟩
  | _, _ => none, []⟩
theorem s_i_TextAt : KnOk Try.prog k_i_TextAt := by
  intro args rows a h y hy
  simp only [k_i_TextAt] at h
  split at h
  · injection h with h
    subst h
    exact vfun_ok eok_i_TextAt Try.func73 rfl (by rw [v_i_TextAt]; simp only at hy; rw [hy]; rfl)
  · cases h
end
end Go.Proofs.Ytcfbfpipfalieaa

set_option linter.unusedVariables false
set_option maxRecDepth 100000
namespace Go.Proofs.Ytcfbfpipfalieaa
open Go.V
noncomputable section
def J_i_ApplyChange : Joins := [(.r, ⟨[.str, .bool], [(4, .one (.h 0)), (5, .one (.h 1))], [], [], [], []⟩)]
def ann_i_ApplyChange : Ann := .nil
def env_i_ApplyChange : Env := envOf ti [k_i_fits, k_i_apply] []
theorem eok_i_ApplyChange : EnvOk Try.prog env_i_ApplyChange := envOf_ok tab mix _ _ (by
  intro k hk
  simp only [List.mem_cons, List.not_mem_nil, or_false] at hk
  rcases hk with rfl | rfl
  · exact s_i_fits
  · exact s_i_apply)
theorem v_i_ApplyChange (x0 : List UInt8) (x1 : List (Int × (Int × List UInt8))) : (vfun env_i_ApplyChange Try.f74 J_i_ApplyChange ann_i_ApplyChange [] [.one ⟨.str, x0⟩, .one ⟨.sl false 55 (.pair (.int .i64) (.pair (.int .i64) .str)), x1⟩] []).run = (G.i_ApplyChange x0 x1).bind fun y => some (Res.mk [.one ⟨.str, y.1⟩, .one ⟨.bool, y.2⟩] [] []) := by kernel_rfl
def k_i_ApplyChange : Kn := ⟨74, [0, 0], fun args rows => match args, rows with
  | [.one ⟨.str, x0⟩, .one ⟨.sl false 55 (.pair (.int .i64) (.pair (.int .i64) .str)), x1⟩], [] => some ⟨_, G.i_ApplyChange x0 x1, fun y => ⟨[.one ⟨.str, y.1⟩, .one ⟨.bool, y.2⟩], [], []⟩⟩
  | _, _ => none, []⟩
theorem s_i_ApplyChange : KnOk Try.prog k_i_ApplyChange := by
  intro args rows a h y hy
  simp only [k_i_ApplyChange] at h
  split at h
  · injection h with h
    subst h
    exact vfun_ok eok_i_ApplyChange Try.func74 rfl (by rw [v_i_ApplyChange]; simp only at hy; rw [hy]; rfl)
  · cases h
def J_i_ChangeBetween : Joins := [(.r, ⟨[.sl true 55 (.pair (.int .i64) (.pair (.int .i64) .str)), .int .i64], [(6, .one (.vw 122880)), (7, .one (.h 1))], [], [(122880, 0)], [], []⟩)]
def ann_i_ChangeBetween : Ann := .nil
def env_i_ChangeBetween : Env := envOf ti [k_i_History_code, k_i_History_between] []
theorem eok_i_ChangeBetween : EnvOk Try.prog env_i_ChangeBetween := envOf_ok tab mix _ _ (by
  intro k hk
  simp only [List.mem_cons, List.not_mem_nil, or_false] at hk
  rcases hk with rfl | rfl
  · exact s_i_History_code
  · exact s_i_History_between)
theorem v_i_ChangeBetween (x0 : Int) (x1 : List UInt8) (x2 : List (Int × Int)) (x3 : List (List (Int × (Int × List UInt8)))) (x4 : Int) (x5 : Int) : (vfun env_i_ChangeBetween Try.f53 J_i_ChangeBetween ann_i_ChangeBetween [] [.ag [⟨.int .i64, x0⟩, ⟨.str, x1⟩, ⟨.sl false 144 (.pair (.int .i64) (.int .i64)), x2⟩, ⟨.sl false 93 (.sl false 55 (.pair (.int .i64) (.pair (.int .i64) .str))), x3⟩], .one ⟨.int .i64, x4⟩, .one ⟨.int .i64, x5⟩] []).run = (G.i_ChangeBetween x0 x1 x2 x3 x4 x5).bind fun y => some (Res.mk [.one ⟨.sl true 55 (.pair (.int .i64) (.pair (.int .i64) .str)), y.1⟩, .one ⟨.int .i64, y.2⟩] [] []) := by kernel_rfl
def k_i_ChangeBetween : Kn := ⟨53, [0, 0, 0], fun args rows => match args, rows with
  | [.ag [⟨.int .i64, x0⟩, ⟨.str, x1⟩, ⟨.sl false 144 (.pair (.int .i64) (.int .i64)), x2⟩, ⟨.sl false 93 (.sl false 55 (.pair (.int .i64) (.pair (.int .i64) .str))), x3⟩], .one ⟨.int .i64, x4⟩, .one ⟨.int .i64, x5⟩], [] => some ⟨_, G.i_ChangeBetween x0 x1 x2 x3 x4 x5, fun y => ⟨[.one ⟨.sl true 55 (.pair (.int .i64) (.pair (.int .i64) .str)), y.1⟩, .one ⟨.int .i64, y.2⟩], [], []⟩⟩
  | _, _ => none, []⟩
theorem s_i_ChangeBetween : KnOk Try.prog k_i_ChangeBetween := by
  intro args rows a h y hy
  simp only [k_i_ChangeBetween] at h
  split at h
  · injection h with h
    subst h
    exact vfun_ok eok_i_ChangeBetween Try.func53 rfl (by rw [v_i_ChangeBetween]; simp only at hy; rw [hy]; rfl)
  · cases h
def J_l_FnSubmitted : Joins := [(.r, ⟨[.bool], [(2, .one (.h 0))], [], [], [], []⟩)]
def ann_l_FnSubmitted : Ann := .seq .nil (.seq .nil (.seq .nil (.seq .nil (.seq .nil (.seq (.seq (.reg [(.n, ⟨[.int .i64, .sl true 55 (.pair (.int .i64) (.pair (.int .i64) .str)), .int .i64, .int .i64, .bool, .int .i64, .str, .sl true 144 (.pair (.int .i64) (.int .i64)), .sl true 93 (.sl true 55 (.pair (.int .i64) (.pair (.int .i64) .str))), .int .i64, .str, .sl true 144 (.pair (.int .i64) (.int .i64)), .sl true 93 (.sl true 55 (.pair (.int .i64) (.pair (.int .i64) .str)))], [(3, .pl 3 0), (4, .one (.h 0)), (5, .one (.vw 266240)), (6, .pl 6 0), (7, .one (.h 2)), (8, .one (.h 3)), (67, .one (.h 4))], [(3, [.h 5, .h 6, .vw 266241, .vw 266242]), (6, [.h 9, .h 10, .vw 266243, .vw 266244])], [(266240, 1), (266241, 7), (266242, 8), (266243, 11), (266244, 12)], [], []⟩)]) .nil) (.seq .nil (.seq (.seq .nil (.block [] (.loop ⟨[.int .i64, .sl true 55 (.pair (.int .i64) (.pair (.int .i64) .str)), .int .i64, .int .i64, .int .i64, .str, .sl true 144 (.pair (.int .i64) (.int .i64)), .sl true 93 (.sl true 55 (.pair (.int .i64) (.pair (.int .i64) .str))), .int .i64, .str, .sl true 144 (.pair (.int .i64) (.int .i64)), .sl true 93 (.sl true 55 (.pair (.int .i64) (.pair (.int .i64) .str)))], [(3, .pl 3 0), (4, .one (.h 0)), (5, .one (.vw 266245)), (6, .pl 6 0), (7, .one (.h 2)), (12, .one (.h 3))], [(3, [.h 4, .h 5, .vw 266246, .vw 266247]), (6, [.h 8, .h 9, .vw 266248, .vw 266249])], [(266245, 1), (266246, 6), (266247, 7), (266248, 10), (266249, 11)], [], []⟩ [(.x 0, ⟨[.int .i64, .sl true 55 (.pair (.int .i64) (.pair (.int .i64) .str)), .int .i64, .int .i64, .str, .sl true 144 (.pair (.int .i64) (.int .i64)), .sl true 93 (.sl true 55 (.pair (.int .i64) (.pair (.int .i64) .str))), .int .i64, .str, .sl true 144 (.pair (.int .i64) (.int .i64)), .sl true 93 (.sl true 55 (.pair (.int .i64) (.pair (.int .i64) .str)))], [(3, .pl 3 0), (4, .one (.h 0)), (5, .one (.vw 266314)), (6, .pl 6 0), (7, .one (.h 2))], [(3, [.h 3, .h 4, .vw 266315, .vw 266316]), (6, [.h 7, .h 8, .vw 266317, .vw 266318])], [(266314, 1), (266315, 5), (266316, 6), (266317, 9), (266318, 10)], [], []⟩), (.r, ⟨[.bool], [(2, .one (.h 0))], [], [], [], []⟩)] (.seq .nil (.seq (.block [] (.seq .nil (.seq .nil (.seq (.reg [(.n, ⟨[.int .i64, .sl true 55 (.pair (.int .i64) (.pair (.int .i64) .str)), .int .i64, .int .i64, .bool, .int .i64, .str, .sl true 144 (.pair (.int .i64) (.int .i64)), .sl true 93 (.sl true 55 (.pair (.int .i64) (.pair (.int .i64) .str))), .int .i64, .str, .sl true 144 (.pair (.int .i64) (.int .i64)), .sl true 93 (.sl true 55 (.pair (.int .i64) (.pair (.int .i64) .str)))], [(3, .pl 3 0), (4, .one (.h 0)), (5, .one (.vw 266309)), (6, .pl 6 0), (7, .one (.h 2)), (12, .one (.h 3)), (99, .one (.h 4))], [(3, [.h 5, .h 6, .vw 266310, .vw 266311]), (6, [.h 9, .h 10, .vw 266312, .vw 266313])], [(266309, 1), (266310, 7), (266311, 8), (266312, 11), (266313, 12)], [], []⟩)]) .nil)))) .nil))))) (.seq .nil (.seq .nil (.seq (.seq .nil (.cond [(.n, ⟨[.int .i64, .int .i64, .str, .int .i64, .str, .sl true 144 (.pair (.int .i64) (.int .i64)), .sl true 93 (.sl true 55 (.pair (.int .i64) (.pair (.int .i64) .str)))], [(4, .one (.h 0)), (6, .pl 6 0), (7, .one (.h 1)), (17, .one (.h 2))], [(6, [.h 3, .h 4, .vw 266321, .vw 266322])], [(266321, 5), (266322, 6)], [], []⟩), (.r, ⟨[.bool], [(2, .one (.h 0))], [], [], [], []⟩)] (.seq .nil (.seq .nil (.seq (.reg [(.n, ⟨[.int .i64, .int .i64, .str, .bool, .int .i64, .str, .sl true 144 (.pair (.int .i64) (.int .i64)), .sl true 93 (.sl true 55 (.pair (.int .i64) (.pair (.int .i64) .str)))], [(4, .one (.h 0)), (6, .pl 6 0), (7, .one (.h 1)), (17, .one (.h 2)), (130, .one (.h 3))], [(6, [.h 4, .h 5, .vw 266319, .vw 266320])], [(266319, 6), (266320, 7)], [], []⟩)]) .nil))) .nil)) (.seq .nil (.seq .nil (.seq .nil (.seq (.reg [(.n, ⟨[.bool], [(2, .one (.h 0))], [], [], [], []⟩)]) .nil))))))))))))))
def env_l_FnSubmitted : Env := envOf ti [k_s_DrawSubmit, k_i_Submit, k_s_Submit, k_l_sameHistories, k_i_TextAt, k_i_ApplyChange, k_i_ChangeBetween] []
theorem eok_l_FnSubmitted : EnvOk Try.prog env_l_FnSubmitted := envOf_ok tab mix _ _ (by
  intro k hk
  simp only [List.mem_cons, List.not_mem_nil, or_false] at hk
  rcases hk with rfl | rfl | rfl | rfl | rfl | rfl | rfl
  · exact s_s_DrawSubmit
  · exact s_i_Submit
  · exact s_s_Submit
  · exact s_l_sameHistories
  · exact s_i_TextAt
  · exact s_i_ApplyChange
  · exact s_i_ChangeBetween)
theorem v_l_FnSubmitted (x0 : List Int) : (vfun env_l_FnSubmitted Try.f12 J_l_FnSubmitted ann_l_FnSubmitted [] [.one ⟨.sl false 5 (.int .u8), x0⟩] []).run = (G.l_FnSubmitted x0).bind fun y => some (Res.mk [.one ⟨.bool, y⟩] [] []) := by kernel_rfl
def k_l_FnSubmitted : Kn := ⟨12, [0], fun args rows => match args, rows with
  | [.one ⟨.sl false 5 (.int .u8), x0⟩], [] => some ⟨_, G.l_FnSubmitted x0, fun y => ⟨[.one ⟨.bool, y⟩], [], []⟩⟩
  | _, _ => none, []⟩
theorem s_l_FnSubmitted : KnOk Try.prog k_l_FnSubmitted := by
  intro args rows a h y hy
  simp only [k_l_FnSubmitted] at h
  split at h
  · injection h with h
    subst h
    exact vfun_ok eok_l_FnSubmitted Try.func12 rfl (by rw [v_l_FnSubmitted]; simp only at hy; rw [hy]; rfl)
  · cases h
end
end Go.Proofs.Ytcfbfpipfalieaa
