import Derived.Test.YtcfbfpipfalieaaQFtD
import Derived.Test.YtcfbfpipfalieaaProg
import Derived.KernelRfl
import Derived.Test.YtcfbfpipfalieaaRows
import Derived.WalkKit
import Derived.ProofKit
import Derived.OpenShut
import Derived.ShutString
import Derived.ChangeOld
import Derived.Below
set_option linter.unusedVariables false
set_option maxRecDepth 100000
namespace Go.Proofs.Ytcfbfpipfalieaa
open Go.V
def tiL : List TI := [
  .other,
  .other,
  .cell (.int .i64),
  .cell (.int .i64),
  .cell .bool,
  .cell (.int .u8),
  .cell (.int .u8),
  .other,
  .other,
  .cell .str,
  .cell .str,
  .cell .str,
  .cell (.int .u64),
  .other,
  .other,
  .ptr 247,
  .ptr 250,
  .ptr 258,
  .other,
  .other,
  .other,
  .cell (.int .i32),
  .slice 196 [(.int .i64), (.sl true 5 (.int .u8)), .bool, (.int .i64), (.int .i64)] 56,
  .struct [(0, 1, false), (1, 1, false), (2, 1, false)] [(.int .i64), (.int .i64), (.sl true 196 (.pair (.int .i64) (.pair (.sl true 5 (.int .u8)) (.pair .bool (.pair (.int .i64) (.int .i64))))))] false,
  .struct [(0, 1, false), (1, 1, false), (2, 1, false)] [(.int .i64), (.int .i64), (.sl true 196 (.pair (.int .i64) (.pair (.sl true 5 (.int .u8)) (.pair .bool (.pair (.int .i64) (.int .i64))))))] false,
  .slice 43 [(.sl true 5 (.int .u8))] 24,
  .struct [(0, 1, false), (1, 1, false), (2, 1, false), (3, 1, false)] [(.sl true 43 (.sl true 5 (.int .u8))), (.int .i64), .bool, (.int .i64)] false,
  .struct [(0, 1, false), (1, 1, false), (2, 1, false), (3, 1, false)] [(.sl true 43 (.sl true 5 (.int .u8))), (.int .i64), .bool, (.int .i64)] false,
  .other,
  .other,
  .slice 120 [(.int .i64), (.sl true 5 (.int .u8)), .bool, (.int .i64), (.int .i64)] 56,
  .struct [(0, 1, false), (1, 1, false), (2, 1, false)] [(.int .i64), (.int .i64), (.sl true 120 (.pair (.int .i64) (.pair (.sl true 5 (.int .u8)) (.pair .bool (.pair (.int .i64) (.int .i64))))))] false,
  .struct [(0, 1, false), (1, 1, false), (2, 1, false)] [(.int .i64), (.int .i64), (.sl true 120 (.pair (.int .i64) (.pair (.sl true 5 (.int .u8)) (.pair .bool (.pair (.int .i64) (.int .i64))))))] false,
  .other,
  .other,
  .other,
  .struct [(0, 1, false), (1, 1, false), (2, 1, false), (3, 1, false)] [(.sl true 43 (.sl true 5 (.int .u8))), (.int .i64), .bool, (.int .i64)] false,
  .other,
  .other,
  .other,
  .other,
  .other,
  .other,
  .slice 5 [(.int .u8)] 1,
  .slice 144 [(.int .i64), (.int .i64)] 16,
  .slice 55 [(.int .i64), (.int .i64), .str] 32,
  .other,
  .other,
  .other,
  .other,
  .other,
  .other,
  .other,
  .other,
  .struct [(0, 1, false), (1, 1, false), (2, 1, false)] [(.int .i64), (.int .i64), .str] true,
  .struct [(0, 1, false), (1, 1, false), (2, 1, false)] [(.int .i64), (.int .i64), .str] true,
  .other,
  .other,
  .other,
  .other,
  .other,
  .slice 215 [(.int .i64), (.int .i64)] 16,
  .slice 213 [(.sl true 179 (.pair (.int .i64) (.pair (.int .i64) .str)))] 24,
  .struct [(0, 1, false), (1, 1, false), (2, 1, false), (3, 1, false)] [(.int .i64), .str, (.sl true 215 (.pair (.int .i64) (.int .i64))), (.sl true 213 (.sl true 179 (.pair (.int .i64) (.pair (.int .i64) .str))))] false,
  .struct [(0, 1, false), (1, 1, false), (2, 1, false), (3, 1, false)] [(.int .i64), .str, (.sl true 215 (.pair (.int .i64) (.int .i64))), (.sl true 213 (.sl true 179 (.pair (.int .i64) (.pair (.int .i64) .str))))] false,
  .other,
  .other,
  .other,
  .slice 93 [(.sl true 55 (.pair (.int .i64) (.pair (.int .i64) .str)))] 24,
  .struct [(0, 1, false), (1, 1, false), (2, 1, false), (3, 1, false)] [(.int .i64), .str, (.sl true 144 (.pair (.int .i64) (.int .i64))), (.sl true 93 (.sl true 55 (.pair (.int .i64) (.pair (.int .i64) .str))))] false,
  .struct [(0, 1, false), (1, 1, false), (2, 1, false), (3, 1, false)] [(.int .i64), .str, (.sl true 144 (.pair (.int .i64) (.int .i64))), (.sl true 93 (.sl true 55 (.pair (.int .i64) (.pair (.int .i64) .str))))] false,
  .other,
  .other,
  .other,
  .other,
  .other,
  .other,
  .other,
  .other,
  .other,
  .other,
  .other,
  .other,
  .other,
  .other,
  .other,
  .other,
  .other,
  .other,
  .other,
  .other,
  .other,
  .struct [(0, 1, false)] [(.sl true 55 (.pair (.int .i64) (.pair (.int .i64) .str)))] false,
  .struct [(0, 1, false)] [(.sl true 55 (.pair (.int .i64) (.pair (.int .i64) .str)))] false,
  .other,
  .other,
  .slice 179 [(.int .i64), (.int .i64), .str] 32,
  .other,
  .other,
  .other,
  .other,
  .other,
  .other,
  .other,
  .other,
  .other,
  .other,
  .other,
  .other,
  .other,
  .other,
  .other,
  .other,
  .cell (.int .u64),
  .other,
  .other,
  .other,
  .other,
  .other,
  .struct [(0, 1, false), (1, 1, false), (2, 1, false), (3, 1, false), (4, 1, false)] [(.int .i64), (.sl true 5 (.int .u8)), .bool, (.int .i64), (.int .i64)] false,
  .struct [(0, 1, false), (1, 1, false), (2, 1, false), (3, 1, false), (4, 1, false)] [(.int .i64), (.sl true 5 (.int .u8)), .bool, (.int .i64), (.int .i64)] false,
  .other,
  .other,
  .other,
  .other,
  .other,
  .other,
  .other,
  .other,
  .other,
  .ptr 133,
  .cell (.int .u64),
  .struct [(0, 1, false), (1, 1, false), (2, 1, false)] [(.sl true 5 (.int .u8)), (.int .i64), (.int .u64)] false,
  .struct [(0, 1, false), (1, 1, false), (2, 1, false)] [(.sl true 5 (.int .u8)), (.int .i64), (.int .u64)] false,
  .other,
  .other,
  .other,
  .other,
  .slice 3 [(.int .i64)] 8,
  .other,
  .other,
  .other,
  .other,
  .struct [(0, 1, false), (1, 1, false)] [(.int .i64), (.int .i64)] true,
  .struct [(0, 1, false), (1, 1, false)] [(.int .i64), (.int .i64)] true,
  .other,
  .other,
  .other,
  .other,
  .other,
  .other,
  .other,
  .other,
  .other,
  .other,
  .other,
  .other,
  .other,
  .other,
  .other,
  .other,
  .other,
  .other,
  .other,
  .other,
  .other,
  .other,
  .other,
  .other,
  .other,
  .other,
  .other,
  .cell (.int .u32),
  .other,
  .other,
  .other,
  .other,
  .other,
  .other,
  .struct [(0, 1, false), (1, 1, false), (2, 1, false)] [(.int .i64), (.int .i64), .str] true,
  .other,
  .other,
  .other,
  .other,
  .other,
  .other,
  .ptr 188,
  .struct [(0, 1, false), (1, 1, false), (2, 1, false)] [(.sl true 5 (.int .u8)), (.int .i64), .bool] false,
  .struct [(0, 1, false), (1, 1, false), (2, 1, false)] [(.sl true 5 (.int .u8)), (.int .i64), .bool] false,
  .other,
  .other,
  .other,
  .ptr 194,
  .struct [(0, 1, false), (1, 1, false)] [(.sl true 5 (.int .u8)), .bool] false,
  .struct [(0, 1, false), (1, 1, false)] [(.sl true 5 (.int .u8)), .bool] false,
  .other,
  .struct [(0, 1, false), (1, 1, false), (2, 1, false), (3, 1, false), (4, 1, false)] [(.int .i64), (.sl true 5 (.int .u8)), .bool, (.int .i64), (.int .i64)] false,
  .other,
  .other,
  .other,
  .other,
  .ptr 32,
  .other,
  .other,
  .other,
  .other,
  .other,
  .other,
  .other,
  .other,
  .other,
  .other,
  .struct [(0, 1, false)] [(.sl true 179 (.pair (.int .i64) (.pair (.int .i64) .str)))] false,
  .struct [(0, 1, false)] [(.sl true 179 (.pair (.int .i64) (.pair (.int .i64) .str)))] false,
  .other,
  .struct [(0, 1, false), (1, 1, false)] [(.int .i64), (.int .i64)] true,
  .other,
  .other,
  .other,
  .slice 4 [.bool] 1,
  .slice 9 [.str] 16,
  .struct [(0, 1, false), (1, 1, false)] [(.sl true 4 .bool), (.sl true 9 .str)] false,
  .struct [(0, 1, false), (1, 1, false)] [(.sl true 4 .bool), (.sl true 9 .str)] false,
  .other,
  .struct [(0, 1, false), (1, 1, false)] [(.sl true 4 .bool), (.sl true 9 .str)] false,
  .struct [(0, 1, false), (1, 1, false)] [(.sl true 4 .bool), (.sl true 9 .str)] false,
  .other,
  .other,
  .other,
  .other,
  .struct [(0, 1, false)] [(.sl true 55 (.pair (.int .i64) (.pair (.int .i64) .str)))] false,
  .struct [(0, 1, false)] [(.sl true 55 (.pair (.int .i64) (.pair (.int .i64) .str)))] false,
  .other,
  .other,
  .other,
  .other,
  .other,
  .other,
  .other,
  .other,
  .other,
  .ptr 231,
  .ptr 55,
  .other,
  .other,
  .other,
  .other,
  .other,
  .other,
  .other,
  .other,
  .cell (.int .u8),
  .cell (.int .u8),
  .other,
  .ptr 5,
  .cell (.int .i32),
  .cell (.int .i32),
  .other,
  .other,
  .other]
def ti (t : TypeId) : TI := tiL.getD t .other
theorem tab : TabOk Try.prog ti := tabOf Try.prog tiL (by kernel_rfl)
theorem mix : Try.prog.follows .mixedOrders = true := by kernel_rfl
end Go.Proofs.Ytcfbfpipfalieaa

set_option maxRecDepth 100000
namespace Go.Proofs.Ytcfbfpipfalieaa
open Go.V
theorem own : ownKnob Try.prog.godebug = none := by kernel_rfl
theorem laidOut : laidOutB Try.prog = true := by kernel_rfl
theorem tab2 : ∀ t, tyOk2 Try.prog ti t (ti t) = true := tabOf2 Try.prog tiL (by kernel_rfl)
end Go.Proofs.Ytcfbfpipfalieaa

set_option linter.unusedVariables false
set_option maxRecDepth 100000
namespace Go.Proofs.Ytcfbfpipfalieaa
open Go.V
noncomputable section
def J_s_l1Cur_next_f : Joins := [(.r, ⟨[.int .i64, .sl false 5 (.int .u8), .int .i64, .int .u64], [(2, .one (.h 0))], [(63, [.h 1, .h 2, .h 3])], [], [], []⟩)]
def ann_s_l1Cur_next_f : Ann := .seq .nil (.seq .nil (.seq (.seq .nil (.cond [(.n, ⟨[.int .i64, .sl false 5 (.int .u8), .int .i64, .int .u64], [(0, .pl 63 0), (3, .one (.h 0))], [(63, [.h 1, .h 2, .h 3])], [], [], []⟩)] .nil .nil)) .nil))
def env_s_l1Cur_next_f : Env := envOf ti [] []
theorem eok_s_l1Cur_next_f : EnvOk Try.prog env_s_l1Cur_next_f := envOf_ok tab mix _ _ (by
  intro k hk; cases hk)
theorem v_s_l1Cur_next_f (x0 : List Int) (x1 : Int) (x2 : Int) : (vfun env_s_l1Cur_next_f Try.f189 J_s_l1Cur_next_f ann_s_l1Cur_next_f [] [.pl 0 0] [[⟨.sl false 5 (.int .u8), x0⟩, ⟨.int .i64, x1⟩, ⟨.int .u64, x2⟩]]).run = (G.s_l1Cur_next_f x0 x1 x2).bind fun y => some (Res.mk [.one ⟨.int .i64, y.1⟩] [[⟨.sl false 5 (.int .u8), y.2.1⟩, ⟨.int .i64, y.2.2.1⟩, ⟨.int .u64, y.2.2.2⟩]] []) := by kernel_rfl
def k_s_l1Cur_next_f : Kn := ⟨189, [0], fun args rows => match args, rows with
  | [.pl 0 0], [[⟨.sl false 5 (.int .u8), x0⟩, ⟨.int .i64, x1⟩, ⟨.int .u64, x2⟩]] => some ⟨_, G.s_l1Cur_next_f x0 x1 x2, fun y => ⟨[.one ⟨.int .i64, y.1⟩], [[⟨.sl false 5 (.int .u8), y.2.1⟩, ⟨.int .i64, y.2.2.1⟩, ⟨.int .u64, y.2.2.2⟩]], []⟩⟩
  | _, _ => none, []⟩
theorem s_s_l1Cur_next_f : KnOk Try.prog k_s_l1Cur_next_f := by
  intro args rows a h y hy
  simp only [k_s_l1Cur_next_f] at h
  split at h
  · injection h with h
    subst h
    exact vfun_ok eok_s_l1Cur_next_f Try.func189 rfl (by rw [v_s_l1Cur_next_f]; simp only at hy; rw [hy]; rfl)
  · cases h
def J_s_l1Cur_pick_f : Joins := [(.r, ⟨[.int .i64, .sl false 5 (.int .u8), .int .i64, .int .u64], [(4, .one (.h 0))], [(21, [.h 1, .h 2, .h 3])], [], [], []⟩)]
def ann_s_l1Cur_pick_f : Ann := .seq .nil (.seq .nil (.seq .nil (.seq (.seq .nil (.cond [(.n, ⟨[.int .i64, .int .i64, .sl false 5 (.int .u8), .int .i64, .int .u64], [(1, .one (.h 0)), (5, .one (.h 1))], [(21, [.h 2, .h 3, .h 4])], [], [], []⟩)] .nil .nil)) .nil)))
def env_s_l1Cur_pick_f : Env := envOf ti [k_s_l1Cur_next_f] []
theorem eok_s_l1Cur_pick_f : EnvOk Try.prog env_s_l1Cur_pick_f := envOf_ok tab mix _ _ (by
  intro k hk
  simp only [List.mem_cons, List.not_mem_nil, or_false] at hk
  rcases hk with rfl
  · exact s_s_l1Cur_next_f)
theorem v_s_l1Cur_pick_f (x0 : Int) (x1 : List Int) (x2 : Int) (x3 : Int) : (vfun env_s_l1Cur_pick_f Try.f105 J_s_l1Cur_pick_f ann_s_l1Cur_pick_f [] [.pl 0 0, .one ⟨.int .i64, x0⟩] [[⟨.sl false 5 (.int .u8), x1⟩, ⟨.int .i64, x2⟩, ⟨.int .u64, x3⟩]]).run = (G.s_l1Cur_pick_f x0 x1 x2 x3).bind fun y => some (Res.mk [.one ⟨.int .i64, y.1⟩] [[⟨.sl false 5 (.int .u8), y.2.1⟩, ⟨.int .i64, y.2.2.1⟩, ⟨.int .u64, y.2.2.2⟩]] []) := by kernel_rfl
def k_s_l1Cur_pick_f : Kn := ⟨105, [0, 0], fun args rows => match args, rows with
  | [.pl 0 0, .one ⟨.int .i64, x0⟩], [[⟨.sl false 5 (.int .u8), x1⟩, ⟨.int .i64, x2⟩, ⟨.int .u64, x3⟩]] => some ⟨_, G.s_l1Cur_pick_f x0 x1 x2 x3, fun y => ⟨[.one ⟨.int .i64, y.1⟩], [[⟨.sl false 5 (.int .u8), y.2.1⟩, ⟨.int .i64, y.2.2.1⟩, ⟨.int .u64, y.2.2.2⟩]], []⟩⟩
  | _, _ => none, []⟩
theorem s_s_l1Cur_pick_f : KnOk Try.prog k_s_l1Cur_pick_f := by
  intro args rows a h y hy
  simp only [k_s_l1Cur_pick_f] at h
  split at h
  · injection h with h
    subst h
    exact vfun_ok eok_s_l1Cur_pick_f Try.func105 rfl (by rw [v_s_l1Cur_pick_f]; simp only at hy; rw [hy]; rfl)
  · cases h
def J_s_l1Cur_one_f : Joins := [(.r, ⟨[.bool, .sl false 5 (.int .u8), .int .i64, .int .u64], [(4, .one (.h 0))], [(10, [.h 1, .h 2, .h 3])], [], [], []⟩)]
def ann_s_l1Cur_one_f : Ann := .nil
def env_s_l1Cur_one_f : Env := envOf ti [k_s_l1Cur_pick_f] []
theorem eok_s_l1Cur_one_f : EnvOk Try.prog env_s_l1Cur_one_f := envOf_ok tab mix _ _ (by
  intro k hk
  simp only [List.mem_cons, List.not_mem_nil, or_false] at hk
  rcases hk with rfl
  · exact s_s_l1Cur_pick_f)
theorem v_s_l1Cur_one_f (x0 : Int) (x1 : List Int) (x2 : Int) (x3 : Int) : (vfun env_s_l1Cur_one_f Try.f104 J_s_l1Cur_one_f ann_s_l1Cur_one_f [] [.pl 0 0, .one ⟨.int .i64, x0⟩] [[⟨.sl false 5 (.int .u8), x1⟩, ⟨.int .i64, x2⟩, ⟨.int .u64, x3⟩]]).run = (G.s_l1Cur_one_f x0 x1 x2 x3).bind fun y => some (Res.mk [.one ⟨.bool, y.1⟩] [[⟨.sl false 5 (.int .u8), y.2.1⟩, ⟨.int .i64, y.2.2.1⟩, ⟨.int .u64, y.2.2.2⟩]] []) := by kernel_rfl
def k_s_l1Cur_one_f : Kn := ⟨104, [0, 0], fun args rows => match args, rows with
  | [.pl 0 0, .one ⟨.int .i64, x0⟩], [[⟨.sl false 5 (.int .u8), x1⟩, ⟨.int .i64, x2⟩, ⟨.int .u64, x3⟩]] => some ⟨_, G.s_l1Cur_one_f x0 x1 x2 x3, fun y => ⟨[.one ⟨.bool, y.1⟩], [[⟨.sl false 5 (.int .u8), y.2.1⟩, ⟨.int .i64, y.2.2.1⟩, ⟨.int .u64, y.2.2.2⟩]], []⟩⟩
  | _, _ => none, []⟩
theorem s_s_l1Cur_one_f : KnOk Try.prog k_s_l1Cur_one_f := by
  intro args rows a h y hy
  simp only [k_s_l1Cur_one_f] at h
  split at h
  · injection h with h
    subst h
    exact vfun_ok eok_s_l1Cur_one_f Try.func104 rfl (by rw [v_s_l1Cur_one_f]; simp only at hy; rw [hy]; rfl)
  · cases h
def J_s_l1Cur_among_f : Joins := [(.r, ⟨[.int .i64, .sl false 5 (.int .u8), .int .i64, .int .u64], [(4, .one (.h 0))], [(13, [.h 1, .h 2, .h 3])], [], [], []⟩)]
def ann_s_l1Cur_among_f : Ann := .nil
def env_s_l1Cur_among_f : Env := envOf ti [k_s_l1Cur_pick_f] []
theorem eok_s_l1Cur_among_f : EnvOk Try.prog env_s_l1Cur_among_f := envOf_ok tab mix _ _ (by
  intro k hk
  simp only [List.mem_cons, List.not_mem_nil, or_false] at hk
  rcases hk with rfl
  · exact s_s_l1Cur_pick_f)
theorem v_s_l1Cur_among_f (x0 : List Int) (x1 : List Int) (x2 : Int) (x3 : Int) : (vfun env_s_l1Cur_among_f Try.f106 J_s_l1Cur_among_f ann_s_l1Cur_among_f [] [.pl 0 0, .one ⟨.sl true 3 (.int .i64), x0⟩] [[⟨.sl false 5 (.int .u8), x1⟩, ⟨.int .i64, x2⟩, ⟨.int .u64, x3⟩]]).run = (G.s_l1Cur_among_f x0 x1 x2 x3).bind fun y => some (Res.mk [.one ⟨.int .i64, y.1⟩] [[⟨.sl false 5 (.int .u8), y.2.1⟩, ⟨.int .i64, y.2.2.1⟩, ⟨.int .u64, y.2.2.2⟩]] []) := by kernel_rfl
def k_s_l1Cur_among_f : Kn := ⟨106, [0, 1], fun args rows => match args, rows with
  | [.pl 0 0, .one ⟨.sl true 3 (.int .i64), x0⟩], [[⟨.sl false 5 (.int .u8), x1⟩, ⟨.int .i64, x2⟩, ⟨.int .u64, x3⟩]] => some ⟨_, G.s_l1Cur_among_f x0 x1 x2 x3, fun y => ⟨[.one ⟨.int .i64, y.1⟩], [[⟨.sl false 5 (.int .u8), y.2.1⟩, ⟨.int .i64, y.2.2.1⟩, ⟨.int .u64, y.2.2.2⟩]], []⟩⟩
  | _, _ => none, []⟩
theorem s_s_l1Cur_among_f : KnOk Try.prog k_s_l1Cur_among_f := by
  intro args rows a h y hy
  simp only [k_s_l1Cur_among_f] at h
  split at h
  · injection h with h
    subst h
    exact vfun_ok eok_s_l1Cur_among_f Try.func106 rfl (by rw [v_s_l1Cur_among_f]; simp only at hy; rw [hy]; rfl)
  · cases h
def J_s_l1Cur_of_f : Joins := [(.r, ⟨[.str, .sl false 5 (.int .u8), .int .i64, .int .u64], [(4, .one (.h 0))], [(13, [.h 1, .h 2, .h 3])], [], [], []⟩)]
def ann_s_l1Cur_of_f : Ann := .nil
def env_s_l1Cur_of_f : Env := envOf ti [k_s_l1Cur_pick_f] []
theorem eok_s_l1Cur_of_f : EnvOk Try.prog env_s_l1Cur_of_f := envOf_ok tab mix _ _ (by
  intro k hk
  simp only [List.mem_cons, List.not_mem_nil, or_false] at hk
  rcases hk with rfl
  · exact s_s_l1Cur_pick_f)
theorem v_s_l1Cur_of_f (x0 : List (List UInt8)) (x1 : List Int) (x2 : Int) (x3 : Int) : (vfun env_s_l1Cur_of_f Try.f223 J_s_l1Cur_of_f ann_s_l1Cur_of_f [] [.pl 0 0, .one ⟨.sl true 9 .str, x0⟩] [[⟨.sl false 5 (.int .u8), x1⟩, ⟨.int .i64, x2⟩, ⟨.int .u64, x3⟩]]).run = (G.s_l1Cur_of_f x0 x1 x2 x3).bind fun y => some (Res.mk [.one ⟨.str, y.1⟩] [[⟨.sl false 5 (.int .u8), y.2.1⟩, ⟨.int .i64, y.2.2.1⟩, ⟨.int .u64, y.2.2.2⟩]] []) := by kernel_rfl
def k_s_l1Cur_of_f : Kn := ⟨223, [0, 1], fun args rows => match args, rows with
  | [.pl 0 0, .one ⟨.sl true 9 .str, x0⟩], [[⟨.sl false 5 (.int .u8), x1⟩, ⟨.int .i64, x2⟩, ⟨.int .u64, x3⟩]] => some ⟨_, G.s_l1Cur_of_f x0 x1 x2 x3, fun y => ⟨[.one ⟨.str, y.1⟩], [[⟨.sl false 5 (.int .u8), y.2.1⟩, ⟨.int .i64, y.2.2.1⟩, ⟨.int .u64, y.2.2.2⟩]], []⟩⟩
  | _, _ => none, []⟩
theorem s_s_l1Cur_of_f : KnOk Try.prog k_s_l1Cur_of_f := by
  intro args rows a h y hy
  simp only [k_s_l1Cur_of_f] at h
  split at h
  · injection h with h
    subst h
    exact vfun_ok eok_s_l1Cur_of_f Try.func223 rfl (by rw [v_s_l1Cur_of_f]; simp only at hy; rw [hy]; rfl)
  · cases h
def J_s_l1Cur_put_f : Joins := [(.r, ⟨[.str, .sl false 5 (.int .u8), .int .i64, .int .u64], [(2, .one (.h 0))], [(7, [.h 1, .h 2, .h 3])], [], [], []⟩)]
def ann_s_l1Cur_put_f : Ann := .nil
def env_s_l1Cur_put_f : Env := envOf ti [k_s_l1Cur_of_f] []
theorem eok_s_l1Cur_put_f : EnvOk Try.prog env_s_l1Cur_put_f := envOf_ok tab mix _ _ (by
  intro k hk
  simp only [List.mem_cons, List.not_mem_nil, or_false] at hk
  rcases hk with rfl
  · exact s_s_l1Cur_of_f)
theorem v_s_l1Cur_put_f (x0 : List Int) (x1 : Int) (x2 : Int) : (vfun env_s_l1Cur_put_f Try.f186 J_s_l1Cur_put_f ann_s_l1Cur_put_f [] [.pl 0 0] [[⟨.sl false 5 (.int .u8), x0⟩, ⟨.int .i64, x1⟩, ⟨.int .u64, x2⟩]]).run = (G.s_l1Cur_put_f x0 x1 x2).bind fun y => some (Res.mk [.one ⟨.str, y.1⟩] [[⟨.sl false 5 (.int .u8), y.2.1⟩, ⟨.int .i64, y.2.2.1⟩, ⟨.int .u64, y.2.2.2⟩]] []) := by kernel_rfl
def k_s_l1Cur_put_f : Kn := ⟨186, [0], fun args rows => match args, rows with
  | [.pl 0 0], [[⟨.sl false 5 (.int .u8), x0⟩, ⟨.int .i64, x1⟩, ⟨.int .u64, x2⟩]] => some ⟨_, G.s_l1Cur_put_f x0 x1 x2, fun y => ⟨[.one ⟨.str, y.1⟩], [[⟨.sl false 5 (.int .u8), y.2.1⟩, ⟨.int .i64, y.2.2.1⟩, ⟨.int .u64, y.2.2.2⟩]], []⟩⟩
  | _, _ => none, []⟩
theorem s_s_l1Cur_put_f : KnOk Try.prog k_s_l1Cur_put_f := by
  intro args rows a h y hy
  simp only [k_s_l1Cur_put_f] at h
  split at h
  · injection h with h
    subst h
    exact vfun_ok eok_s_l1Cur_put_f Try.func186 rfl (by rw [v_s_l1Cur_put_f]; simp only at hy; rw [hy]; rfl)
  · cases h
def J_s_l1Kind : Joins := [(.r, ⟨[.int .i64], [(2, .one (.h 0))], [], [], [], []⟩)]
def ann_s_l1Kind : Ann := .seq .nil (.seq (.block [] (.seq (.reg [(.n, ⟨[.bool, .int .i64, .int .i64, .str], [(1, .pl 1 0), (3, .one (.h 0))], [(1, [.h 1, .h 2, .h 3])], [], [], []⟩)]) (.cond [] .nil (.seq (.reg [(.n, ⟨[.bool, .int .i64, .int .i64, .str], [(1, .pl 1 0), (17, .one (.h 0))], [(1, [.h 1, .h 2, .h 3])], [], [], []⟩)]) (.cond [] .nil (.seq (.reg [(.n, ⟨[.bool], [(31, .one (.h 0))], [], [], [], []⟩)]) .nil)))))) .nil)
def env_s_l1Kind : Env := envOf ti [] []
theorem eok_s_l1Kind : EnvOk Try.prog env_s_l1Kind := envOf_ok tab mix _ _ (by
  intro k hk; cases hk)
theorem v_s_l1Kind (x0 : Int) (x1 : Int) (x2 : List UInt8) : (vfun env_s_l1Kind Try.f194 J_s_l1Kind ann_s_l1Kind [] [.ag [⟨.int .i64, x0⟩, ⟨.int .i64, x1⟩, ⟨.str, x2⟩]] []).run = (G.s_l1Kind x0 x1 x2).bind fun y => some (Res.mk [.one ⟨.int .i64, y⟩] [] []) := by kernel_rfl
def k_s_l1Kind : Kn := ⟨194, [0], fun args rows => match args, rows with
  | [.ag [⟨.int .i64, x0⟩, ⟨.int .i64, x1⟩, ⟨.str, x2⟩]], [] => some ⟨_, G.s_l1Kind x0 x1 x2, fun y => ⟨[.one ⟨.int .i64, y⟩], [], []⟩⟩
  | _, _ => none, []⟩
theorem s_s_l1Kind : KnOk Try.prog k_s_l1Kind := by
  intro args rows a h y hy
  simp only [k_s_l1Kind] at h
  split at h
  · injection h with h
    subst h
    exact vfun_ok eok_s_l1Kind Try.func194 rfl (by rw [v_s_l1Kind]; simp only at hy; rw [hy]; rfl)
  · cases h
def J_s_l1Add : Joins := [(.r, ⟨[.sl true 55 (.pair (.int .i64) (.pair (.int .i64) .str))], [(4, .one (.vw 165889))], [], [(165889, 0)], [], []⟩)]
def ann_s_l1Add : Ann := .seq .nil (.seq .nil (.seq (.seq .nil (.seq (.reg [(.n, ⟨[.sl true 55 (.pair (.int .i64) (.pair (.int .i64) .str)), .int .i64, .bool, .int .i64, .int .i64, .str], [(0, .one (.vw 165888)), (3, .pl 3 0), (5, .one (.h 1)), (24, .one (.h 2))], [(3, [.h 3, .h 4, .h 5])], [(165888, 0)], [], []⟩)]) .nil)) .nil))
def env_s_l1Add : Env := envOf ti [k_s_l1Kind] []
theorem eok_s_l1Add : EnvOk Try.prog env_s_l1Add := envOf_ok tab mix _ _ (by
  intro k hk
  simp only [List.mem_cons, List.not_mem_nil, or_false] at hk
  rcases hk with rfl
  · exact s_s_l1Kind)
theorem v_s_l1Add (x0 : List (Int × (Int × List UInt8))) (x1 : Int) (x2 : Int) (x3 : List UInt8) : (vfun env_s_l1Add Try.f187 J_s_l1Add ann_s_l1Add [] [.one ⟨.sl true 55 (.pair (.int .i64) (.pair (.int .i64) .str)), x0⟩, .ag [⟨.int .i64, x1⟩, ⟨.int .i64, x2⟩, ⟨.str, x3⟩]] []).run = (G.s_l1Add x0 x1 x2 x3).bind fun y => some (Res.mk [.one ⟨.sl true 55 (.pair (.int .i64) (.pair (.int .i64) .str)), y⟩] [] []) := by kernel_rfl
def k_s_l1Add : Kn := ⟨187, [1, 0], fun args rows => match args, rows with
  | [.one ⟨.sl true 55 (.pair (.int .i64) (.pair (.int .i64) .str)), x0⟩, .ag [⟨.int .i64, x1⟩, ⟨.int .i64, x2⟩, ⟨.str, x3⟩]], [] => some ⟨_, G.s_l1Add x0 x1 x2 x3, fun y => ⟨[.one ⟨.sl true 55 (.pair (.int .i64) (.pair (.int .i64) .str)), y⟩], [], []⟩⟩
  | _, _ => none, []⟩
theorem s_s_l1Add : KnOk Try.prog k_s_l1Add := by
  intro args rows a h y hy
  simp only [k_s_l1Add] at h
  split at h
  · injection h with h
    subst h
    exact vfun_ok eok_s_l1Add Try.func187 rfl (by rw [v_s_l1Add]; simp only at hy; rw [hy]; rfl)
  · cases h
def J_s_l1Cur_wide_f : Joins := [(.r, ⟨[.int .i64, .sl false 5 (.int .u8), .int .i64, .int .u64], [(2, .one (.h 0))], [(16, [.h 1, .h 2, .h 3])], [], [], []⟩)]
def ann_s_l1Cur_wide_f : Ann := .seq .nil (.seq .nil (.seq (.seq .nil (.block [] (.loop ⟨[.int .i64, .int .i64, .sl false 5 (.int .u8), .int .i64, .int .u64], [(0, .pl 16 0), (3, .one (.h 0)), (4, .one (.h 1))], [(16, [.h 2, .h 3, .h 4])], [], [], []⟩ [(.x 0, ⟨[.int .i64, .sl false 5 (.int .u8), .int .i64, .int .u64], [(3, .one (.h 0))], [(16, [.h 1, .h 2, .h 3])], [], [], []⟩)] .nil))) .nil))
def env_s_l1Cur_wide_f : Env := envOf ti [k_s_l1Cur_next_f] []
theorem eok_s_l1Cur_wide_f : EnvOk Try.prog env_s_l1Cur_wide_f := envOf_ok tab mix _ _ (by
  intro k hk
  simp only [List.mem_cons, List.not_mem_nil, or_false] at hk
  rcases hk with rfl
  · exact s_s_l1Cur_next_f)
theorem v_s_l1Cur_wide_f (x0 : List Int) (x1 : Int) (x2 : Int) : (vfun env_s_l1Cur_wide_f Try.f229 J_s_l1Cur_wide_f ann_s_l1Cur_wide_f [] [.pl 0 0] [[⟨.sl false 5 (.int .u8), x0⟩, ⟨.int .i64, x1⟩, ⟨.int .u64, x2⟩]]).run = (G.s_l1Cur_wide_f x0 x1 x2).bind fun y => some (Res.mk [.one ⟨.int .i64, y.1⟩] [[⟨.sl false 5 (.int .u8), y.2.1⟩, ⟨.int .i64, y.2.2.1⟩, ⟨.int .u64, y.2.2.2⟩]] []) := by kernel_rfl
def k_s_l1Cur_wide_f : Kn := ⟨229, [0], fun args rows => match args, rows with
  | [.pl 0 0], [[⟨.sl false 5 (.int .u8), x0⟩, ⟨.int .i64, x1⟩, ⟨.int .u64, x2⟩]] => some ⟨_, G.s_l1Cur_wide_f x0 x1 x2, fun y => ⟨[.one ⟨.int .i64, y.1⟩], [[⟨.sl false 5 (.int .u8), y.2.1⟩, ⟨.int .i64, y.2.2.1⟩, ⟨.int .u64, y.2.2.2⟩]], []⟩⟩
  | _, _ => none, []⟩
theorem s_s_l1Cur_wide_f : KnOk Try.prog k_s_l1Cur_wide_f := by
  intro args rows a h y hy
  simp only [k_s_l1Cur_wide_f] at h
  split at h
  · injection h with h
    subst h
    exact vfun_ok eok_s_l1Cur_wide_f Try.func229 rfl (by rw [v_s_l1Cur_wide_f]; simp only at hy; rw [hy]; rfl)
  · cases h
def J_s_l1Cur_sized_f : Joins := [(.r, ⟨[.int .i64, .sl false 5 (.int .u8), .int .i64, .int .u64], [(2, .one (.h 0))], [(39, [.h 1, .h 2, .h 3])], [], [], []⟩)]
def ann_s_l1Cur_sized_f : Ann := .seq .nil (.seq .nil (.seq (.seq .nil (.block [] (.seq .nil (.cond [(.n, ⟨[.int .i64, .sl false 5 (.int .u8), .int .i64, .int .u64], [(0, .pl 39 0), (3, .one (.h 0))], [(39, [.h 1, .h 2, .h 3])], [], [], []⟩)] .nil (.seq .nil (.cond [(.n, ⟨[.int .i64, .sl false 5 (.int .u8), .int .i64, .int .u64], [(0, .pl 39 0), (3, .one (.h 0))], [(39, [.h 1, .h 2, .h 3])], [], [], []⟩)] .nil (.seq .nil (.cond [(.n, ⟨[.int .i64, .sl false 5 (.int .u8), .int .i64, .int .u64], [(0, .pl 39 0), (3, .one (.h 0))], [(39, [.h 1, .h 2, .h 3])], [], [], []⟩)] .nil (.seq .nil (.cond [(.n, ⟨[.int .i64, .sl false 5 (.int .u8), .int .i64, .int .u64], [(0, .pl 39 0), (3, .one (.h 0))], [(39, [.h 1, .h 2, .h 3])], [], [], []⟩)] .nil .nil)))))))))) (.seq (.seq .nil (.cond [(.n, ⟨[.int .i64, .sl false 5 (.int .u8), .int .i64, .int .u64], [(3, .one (.h 0))], [(39, [.h 1, .h 2, .h 3])], [], [], []⟩)] .nil .nil)) .nil)))
def env_s_l1Cur_sized_f : Env := envOf ti [k_s_l1Cur_pick_f, k_s_l1Cur_wide_f, k_s_l1Cur_one_f] []
theorem eok_s_l1Cur_sized_f : EnvOk Try.prog env_s_l1Cur_sized_f := envOf_ok tab mix _ _ (by
  intro k hk
  simp only [List.mem_cons, List.not_mem_nil, or_false] at hk
  rcases hk with rfl | rfl | rfl
  · exact s_s_l1Cur_pick_f
  · exact s_s_l1Cur_wide_f
  · exact s_s_l1Cur_one_f)
theorem v_s_l1Cur_sized_f (x0 : List Int) (x1 : Int) (x2 : Int) : (vfun env_s_l1Cur_sized_f Try.f224 J_s_l1Cur_sized_f ann_s_l1Cur_sized_f [] [.pl 0 0] [[⟨.sl false 5 (.int .u8), x0⟩, ⟨.int .i64, x1⟩, ⟨.int .u64, x2⟩]]).run = (G.s_l1Cur_sized_f x0 x1 x2).bind fun y => some (Res.mk [.one ⟨.int .i64, y.1⟩] [[⟨.sl false 5 (.int .u8), y.2.1⟩, ⟨.int .i64, y.2.2.1⟩, ⟨.int .u64, y.2.2.2⟩]] []) := by kernel_rfl
def k_s_l1Cur_sized_f : Kn := ⟨224, [0], fun args rows => match args, rows with
  | [.pl 0 0], [[⟨.sl false 5 (.int .u8), x0⟩, ⟨.int .i64, x1⟩, ⟨.int .u64, x2⟩]] => some ⟨_, G.s_l1Cur_sized_f x0 x1 x2, fun y => ⟨[.one ⟨.int .i64, y.1⟩], [[⟨.sl false 5 (.int .u8), y.2.1⟩, ⟨.int .i64, y.2.2.1⟩, ⟨.int .u64, y.2.2.2⟩]], []⟩⟩
  | _, _ => none, []⟩
theorem s_s_l1Cur_sized_f : KnOk Try.prog k_s_l1Cur_sized_f := by
  intro args rows a h y hy
  simp only [k_s_l1Cur_sized_f] at h
  split at h
  · injection h with h
    subst h
    exact vfun_ok eok_s_l1Cur_sized_f Try.func224 rfl (by rw [v_s_l1Cur_sized_f]; simp only at hy; rw [hy]; rfl)
  · cases h
def J_s_l1Cur_part_f : Joins := [(.r, ⟨[.int .i64, .int .i64, .str, .sl false 5 (.int .u8), .int .i64, .int .u64], [(2, .pl 2 0)], [(2, [.h 0, .h 1, .h 2]), (28, [.h 3, .h 4, .h 5])], [], [], []⟩)]
def ann_s_l1Cur_part_f : Ann := .nil
def env_s_l1Cur_part_f : Env := envOf ti [k_s_l1Cur_pick_f, k_s_l1Cur_sized_f] []
theorem eok_s_l1Cur_part_f : EnvOk Try.prog env_s_l1Cur_part_f := envOf_ok tab mix _ _ (by
  intro k hk
  simp only [List.mem_cons, List.not_mem_nil, or_false] at hk
  rcases hk with rfl | rfl
  · exact s_s_l1Cur_pick_f
  · exact s_s_l1Cur_sized_f)
theorem v_s_l1Cur_part_f (x0 : List Int) (x1 : Int) (x2 : Int) : (vfun env_s_l1Cur_part_f Try.f188 J_s_l1Cur_part_f ann_s_l1Cur_part_f [] [.pl 0 0] [[⟨.sl false 5 (.int .u8), x0⟩, ⟨.int .i64, x1⟩, ⟨.int .u64, x2⟩]]).run = (G.s_l1Cur_part_f x0 x1 x2).bind fun y => some (Res.mk [.ag [⟨.int .i64, y.1⟩, ⟨.int .i64, y.2.1⟩, ⟨.str, y.2.2.1⟩]] [[⟨.sl false 5 (.int .u8), y.2.2.2.1⟩, ⟨.int .i64, y.2.2.2.2.1⟩, ⟨.int .u64, y.2.2.2.2.2⟩]] []) := by kernel_rfl
def k_s_l1Cur_part_f : Kn := ⟨188, [0], fun args rows => match args, rows with
  | [.pl 0 0], [[⟨.sl false 5 (.int .u8), x0⟩, ⟨.int .i64, x1⟩, ⟨.int .u64, x2⟩]] => some ⟨_, G.s_l1Cur_part_f x0 x1 x2, fun y => ⟨[.ag [⟨.int .i64, y.1⟩, ⟨.int .i64, y.2.1⟩, ⟨.str, y.2.2.1⟩]], [[⟨.sl false 5 (.int .u8), y.2.2.2.1⟩, ⟨.int .i64, y.2.2.2.2.1⟩, ⟨.int .u64, y.2.2.2.2.2⟩]], []⟩⟩
  | _, _ => none, []⟩
theorem s_s_l1Cur_part_f : KnOk Try.prog k_s_l1Cur_part_f := by
  intro args rows a h y hy
  simp only [k_s_l1Cur_part_f] at h
  split at h
  · injection h with h
    subst h
    exact vfun_ok eok_s_l1Cur_part_f Try.func188 rfl (by rw [v_s_l1Cur_part_f]; simp only at hy; rw [hy]; rfl)
  · cases h
end
end Go.Proofs.Ytcfbfpipfalieaa

set_option linter.unusedVariables false
set_option maxRecDepth 100000
namespace Go.Proofs.Ytcfbfpipfalieaa
open Go.V
noncomputable section
def J_s_l1Cur_changeOf_f : Joins := [(.r, ⟨[.sl false 55 (.pair (.int .i64) (.pair (.int .i64) .str)), .sl false 5 (.int .u8), .int .i64, .int .u64], [(4, .one (.h 0))], [(81, [.h 1, .h 2, .h 3])], [], [], []⟩)]
def ann_s_l1Cur_changeOf_f : Ann := .seq .nil (.seq .nil (.seq .nil (.seq (.block [] (.loop ⟨[.int .i64, .sl true 55 (.pair (.int .i64) (.pair (.int .i64) .str)), .int .i64, .sl false 5 (.int .u8), .int .i64, .int .u64], [(0, .pl 81 0), (1, .one (.h 0)), (5, .one (.vw 184320)), (6, .one (.h 2))], [(81, [.h 3, .h 4, .h 5])], [(184320, 1)], [], []⟩ [(.x 0, ⟨[.sl true 55 (.pair (.int .i64) (.pair (.int .i64) .str)), .int .i64, .sl false 5 (.int .u8), .int .i64, .int .u64], [(0, .pl 81 0), (5, .one (.vw 184389)), (6, .one (.h 1))], [(81, [.h 2, .h 3, .h 4])], [(184389, 0)], [], []⟩)] (.seq .nil (.block [] (.seq (.seq .nil (.seq (.reg [(.n, ⟨[.int .i64, .sl true 55 (.pair (.int .i64) (.pair (.int .i64) .str)), .int .i64, .str, .bool, .sl false 5 (.int .u8), .int .i64, .int .u64], [(0, .pl 81 0), (1, .one (.h 0)), (5, .one (.vw 184384)), (6, .one (.h 2)), (7, .one (.h 3)), (23, .one (.h 4))], [(81, [.h 5, .h 6, .h 7])], [(184384, 1)], [], []⟩)]) (.cond [(.n, ⟨[.int .i64, .sl true 55 (.pair (.int .i64) (.pair (.int .i64) .str)), .int .i64, .sl false 5 (.int .u8), .int .i64, .int .u64], [(0, .pl 81 0), (1, .one (.h 0)), (5, .one (.vw 184385)), (6, .one (.h 2))], [(81, [.h 3, .h 4, .h 5])], [(184385, 1)], [], []⟩)] .nil .nil))) (.seq .nil (.seq (.seq .nil (.cond [(.n, ⟨[.int .i64, .sl true 55 (.pair (.int .i64) (.pair (.int .i64) .str)), .int .i64, .int .i64, .sl false 5 (.int .u8), .int .i64, .int .u64], [(0, .pl 81 0), (1, .one (.h 0)), (5, .one (.vw 184386)), (6, .one (.h 2)), (8, .one (.h 3))], [(81, [.h 4, .h 5, .h 6])], [(184386, 1)], [], []⟩)] .nil .nil)) (.seq (.seq .nil (.cond [(.n, ⟨[.int .i64, .sl true 55 (.pair (.int .i64) (.pair (.int .i64) .str)), .int .i64, .int .i64, .sl false 5 (.int .u8), .int .i64, .int .u64], [(0, .pl 81 0), (1, .one (.h 0)), (5, .one (.vw 184387)), (6, .one (.h 2)), (8, .one (.h 3))], [(81, [.h 4, .h 5, .h 6])], [(184387, 1)], [], []⟩)] .nil .nil)) (.seq (.seq .nil (.cond [(.n, ⟨[.int .i64, .sl true 55 (.pair (.int .i64) (.pair (.int .i64) .str)), .int .i64, .int .i64, .sl false 5 (.int .u8), .int .i64, .int .u64], [(0, .pl 81 0), (1, .one (.h 0)), (5, .one (.vw 184388)), (6, .one (.h 2)), (8, .one (.h 3))], [(81, [.h 4, .h 5, .h 6])], [(184388, 1)], [], []⟩)] .nil .nil)) .nil))))))))) (.seq (.seq .nil (.seq (.reg [(.n, ⟨[.sl true 55 (.pair (.int .i64) (.pair (.int .i64) .str)), .str, .bool, .sl false 5 (.int .u8), .int .i64, .int .u64], [(0, .pl 81 0), (5, .one (.vw 184390)), (9, .one (.h 1)), (67, .one (.h 2))], [(81, [.h 3, .h 4, .h 5])], [(184390, 0)], [], []⟩)]) (.cond [(.n, ⟨[.sl true 55 (.pair (.int .i64) (.pair (.int .i64) .str)), .sl false 5 (.int .u8), .int .i64, .int .u64], [(0, .pl 81 0), (5, .one (.vw 184391))], [(81, [.h 1, .h 2, .h 3])], [(184391, 0)], [], []⟩)] .nil .nil))) (.seq (.seq .nil (.cond [(.n, ⟨[.sl true 55 (.pair (.int .i64) (.pair (.int .i64) .str)), .sl false 5 (.int .u8), .int .i64, .int .u64], [(5, .one (.vw 184392))], [(81, [.h 1, .h 2, .h 3])], [(184392, 0)], [], []⟩)] .nil .nil)) (.seq (.reg [(.n, ⟨[.sl false 55 (.pair (.int .i64) (.pair (.int .i64) .str)), .sl false 5 (.int .u8), .int .i64, .int .u64], [(4, .one (.h 0))], [(81, [.h 1, .h 2, .h 3])], [], [], [.sl 4]⟩)]) .nil))))))
def env_s_l1Cur_changeOf_f : Env := envOf ti [k_s_l1Cur_put_f, k_s_l1Cur_one_f, k_s_l1Add, k_s_l1Cur_pick_f, k_s_l1Cur_part_f] []
theorem eok_s_l1Cur_changeOf_f : EnvOk Try.prog env_s_l1Cur_changeOf_f := envOf_ok tab mix _ _ (by
  intro k hk
  simp only [List.mem_cons, List.not_mem_nil, or_false] at hk
  rcases hk with rfl | rfl | rfl | rfl | rfl
  · exact s_s_l1Cur_put_f
  · exact s_s_l1Cur_one_f
  · exact s_s_l1Add
  · exact s_s_l1Cur_pick_f
  · exact s_s_l1Cur_part_f)
theorem v_s_l1Cur_changeOf_f (x0 : Int) (x1 : List Int) (x2 : Int) (x3 : Int) : (vfun env_s_l1Cur_changeOf_f Try.f103 J_s_l1Cur_changeOf_f ann_s_l1Cur_changeOf_f [] [.pl 0 0, .one ⟨.int .i64, x0⟩] [[⟨.sl false 5 (.int .u8), x1⟩, ⟨.int .i64, x2⟩, ⟨.int .u64, x3⟩]]).run = (G.s_l1Cur_changeOf_f x0 x1 x2 x3).bind fun y => some (Res.mk [.one ⟨.sl false 55 (.pair (.int .i64) (.pair (.int .i64) .str)), y.1⟩] [[⟨.sl false 5 (.int .u8), y.2.1⟩, ⟨.int .i64, y.2.2.1⟩, ⟨.int .u64, y.2.2.2⟩]] []) := by kernel_rfl
def k_s_l1Cur_changeOf_f : Kn := ⟨103, [0, 0], fun args rows => match args, rows with
  | [.pl 0 0, .one ⟨.int .i64, x0⟩], [[⟨.sl false 5 (.int .u8), x1⟩, ⟨.int .i64, x2⟩, ⟨.int .u64, x3⟩]] => some ⟨_, G.s_l1Cur_changeOf_f x0 x1 x2 x3, fun y => ⟨[.one ⟨.sl false 55 (.pair (.int .i64) (.pair (.int .i64) .str)), y.1⟩], [[⟨.sl false 5 (.int .u8), y.2.1⟩, ⟨.int .i64, y.2.2.1⟩, ⟨.int .u64, y.2.2.2⟩]], []⟩⟩
  | _, _ => none, []⟩
theorem s_s_l1Cur_changeOf_f : KnOk Try.prog k_s_l1Cur_changeOf_f := by
  intro args rows a h y hy
  simp only [k_s_l1Cur_changeOf_f] at h
  split at h
  · injection h with h
    subst h
    exact vfun_ok eok_s_l1Cur_changeOf_f Try.func103 rfl (by rw [v_s_l1Cur_changeOf_f]; simp only at hy; rw [hy]; rfl)
  · cases h
def J_s_GoodChange : Joins := [(.r, ⟨[.bool], [(2, .one (.h 0))], [], [], [], []⟩)]
def ann_s_GoodChange : Ann := .seq .nil (.seq .nil (.seq .nil (.seq (.seq .nil (.block [] (.loop ⟨[.sl false 55 (.pair (.int .i64) (.pair (.int .i64) .str)), .int .i64, .int .i64, .sl false 55 (.pair (.int .i64) (.pair (.int .i64) .str)), .int .i64, .int .i64], [(0, .one (.h 0)), (3, .one (.h 1)), (4, .one (.h 2)), (8, .one (.h 3)), (9, .one (.h 4)), (10, .one (.h 5))], [], [], [], []⟩ [(.x 0, ⟨[], [], [], [], [], []⟩), (.r, ⟨[.bool], [(2, .one (.h 0))], [], [], [], []⟩)] (.seq .nil (.seq .nil (.seq (.block [] (.seq .nil (.seq .nil (.seq (.seq (.reg [(.n, ⟨[.sl false 55 (.pair (.int .i64) (.pair (.int .i64) .str)), .int .i64, .int .i64, .sl false 55 (.pair (.int .i64) (.pair (.int .i64) .str)), .int .i64, .int .i64, .bool, .int .i64, .int .i64, .str], [(0, .one (.h 0)), (3, .one (.h 1)), (4, .one (.h 2)), (6, .pl 6 0), (8, .one (.h 3)), (9, .one (.h 4)), (10, .one (.h 5)), (48, .one (.h 6))], [(6, [.h 7, .h 8, .h 9])], [], [], []⟩)]) .nil) (.seq .nil (.seq .nil (.seq (.reg [(.n, ⟨[.sl false 55 (.pair (.int .i64) (.pair (.int .i64) .str)), .int .i64, .int .i64, .sl false 55 (.pair (.int .i64) (.pair (.int .i64) .str)), .int .i64, .int .i64, .bool], [(0, .one (.h 0)), (3, .one (.h 1)), (4, .one (.h 2)), (8, .one (.h 3)), (9, .one (.h 4)), (10, .one (.h 5)), (69, .one (.h 6))], [], [], [], []⟩)]) .nil))))))) .nil)))))) .nil)))
def env_s_GoodChange : Env := envOf ti [k_s_l1Kind] []
theorem eok_s_GoodChange : EnvOk Try.prog env_s_GoodChange := envOf_ok tab mix _ _ (by
  intro k hk
  simp only [List.mem_cons, List.not_mem_nil, or_false] at hk
  rcases hk with rfl
  · exact s_s_l1Kind)
theorem v_s_GoodChange (x0 : List (Int × (Int × List UInt8))) : (vfun env_s_GoodChange Try.f110 J_s_GoodChange ann_s_GoodChange [] [.one ⟨.sl false 55 (.pair (.int .i64) (.pair (.int .i64) .str)), x0⟩] []).run = (G.s_GoodChange x0).bind fun y => some (Res.mk [.one ⟨.bool, y⟩] [] []) := by kernel_rfl
def k_s_GoodChange : Kn := ⟨110, [0], fun args rows => match args, rows with
  | [.one ⟨.sl false 55 (.pair (.int .i64) (.pair (.int .i64) .str)), x0⟩], [] => some ⟨_, G.s_GoodChange x0, fun y => ⟨[.one ⟨.bool, y⟩], [], []⟩⟩
  | _, _ => none, []⟩
theorem s_s_GoodChange : KnOk Try.prog k_s_GoodChange := by
  intro args rows a h y hy
  simp only [k_s_GoodChange] at h
  split at h
  · injection h with h
    subst h
    exact vfun_ok eok_s_GoodChange Try.func110 rfl (by rw [v_s_GoodChange]; simp only at hy; rw [hy]; rfl)
  · cases h
def J_s_l1Target : Joins := [(.r, ⟨[.int .i64], [(2, .one (.h 0))], [], [], [], []⟩)]
def ann_s_l1Target : Ann := .seq .nil (.seq .nil (.seq (.seq .nil (.block [] (.loop ⟨[.int .i64, .sl false 55 (.pair (.int .i64) (.pair (.int .i64) .str)), .int .i64, .int .i64], [(3, .one (.h 0)), (6, .one (.h 1)), (7, .one (.h 2)), (8, .one (.h 3))], [], [], [], []⟩ [(.x 0, ⟨[.int .i64], [(3, .one (.h 0))], [], [], [], []⟩)] .nil))) .nil))
def env_s_l1Target : Env := envOf ti [] []
theorem eok_s_l1Target : EnvOk Try.prog env_s_l1Target := envOf_ok tab mix _ _ (by
  intro k hk; cases hk)
theorem v_s_l1Target (x0 : List (Int × (Int × List UInt8))) : (vfun env_s_l1Target Try.f114 J_s_l1Target ann_s_l1Target [] [.one ⟨.sl false 55 (.pair (.int .i64) (.pair (.int .i64) .str)), x0⟩] []).run = (G.s_l1Target x0).bind fun y => some (Res.mk [.one ⟨.int .i64, y⟩] [] []) := by kernel_rfl
def k_s_l1Target : Kn := ⟨114, [0], fun args rows => match args, rows with
  | [.one ⟨.sl false 55 (.pair (.int .i64) (.pair (.int .i64) .str)), x0⟩], [] => some ⟨_, G.s_l1Target x0, fun y => ⟨[.one ⟨.int .i64, y⟩], [], []⟩⟩
  | _, _ => none, []⟩
theorem s_s_l1Target : KnOk Try.prog k_s_l1Target := by
  intro args rows a h y hy
  simp only [k_s_l1Target] at h
  split at h
  · injection h with h
    subst h
    exact vfun_ok eok_s_l1Target Try.func114 rfl (by rw [v_s_l1Target]; simp only at hy; rw [hy]; rfl)
  · cases h
def J_s_l1Cur_rowOf_f : Joins := [(.r, ⟨[.sl true 93 (.sl false 55 (.pair (.int .i64) (.pair (.int .i64) .str))), .sl false 5 (.int .u8), .int .i64, .int .u64], [(6, .one (.vw 130113))], [(28, [.h 1, .h 2, .h 3])], [(130113, 0)], [], []⟩)]
def ann_s_l1Cur_rowOf_f : Ann := .seq .nil (.seq .nil (.seq (.block [] (.loop ⟨[.int .i64, .int .i64, .sl true 93 (.sl false 55 (.pair (.int .i64) (.pair (.int .i64) .str))), .sl false 5 (.int .u8), .int .i64, .int .u64], [(0, .pl 28 0), (1, .one (.h 0)), (2, .one (.h 1)), (7, .one (.vw 130048))], [(28, [.h 3, .h 4, .h 5])], [(130048, 2)], [], []⟩ [(.x 0, ⟨[.sl true 93 (.sl false 55 (.pair (.int .i64) (.pair (.int .i64) .str))), .sl false 5 (.int .u8), .int .i64, .int .u64], [(7, .one (.vw 130112))], [(28, [.h 1, .h 2, .h 3])], [(130112, 0)], [], []⟩)] .nil)) .nil))
def env_s_l1Cur_rowOf_f : Env := envOf ti [k_s_l1Cur_changeOf_f, k_s_GoodChange, k_s_l1Target] []
theorem eok_s_l1Cur_rowOf_f : EnvOk Try.prog env_s_l1Cur_rowOf_f := envOf_ok tab mix _ _ (by
  intro k hk
  simp only [List.mem_cons, List.not_mem_nil, or_false] at hk
  rcases hk with rfl | rfl | rfl
  · exact s_s_l1Cur_changeOf_f
  · exact s_s_GoodChange
  · exact s_s_l1Target)
theorem v_s_l1Cur_rowOf_f (x0 : Int) (x1 : Int) (x2 : List Int) (x3 : Int) (x4 : Int) : (vfun env_s_l1Cur_rowOf_f Try.f161 J_s_l1Cur_rowOf_f ann_s_l1Cur_rowOf_f [] [.pl 0 0, .one ⟨.int .i64, x0⟩, .one ⟨.int .i64, x1⟩] [[⟨.sl false 5 (.int .u8), x2⟩, ⟨.int .i64, x3⟩, ⟨.int .u64, x4⟩]]).run = (G.s_l1Cur_rowOf_f x0 x1 x2 x3 x4).bind fun y => some (Res.mk [.one ⟨.sl true 93 (.sl false 55 (.pair (.int .i64) (.pair (.int .i64) .str))), y.1⟩] [[⟨.sl false 5 (.int .u8), y.2.1⟩, ⟨.int .i64, y.2.2.1⟩, ⟨.int .u64, y.2.2.2⟩]] []) := by kernel_rfl
def k_s_l1Cur_rowOf_f : Kn := ⟨161, [0, 0, 0], fun args rows => match args, rows with
  | [.pl 0 0, .one ⟨.int .i64, x0⟩, .one ⟨.int .i64, x1⟩], [[⟨.sl false 5 (.int .u8), x2⟩, ⟨.int .i64, x3⟩, ⟨.int .u64, x4⟩]] => some ⟨_, G.s_l1Cur_rowOf_f x0 x1 x2 x3 x4, fun y => ⟨[.one ⟨.sl true 93 (.sl false 55 (.pair (.int .i64) (.pair (.int .i64) .str))), y.1⟩], [[⟨.sl false 5 (.int .u8), y.2.1⟩, ⟨.int .i64, y.2.2.1⟩, ⟨.int .u64, y.2.2.2⟩]], []⟩⟩
  | _, _ => none, []⟩
theorem s_s_l1Cur_rowOf_f : KnOk Try.prog k_s_l1Cur_rowOf_f := by
  intro args rows a h y hy
  simp only [k_s_l1Cur_rowOf_f] at h
  split at h
  · injection h with h
    subst h
    exact vfun_ok eok_s_l1Cur_rowOf_f Try.func161 rfl (by rw [v_s_l1Cur_rowOf_f]; simp only at hy; rw [hy]; rfl)
  · cases h
end
end Go.Proofs.Ytcfbfpipfalieaa

set_option linter.unusedVariables false
set_option maxRecDepth 100000
namespace Go.Proofs.Ytcfbfpipfalieaa
open Go.V
noncomputable section
def J_s_DrawComposeAll : Joins := [(.r, ⟨[.sl true 93 (.sl false 55 (.pair (.int .i64) (.pair (.int .i64) .str)))], [(2, .one (.vw 138242))], [], [(138242, 0)], [], []⟩)]
def ann_s_DrawComposeAll : Ann := .seq .nil (.seq .nil (.seq .nil (.seq (.seq .nil (.cond [(.n, ⟨[.int .i64, .sl false 5 (.int .u8), .int .i64, .int .u64], [(3, .pl 8 0), (4, .one (.h 0))], [(8, [.h 1, .h 2, .h 3])], [], [], []⟩)] .nil .nil)) (.seq .nil (.seq (.seq (.reg [(.n, ⟨[.sl true 93 (.sl false 55 (.pair (.int .i64) (.pair (.int .i64) .str))), .bool, .sl false 5 (.int .u8), .int .i64, .int .u64], [(3, .pl 8 0), (5, .one (.vw 138240)), (28, .one (.h 1))], [(8, [.h 2, .h 3, .h 4])], [(138240, 0)], [], []⟩)]) (.cond [(.n, ⟨[.sl true 93 (.sl false 55 (.pair (.int .i64) (.pair (.int .i64) .str)))], [(5, .one (.vw 138241))], [], [(138241, 0)], [], []⟩)] .nil .nil)) .nil)))))
def env_s_DrawComposeAll : Env := envOf ti [k_s_l1Cur_pick_f, k_s_l1Cur_one_f, k_s_l1Cur_among_f, k_s_l1Cur_rowOf_f, k_s_l1Cur_changeOf_f] []
theorem eok_s_DrawComposeAll : EnvOk Try.prog env_s_DrawComposeAll := envOf_ok tab mix _ _ (by
  intro k hk
  simp only [List.mem_cons, List.not_mem_nil, or_false] at hk
  rcases hk with rfl | rfl | rfl | rfl | rfl
  · exact s_s_l1Cur_pick_f
  · exact s_s_l1Cur_one_f
  · exact s_s_l1Cur_among_f
  · exact s_s_l1Cur_rowOf_f
  · exact s_s_l1Cur_changeOf_f)
theorem v_s_DrawComposeAll (x0 : List Int) : (vfun env_s_DrawComposeAll Try.f76 J_s_DrawComposeAll ann_s_DrawComposeAll [] [.one ⟨.sl false 5 (.int .u8), x0⟩] []).run = (G.s_DrawComposeAll x0).bind fun y => some (Res.mk [.one ⟨.sl true 93 (.sl false 55 (.pair (.int .i64) (.pair (.int .i64) .str))), y⟩] [] []) := by kernel_rfl
def k_s_DrawComposeAll : Kn := ⟨76, [0], fun args rows => match args, rows with
  | [.one ⟨.sl false 5 (.int .u8), x0⟩], [] => some ⟨_, G.s_DrawComposeAll x0, fun y => ⟨[.one ⟨.sl true 93 (.sl false 55 (.pair (.int .i64) (.pair (.int .i64) .str))), y⟩], [], []⟩⟩
  | _, _ => none, []⟩
theorem s_s_DrawComposeAll : KnOk Try.prog k_s_DrawComposeAll := by
  intro args rows a h y hy
  simp only [k_s_DrawComposeAll] at h
  split at h
  · injection h with h
    subst h
    exact vfun_ok eok_s_DrawComposeAll Try.func76 rfl (by rw [v_s_DrawComposeAll]; simp only at hy; rw [hy]; rfl)
  · cases h
def J_s_l1In : Joins := [(.r, ⟨[.bool], [(6, .one (.h 0))], [], [], [], []⟩)]
def ann_s_l1In : Ann := .seq .nil (.seq (.reg [(.n, ⟨[.bool], [(6, .one (.h 0))], [], [], [], []⟩)]) .nil)
def env_s_l1In : Env := envOf ti [] []
theorem eok_s_l1In : EnvOk Try.prog env_s_l1In := envOf_ok tab mix _ _ (by
  intro k hk; cases hk)
theorem v_s_l1In (x0 : Int) (x1 : Int) (x2 : Int) : (vfun env_s_l1In Try.f88 J_s_l1In ann_s_l1In [] [.one ⟨.int .i64, x0⟩, .one ⟨.int .i64, x1⟩, .one ⟨.int .i64, x2⟩] []).run = (G.s_l1In x0 x1 x2).bind fun y => some (Res.mk [.one ⟨.bool, y⟩] [] []) := by kernel_rfl
def k_s_l1In : Kn := ⟨88, [0, 0, 0], fun args rows => match args, rows with
  | [.one ⟨.int .i64, x0⟩, .one ⟨.int .i64, x1⟩, .one ⟨.int .i64, x2⟩], [] => some ⟨_, G.s_l1In x0 x1 x2, fun y => ⟨[.one ⟨.bool, y⟩], [], []⟩⟩
  | _, _ => none, []⟩
theorem s_s_l1In : KnOk Try.prog k_s_l1In := by
  intro args rows a h y hy
  simp only [k_s_l1In] at h
  split at h
  · injection h with h
    subst h
    exact vfun_ok eok_s_l1In Try.func88 rfl (by rw [v_s_l1In]; simp only at hy; rw [hy]; rfl)
  · cases h
def J_s_l1Source : Joins := [(.r, ⟨[.int .i64], [(2, .one (.h 0))], [], [], [], []⟩)]
def ann_s_l1Source : Ann := .seq .nil (.seq .nil (.seq (.seq .nil (.block [] (.loop ⟨[.int .i64, .sl false 55 (.pair (.int .i64) (.pair (.int .i64) .str)), .int .i64, .int .i64], [(3, .one (.h 0)), (6, .one (.h 1)), (7, .one (.h 2)), (8, .one (.h 3))], [], [], [], []⟩ [(.x 0, ⟨[.int .i64], [(3, .one (.h 0))], [], [], [], []⟩)] .nil))) .nil))
def env_s_l1Source : Env := envOf ti [] []
theorem eok_s_l1Source : EnvOk Try.prog env_s_l1Source := envOf_ok tab mix _ _ (by
  intro k hk; cases hk)
theorem v_s_l1Source (x0 : List (Int × (Int × List UInt8))) : (vfun env_s_l1Source Try.f112 J_s_l1Source ann_s_l1Source [] [.one ⟨.sl false 55 (.pair (.int .i64) (.pair (.int .i64) .str)), x0⟩] []).run = (G.s_l1Source x0).bind fun y => some (Res.mk [.one ⟨.int .i64, y⟩] [] []) := by kernel_rfl
def k_s_l1Source : Kn := ⟨112, [0], fun args rows => match args, rows with
  | [.one ⟨.sl false 55 (.pair (.int .i64) (.pair (.int .i64) .str)), x0⟩], [] => some ⟨_, G.s_l1Source x0, fun y => ⟨[.one ⟨.int .i64, y⟩], [], []⟩⟩
  | _, _ => none, []⟩
theorem s_s_l1Source : KnOk Try.prog k_s_l1Source := by
  intro args rows a h y hy
  simp only [k_s_l1Source] at h
  split at h
  · injection h with h
    subst h
    exact vfun_ok eok_s_l1Source Try.func112 rfl (by rw [v_s_l1Source]; simp only at hy; rw [hy]; rfl)
  · cases h
def J_s_l1Open : Joins := [(.r, ⟨[.sl true 4 .bool, .sl true 9 .str], [(2, .pl 2 0)], [(2, [.vw 154756, .vw 154757])], [(154756, 0), (154757, 1)], [], []⟩)]
def ann_s_l1Open : Ann := .seq .nil (.seq .nil (.seq (.seq .nil (.block [] (.loop ⟨[.sl false 55 (.pair (.int .i64) (.pair (.int .i64) .str)), .int .i64, .int .i64, .sl true 4 .bool, .sl true 9 .str], [(2, .pl 2 0), (3, .pl 3 0), (9, .one (.h 0)), (10, .one (.h 1)), (11, .one (.h 2))], [(2, [.nil, .nil]), (3, [.vw 154624, .vw 154625])], [(154624, 3), (154625, 4)], [], []⟩ [(.x 0, ⟨[.sl true 4 .bool, .sl true 9 .str], [(2, .pl 2 0), (3, .pl 3 0)], [(2, [.nil, .nil]), (3, [.vw 154754, .vw 154755])], [(154754, 0), (154755, 1)], [], []⟩)] (.seq .nil (.seq .nil (.seq (.block [] (.seq .nil (.seq .nil (.seq .nil (.block [] (.loop ⟨[.int .i64, .sl false 55 (.pair (.int .i64) (.pair (.int .i64) .str)), .int .i64, .int .i64, .sl true 4 .bool, .sl true 9 .str, .int .i64, .int .i64, .str], [(2, .pl 2 0), (3, .pl 3 0), (5, .pl 5 0), (6, .one (.h 0)), (9, .one (.h 1)), (10, .one (.h 2)), (11, .one (.h 3))], [(2, [.nil, .nil]), (3, [.vw 154688, .vw 154689]), (5, [.h 6, .h 7, .h 8])], [(154688, 4), (154689, 5)], [], []⟩ [(.x 2, ⟨[.sl false 55 (.pair (.int .i64) (.pair (.int .i64) .str)), .int .i64, .int .i64, .sl true 4 .bool, .sl true 9 .str], [(2, .pl 2 0), (3, .pl 3 0), (9, .one (.h 0)), (10, .one (.h 1)), (11, .one (.h 2))], [(2, [.nil, .nil]), (3, [.vw 154752, .vw 154753])], [(154752, 3), (154753, 4)], [], []⟩)] .nil)))))) .nil)))))) .nil))
def env_s_l1Open : Env := envOf ti [] []
theorem eok_s_l1Open : EnvOk Try.prog env_s_l1Open := envOf_ok tab mix _ _ (by
  intro k hk; cases hk)
theorem v_s_l1Open (x0 : List (Int × (Int × List UInt8))) : (vfun env_s_l1Open Try.f203 J_s_l1Open ann_s_l1Open [] [.one ⟨.sl false 55 (.pair (.int .i64) (.pair (.int .i64) .str)), x0⟩] []).run = (G.s_l1Open x0).bind fun y => some (Res.mk [.ag [⟨.sl true 4 .bool, y.1⟩, ⟨.sl true 9 .str, y.2⟩]] [] []) := by kernel_rfl
def k_s_l1Open : Kn := ⟨203, [0], fun args rows => match args, rows with
  | [.one ⟨.sl false 55 (.pair (.int .i64) (.pair (.int .i64) .str)), x0⟩], [] => some ⟨_, G.s_l1Open x0, fun y => ⟨[.ag [⟨.sl true 4 .bool, y.1⟩, ⟨.sl true 9 .str, y.2⟩]], [], []⟩⟩
  | _, _ => none, []⟩
theorem s_s_l1Open : KnOk Try.prog k_s_l1Open := by
  intro args rows a h y hy
  simp only [k_s_l1Open] at h
  split at h
  · injection h with h
    subst h
    exact vfun_ok eok_s_l1Open Try.func203 rfl (by rw [v_s_l1Open]; simp only at hy; rw [hy]; rfl)
  · cases h
def J_s_l1Close : Joins := [(.r, ⟨[.sl true 55 (.pair (.int .i64) (.pair (.int .i64) .str))], [(2, .one (.vw 139331))], [], [(139331, 0)], [], []⟩)]
def ann_s_l1Close : Ann := .seq .nil (.seq .nil (.seq (.seq .nil (.block [] (.loop ⟨[.sl true 55 (.pair (.int .i64) (.pair (.int .i64) .str)), .sl false 9 .str, .int .i64, .int .i64, .sl false 4 .bool, .sl false 9 .str], [(1, .pl 1 0), (3, .one (.vw 139264)), (7, .one (.h 1)), (8, .one (.h 2)), (9, .one (.h 3))], [(1, [.h 4, .h 5])], [(139264, 0)], [], []⟩ [(.x 0, ⟨[.sl true 55 (.pair (.int .i64) (.pair (.int .i64) .str))], [(3, .one (.vw 139330))], [], [(139330, 0)], [], []⟩)] (.seq .nil (.seq .nil (.seq (.block [] (.seq .nil (.seq .nil (.seq .nil (.cond [(.n, ⟨[.sl true 55 (.pair (.int .i64) (.pair (.int .i64) .str)), .sl false 9 .str, .int .i64, .int .i64, .sl false 4 .bool, .sl false 9 .str], [(1, .pl 1 0), (3, .one (.vw 139329)), (7, .one (.h 1)), (8, .one (.h 2)), (9, .one (.h 3))], [(1, [.h 4, .h 5])], [(139329, 0)], [], []⟩)] (.seq .nil (.cond [(.n, ⟨[.sl true 55 (.pair (.int .i64) (.pair (.int .i64) .str)), .sl false 9 .str, .int .i64, .int .i64, .sl false 4 .bool, .sl false 9 .str], [(1, .pl 1 0), (3, .one (.vw 139328)), (7, .one (.h 1)), (8, .one (.h 2)), (9, .one (.h 3))], [(1, [.h 4, .h 5])], [(139328, 0)], [], []⟩)] .nil .nil)) .nil))))) .nil)))))) .nil))
def env_s_l1Close : Env := envOf ti [k_s_l1Add] []
theorem eok_s_l1Close : EnvOk Try.prog env_s_l1Close := envOf_ok tab mix _ _ (by
  intro k hk
  simp only [List.mem_cons, List.not_mem_nil, or_false] at hk
  rcases hk with rfl
  · exact s_s_l1Add)
theorem v_s_l1Close (x0 : List Bool) (x1 : List (List UInt8)) : (vfun env_s_l1Close Try.f214 J_s_l1Close ann_s_l1Close [] [.ag [⟨.sl false 4 .bool, x0⟩, ⟨.sl false 9 .str, x1⟩]] []).run = (G.s_l1Close x0 x1).bind fun y => some (Res.mk [.one ⟨.sl true 55 (.pair (.int .i64) (.pair (.int .i64) .str)), y⟩] [] []) := by kernel_rfl
def k_s_l1Close : Kn := ⟨214, [0], fun args rows => match args, rows with
  | [.ag [⟨.sl false 4 .bool, x0⟩, ⟨.sl false 9 .str, x1⟩]], [] => some ⟨_, G.s_l1Close x0 x1, fun y => ⟨[.one ⟨.sl true 55 (.pair (.int .i64) (.pair (.int .i64) .str)), y⟩], [], []⟩⟩
  | _, _ => none, []⟩
theorem s_s_l1Close : KnOk Try.prog k_s_l1Close := by
  intro args rows a h y hy
  simp only [k_s_l1Close] at h
  split at h
  · injection h with h
    subst h
    exact vfun_ok eok_s_l1Close Try.func214 rfl (by rw [v_s_l1Close]; simp only at hy; rw [hy]; rfl)
  · cases h
def J_s_l1Compose : Joins := [(.r, ⟨[.sl true 55 (.pair (.int .i64) (.pair (.int .i64) .str))], [(4, .one (.vw 219286))], [], [(219286, 0)], [], []⟩)]
def ann_s_l1Compose : Ann := .seq .nil (.seq .nil (.seq .nil (.seq .nil (.seq .nil (.seq .nil (.seq (.seq .nil (.block [] (.loop ⟨[.int .i64, .sl true 9 .str, .int .i64, .int .i64, .sl true 4 .bool, .sl true 4 .bool, .sl true 9 .str, .sl true 4 .bool, .sl true 9 .str], [(5, .pl 5 0), (6, .pl 6 0), (7, .pl 7 0), (8, .one (.h 0)), (29, .one (.vw 219136)), (30, .one (.h 2)), (31, .one (.h 3))], [(5, [.vw 219137, .vw 219136]), (6, [.vw 219138, .vw 219139]), (7, [.vw 219140, .vw 219141])], [(219136, 1), (219137, 4), (219138, 5), (219139, 6), (219140, 7), (219141, 8)], [], []⟩ [(.x 0, ⟨[.sl true 4 .bool, .sl true 9 .str], [(7, .pl 7 0)], [(7, [.vw 219284, .vw 219285])], [(219284, 0), (219285, 1)], [], []⟩)] (.seq .nil (.seq .nil (.seq (.block [(.n, ⟨[.int .i64, .sl true 9 .str, .int .i64, .int .i64, .sl true 4 .bool, .sl true 4 .bool, .sl true 9 .str, .sl true 4 .bool, .sl true 9 .str], [(5, .pl 5 0), (6, .pl 6 0), (7, .pl 7 0), (8, .one (.h 0)), (29, .one (.vw 219276)), (30, .one (.h 2)), (31, .one (.h 3))], [(5, [.vw 219277, .vw 219276]), (6, [.vw 219278, .vw 219279]), (7, [.vw 219280, .vw 219281])], [(219276, 1), (219277, 4), (219278, 5), (219279, 6), (219280, 7), (219281, 8)], [], []⟩), (.x 0, ⟨[.sl true 4 .bool, .sl true 9 .str], [(7, .pl 7 0)], [(7, [.vw 219282, .vw 219283])], [(219282, 0), (219283, 1)], [], []⟩)] (.seq .nil (.seq (.seq .nil (.block [] (.loop ⟨[.int .i64, .int .i64, .str, .int .i64, .sl true 9 .str, .int .i64, .int .i64, .sl true 4 .bool, .sl true 4 .bool, .sl true 9 .str, .sl true 4 .bool, .sl true 9 .str], [(5, .pl 5 0), (6, .pl 6 0), (7, .pl 7 0), (8, .one (.h 0)), (9, .one (.h 1)), (10, .one (.h 2)), (11, .one (.h 3)), (29, .one (.vw 219200)), (30, .one (.h 5)), (31, .one (.h 6))], [(5, [.vw 219201, .vw 219200]), (6, [.vw 219202, .vw 219203]), (7, [.vw 219204, .vw 219205])], [(219200, 4), (219201, 7), (219202, 8), (219203, 9), (219204, 10), (219205, 11)], [], []⟩ [(.x 2, ⟨[.int .i64, .int .i64, .sl true 9 .str, .int .i64, .int .i64, .sl true 4 .bool, .sl true 4 .bool, .sl true 9 .str, .sl true 4 .bool, .sl true 9 .str], [(5, .pl 5 0), (6, .pl 6 0), (7, .pl 7 0), (8, .one (.h 0)), (9, .one (.h 1)), (29, .one (.vw 219270)), (30, .one (.h 3)), (31, .one (.h 4))], [(5, [.vw 219271, .vw 219270]), (6, [.vw 219272, .vw 219273]), (7, [.vw 219274, .vw 219275])], [(219270, 2), (219271, 5), (219272, 6), (219273, 7), (219274, 8), (219275, 9)], [], []⟩)] (.seq .nil (.seq (.block [] (.seq (.seq .nil (.cond [(.n, ⟨[.int .i64, .int .i64, .str, .int .i64, .sl true 9 .str, .int .i64, .int .i64, .sl true 4 .bool, .sl true 4 .bool, .sl true 9 .str, .sl true 4 .bool, .sl true 9 .str], [(5, .pl 5 0), (6, .pl 6 0), (7, .pl 7 0), (8, .one (.h 0)), (9, .one (.h 1)), (10, .one (.h 2)), (11, .one (.h 3)), (29, .one (.vw 219264)), (30, .one (.h 5)), (31, .one (.h 6))], [(5, [.vw 219265, .vw 219264]), (6, [.vw 219266, .vw 219267]), (7, [.vw 219268, .vw 219269])], [(219264, 4), (219265, 7), (219266, 8), (219267, 9), (219268, 10), (219269, 11)], [], []⟩)] .nil .nil)) .nil)) .nil))))) .nil))) .nil)))))) .nil))))))
def env_s_l1Compose : Env := envOf ti [k_s_l1Open, k_s_l1Close] []
theorem eok_s_l1Compose : EnvOk Try.prog env_s_l1Compose := envOf_ok tab mix _ _ (by
  intro k hk
  simp only [List.mem_cons, List.not_mem_nil, or_false] at hk
  rcases hk with rfl | rfl
  · exact s_s_l1Open
  · exact s_s_l1Close)
theorem v_s_l1Compose (x0 : List (Int × (Int × List UInt8))) (x1 : List (Int × (Int × List UInt8))) : (vfun env_s_l1Compose Try.f162 J_s_l1Compose ann_s_l1Compose [] [.one ⟨.sl false 55 (.pair (.int .i64) (.pair (.int .i64) .str)), x0⟩, .one ⟨.sl false 55 (.pair (.int .i64) (.pair (.int .i64) .str)), x1⟩] []).run = (G.s_l1Compose x0 x1).bind fun y => some (Res.mk [.one ⟨.sl true 55 (.pair (.int .i64) (.pair (.int .i64) .str)), y⟩] [] []) := by kernel_rfl
def k_s_l1Compose : Kn := ⟨162, [0, 0], fun args rows => match args, rows with
  | [.one ⟨.sl false 55 (.pair (.int .i64) (.pair (.int .i64) .str)), x0⟩, .one ⟨.sl false 55 (.pair (.int .i64) (.pair (.int .i64) .str)), x1⟩], [] => some ⟨_, G.s_l1Compose x0 x1, fun y => ⟨[.one ⟨.sl true 55 (.pair (.int .i64) (.pair (.int .i64) .str)), y⟩], [], []⟩⟩
  | _, _ => none, []⟩
theorem s_s_l1Compose : KnOk Try.prog k_s_l1Compose := by
  intro args rows a h y hy
  simp only [k_s_l1Compose] at h
  split at h
  · injection h with h
    subst h
    exact vfun_ok eok_s_l1Compose Try.func162 rfl (by rw [v_s_l1Compose]; simp only at hy; rw [hy]; rfl)
  · cases h
def J_s_ComposeAll : Joins := [(.r, ⟨[.sl true 55 (.pair (.int .i64) (.pair (.int .i64) .str)), .bool], [(2, .one (.vw 149571)), (3, .one (.h 1))], [], [(149571, 0)], [], []⟩)]
def ann_s_ComposeAll : Ann := .seq .nil (.seq .nil (.seq .nil (.seq (.seq .nil (.block [] (.loop ⟨[.sl true 55 (.pair (.int .i64) (.pair (.int .i64) .str)), .sl false 93 (.sl false 55 (.pair (.int .i64) (.pair (.int .i64) .str))), .int .i64, .int .i64], [(4, .one (.vw 149504)), (11, .one (.h 1)), (12, .one (.h 2)), (13, .one (.h 3))], [], [(149504, 0)], [], []⟩ [(.x 0, ⟨[.sl true 55 (.pair (.int .i64) (.pair (.int .i64) .str))], [(4, .one (.vw 149570))], [], [(149570, 0)], [], []⟩), (.r, ⟨[.bool], [(2, .one (.nil)), (3, .one (.h 0))], [], [], [], []⟩)] (.seq .nil (.seq .nil (.seq (.block [(.n, ⟨[.sl true 55 (.pair (.int .i64) (.pair (.int .i64) .str)), .sl false 93 (.sl false 55 (.pair (.int .i64) (.pair (.int .i64) .str))), .int .i64, .int .i64], [(4, .one (.vw 149569)), (11, .one (.h 1)), (12, .one (.h 2)), (13, .one (.h 3))], [], [(149569, 0)], [], []⟩), (.r, ⟨[.bool], [(2, .one (.nil)), (3, .one (.h 0))], [], [], [], []⟩)] (.seq .nil (.seq (.seq (.reg [(.n, ⟨[.sl true 55 (.pair (.int .i64) (.pair (.int .i64) .str)), .int .i64, .sl false 93 (.sl false 55 (.pair (.int .i64) (.pair (.int .i64) .str))), .int .i64, .int .i64, .bool, .sl false 55 (.pair (.int .i64) (.pair (.int .i64) .str))], [(4, .one (.vw 149568)), (5, .one (.h 1)), (6, .pl 6 0), (11, .one (.h 2)), (12, .one (.h 3)), (13, .one (.h 4)), (33, .one (.h 5))], [(6, [.h 6])], [(149568, 0)], [], []⟩)]) .nil) .nil))) .nil)))))) .nil)))
def env_s_ComposeAll : Env := envOf ti [k_s_l1In, k_s_GoodChange, k_s_l1Target, k_s_l1Source, k_s_l1Compose] []
theorem eok_s_ComposeAll : EnvOk Try.prog env_s_ComposeAll := envOf_ok tab mix _ _ (by
  intro k hk
  simp only [List.mem_cons, List.not_mem_nil, or_false] at hk
  rcases hk with rfl | rfl | rfl | rfl | rfl
  · exact s_s_l1In
  · exact s_s_GoodChange
  · exact s_s_l1Target
  · exact s_s_l1Source
  · exact s_s_l1Compose)
theorem v_s_ComposeAll (x0 : List (List (Int × (Int × List UInt8)))) : (vfun env_s_ComposeAll Try.f77 J_s_ComposeAll ann_s_ComposeAll [] [.one ⟨.sl false 93 (.sl false 55 (.pair (.int .i64) (.pair (.int .i64) .str))), x0⟩] []).run = (G.s_ComposeAll x0).bind fun y => some (Res.mk [.one ⟨.sl true 55 (.pair (.int .i64) (.pair (.int .i64) .str)), y.1⟩, .one ⟨.bool, y.2⟩] [] []) := by kernel_rfl
def k_s_ComposeAll : Kn := ⟨77, [0], fun args rows => match args, rows with
  | [.one ⟨.sl false 93 (.sl false 55 (.pair (.int .i64) (.pair (.int .i64) .str))), x0⟩], [] => some ⟨_, G.s_ComposeAll x0, fun y => ⟨[.one ⟨.sl true 55 (.pair (.int .i64) (.pair (.int .i64) .str)), y.1⟩, .one ⟨.bool, y.2⟩], [], []⟩⟩
  | _, _ => none, []⟩
theorem s_s_ComposeAll : KnOk Try.prog k_s_ComposeAll := by
  intro args rows a h y hy
  simp only [k_s_ComposeAll] at h
  split at h
  · injection h with h
    subst h
    exact vfun_ok eok_s_ComposeAll Try.func77 rfl (by rw [v_s_ComposeAll]; simp only at hy; rw [hy]; rfl)
  · cases h
def J_i_Part_kind : Joins := [(.r, ⟨[.int .i64], [(2, .one (.h 0))], [], [], [], []⟩)]
def ann_i_Part_kind : Ann := .seq .nil (.seq (.block [] (.seq (.reg [(.n, ⟨[.bool, .int .i64, .int .i64, .str], [(1, .pl 1 0), (3, .one (.h 0))], [(1, [.h 1, .h 2, .h 3])], [], [], []⟩)]) (.cond [] .nil (.seq (.reg [(.n, ⟨[.bool, .int .i64, .int .i64, .str], [(1, .pl 1 0), (17, .one (.h 0))], [(1, [.h 1, .h 2, .h 3])], [], [], []⟩)]) (.cond [] .nil (.seq (.reg [(.n, ⟨[.bool], [(31, .one (.h 0))], [], [], [], []⟩)]) .nil)))))) .nil)
def env_i_Part_kind : Env := envOf ti [] []
theorem eok_i_Part_kind : EnvOk Try.prog env_i_Part_kind := envOf_ok tab mix _ _ (by
  intro k hk; cases hk)
theorem v_i_Part_kind (x0 : Int) (x1 : Int) (x2 : List UInt8) : (vfun env_i_Part_kind Try.f225 J_i_Part_kind ann_i_Part_kind [] [.ag [⟨.int .i64, x0⟩, ⟨.int .i64, x1⟩, ⟨.str, x2⟩]] []).run = (G.i_Part_kind x0 x1 x2).bind fun y => some (Res.mk [.one ⟨.int .i64, y⟩] [] []) := by kernel_rfl
def k_i_Part_kind : Kn := ⟨225, [0], fun args rows => match args, rows with
  | [.ag [⟨.int .i64, x0⟩, ⟨.int .i64, x1⟩, ⟨.str, x2⟩]], [] => some ⟨_, G.i_Part_kind x0 x1 x2, fun y => ⟨[.one ⟨.int .i64, y⟩], [], []⟩⟩
  | _, _ => none, []⟩
theorem s_i_Part_kind : KnOk Try.prog k_i_Part_kind := by
  intro args rows a h y hy
  simp only [k_i_Part_kind] at h
  split at h
  · injection h with h
    subst h
    exact vfun_ok eok_i_Part_kind Try.func225 rfl (by rw [v_i_Part_kind]; simp only at hy; rw [hy]; rfl)
  · cases h
def J_i_lengths : Joins := [(.r, ⟨[.int .i64, .int .i64, .bool], [(2, .one (.h 0)), (3, .one (.h 1)), (4, .one (.h 2))], [], [], [], []⟩)]
def ann_i_lengths : Ann := .seq .nil (.seq .nil (.seq (.seq .nil (.block [] (.loop ⟨[.int .i64, .int .i64, .sl false 55 (.pair (.int .i64) (.pair (.int .i64) .str)), .int .i64, .int .i64], [(5, .one (.h 0)), (6, .one (.h 1)), (9, .one (.h 2)), (10, .one (.h 3)), (11, .one (.h 4))], [], [], [], []⟩ [(.x 0, ⟨[.int .i64, .int .i64], [(5, .one (.h 0)), (6, .one (.h 1))], [], [], [], []⟩), (.r, ⟨[.int .i64, .int .i64, .bool], [(2, .one (.h 0)), (3, .one (.h 1)), (4, .one (.h 2))], [], [], [], []⟩)] (.seq .nil (.seq .nil (.seq (.block [] (.seq .nil (.seq (.seq (.reg [(.n, ⟨[.int .i64, .int .i64, .sl false 55 (.pair (.int .i64) (.pair (.int .i64) .str)), .int .i64, .int .i64, .bool, .int .i64, .int .i64, .str], [(5, .one (.h 0)), (6, .one (.h 1)), (8, .pl 8 0), (9, .one (.h 2)), (10, .one (.h 3)), (11, .one (.h 4)), (22, .one (.h 5))], [(8, [.h 6, .h 7, .h 8])], [], [], []⟩)]) .nil) (.seq .nil (.seq .nil (.seq (.reg [(.n, ⟨[.int .i64, .int .i64, .sl false 55 (.pair (.int .i64) (.pair (.int .i64) .str)), .int .i64, .int .i64, .bool], [(5, .one (.h 0)), (6, .one (.h 1)), (9, .one (.h 2)), (10, .one (.h 3)), (11, .one (.h 4)), (43, .one (.h 5))], [], [], [], []⟩)]) .nil)))))) .nil)))))) .nil))
def env_i_lengths : Env := envOf ti [] []
theorem eok_i_lengths : EnvOk Try.prog env_i_lengths := envOf_ok tab mix _ _ (by
  intro k hk; cases hk)
theorem v_i_lengths (x0 : List (Int × (Int × List UInt8))) : (vfun env_i_lengths Try.f192 J_i_lengths ann_i_lengths [] [.one ⟨.sl false 55 (.pair (.int .i64) (.pair (.int .i64) .str)), x0⟩] []).run = (G.i_lengths x0).bind fun y => some (Res.mk [.one ⟨.int .i64, y.1⟩, .one ⟨.int .i64, y.2.1⟩, .one ⟨.bool, y.2.2⟩] [] []) := by kernel_rfl
def k_i_lengths : Kn := ⟨192, [0], fun args rows => match args, rows with
  | [.one ⟨.sl false 55 (.pair (.int .i64) (.pair (.int .i64) .str)), x0⟩], [] => some ⟨_, G.i_lengths x0, fun y => ⟨[.one ⟨.int .i64, y.1⟩, .one ⟨.int .i64, y.2.1⟩, .one ⟨.bool, y.2.2⟩], [], []⟩⟩
  | _, _ => none, []⟩
theorem s_i_lengths : KnOk Try.prog k_i_lengths := by
  intro args rows a h y hy
  simp only [k_i_lengths] at h
  split at h
  · injection h with h
    subst h
    exact vfun_ok eok_i_lengths Try.func192 rfl (by rw [v_i_lengths]; simp only at hy; rw [hy]; rfl)
  · cases h
def J_i_GoodChange : Joins := [(.r, ⟨[.bool], [(2, .one (.h 0))], [], [], [], []⟩)]
def ann_i_GoodChange : Ann := .seq .nil (.seq (.seq .nil (.block [] (.loop ⟨[.sl false 55 (.pair (.int .i64) (.pair (.int .i64) .str)), .sl false 55 (.pair (.int .i64) (.pair (.int .i64) .str)), .int .i64, .int .i64], [(0, .one (.h 0)), (9, .one (.h 1)), (10, .one (.h 2)), (11, .one (.h 3))], [], [], [], []⟩ [(.x 0, ⟨[.sl false 55 (.pair (.int .i64) (.pair (.int .i64) .str))], [(0, .one (.h 0))], [], [], [], []⟩), (.r, ⟨[.bool], [(2, .one (.h 0))], [], [], [], []⟩)] (.seq .nil (.seq .nil (.seq (.block [] (.seq .nil (.seq .nil (.seq (.reg [(.n, ⟨[.sl false 55 (.pair (.int .i64) (.pair (.int .i64) .str)), .sl false 55 (.pair (.int .i64) (.pair (.int .i64) .str)), .int .i64, .int .i64, .bool], [(0, .one (.h 0)), (9, .one (.h 1)), (10, .one (.h 2)), (11, .one (.h 3)), (33, .one (.h 4))], [], [], [], []⟩)]) .nil)))) .nil)))))) .nil)
def env_i_GoodChange : Env := envOf ti [k_i_Part_kind, k_i_lengths] []
theorem eok_i_GoodChange : EnvOk Try.prog env_i_GoodChange := envOf_ok tab mix _ _ (by
  intro k hk
  simp only [List.mem_cons, List.not_mem_nil, or_false] at hk
  rcases hk with rfl | rfl
  · exact s_i_Part_kind
  · exact s_i_lengths)
theorem v_i_GoodChange (x0 : List (Int × (Int × List UInt8))) : (vfun env_i_GoodChange Try.f191 J_i_GoodChange ann_i_GoodChange [] [.one ⟨.sl false 55 (.pair (.int .i64) (.pair (.int .i64) .str)), x0⟩] []).run = (G.i_GoodChange x0).bind fun y => some (Res.mk [.one ⟨.bool, y⟩] [] []) := by kernel_rfl
def k_i_GoodChange : Kn := ⟨191, [0], fun args rows => match args, rows with
  | [.one ⟨.sl false 55 (.pair (.int .i64) (.pair (.int .i64) .str)), x0⟩], [] => some ⟨_, G.i_GoodChange x0, fun y => ⟨[.one ⟨.bool, y⟩], [], []⟩⟩
  | _, _ => none, []⟩
theorem s_i_GoodChange : KnOk Try.prog k_i_GoodChange := by
  intro args rows a h y hy
  simp only [k_i_GoodChange] at h
  split at h
  · injection h with h
    subst h
    exact vfun_ok eok_i_GoodChange Try.func191 rfl (by rw [v_i_GoodChange]; simp only at hy; rw [hy]; rfl)
  · cases h
end
end Go.Proofs.Ytcfbfpipfalieaa

set_option linter.unusedVariables false
set_option maxRecDepth 100000
namespace Go.Proofs.Ytcfbfpipfalieaa
open Go.V
noncomputable section
def J_i_LengthsOf : Joins := [(.r, ⟨[.int .i64, .int .i64, .bool], [(2, .one (.h 0)), (3, .one (.h 1)), (4, .one (.h 2))], [], [], [], []⟩)]
def ann_i_LengthsOf : Ann := .nil
def env_i_LengthsOf : Env := envOf ti [k_i_GoodChange, k_i_lengths] []
theorem eok_i_LengthsOf : EnvOk Try.prog env_i_LengthsOf := envOf_ok tab mix _ _ (by
  intro k hk
  simp only [List.mem_cons, List.not_mem_nil, or_false] at hk
  rcases hk with rfl | rfl
  · exact s_i_GoodChange
  · exact s_i_lengths)
theorem v_i_LengthsOf (x0 : List (Int × (Int × List UInt8))) : (vfun env_i_LengthsOf Try.f108 J_i_LengthsOf ann_i_LengthsOf [] [.one ⟨.sl false 55 (.pair (.int .i64) (.pair (.int .i64) .str)), x0⟩] []).run = (G.i_LengthsOf x0).bind fun y => some (Res.mk [.one ⟨.int .i64, y.1⟩, .one ⟨.int .i64, y.2.1⟩, .one ⟨.bool, y.2.2⟩] [] []) := by kernel_rfl
def k_i_LengthsOf : Kn := ⟨108, [0], fun args rows => match args, rows with
  | [.one ⟨.sl false 55 (.pair (.int .i64) (.pair (.int .i64) .str)), x0⟩], [] => some ⟨_, G.i_LengthsOf x0, fun y => ⟨[.one ⟨.int .i64, y.1⟩, .one ⟨.int .i64, y.2.1⟩, .one ⟨.bool, y.2.2⟩], [], []⟩⟩
  | _, _ => none, []⟩
theorem s_i_LengthsOf : KnOk Try.prog k_i_LengthsOf := by
  intro args rows a h y hy
  simp only [k_i_LengthsOf] at h
  split at h
  · injection h with h
    subst h
    exact vfun_ok eok_i_LengthsOf Try.func108 rfl (by rw [v_i_LengthsOf]; simp only at hy; rw [hy]; rfl)
  · cases h
def J_i_fits : Joins := [(.r, ⟨[.bool], [(4, .one (.h 0))], [], [], [], []⟩)]
def ann_i_fits : Ann := .seq .nil (.seq .nil (.seq (.reg [(.n, ⟨[.bool], [(4, .one (.h 0))], [], [], [], []⟩)]) .nil))
def env_i_fits : Env := envOf ti [k_i_LengthsOf] []
theorem eok_i_fits : EnvOk Try.prog env_i_fits := envOf_ok tab mix _ _ (by
  intro k hk
  simp only [List.mem_cons, List.not_mem_nil, or_false] at hk
  rcases hk with rfl
  · exact s_i_LengthsOf)
theorem v_i_fits (x0 : List (Int × (Int × List UInt8))) (x1 : Int) : (vfun env_i_fits Try.f152 J_i_fits ann_i_fits [] [.one ⟨.sl false 55 (.pair (.int .i64) (.pair (.int .i64) .str)), x0⟩, .one ⟨.int .i64, x1⟩] []).run = (G.i_fits x0 x1).bind fun y => some (Res.mk [.one ⟨.bool, y⟩] [] []) := by kernel_rfl
def k_i_fits : Kn := ⟨152, [0, 0], fun args rows => match args, rows with
  | [.one ⟨.sl false 55 (.pair (.int .i64) (.pair (.int .i64) .str)), x0⟩, .one ⟨.int .i64, x1⟩], [] => some ⟨_, G.i_fits x0 x1, fun y => ⟨[.one ⟨.bool, y⟩], [], []⟩⟩
  | _, _ => none, []⟩
theorem s_i_fits : KnOk Try.prog k_i_fits := by
  intro args rows a h y hy
  simp only [k_i_fits] at h
  split at h
  · injection h with h
    subst h
    exact vfun_ok eok_i_fits Try.func152 rfl (by rw [v_i_fits]; simp only at hy; rw [hy]; rfl)
  · cases h
def J_i_tell : Joins := [(.r, ⟨[.sl true 4 .bool, .sl true 9 .str], [(2, .pl 2 0)], [(2, [.vw 152708, .vw 152709])], [(152708, 0), (152709, 1)], [], []⟩)]
def ann_i_tell : Ann := .seq .nil (.seq .nil (.seq (.seq .nil (.block [] (.loop ⟨[.sl false 55 (.pair (.int .i64) (.pair (.int .i64) .str)), .int .i64, .int .i64, .sl true 4 .bool, .sl true 9 .str], [(2, .pl 2 0), (3, .pl 3 0), (8, .one (.h 0)), (9, .one (.h 1)), (10, .one (.h 2))], [(2, [.nil, .nil]), (3, [.vw 152576, .vw 152577])], [(152576, 3), (152577, 4)], [], []⟩ [(.x 0, ⟨[.sl true 4 .bool, .sl true 9 .str], [(2, .pl 2 0), (3, .pl 3 0)], [(2, [.nil, .nil]), (3, [.vw 152706, .vw 152707])], [(152706, 0), (152707, 1)], [], []⟩)] (.seq .nil (.seq .nil (.seq (.block [] (.seq .nil (.seq .nil (.seq .nil (.block [] (.loop ⟨[.sl false 55 (.pair (.int .i64) (.pair (.int .i64) .str)), .int .i64, .int .i64, .int .i64, .int .i64, .sl true 4 .bool, .sl true 9 .str, .int .i64, .int .i64, .str], [(2, .pl 2 0), (3, .pl 3 0), (5, .pl 5 0), (8, .one (.h 0)), (9, .one (.h 1)), (10, .one (.h 2)), (30, .one (.h 3)), (31, .one (.h 4))], [(2, [.nil, .nil]), (3, [.vw 152640, .vw 152641]), (5, [.h 7, .h 8, .h 9])], [(152640, 5), (152641, 6)], [], []⟩ [(.x 2, ⟨[.sl false 55 (.pair (.int .i64) (.pair (.int .i64) .str)), .int .i64, .int .i64, .sl true 4 .bool, .sl true 9 .str], [(2, .pl 2 0), (3, .pl 3 0), (8, .one (.h 0)), (9, .one (.h 1)), (10, .one (.h 2))], [(2, [.nil, .nil]), (3, [.vw 152704, .vw 152705])], [(152704, 3), (152705, 4)], [], []⟩)] .nil)))))) .nil)))))) .nil))
def env_i_tell : Env := envOf ti [] []
theorem eok_i_tell : EnvOk Try.prog env_i_tell := envOf_ok tab mix _ _ (by
  intro k hk; cases hk)
theorem v_i_tell (x0 : List (Int × (Int × List UInt8))) : (vfun env_i_tell Try.f204 J_i_tell ann_i_tell [] [.one ⟨.sl false 55 (.pair (.int .i64) (.pair (.int .i64) .str)), x0⟩] []).run = (G.i_tell x0).bind fun y => some (Res.mk [.ag [⟨.sl true 4 .bool, y.1⟩, ⟨.sl true 9 .str, y.2⟩]] [] []) := by kernel_rfl
def k_i_tell : Kn := ⟨204, [0], fun args rows => match args, rows with
  | [.one ⟨.sl false 55 (.pair (.int .i64) (.pair (.int .i64) .str)), x0⟩], [] => some ⟨_, G.i_tell x0, fun y => ⟨[.ag [⟨.sl true 4 .bool, y.1⟩, ⟨.sl true 9 .str, y.2⟩]], [], []⟩⟩
  | _, _ => none, []⟩
theorem s_i_tell : KnOk Try.prog k_i_tell := by
  intro args rows a h y hy
  simp only [k_i_tell] at h
  split at h
  · injection h with h
    subst h
    exact vfun_ok eok_i_tell Try.func204 rfl (by rw [v_i_tell]; simp only at hy; rw [hy]; rfl)
  · cases h
def J_i_builder_add_o : Joins := [(.n, ⟨[.sl true 55 (.pair (.int .i64) (.pair (.int .i64) .str))], [], [(80, [.vw 183299])], [(183299, 0)], [], []⟩)]
def ann_i_builder_add_o : Ann := .seq .nil (.seq .nil (.block [] (.seq .nil (.cond [(.n, ⟨[.sl true 55 (.pair (.int .i64) (.pair (.int .i64) .str))], [], [(80, [.vw 183298])], [(183298, 0)], [], []⟩)] .nil (.seq (.reg [(.n, ⟨[.int .i64, .bool, .int .i64, .int .i64, .str, .sl true 55 (.pair (.int .i64) (.pair (.int .i64) .str))], [(0, .pl 80 0), (3, .pl 3 0), (4, .one (.h 0)), (25, .one (.h 1))], [(3, [.h 2, .h 3, .h 4]), (80, [.vw 183296])], [(183296, 5)], [], []⟩)]) (.cond [(.n, ⟨[.sl true 55 (.pair (.int .i64) (.pair (.int .i64) .str))], [], [(80, [.vw 183297])], [(183297, 0)], [], []⟩)] .nil .nil))))))
def env_i_builder_add_o : Env := envOf ti [k_i_Part_kind] []
theorem eok_i_builder_add_o : EnvOk Try.prog env_i_builder_add_o := envOf_ok tab mix _ _ (by
  intro k hk
  simp only [List.mem_cons, List.not_mem_nil, or_false] at hk
  rcases hk with rfl
  · exact s_i_Part_kind)
theorem v_i_builder_add_o (x0 : Int) (x1 : Int) (x2 : List UInt8) (x3 : List (Int × (Int × List UInt8))) : (vfun env_i_builder_add_o Try.f213 J_i_builder_add_o ann_i_builder_add_o [] [.pl 0 0, .ag [⟨.int .i64, x0⟩, ⟨.int .i64, x1⟩, ⟨.str, x2⟩]] [[⟨.sl true 55 (.pair (.int .i64) (.pair (.int .i64) .str)), x3⟩]]).run = (G.i_builder_add_o x0 x1 x2 x3).bind fun y => some (Res.mk [] [[⟨.sl true 55 (.pair (.int .i64) (.pair (.int .i64) .str)), y⟩]] []) := by kernel_rfl
def k_i_builder_add_o : Kn := ⟨213, [0, 0], fun args rows => match args, rows with
  | [.pl 0 0, .ag [⟨.int .i64, x0⟩, ⟨.int .i64, x1⟩, ⟨.str, x2⟩]], [[⟨.sl true 55 (.pair (.int .i64) (.pair (.int .i64) .str)), x3⟩]] => some ⟨_, G.i_builder_add_o x0 x1 x2 x3, fun y => ⟨[], [[⟨.sl true 55 (.pair (.int .i64) (.pair (.int .i64) .str)), y⟩]], []⟩⟩
  | _, _ => none, []⟩
theorem s_i_builder_add_o : KnOk Try.prog k_i_builder_add_o := by
  intro args rows a h y hy
  simp only [k_i_builder_add_o] at h
  split at h
  · injection h with h
    subst h
    exact vfun_ok eok_i_builder_add_o Try.func213 rfl (by rw [v_i_builder_add_o]; simp only at hy; rw [hy]; rfl)
  · cases h
def J_i_told_parts : Joins := [(.r, ⟨[.sl true 55 (.pair (.int .i64) (.pair (.int .i64) .str))], [(2, .one (.vw 142404))], [], [(142404, 0)], [], []⟩)]
def ann_i_told_parts : Ann := .seq .nil (.seq .nil (.seq (.seq .nil (.block [] (.loop ⟨[.sl false 9 .str, .int .i64, .int .i64, .sl false 4 .bool, .sl false 9 .str, .sl true 55 (.pair (.int .i64) (.pair (.int .i64) .str))], [(1, .pl 1 0), (3, .pl 3 0), (8, .one (.h 0)), (9, .one (.h 1)), (10, .one (.h 2))], [(1, [.h 3, .h 4]), (3, [.vw 142336])], [(142336, 5)], [], []⟩ [(.x 0, ⟨[.sl true 55 (.pair (.int .i64) (.pair (.int .i64) .str))], [(3, .pl 3 0)], [(3, [.vw 142403])], [(142403, 0)], [], []⟩)] (.seq .nil (.seq .nil (.seq (.block [] (.seq .nil (.seq (.seq .nil (.cond [(.n, ⟨[.int .i64, .sl false 9 .str, .int .i64, .int .i64, .sl false 4 .bool, .sl false 9 .str, .sl true 55 (.pair (.int .i64) (.pair (.int .i64) .str))], [(1, .pl 1 0), (3, .pl 3 0), (4, .one (.h 0)), (8, .one (.h 1)), (9, .one (.h 2)), (10, .one (.h 3))], [(1, [.h 4, .h 5]), (3, [.vw 142400])], [(142400, 6)], [], []⟩)] .nil .nil)) (.block [] (.seq .nil (.cond [(.n, ⟨[.sl false 9 .str, .int .i64, .int .i64, .sl false 4 .bool, .sl false 9 .str, .sl true 55 (.pair (.int .i64) (.pair (.int .i64) .str))], [(1, .pl 1 0), (3, .pl 3 0), (8, .one (.h 0)), (9, .one (.h 1)), (10, .one (.h 2))], [(1, [.h 3, .h 4]), (3, [.vw 142402])], [(142402, 5)], [], []⟩)] .nil (.seq .nil (.cond [(.n, ⟨[.sl false 9 .str, .int .i64, .int .i64, .sl false 4 .bool, .sl false 9 .str, .sl true 55 (.pair (.int .i64) (.pair (.int .i64) .str))], [(1, .pl 1 0), (3, .pl 3 0), (8, .one (.h 0)), (9, .one (.h 1)), (10, .one (.h 2))], [(1, [.h 3, .h 4]), (3, [.vw 142401])], [(142401, 5)], [], []⟩)] .nil .nil)))))))) .nil)))))) .nil))
def env_i_told_parts : Env := envOf ti [k_i_builder_add_o] []
theorem eok_i_told_parts : EnvOk Try.prog env_i_told_parts := envOf_ok tab mix _ _ (by
  intro k hk
  simp only [List.mem_cons, List.not_mem_nil, or_false] at hk
  rcases hk with rfl
  · exact s_i_builder_add_o)
theorem v_i_told_parts (x0 : List Bool) (x1 : List (List UInt8)) : (vfun env_i_told_parts Try.f215 J_i_told_parts ann_i_told_parts [] [.ag [⟨.sl false 4 .bool, x0⟩, ⟨.sl false 9 .str, x1⟩]] []).run = (G.i_told_parts x0 x1).bind fun y => some (Res.mk [.one ⟨.sl true 55 (.pair (.int .i64) (.pair (.int .i64) .str)), y⟩] [] []) := by kernel_rfl
def k_i_told_parts : Kn := ⟨215, [0], fun args rows => match args, rows with
  | [.ag [⟨.sl false 4 .bool, x0⟩, ⟨.sl false 9 .str, x1⟩]], [] => some ⟨_, G.i_told_parts x0 x1, fun y => ⟨[.one ⟨.sl true 55 (.pair (.int .i64) (.pair (.int .i64) .str)), y⟩], [], []⟩⟩
  | _, _ => none, []⟩
theorem s_i_told_parts : KnOk Try.prog k_i_told_parts := by
  intro args rows a h y hy
  simp only [k_i_told_parts] at h
  split at h
  · injection h with h
    subst h
    exact vfun_ok eok_i_told_parts Try.func215 rfl (by rw [v_i_told_parts]; simp only at hy; rw [hy]; rfl)
  · cases h
def J_i_compose : Joins := [(.r, ⟨[.sl true 55 (.pair (.int .i64) (.pair (.int .i64) .str))], [(4, .one (.vw 208022))], [], [(208022, 0)], [], []⟩)]
def ann_i_compose : Ann := .seq .nil (.seq .nil (.seq .nil (.seq .nil (.seq .nil (.seq (.seq .nil (.block [] (.loop ⟨[.int .i64, .str, .sl true 9 .str, .int .i64, .int .i64, .sl true 4 .bool, .sl true 4 .bool, .sl true 9 .str, .sl true 4 .bool, .sl true 9 .str], [(5, .pl 5 0), (6, .pl 6 0), (7, .pl 7 0), (8, .one (.h 0)), (9, .one (.h 1)), (24, .one (.vw 207872)), (25, .one (.h 3)), (26, .one (.h 4))], [(5, [.vw 207873, .vw 207872]), (6, [.vw 207874, .vw 207875]), (7, [.vw 207876, .vw 207877])], [(207872, 2), (207873, 5), (207874, 6), (207875, 7), (207876, 8), (207877, 9)], [], []⟩ [(.x 0, ⟨[.sl true 4 .bool, .sl true 9 .str], [(7, .pl 7 0)], [(7, [.vw 208020, .vw 208021])], [(208020, 0), (208021, 1)], [], []⟩)] (.seq .nil (.seq .nil (.seq (.block [(.n, ⟨[.int .i64, .str, .sl true 9 .str, .int .i64, .int .i64, .sl true 4 .bool, .sl true 4 .bool, .sl true 9 .str, .sl true 4 .bool, .sl true 9 .str], [(5, .pl 5 0), (6, .pl 6 0), (7, .pl 7 0), (8, .one (.h 0)), (9, .one (.h 1)), (24, .one (.vw 208012)), (25, .one (.h 3)), (26, .one (.h 4))], [(5, [.vw 208013, .vw 208012]), (6, [.vw 208014, .vw 208015]), (7, [.vw 208016, .vw 208017])], [(208012, 2), (208013, 5), (208014, 6), (208015, 7), (208016, 8), (208017, 9)], [], []⟩), (.x 0, ⟨[.sl true 4 .bool, .sl true 9 .str], [(7, .pl 7 0)], [(7, [.vw 208018, .vw 208019])], [(208018, 0), (208019, 1)], [], []⟩)] (.seq .nil (.seq .nil (.seq (.seq .nil (.block [] (.loop ⟨[.int .i64, .int .i64, .str, .str, .sl true 9 .str, .int .i64, .int .i64, .int .i64, .int .i64, .sl true 4 .bool, .sl true 4 .bool, .sl true 9 .str, .sl true 4 .bool, .sl true 9 .str], [(5, .pl 5 0), (6, .pl 6 0), (7, .pl 7 0), (8, .one (.h 0)), (10, .one (.h 1)), (11, .one (.h 2)), (12, .one (.h 3)), (24, .one (.vw 207936)), (25, .one (.h 5)), (26, .one (.h 6)), (33, .one (.h 7)), (34, .one (.h 8))], [(5, [.vw 207937, .vw 207936]), (6, [.vw 207938, .vw 207939]), (7, [.vw 207940, .vw 207941])], [(207936, 4), (207937, 9), (207938, 10), (207939, 11), (207940, 12), (207941, 13)], [], []⟩ [(.x 2, ⟨[.int .i64, .int .i64, .str, .sl true 9 .str, .int .i64, .int .i64, .sl true 4 .bool, .sl true 4 .bool, .sl true 9 .str, .sl true 4 .bool, .sl true 9 .str], [(5, .pl 5 0), (6, .pl 6 0), (7, .pl 7 0), (8, .one (.h 0)), (10, .one (.h 1)), (12, .one (.h 2)), (24, .one (.vw 208006)), (25, .one (.h 4)), (26, .one (.h 5))], [(5, [.vw 208007, .vw 208006]), (6, [.vw 208008, .vw 208009]), (7, [.vw 208010, .vw 208011])], [(208006, 3), (208007, 6), (208008, 7), (208009, 8), (208010, 9), (208011, 10)], [], []⟩)] (.seq .nil (.seq .nil (.seq (.block [] (.seq .nil (.seq (.seq .nil (.cond [(.n, ⟨[.int .i64, .int .i64, .str, .str, .sl true 9 .str, .int .i64, .int .i64, .int .i64, .int .i64, .sl true 4 .bool, .sl true 4 .bool, .sl true 9 .str, .sl true 4 .bool, .sl true 9 .str], [(5, .pl 5 0), (6, .pl 6 0), (7, .pl 7 0), (8, .one (.h 0)), (10, .one (.h 1)), (11, .one (.h 2)), (12, .one (.h 3)), (24, .one (.vw 208000)), (25, .one (.h 5)), (26, .one (.h 6)), (33, .one (.h 7)), (34, .one (.h 8))], [(5, [.vw 208001, .vw 208000]), (6, [.vw 208002, .vw 208003]), (7, [.vw 208004, .vw 208005])], [(208000, 4), (208001, 9), (208002, 10), (208003, 11), (208004, 12), (208005, 13)], [], []⟩)] .nil .nil)) .nil))) .nil)))))) .nil)))) .nil)))))) .nil)))))
def env_i_compose : Env := envOf ti [k_i_tell, k_i_told_parts] []
theorem eok_i_compose : EnvOk Try.prog env_i_compose := envOf_ok tab mix _ _ (by
  intro k hk
  simp only [List.mem_cons, List.not_mem_nil, or_false] at hk
  rcases hk with rfl | rfl
  · exact s_i_tell
  · exact s_i_told_parts)
theorem v_i_compose (x0 : List (Int × (Int × List UInt8))) (x1 : List (Int × (Int × List UInt8))) : (vfun env_i_compose Try.f163 J_i_compose ann_i_compose [] [.one ⟨.sl false 55 (.pair (.int .i64) (.pair (.int .i64) .str)), x0⟩, .one ⟨.sl false 55 (.pair (.int .i64) (.pair (.int .i64) .str)), x1⟩] []).run = (G.i_compose x0 x1).bind fun y => some (Res.mk [.one ⟨.sl true 55 (.pair (.int .i64) (.pair (.int .i64) .str)), y⟩] [] []) := by kernel_rfl
def k_i_compose : Kn := ⟨163, [0, 0], fun args rows => match args, rows with
  | [.one ⟨.sl false 55 (.pair (.int .i64) (.pair (.int .i64) .str)), x0⟩, .one ⟨.sl false 55 (.pair (.int .i64) (.pair (.int .i64) .str)), x1⟩], [] => some ⟨_, G.i_compose x0 x1, fun y => ⟨[.one ⟨.sl true 55 (.pair (.int .i64) (.pair (.int .i64) .str)), y⟩], [], []⟩⟩
  | _, _ => none, []⟩
theorem s_i_compose : KnOk Try.prog k_i_compose := by
  intro args rows a h y hy
  simp only [k_i_compose] at h
  split at h
  · injection h with h
    subst h
    exact vfun_ok eok_i_compose Try.func163 rfl (by rw [v_i_compose]; simp only at hy; rw [hy]; rfl)
  · cases h
def J_i_ComposeChanges : Joins := [(.r, ⟨[.sl true 55 (.pair (.int .i64) (.pair (.int .i64) .str)), .bool], [(4, .one (.vw 129024)), (5, .one (.h 1))], [], [(129024, 0)], [], []⟩)]
def ann_i_ComposeChanges : Ann := .seq .nil (.seq .nil (.seq (.seq (.reg [(.n, ⟨[.sl false 55 (.pair (.int .i64) (.pair (.int .i64) .str)), .sl false 55 (.pair (.int .i64) (.pair (.int .i64) .str)), .bool], [(0, .one (.h 0)), (1, .one (.h 1)), (22, .one (.h 2))], [], [], [], []⟩)]) .nil) .nil))
def env_i_ComposeChanges : Env := envOf ti [k_i_LengthsOf, k_i_fits, k_i_compose] []
theorem eok_i_ComposeChanges : EnvOk Try.prog env_i_ComposeChanges := envOf_ok tab mix _ _ (by
  intro k hk
  simp only [List.mem_cons, List.not_mem_nil, or_false] at hk
  rcases hk with rfl | rfl | rfl
  · exact s_i_LengthsOf
  · exact s_i_fits
  · exact s_i_compose)
theorem v_i_ComposeChanges (x0 : List (Int × (Int × List UInt8))) (x1 : List (Int × (Int × List UInt8))) : (vfun env_i_ComposeChanges Try.f78 J_i_ComposeChanges ann_i_ComposeChanges [] [.one ⟨.sl false 55 (.pair (.int .i64) (.pair (.int .i64) .str)), x0⟩, .one ⟨.sl false 55 (.pair (.int .i64) (.pair (.int .i64) .str)), x1⟩] []).run = (G.i_ComposeChanges x0 x1).bind fun y => some (Res.mk [.one ⟨.sl true 55 (.pair (.int .i64) (.pair (.int .i64) .str)), y.1⟩, .one ⟨.bool, y.2⟩] [] []) := by kernel_rfl
def k_i_ComposeChanges : Kn := ⟨78, [0, 0], fun args rows => match args, rows with
  | [.one ⟨.sl false 55 (.pair (.int .i64) (.pair (.int .i64) .str)), x0⟩, .one ⟨.sl false 55 (.pair (.int .i64) (.pair (.int .i64) .str)), x1⟩], [] => some ⟨_, G.i_ComposeChanges x0 x1, fun y => ⟨[.one ⟨.sl true 55 (.pair (.int .i64) (.pair (.int .i64) .str)), y.1⟩, .one ⟨.bool, y.2⟩], [], []⟩⟩
  | _, _ => none, []⟩
theorem s_i_ComposeChanges : KnOk Try.prog k_i_ComposeChanges := by
  intro args rows a h y hy
  simp only [k_i_ComposeChanges] at h
  split at h
  · injection h with h
    subst h
    exact vfun_ok eok_i_ComposeChanges Try.func78 rfl (by rw [v_i_ComposeChanges]; simp only at hy; rw [hy]; rfl)
  · cases h
def J_l_sameParts : Joins := [(.r, ⟨[.bool], [(4, .one (.h 0))], [], [], [], []⟩)]
def ann_l_sameParts : Ann := .seq .nil (.seq .nil (.seq (.seq .nil (.block [] (.loop ⟨[.sl false 55 (.pair (.int .i64) (.pair (.int .i64) .str)), .sl false 55 (.pair (.int .i64) (.pair (.int .i64) .str)), .int .i64, .int .i64], [(0, .one (.h 0)), (1, .one (.h 1)), (12, .one (.h 2)), (13, .one (.h 3))], [], [], [], []⟩ [(.x 0, ⟨[], [], [], [], [], []⟩), (.r, ⟨[.bool], [(4, .one (.h 0))], [], [], [], []⟩)] .nil))) .nil))
def env_l_sameParts : Env := envOf ti [] []
theorem eok_l_sameParts : EnvOk Try.prog env_l_sameParts := envOf_ok tab mix _ _ (by
  intro k hk; cases hk)
theorem v_l_sameParts (x0 : List (Int × (Int × List UInt8))) (x1 : List (Int × (Int × List UInt8))) : (vfun env_l_sameParts Try.f65 J_l_sameParts ann_l_sameParts [] [.one ⟨.sl false 55 (.pair (.int .i64) (.pair (.int .i64) .str)), x0⟩, .one ⟨.sl false 55 (.pair (.int .i64) (.pair (.int .i64) .str)), x1⟩] []).run = (G.l_sameParts x0 x1).bind fun y => some (Res.mk [.one ⟨.bool, y⟩] [] []) := by kernel_rfl
def k_l_sameParts : Kn := ⟨65, [0, 0], fun args rows => match args, rows with
  | [.one ⟨.sl false 55 (.pair (.int .i64) (.pair (.int .i64) .str)), x0⟩, .one ⟨.sl false 55 (.pair (.int .i64) (.pair (.int .i64) .str)), x1⟩], [] => some ⟨_, G.l_sameParts x0 x1, fun y => ⟨[.one ⟨.bool, y⟩], [], []⟩⟩
  | _, _ => none, []⟩
theorem s_l_sameParts : KnOk Try.prog k_l_sameParts := by
  intro args rows a h y hy
  simp only [k_l_sameParts] at h
  split at h
  · injection h with h
    subst h
    exact vfun_ok eok_l_sameParts Try.func65 rfl (by rw [v_l_sameParts]; simp only at hy; rw [hy]; rfl)
  · cases h
def J_l_FnThree : Joins := [(.r, ⟨[.bool], [(2, .one (.h 0))], [], [], [], []⟩)]
def ann_l_FnThree : Ann := .seq .nil (.seq .nil (.seq .nil (.seq .nil (.seq (.seq (.reg [(.n, ⟨[.sl true 93 (.sl false 55 (.pair (.int .i64) (.pair (.int .i64) .str))), .bool], [(3, .one (.vw 192512)), (30, .one (.h 1))], [], [(192512, 0)], [], []⟩)]) .nil) (.seq .nil (.seq .nil (.seq .nil (.seq .nil (.seq (.reg [(.n, ⟨[.bool], [(2, .one (.h 0))], [], [], [], []⟩)]) .nil)))))))))
def env_l_FnThree : Env := envOf ti [k_s_DrawComposeAll, k_s_ComposeAll, k_i_ComposeChanges, k_l_sameParts] []
theorem eok_l_FnThree : EnvOk Try.prog env_l_FnThree := envOf_ok tab mix _ _ (by
  intro k hk
  simp only [List.mem_cons, List.not_mem_nil, or_false] at hk
  rcases hk with rfl | rfl | rfl | rfl
  · exact s_s_DrawComposeAll
  · exact s_s_ComposeAll
  · exact s_i_ComposeChanges
  · exact s_l_sameParts)
theorem v_l_FnThree (x0 : List Int) : (vfun env_l_FnThree Try.f15 J_l_FnThree ann_l_FnThree [] [.one ⟨.sl false 5 (.int .u8), x0⟩] []).run = (G.l_FnThree x0).bind fun y => some (Res.mk [.one ⟨.bool, y⟩] [] []) := by kernel_rfl
def k_l_FnThree : Kn := ⟨15, [0], fun args rows => match args, rows with
  | [.one ⟨.sl false 5 (.int .u8), x0⟩], [] => some ⟨_, G.l_FnThree x0, fun y => ⟨[.one ⟨.bool, y⟩], [], []⟩⟩
  | _, _ => none, []⟩
theorem s_l_FnThree : KnOk Try.prog k_l_FnThree := by
  intro args rows a h y hy
  simp only [k_l_FnThree] at h
  split at h
  · injection h with h
    subst h
    exact vfun_ok eok_l_FnThree Try.func15 rfl (by rw [v_l_FnThree]; simp only at hy; rw [hy]; rfl)
  · cases h
end
end Go.Proofs.Ytcfbfpipfalieaa
