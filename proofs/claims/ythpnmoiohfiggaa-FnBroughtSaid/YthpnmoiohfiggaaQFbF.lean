import Derived.Test.YthpnmoiohfiggaaQFbE
import Derived.Test.YthpnmoiohfiggaaProg
import Derived.KernelRfl
import Derived.Test.YthpnmoiohfiggaaRows
import Derived.WalkKit
import Derived.ProofKit
import Derived.OpenShut
import Derived.ShutString
import Derived.ChangeOld
import Derived.Below
set_option linter.unusedVariables false
set_option maxRecDepth 100000
namespace Go.Proofs.Ythpnmoiohfiggaa
open Go.V
def tiL : List TI := [
  .other,
  .other,
  .cell (.int .i64),
  .cell (.int .i64),
  .cell .bool,
  .cell (.int .u8),
  .cell (.int .u8),
  .other,
  .other,
  .cell .str,
  .cell .str,
  .cell .str,
  .cell (.int .u64),
  .other,
  .other,
  .ptr 147,
  .ptr 150,
  .ptr 158,
  .other,
  .other,
  .other,
  .cell (.int .i32),
  .slice 5 [(.int .u8)] 1,
  .slice 76 [(.int .i64), (.int .i64)] 16,
  .slice 34 [(.int .i64), (.int .i64), .str] 32,
  .other,
  .other,
  .other,
  .other,
  .other,
  .other,
  .other,
  .other,
  .struct [(0, 1, false), (1, 1, false), (2, 1, false)] [(.int .i64), (.int .i64), .str] true,
  .struct [(0, 1, false), (1, 1, false), (2, 1, false)] [(.int .i64), (.int .i64), .str] true,
  .other,
  .other,
  .other,
  .other,
  .other,
  .slice 93 [(.sl true 34 (.pair (.int .i64) (.pair (.int .i64) .str)))] 24,
  .struct [(0, 1, false), (1, 1, false), (2, 1, false), (3, 1, false)] [(.int .i64), .str, (.sl true 76 (.pair (.int .i64) (.int .i64))), (.sl true 93 (.sl true 34 (.pair (.int .i64) (.pair (.int .i64) .str))))] false,
  .struct [(0, 1, false), (1, 1, false), (2, 1, false), (3, 1, false)] [(.int .i64), .str, (.sl true 76 (.pair (.int .i64) (.int .i64))), (.sl true 93 (.sl true 34 (.pair (.int .i64) (.pair (.int .i64) .str))))] false,
  .other,
  .other,
  .other,
  .other,
  .other,
  .other,
  .other,
  .other,
  .other,
  .other,
  .other,
  .other,
  .other,
  .other,
  .other,
  .other,
  .cell (.int .u64),
  .ptr 63,
  .cell (.int .u64),
  .struct [(0, 1, false), (1, 1, false), (2, 1, false)] [(.sl true 5 (.int .u8)), (.int .i64), (.int .u64)] false,
  .struct [(0, 1, false), (1, 1, false), (2, 1, false)] [(.sl true 5 (.int .u8)), (.int .i64), (.int .u64)] false,
  .other,
  .other,
  .other,
  .other,
  .other,
  .slice 3 [(.int .i64)] 8,
  .other,
  .other,
  .other,
  .other,
  .other,
  .struct [(0, 1, false), (1, 1, false)] [(.int .i64), (.int .i64)] true,
  .struct [(0, 1, false), (1, 1, false)] [(.int .i64), (.int .i64)] true,
  .other,
  .other,
  .other,
  .other,
  .other,
  .other,
  .cell (.int .u32),
  .other,
  .ptr 87,
  .struct [(0, 1, false), (1, 1, false), (2, 1, false)] [(.sl true 5 (.int .u8)), (.int .i64), .bool] false,
  .struct [(0, 1, false), (1, 1, false), (2, 1, false)] [(.sl true 5 (.int .u8)), (.int .i64), .bool] false,
  .other,
  .slice 22 [(.sl true 5 (.int .u8))] 24,
  .other,
  .other,
  .struct [(0, 1, false)] [(.sl true 34 (.pair (.int .i64) (.pair (.int .i64) .str)))] false,
  .struct [(0, 1, false)] [(.sl true 34 (.pair (.int .i64) (.pair (.int .i64) .str)))] false,
  .other,
  .other,
  .ptr 98,
  .struct [(0, 1, false), (1, 1, false)] [(.sl true 5 (.int .u8)), .bool] false,
  .struct [(0, 1, false), (1, 1, false)] [(.sl true 5 (.int .u8)), .bool] false,
  .other,
  .other,
  .other,
  .other,
  .other,
  .other,
  .other,
  .other,
  .other,
  .other,
  .other,
  .other,
  .other,
  .other,
  .other,
  .other,
  .other,
  .other,
  .other,
  .other,
  .other,
  .other,
  .other,
  .other,
  .other,
  .other,
  .other,
  .other,
  .other,
  .other,
  .slice 9 [.str] 16,
  .other,
  .other,
  .other,
  .other,
  .other,
  .other,
  .other,
  .other,
  .other,
  .other,
  .other,
  .slice 4 [.bool] 1,
  .struct [(0, 1, false), (1, 1, false)] [(.sl true 4 .bool), (.sl true 9 .str)] false,
  .struct [(0, 1, false), (1, 1, false)] [(.sl true 4 .bool), (.sl true 9 .str)] false,
  .other,
  .other,
  .other,
  .other,
  .other,
  .other,
  .other,
  .cell (.int .u8),
  .cell (.int .u8),
  .other,
  .ptr 5,
  .cell (.int .i32),
  .cell (.int .i32),
  .other,
  .other,
  .other]
def ti (t : TypeId) : TI := tiL.getD t .other
theorem tab : TabOk Try.prog ti := tabOf Try.prog tiL (by kernel_rfl)
theorem mix : Try.prog.follows .mixedOrders = true := by kernel_rfl
end Go.Proofs.Ythpnmoiohfiggaa

set_option maxRecDepth 100000
namespace Go.Proofs.Ythpnmoiohfiggaa
open Go.V
theorem own : ownKnob Try.prog.godebug = none := by kernel_rfl
theorem laidOut : laidOutB Try.prog = true := by kernel_rfl
theorem tab2 : ∀ t, tyOk2 Try.prog ti t (ti t) = true := tabOf2 Try.prog tiL (by kernel_rfl)
end Go.Proofs.Ythpnmoiohfiggaa

set_option linter.unusedVariables false
set_option maxRecDepth 100000
namespace Go.Proofs.Ythpnmoiohfiggaa
open Go.V
noncomputable section
def J_s_l1Cur_next_f : Joins := [(.r, ⟨[.int .i64, .sl false 5 (.int .u8), .int .i64, .int .u64], [(2, .one (.h 0))], [(63, [.h 1, .h 2, .h 3])], [], [], []⟩)]
def ann_s_l1Cur_next_f : Ann := .seq .nil (.seq .nil (.seq (.seq .nil (.cond [(.n, ⟨[.int .i64, .sl false 5 (.int .u8), .int .i64, .int .u64], [(0, .pl 63 0), (3, .one (.h 0))], [(63, [.h 1, .h 2, .h 3])], [], [], []⟩)] .nil .nil)) .nil))
def env_s_l1Cur_next_f : Env := envOf ti [] []
theorem eok_s_l1Cur_next_f : EnvOk Try.prog env_s_l1Cur_next_f := envOf_ok tab mix _ _ (by
  intro k hk; cases hk)
theorem v_s_l1Cur_next_f (x0 : List Int) (x1 : Int) (x2 : Int) : (vfun env_s_l1Cur_next_f Try.f79 J_s_l1Cur_next_f ann_s_l1Cur_next_f [] [.pl 0 0] [[⟨.sl false 5 (.int .u8), x0⟩, ⟨.int .i64, x1⟩, ⟨.int .u64, x2⟩]]).run = (G.s_l1Cur_next_f x0 x1 x2).bind fun y => some (Res.mk [.one ⟨.int .i64, y.1⟩] [[⟨.sl false 5 (.int .u8), y.2.1⟩, ⟨.int .i64, y.2.2.1⟩, ⟨.int .u64, y.2.2.2⟩]] []) := by kernel_rfl
def k_s_l1Cur_next_f : Kn := ⟨79, [0], fun args rows => match args, rows with
  | [.pl 0 0], [[⟨.sl false 5 (.int .u8), x0⟩, ⟨.int .i64, x1⟩, ⟨.int .u64, x2⟩]] => some ⟨_, G.s_l1Cur_next_f x0 x1 x2, fun y => ⟨[.one ⟨.int .i64, y.1⟩], [[⟨.sl false 5 (.int .u8), y.2.1⟩, ⟨.int .i64, y.2.2.1⟩, ⟨.int .u64, y.2.2.2⟩]], []⟩⟩
  | _, _ => none, []⟩
theorem s_s_l1Cur_next_f : KnOk Try.prog k_s_l1Cur_next_f := by
  intro args rows a h y hy
  simp only [k_s_l1Cur_next_f] at h
  split at h
  · injection h with h
    subst h
    exact vfun_ok eok_s_l1Cur_next_f Try.func79 rfl (by rw [v_s_l1Cur_next_f]; simp only at hy; rw [hy]; rfl)
  · cases h
def J_s_l1Cur_pick_f : Joins := [(.r, ⟨[.int .i64, .sl false 5 (.int .u8), .int .i64, .int .u64], [(4, .one (.h 0))], [(21, [.h 1, .h 2, .h 3])], [], [], []⟩)]
def ann_s_l1Cur_pick_f : Ann := .seq .nil (.seq .nil (.seq .nil (.seq (.seq .nil (.cond [(.n, ⟨[.int .i64, .int .i64, .sl false 5 (.int .u8), .int .i64, .int .u64], [(1, .one (.h 0)), (5, .one (.h 1))], [(21, [.h 2, .h 3, .h 4])], [], [], []⟩)] .nil .nil)) .nil)))
def env_s_l1Cur_pick_f : Env := envOf ti [k_s_l1Cur_next_f] []
theorem eok_s_l1Cur_pick_f : EnvOk Try.prog env_s_l1Cur_pick_f := envOf_ok tab mix _ _ (by
  intro k hk
  simp only [List.mem_cons, List.not_mem_nil, or_false] at hk
  rcases hk with rfl
  · exact s_s_l1Cur_next_f)
theorem v_s_l1Cur_pick_f (x0 : Int) (x1 : List Int) (x2 : Int) (x3 : Int) : (vfun env_s_l1Cur_pick_f Try.f32 J_s_l1Cur_pick_f ann_s_l1Cur_pick_f [] [.pl 0 0, .one ⟨.int .i64, x0⟩] [[⟨.sl false 5 (.int .u8), x1⟩, ⟨.int .i64, x2⟩, ⟨.int .u64, x3⟩]]).run = (G.s_l1Cur_pick_f x0 x1 x2 x3).bind fun y => some (Res.mk [.one ⟨.int .i64, y.1⟩] [[⟨.sl false 5 (.int .u8), y.2.1⟩, ⟨.int .i64, y.2.2.1⟩, ⟨.int .u64, y.2.2.2⟩]] []) := by kernel_rfl
def k_s_l1Cur_pick_f : Kn := ⟨32, [0, 0], fun args rows => match args, rows with
  | [.pl 0 0, .one ⟨.int .i64, x0⟩], [[⟨.sl false 5 (.int .u8), x1⟩, ⟨.int .i64, x2⟩, ⟨.int .u64, x3⟩]] => some ⟨_, G.s_l1Cur_pick_f x0 x1 x2 x3, fun y => ⟨[.one ⟨.int .i64, y.1⟩], [[⟨.sl false 5 (.int .u8), y.2.1⟩, ⟨.int .i64, y.2.2.1⟩, ⟨.int .u64, y.2.2.2⟩]], []⟩⟩
  | _, _ => none, []⟩
theorem s_s_l1Cur_pick_f : KnOk Try.prog k_s_l1Cur_pick_f := by
  intro args rows a h y hy
  simp only [k_s_l1Cur_pick_f] at h
  split at h
  · injection h with h
    subst h
    exact vfun_ok eok_s_l1Cur_pick_f Try.func32 rfl (by rw [v_s_l1Cur_pick_f]; simp only at hy; rw [hy]; rfl)
  · cases h
def J_s_l1Cur_one_f : Joins := [(.r, ⟨[.bool, .sl false 5 (.int .u8), .int .i64, .int .u64], [(4, .one (.h 0))], [(10, [.h 1, .h 2, .h 3])], [], [], []⟩)]
def ann_s_l1Cur_one_f : Ann := .nil
def env_s_l1Cur_one_f : Env := envOf ti [k_s_l1Cur_pick_f] []
theorem eok_s_l1Cur_one_f : EnvOk Try.prog env_s_l1Cur_one_f := envOf_ok tab mix _ _ (by
  intro k hk
  simp only [List.mem_cons, List.not_mem_nil, or_false] at hk
  rcases hk with rfl
  · exact s_s_l1Cur_pick_f)
theorem v_s_l1Cur_one_f (x0 : Int) (x1 : List Int) (x2 : Int) (x3 : Int) : (vfun env_s_l1Cur_one_f Try.f31 J_s_l1Cur_one_f ann_s_l1Cur_one_f [] [.pl 0 0, .one ⟨.int .i64, x0⟩] [[⟨.sl false 5 (.int .u8), x1⟩, ⟨.int .i64, x2⟩, ⟨.int .u64, x3⟩]]).run = (G.s_l1Cur_one_f x0 x1 x2 x3).bind fun y => some (Res.mk [.one ⟨.bool, y.1⟩] [[⟨.sl false 5 (.int .u8), y.2.1⟩, ⟨.int .i64, y.2.2.1⟩, ⟨.int .u64, y.2.2.2⟩]] []) := by kernel_rfl
def k_s_l1Cur_one_f : Kn := ⟨31, [0, 0], fun args rows => match args, rows with
  | [.pl 0 0, .one ⟨.int .i64, x0⟩], [[⟨.sl false 5 (.int .u8), x1⟩, ⟨.int .i64, x2⟩, ⟨.int .u64, x3⟩]] => some ⟨_, G.s_l1Cur_one_f x0 x1 x2 x3, fun y => ⟨[.one ⟨.bool, y.1⟩], [[⟨.sl false 5 (.int .u8), y.2.1⟩, ⟨.int .i64, y.2.2.1⟩, ⟨.int .u64, y.2.2.2⟩]], []⟩⟩
  | _, _ => none, []⟩
theorem s_s_l1Cur_one_f : KnOk Try.prog k_s_l1Cur_one_f := by
  intro args rows a h y hy
  simp only [k_s_l1Cur_one_f] at h
  split at h
  · injection h with h
    subst h
    exact vfun_ok eok_s_l1Cur_one_f Try.func31 rfl (by rw [v_s_l1Cur_one_f]; simp only at hy; rw [hy]; rfl)
  · cases h
def J_s_l1Cur_size_f : Joins := [(.r, ⟨[.int .i64, .sl false 5 (.int .u8), .int .i64, .int .u64], [(2, .one (.h 0))], [(11, [.h 1, .h 2, .h 3])], [], [], []⟩)]
def ann_s_l1Cur_size_f : Ann := .nil
def env_s_l1Cur_size_f : Env := envOf ti [k_s_l1Cur_one_f, k_s_l1Cur_pick_f] []
theorem eok_s_l1Cur_size_f : EnvOk Try.prog env_s_l1Cur_size_f := envOf_ok tab mix _ _ (by
  intro k hk
  simp only [List.mem_cons, List.not_mem_nil, or_false] at hk
  rcases hk with rfl | rfl
  · exact s_s_l1Cur_one_f
  · exact s_s_l1Cur_pick_f)
theorem v_s_l1Cur_size_f (x0 : List Int) (x1 : Int) (x2 : Int) : (vfun env_s_l1Cur_size_f Try.f29 J_s_l1Cur_size_f ann_s_l1Cur_size_f [] [.pl 0 0] [[⟨.sl false 5 (.int .u8), x0⟩, ⟨.int .i64, x1⟩, ⟨.int .u64, x2⟩]]).run = (G.s_l1Cur_size_f x0 x1 x2).bind fun y => some (Res.mk [.one ⟨.int .i64, y.1⟩] [[⟨.sl false 5 (.int .u8), y.2.1⟩, ⟨.int .i64, y.2.2.1⟩, ⟨.int .u64, y.2.2.2⟩]] []) := by kernel_rfl
def k_s_l1Cur_size_f : Kn := ⟨29, [0], fun args rows => match args, rows with
  | [.pl 0 0], [[⟨.sl false 5 (.int .u8), x0⟩, ⟨.int .i64, x1⟩, ⟨.int .u64, x2⟩]] => some ⟨_, G.s_l1Cur_size_f x0 x1 x2, fun y => ⟨[.one ⟨.int .i64, y.1⟩], [[⟨.sl false 5 (.int .u8), y.2.1⟩, ⟨.int .i64, y.2.2.1⟩, ⟨.int .u64, y.2.2.2⟩]], []⟩⟩
  | _, _ => none, []⟩
theorem s_s_l1Cur_size_f : KnOk Try.prog k_s_l1Cur_size_f := by
  intro args rows a h y hy
  simp only [k_s_l1Cur_size_f] at h
  split at h
  · injection h with h
    subst h
    exact vfun_ok eok_s_l1Cur_size_f Try.func29 rfl (by rw [v_s_l1Cur_size_f]; simp only at hy; rw [hy]; rfl)
  · cases h
def J_s_l1Cur_of_f : Joins := [(.r, ⟨[.str, .sl false 5 (.int .u8), .int .i64, .int .u64], [(4, .one (.h 0))], [(13, [.h 1, .h 2, .h 3])], [], [], []⟩)]
def ann_s_l1Cur_of_f : Ann := .nil
def env_s_l1Cur_of_f : Env := envOf ti [k_s_l1Cur_pick_f] []
theorem eok_s_l1Cur_of_f : EnvOk Try.prog env_s_l1Cur_of_f := envOf_ok tab mix _ _ (by
  intro k hk
  simp only [List.mem_cons, List.not_mem_nil, or_false] at hk
  rcases hk with rfl
  · exact s_s_l1Cur_pick_f)
theorem v_s_l1Cur_of_f (x0 : List (List UInt8)) (x1 : List Int) (x2 : Int) (x3 : Int) : (vfun env_s_l1Cur_of_f Try.f104 J_s_l1Cur_of_f ann_s_l1Cur_of_f [] [.pl 0 0, .one ⟨.sl true 9 .str, x0⟩] [[⟨.sl false 5 (.int .u8), x1⟩, ⟨.int .i64, x2⟩, ⟨.int .u64, x3⟩]]).run = (G.s_l1Cur_of_f x0 x1 x2 x3).bind fun y => some (Res.mk [.one ⟨.str, y.1⟩] [[⟨.sl false 5 (.int .u8), y.2.1⟩, ⟨.int .i64, y.2.2.1⟩, ⟨.int .u64, y.2.2.2⟩]] []) := by kernel_rfl
def k_s_l1Cur_of_f : Kn := ⟨104, [0, 1], fun args rows => match args, rows with
  | [.pl 0 0, .one ⟨.sl true 9 .str, x0⟩], [[⟨.sl false 5 (.int .u8), x1⟩, ⟨.int .i64, x2⟩, ⟨.int .u64, x3⟩]] => some ⟨_, G.s_l1Cur_of_f x0 x1 x2 x3, fun y => ⟨[.one ⟨.str, y.1⟩], [[⟨.sl false 5 (.int .u8), y.2.1⟩, ⟨.int .i64, y.2.2.1⟩, ⟨.int .u64, y.2.2.2⟩]], []⟩⟩
  | _, _ => none, []⟩
theorem s_s_l1Cur_of_f : KnOk Try.prog k_s_l1Cur_of_f := by
  intro args rows a h y hy
  simp only [k_s_l1Cur_of_f] at h
  split at h
  · injection h with h
    subst h
    exact vfun_ok eok_s_l1Cur_of_f Try.func104 rfl (by rw [v_s_l1Cur_of_f]; simp only at hy; rw [hy]; rfl)
  · cases h
def J_s_l1Cur_put_f : Joins := [(.r, ⟨[.str, .sl false 5 (.int .u8), .int .i64, .int .u64], [(2, .one (.h 0))], [(7, [.h 1, .h 2, .h 3])], [], [], []⟩)]
def ann_s_l1Cur_put_f : Ann := .nil
def env_s_l1Cur_put_f : Env := envOf ti [k_s_l1Cur_of_f] []
theorem eok_s_l1Cur_put_f : EnvOk Try.prog env_s_l1Cur_put_f := envOf_ok tab mix _ _ (by
  intro k hk
  simp only [List.mem_cons, List.not_mem_nil, or_false] at hk
  rcases hk with rfl
  · exact s_s_l1Cur_of_f)
theorem v_s_l1Cur_put_f (x0 : List Int) (x1 : Int) (x2 : Int) : (vfun env_s_l1Cur_put_f Try.f76 J_s_l1Cur_put_f ann_s_l1Cur_put_f [] [.pl 0 0] [[⟨.sl false 5 (.int .u8), x0⟩, ⟨.int .i64, x1⟩, ⟨.int .u64, x2⟩]]).run = (G.s_l1Cur_put_f x0 x1 x2).bind fun y => some (Res.mk [.one ⟨.str, y.1⟩] [[⟨.sl false 5 (.int .u8), y.2.1⟩, ⟨.int .i64, y.2.2.1⟩, ⟨.int .u64, y.2.2.2⟩]] []) := by kernel_rfl
def k_s_l1Cur_put_f : Kn := ⟨76, [0], fun args rows => match args, rows with
  | [.pl 0 0], [[⟨.sl false 5 (.int .u8), x0⟩, ⟨.int .i64, x1⟩, ⟨.int .u64, x2⟩]] => some ⟨_, G.s_l1Cur_put_f x0 x1 x2, fun y => ⟨[.one ⟨.str, y.1⟩], [[⟨.sl false 5 (.int .u8), y.2.1⟩, ⟨.int .i64, y.2.2.1⟩, ⟨.int .u64, y.2.2.2⟩]], []⟩⟩
  | _, _ => none, []⟩
theorem s_s_l1Cur_put_f : KnOk Try.prog k_s_l1Cur_put_f := by
  intro args rows a h y hy
  simp only [k_s_l1Cur_put_f] at h
  split at h
  · injection h with h
    subst h
    exact vfun_ok eok_s_l1Cur_put_f Try.func76 rfl (by rw [v_s_l1Cur_put_f]; simp only at hy; rw [hy]; rfl)
  · cases h
def J_s_l1Kind : Joins := [(.r, ⟨[.int .i64], [(2, .one (.h 0))], [], [], [], []⟩)]
def ann_s_l1Kind : Ann := .seq .nil (.seq (.block [] (.seq (.reg [(.n, ⟨[.bool, .int .i64, .int .i64, .str], [(1, .pl 1 0), (3, .one (.h 0))], [(1, [.h 1, .h 2, .h 3])], [], [], []⟩)]) (.cond [] .nil (.seq (.reg [(.n, ⟨[.bool, .int .i64, .int .i64, .str], [(1, .pl 1 0), (17, .one (.h 0))], [(1, [.h 1, .h 2, .h 3])], [], [], []⟩)]) (.cond [] .nil (.seq (.reg [(.n, ⟨[.bool], [(31, .one (.h 0))], [], [], [], []⟩)]) .nil)))))) .nil)
def env_s_l1Kind : Env := envOf ti [] []
theorem eok_s_l1Kind : EnvOk Try.prog env_s_l1Kind := envOf_ok tab mix _ _ (by
  intro k hk; cases hk)
theorem v_s_l1Kind (x0 : Int) (x1 : Int) (x2 : List UInt8) : (vfun env_s_l1Kind Try.f84 J_s_l1Kind ann_s_l1Kind [] [.ag [⟨.int .i64, x0⟩, ⟨.int .i64, x1⟩, ⟨.str, x2⟩]] []).run = (G.s_l1Kind x0 x1 x2).bind fun y => some (Res.mk [.one ⟨.int .i64, y⟩] [] []) := by kernel_rfl
def k_s_l1Kind : Kn := ⟨84, [0], fun args rows => match args, rows with
  | [.ag [⟨.int .i64, x0⟩, ⟨.int .i64, x1⟩, ⟨.str, x2⟩]], [] => some ⟨_, G.s_l1Kind x0 x1 x2, fun y => ⟨[.one ⟨.int .i64, y⟩], [], []⟩⟩
  | _, _ => none, []⟩
theorem s_s_l1Kind : KnOk Try.prog k_s_l1Kind := by
  intro args rows a h y hy
  simp only [k_s_l1Kind] at h
  split at h
  · injection h with h
    subst h
    exact vfun_ok eok_s_l1Kind Try.func84 rfl (by rw [v_s_l1Kind]; simp only at hy; rw [hy]; rfl)
  · cases h
def J_s_l1Add : Joins := [(.r, ⟨[.sl true 34 (.pair (.int .i64) (.pair (.int .i64) .str))], [(4, .one (.vw 165889))], [], [(165889, 0)], [], []⟩)]
def ann_s_l1Add : Ann := .seq .nil (.seq .nil (.seq (.seq .nil (.seq (.reg [(.n, ⟨[.sl true 34 (.pair (.int .i64) (.pair (.int .i64) .str)), .int .i64, .bool, .int .i64, .int .i64, .str], [(0, .one (.vw 165888)), (3, .pl 3 0), (5, .one (.h 1)), (24, .one (.h 2))], [(3, [.h 3, .h 4, .h 5])], [(165888, 0)], [], []⟩)]) .nil)) .nil))
def env_s_l1Add : Env := envOf ti [k_s_l1Kind] []
theorem eok_s_l1Add : EnvOk Try.prog env_s_l1Add := envOf_ok tab mix _ _ (by
  intro k hk
  simp only [List.mem_cons, List.not_mem_nil, or_false] at hk
  rcases hk with rfl
  · exact s_s_l1Kind)
theorem v_s_l1Add (x0 : List (Int × (Int × List UInt8))) (x1 : Int) (x2 : Int) (x3 : List UInt8) : (vfun env_s_l1Add Try.f77 J_s_l1Add ann_s_l1Add [] [.one ⟨.sl true 34 (.pair (.int .i64) (.pair (.int .i64) .str)), x0⟩, .ag [⟨.int .i64, x1⟩, ⟨.int .i64, x2⟩, ⟨.str, x3⟩]] []).run = (G.s_l1Add x0 x1 x2 x3).bind fun y => some (Res.mk [.one ⟨.sl true 34 (.pair (.int .i64) (.pair (.int .i64) .str)), y⟩] [] []) := by kernel_rfl
def k_s_l1Add : Kn := ⟨77, [1, 0], fun args rows => match args, rows with
  | [.one ⟨.sl true 34 (.pair (.int .i64) (.pair (.int .i64) .str)), x0⟩, .ag [⟨.int .i64, x1⟩, ⟨.int .i64, x2⟩, ⟨.str, x3⟩]], [] => some ⟨_, G.s_l1Add x0 x1 x2 x3, fun y => ⟨[.one ⟨.sl true 34 (.pair (.int .i64) (.pair (.int .i64) .str)), y⟩], [], []⟩⟩
  | _, _ => none, []⟩
theorem s_s_l1Add : KnOk Try.prog k_s_l1Add := by
  intro args rows a h y hy
  simp only [k_s_l1Add] at h
  split at h
  · injection h with h
    subst h
    exact vfun_ok eok_s_l1Add Try.func77 rfl (by rw [v_s_l1Add]; simp only at hy; rw [hy]; rfl)
  · cases h
def J_s_l1Cur_wide_f : Joins := [(.r, ⟨[.int .i64, .sl false 5 (.int .u8), .int .i64, .int .u64], [(2, .one (.h 0))], [(16, [.h 1, .h 2, .h 3])], [], [], []⟩)]
def ann_s_l1Cur_wide_f : Ann := .seq .nil (.seq .nil (.seq (.seq .nil (.block [] (.loop ⟨[.int .i64, .int .i64, .sl false 5 (.int .u8), .int .i64, .int .u64], [(0, .pl 16 0), (3, .one (.h 0)), (4, .one (.h 1))], [(16, [.h 2, .h 3, .h 4])], [], [], []⟩ [(.x 0, ⟨[.int .i64, .sl false 5 (.int .u8), .int .i64, .int .u64], [(3, .one (.h 0))], [(16, [.h 1, .h 2, .h 3])], [], [], []⟩)] .nil))) .nil))
def env_s_l1Cur_wide_f : Env := envOf ti [k_s_l1Cur_next_f] []
theorem eok_s_l1Cur_wide_f : EnvOk Try.prog env_s_l1Cur_wide_f := envOf_ok tab mix _ _ (by
  intro k hk
  simp only [List.mem_cons, List.not_mem_nil, or_false] at hk
  rcases hk with rfl
  · exact s_s_l1Cur_next_f)
theorem v_s_l1Cur_wide_f (x0 : List Int) (x1 : Int) (x2 : Int) : (vfun env_s_l1Cur_wide_f Try.f114 J_s_l1Cur_wide_f ann_s_l1Cur_wide_f [] [.pl 0 0] [[⟨.sl false 5 (.int .u8), x0⟩, ⟨.int .i64, x1⟩, ⟨.int .u64, x2⟩]]).run = (G.s_l1Cur_wide_f x0 x1 x2).bind fun y => some (Res.mk [.one ⟨.int .i64, y.1⟩] [[⟨.sl false 5 (.int .u8), y.2.1⟩, ⟨.int .i64, y.2.2.1⟩, ⟨.int .u64, y.2.2.2⟩]] []) := by kernel_rfl
def k_s_l1Cur_wide_f : Kn := ⟨114, [0], fun args rows => match args, rows with
  | [.pl 0 0], [[⟨.sl false 5 (.int .u8), x0⟩, ⟨.int .i64, x1⟩, ⟨.int .u64, x2⟩]] => some ⟨_, G.s_l1Cur_wide_f x0 x1 x2, fun y => ⟨[.one ⟨.int .i64, y.1⟩], [[⟨.sl false 5 (.int .u8), y.2.1⟩, ⟨.int .i64, y.2.2.1⟩, ⟨.int .u64, y.2.2.2⟩]], []⟩⟩
  | _, _ => none, []⟩
theorem s_s_l1Cur_wide_f : KnOk Try.prog k_s_l1Cur_wide_f := by
  intro args rows a h y hy
  simp only [k_s_l1Cur_wide_f] at h
  split at h
  · injection h with h
    subst h
    exact vfun_ok eok_s_l1Cur_wide_f Try.func114 rfl (by rw [v_s_l1Cur_wide_f]; simp only at hy; rw [hy]; rfl)
  · cases h
def J_s_l1Cur_sized_f : Joins := [(.r, ⟨[.int .i64, .sl false 5 (.int .u8), .int .i64, .int .u64], [(2, .one (.h 0))], [(39, [.h 1, .h 2, .h 3])], [], [], []⟩)]
def ann_s_l1Cur_sized_f : Ann := .seq .nil (.seq .nil (.seq (.seq .nil (.block [] (.seq .nil (.cond [(.n, ⟨[.int .i64, .sl false 5 (.int .u8), .int .i64, .int .u64], [(0, .pl 39 0), (3, .one (.h 0))], [(39, [.h 1, .h 2, .h 3])], [], [], []⟩)] .nil (.seq .nil (.cond [(.n, ⟨[.int .i64, .sl false 5 (.int .u8), .int .i64, .int .u64], [(0, .pl 39 0), (3, .one (.h 0))], [(39, [.h 1, .h 2, .h 3])], [], [], []⟩)] .nil (.seq .nil (.cond [(.n, ⟨[.int .i64, .sl false 5 (.int .u8), .int .i64, .int .u64], [(0, .pl 39 0), (3, .one (.h 0))], [(39, [.h 1, .h 2, .h 3])], [], [], []⟩)] .nil (.seq .nil (.cond [(.n, ⟨[.int .i64, .sl false 5 (.int .u8), .int .i64, .int .u64], [(0, .pl 39 0), (3, .one (.h 0))], [(39, [.h 1, .h 2, .h 3])], [], [], []⟩)] .nil .nil)))))))))) (.seq (.seq .nil (.cond [(.n, ⟨[.int .i64, .sl false 5 (.int .u8), .int .i64, .int .u64], [(3, .one (.h 0))], [(39, [.h 1, .h 2, .h 3])], [], [], []⟩)] .nil .nil)) .nil)))
def env_s_l1Cur_sized_f : Env := envOf ti [k_s_l1Cur_pick_f, k_s_l1Cur_wide_f, k_s_l1Cur_one_f] []
theorem eok_s_l1Cur_sized_f : EnvOk Try.prog env_s_l1Cur_sized_f := envOf_ok tab mix _ _ (by
  intro k hk
  simp only [List.mem_cons, List.not_mem_nil, or_false] at hk
  rcases hk with rfl | rfl | rfl
  · exact s_s_l1Cur_pick_f
  · exact s_s_l1Cur_wide_f
  · exact s_s_l1Cur_one_f)
theorem v_s_l1Cur_sized_f (x0 : List Int) (x1 : Int) (x2 : Int) : (vfun env_s_l1Cur_sized_f Try.f105 J_s_l1Cur_sized_f ann_s_l1Cur_sized_f [] [.pl 0 0] [[⟨.sl false 5 (.int .u8), x0⟩, ⟨.int .i64, x1⟩, ⟨.int .u64, x2⟩]]).run = (G.s_l1Cur_sized_f x0 x1 x2).bind fun y => some (Res.mk [.one ⟨.int .i64, y.1⟩] [[⟨.sl false 5 (.int .u8), y.2.1⟩, ⟨.int .i64, y.2.2.1⟩, ⟨.int .u64, y.2.2.2⟩]] []) := by kernel_rfl
def k_s_l1Cur_sized_f : Kn := ⟨105, [0], fun args rows => match args, rows with
  | [.pl 0 0], [[⟨.sl false 5 (.int .u8), x0⟩, ⟨.int .i64, x1⟩, ⟨.int .u64, x2⟩]] => some ⟨_, G.s_l1Cur_sized_f x0 x1 x2, fun y => ⟨[.one ⟨.int .i64, y.1⟩], [[⟨.sl false 5 (.int .u8), y.2.1⟩, ⟨.int .i64, y.2.2.1⟩, ⟨.int .u64, y.2.2.2⟩]], []⟩⟩
  | _, _ => none, []⟩
theorem s_s_l1Cur_sized_f : KnOk Try.prog k_s_l1Cur_sized_f := by
  intro args rows a h y hy
  simp only [k_s_l1Cur_sized_f] at h
  split at h
  · injection h with h
    subst h
    exact vfun_ok eok_s_l1Cur_sized_f Try.func105 rfl (by rw [v_s_l1Cur_sized_f]; simp only at hy; rw [hy]; rfl)
  · cases h
def J_s_l1Cur_part_f : Joins := [(.r, ⟨[.int .i64, .int .i64, .str, .sl false 5 (.int .u8), .int .i64, .int .u64], [(2, .pl 2 0)], [(2, [.h 0, .h 1, .h 2]), (28, [.h 3, .h 4, .h 5])], [], [], []⟩)]
def ann_s_l1Cur_part_f : Ann := .nil
def env_s_l1Cur_part_f : Env := envOf ti [k_s_l1Cur_pick_f, k_s_l1Cur_sized_f] []
theorem eok_s_l1Cur_part_f : EnvOk Try.prog env_s_l1Cur_part_f := envOf_ok tab mix _ _ (by
  intro k hk
  simp only [List.mem_cons, List.not_mem_nil, or_false] at hk
  rcases hk with rfl | rfl
  · exact s_s_l1Cur_pick_f
  · exact s_s_l1Cur_sized_f)
theorem v_s_l1Cur_part_f (x0 : List Int) (x1 : Int) (x2 : Int) : (vfun env_s_l1Cur_part_f Try.f78 J_s_l1Cur_part_f ann_s_l1Cur_part_f [] [.pl 0 0] [[⟨.sl false 5 (.int .u8), x0⟩, ⟨.int .i64, x1⟩, ⟨.int .u64, x2⟩]]).run = (G.s_l1Cur_part_f x0 x1 x2).bind fun y => some (Res.mk [.ag [⟨.int .i64, y.1⟩, ⟨.int .i64, y.2.1⟩, ⟨.str, y.2.2.1⟩]] [[⟨.sl false 5 (.int .u8), y.2.2.2.1⟩, ⟨.int .i64, y.2.2.2.2.1⟩, ⟨.int .u64, y.2.2.2.2.2⟩]] []) := by kernel_rfl
def k_s_l1Cur_part_f : Kn := ⟨78, [0], fun args rows => match args, rows with
  | [.pl 0 0], [[⟨.sl false 5 (.int .u8), x0⟩, ⟨.int .i64, x1⟩, ⟨.int .u64, x2⟩]] => some ⟨_, G.s_l1Cur_part_f x0 x1 x2, fun y => ⟨[.ag [⟨.int .i64, y.1⟩, ⟨.int .i64, y.2.1⟩, ⟨.str, y.2.2.1⟩]], [[⟨.sl false 5 (.int .u8), y.2.2.2.1⟩, ⟨.int .i64, y.2.2.2.2.1⟩, ⟨.int .u64, y.2.2.2.2.2⟩]], []⟩⟩
  | _, _ => none, []⟩
theorem s_s_l1Cur_part_f : KnOk Try.prog k_s_l1Cur_part_f := by
  intro args rows a h y hy
  simp only [k_s_l1Cur_part_f] at h
  split at h
  · injection h with h
    subst h
    exact vfun_ok eok_s_l1Cur_part_f Try.func78 rfl (by rw [v_s_l1Cur_part_f]; simp only at hy; rw [hy]; rfl)
  · cases h
def J_s_l1Cur_changeOf_f : Joins := [(.r, ⟨[.sl true 34 (.pair (.int .i64) (.pair (.int .i64) .str)), .sl false 5 (.int .u8), .int .i64, .int .u64], [(4, .one (.vw 184393))], [(81, [.h 1, .h 2, .h 3])], [(184393, 0)], [], []⟩)]
def ann_s_l1Cur_changeOf_f : Ann := .seq .nil (.seq .nil (.seq .nil (.seq (.block [] (.loop ⟨[.int .i64, .sl true 34 (.pair (.int .i64) (.pair (.int .i64) .str)), .int .i64, .sl false 5 (.int .u8), .int .i64, .int .u64], [(0, .pl 81 0), (1, .one (.h 0)), (5, .one (.vw 184320)), (6, .one (.h 2))], [(81, [.h 3, .h 4, .h 5])], [(184320, 1)], [], []⟩ [(.x 0, ⟨[.sl true 34 (.pair (.int .i64) (.pair (.int .i64) .str)), .int .i64, .sl false 5 (.int .u8), .int .i64, .int .u64], [(0, .pl 81 0), (5, .one (.vw 184389)), (6, .one (.h 1))], [(81, [.h 2, .h 3, .h 4])], [(184389, 0)], [], []⟩)] (.seq .nil (.block [] (.seq (.seq .nil (.seq (.reg [(.n, ⟨[.int .i64, .sl true 34 (.pair (.int .i64) (.pair (.int .i64) .str)), .int .i64, .str, .bool, .sl false 5 (.int .u8), .int .i64, .int .u64], [(0, .pl 81 0), (1, .one (.h 0)), (5, .one (.vw 184384)), (6, .one (.h 2)), (7, .one (.h 3)), (23, .one (.h 4))], [(81, [.h 5, .h 6, .h 7])], [(184384, 1)], [], []⟩)]) (.cond [(.n, ⟨[.int .i64, .sl true 34 (.pair (.int .i64) (.pair (.int .i64) .str)), .int .i64, .sl false 5 (.int .u8), .int .i64, .int .u64], [(0, .pl 81 0), (1, .one (.h 0)), (5, .one (.vw 184385)), (6, .one (.h 2))], [(81, [.h 3, .h 4, .h 5])], [(184385, 1)], [], []⟩)] .nil .nil))) (.seq .nil (.seq (.seq .nil (.cond [(.n, ⟨[.int .i64, .sl true 34 (.pair (.int .i64) (.pair (.int .i64) .str)), .int .i64, .int .i64, .sl false 5 (.int .u8), .int .i64, .int .u64], [(0, .pl 81 0), (1, .one (.h 0)), (5, .one (.vw 184386)), (6, .one (.h 2)), (8, .one (.h 3))], [(81, [.h 4, .h 5, .h 6])], [(184386, 1)], [], []⟩)] .nil .nil)) (.seq (.seq .nil (.cond [(.n, ⟨[.int .i64, .sl true 34 (.pair (.int .i64) (.pair (.int .i64) .str)), .int .i64, .int .i64, .sl false 5 (.int .u8), .int .i64, .int .u64], [(0, .pl 81 0), (1, .one (.h 0)), (5, .one (.vw 184387)), (6, .one (.h 2)), (8, .one (.h 3))], [(81, [.h 4, .h 5, .h 6])], [(184387, 1)], [], []⟩)] .nil .nil)) (.seq (.seq .nil (.cond [(.n, ⟨[.int .i64, .sl true 34 (.pair (.int .i64) (.pair (.int .i64) .str)), .int .i64, .int .i64, .sl false 5 (.int .u8), .int .i64, .int .u64], [(0, .pl 81 0), (1, .one (.h 0)), (5, .one (.vw 184388)), (6, .one (.h 2)), (8, .one (.h 3))], [(81, [.h 4, .h 5, .h 6])], [(184388, 1)], [], []⟩)] .nil .nil)) .nil))))))))) (.seq (.seq .nil (.seq (.reg [(.n, ⟨[.sl true 34 (.pair (.int .i64) (.pair (.int .i64) .str)), .str, .bool, .sl false 5 (.int .u8), .int .i64, .int .u64], [(0, .pl 81 0), (5, .one (.vw 184390)), (9, .one (.h 1)), (67, .one (.h 2))], [(81, [.h 3, .h 4, .h 5])], [(184390, 0)], [], []⟩)]) (.cond [(.n, ⟨[.sl true 34 (.pair (.int .i64) (.pair (.int .i64) .str)), .sl false 5 (.int .u8), .int .i64, .int .u64], [(0, .pl 81 0), (5, .one (.vw 184391))], [(81, [.h 1, .h 2, .h 3])], [(184391, 0)], [], []⟩)] .nil .nil))) (.seq (.seq .nil (.cond [(.n, ⟨[.sl true 34 (.pair (.int .i64) (.pair (.int .i64) .str)), .sl false 5 (.int .u8), .int .i64, .int .u64], [(5, .one (.vw 184392))], [(81, [.h 1, .h 2, .h 3])], [(184392, 0)], [], []⟩)] .nil .nil)) .nil)))))
def env_s_l1Cur_changeOf_f : Env := envOf ti [k_s_l1Cur_put_f, k_s_l1Cur_one_f, k_s_l1Add, k_s_l1Cur_pick_f, k_s_l1Cur_part_f] []
theorem eok_s_l1Cur_changeOf_f : EnvOk Try.prog env_s_l1Cur_changeOf_f := envOf_ok tab mix _ _ (by
  intro k hk
  simp only [List.mem_cons, List.not_mem_nil, or_false] at hk
  rcases hk with rfl | rfl | rfl | rfl | rfl
  · exact s_s_l1Cur_put_f
  · exact s_s_l1Cur_one_f
  · exact s_s_l1Add
  · exact s_s_l1Cur_pick_f
  · exact s_s_l1Cur_part_f)
theorem v_s_l1Cur_changeOf_f (x0 : Int) (x1 : List Int) (x2 : Int) (x3 : Int) : (vfun env_s_l1Cur_changeOf_f Try.f30 J_s_l1Cur_changeOf_f ann_s_l1Cur_changeOf_f [] [.pl 0 0, .one ⟨.int .i64, x0⟩] [[⟨.sl false 5 (.int .u8), x1⟩, ⟨.int .i64, x2⟩, ⟨.int .u64, x3⟩]]).run = (G.s_l1Cur_changeOf_f x0 x1 x2 x3).bind fun y => some (Res.mk [.one ⟨.sl true 34 (.pair (.int .i64) (.pair (.int .i64) .str)), y.1⟩] [[⟨.sl false 5 (.int .u8), y.2.1⟩, ⟨.int .i64, y.2.2.1⟩, ⟨.int .u64, y.2.2.2⟩]] []) := by kernel_rfl
def k_s_l1Cur_changeOf_f : Kn := ⟨30, [0, 0], fun args rows => match args, rows with
  | [.pl 0 0, .one ⟨.int .i64, x0⟩], [[⟨.sl false 5 (.int .u8), x1⟩, ⟨.int .i64, x2⟩, ⟨.int .u64, x3⟩]] => some ⟨_, G.s_l1Cur_changeOf_f x0 x1 x2 x3, fun y => ⟨[.one ⟨.sl true 34 (.pair (.int .i64) (.pair (.int .i64) .str)), y.1⟩], [[⟨.sl false 5 (.int .u8), y.2.1⟩, ⟨.int .i64, y.2.2.1⟩, ⟨.int .u64, y.2.2.2⟩]], []⟩⟩
  | _, _ => none, []⟩
theorem s_s_l1Cur_changeOf_f : KnOk Try.prog k_s_l1Cur_changeOf_f := by
  intro args rows a h y hy
  simp only [k_s_l1Cur_changeOf_f] at h
  split at h
  · injection h with h
    subst h
    exact vfun_ok eok_s_l1Cur_changeOf_f Try.func30 rfl (by rw [v_s_l1Cur_changeOf_f]; simp only at hy; rw [hy]; rfl)
  · cases h
end
end Go.Proofs.Ythpnmoiohfiggaa

set_option linter.unusedVariables false
set_option maxRecDepth 100000
namespace Go.Proofs.Ythpnmoiohfiggaa
open Go.V
noncomputable section
def J_s_l1Cur_among_f : Joins := [(.r, ⟨[.int .i64, .sl false 5 (.int .u8), .int .i64, .int .u64], [(4, .one (.h 0))], [(13, [.h 1, .h 2, .h 3])], [], [], []⟩)]
def ann_s_l1Cur_among_f : Ann := .nil
def env_s_l1Cur_among_f : Env := envOf ti [k_s_l1Cur_pick_f] []
theorem eok_s_l1Cur_among_f : EnvOk Try.prog env_s_l1Cur_among_f := envOf_ok tab mix _ _ (by
  intro k hk
  simp only [List.mem_cons, List.not_mem_nil, or_false] at hk
  rcases hk with rfl
  · exact s_s_l1Cur_pick_f)
theorem v_s_l1Cur_among_f (x0 : List Int) (x1 : List Int) (x2 : Int) (x3 : Int) : (vfun env_s_l1Cur_among_f Try.f33 J_s_l1Cur_among_f ann_s_l1Cur_among_f [] [.pl 0 0, .one ⟨.sl true 3 (.int .i64), x0⟩] [[⟨.sl false 5 (.int .u8), x1⟩, ⟨.int .i64, x2⟩, ⟨.int .u64, x3⟩]]).run = (G.s_l1Cur_among_f x0 x1 x2 x3).bind fun y => some (Res.mk [.one ⟨.int .i64, y.1⟩] [[⟨.sl false 5 (.int .u8), y.2.1⟩, ⟨.int .i64, y.2.2.1⟩, ⟨.int .u64, y.2.2.2⟩]] []) := by kernel_rfl
def k_s_l1Cur_among_f : Kn := ⟨33, [0, 1], fun args rows => match args, rows with
  | [.pl 0 0, .one ⟨.sl true 3 (.int .i64), x0⟩], [[⟨.sl false 5 (.int .u8), x1⟩, ⟨.int .i64, x2⟩, ⟨.int .u64, x3⟩]] => some ⟨_, G.s_l1Cur_among_f x0 x1 x2 x3, fun y => ⟨[.one ⟨.int .i64, y.1⟩], [[⟨.sl false 5 (.int .u8), y.2.1⟩, ⟨.int .i64, y.2.2.1⟩, ⟨.int .u64, y.2.2.2⟩]], []⟩⟩
  | _, _ => none, []⟩
theorem s_s_l1Cur_among_f : KnOk Try.prog k_s_l1Cur_among_f := by
  intro args rows a h y hy
  simp only [k_s_l1Cur_among_f] at h
  split at h
  · injection h with h
    subst h
    exact vfun_ok eok_s_l1Cur_among_f Try.func33 rfl (by rw [v_s_l1Cur_among_f]; simp only at hy; rw [hy]; rfl)
  · cases h
def J_s_l9Add : Joins := [(.r, ⟨[.sl true 76 (.pair (.int .i64) (.int .i64))], [(4, .one (.vw 144385))], [], [(144385, 0)], [], []⟩)]
def ann_s_l9Add : Ann := .seq .nil (.seq .nil (.seq (.seq .nil (.seq (.reg [(.n, ⟨[.sl true 76 (.pair (.int .i64) (.int .i64)), .int .i64, .bool, .int .i64, .int .i64], [(0, .one (.vw 144384)), (3, .pl 3 0), (5, .one (.h 1)), (24, .one (.h 2))], [(3, [.h 3, .h 4])], [(144384, 0)], [], []⟩)]) .nil)) .nil))
def env_s_l9Add : Env := envOf ti [] []
theorem eok_s_l9Add : EnvOk Try.prog env_s_l9Add := envOf_ok tab mix _ _ (by
  intro k hk; cases hk)
theorem v_s_l9Add (x0 : List (Int × Int)) (x1 : Int) (x2 : Int) : (vfun env_s_l9Add Try.f80 J_s_l9Add ann_s_l9Add [] [.one ⟨.sl true 76 (.pair (.int .i64) (.int .i64)), x0⟩, .ag [⟨.int .i64, x1⟩, ⟨.int .i64, x2⟩]] []).run = (G.s_l9Add x0 x1 x2).bind fun y => some (Res.mk [.one ⟨.sl true 76 (.pair (.int .i64) (.int .i64)), y⟩] [] []) := by kernel_rfl
def k_s_l9Add : Kn := ⟨80, [1, 0], fun args rows => match args, rows with
  | [.one ⟨.sl true 76 (.pair (.int .i64) (.int .i64)), x0⟩, .ag [⟨.int .i64, x1⟩, ⟨.int .i64, x2⟩]], [] => some ⟨_, G.s_l9Add x0 x1 x2, fun y => ⟨[.one ⟨.sl true 76 (.pair (.int .i64) (.int .i64)), y⟩], [], []⟩⟩
  | _, _ => none, []⟩
theorem s_s_l9Add : KnOk Try.prog k_s_l9Add := by
  intro args rows a h y hy
  simp only [k_s_l9Add] at h
  split at h
  · injection h with h
    subst h
    exact vfun_ok eok_s_l9Add Try.func80 rfl (by rw [v_s_l9Add]; simp only at hy; rw [hy]; rfl)
  · cases h
def J_s_l1Cur_runs_f : Joins := [(.r, ⟨[.sl true 76 (.pair (.int .i64) (.int .i64)), .sl false 5 (.int .u8), .int .i64, .int .u64], [(6, .one (.vw 161861))], [(59, [.h 1, .h 2, .h 3])], [(161861, 0)], [], []⟩)]
def ann_s_l1Cur_runs_f : Ann := .seq .nil (.seq .nil (.seq (.block [] (.loop ⟨[.int .i64, .int .i64, .sl true 76 (.pair (.int .i64) (.int .i64)), .sl false 5 (.int .u8), .int .i64, .int .u64], [(0, .pl 59 0), (1, .one (.h 0)), (2, .one (.h 1)), (7, .one (.vw 161792))], [(59, [.h 3, .h 4, .h 5])], [(161792, 2)], [], []⟩ [(.x 0, ⟨[.sl true 76 (.pair (.int .i64) (.int .i64)), .sl false 5 (.int .u8), .int .i64, .int .u64], [(0, .pl 59 0), (7, .one (.vw 161857))], [(59, [.h 1, .h 2, .h 3])], [(161857, 0)], [], []⟩)] (.seq .nil (.block [] (.seq .nil (.seq (.seq .nil (.cond [(.n, ⟨[.int .i64, .int .i64, .sl true 76 (.pair (.int .i64) (.int .i64)), .int .i64, .sl false 5 (.int .u8), .int .i64, .int .u64], [(0, .pl 59 0), (1, .one (.h 0)), (2, .one (.h 1)), (7, .one (.vw 161856)), (8, .one (.h 3))], [(59, [.h 4, .h 5, .h 6])], [(161856, 2)], [], []⟩)] .nil .nil)) .nil)))))) (.seq (.seq .nil (.block [] (.seq .nil (.cond [(.n, ⟨[.sl true 76 (.pair (.int .i64) (.int .i64)), .sl false 5 (.int .u8), .int .i64, .int .u64], [(7, .one (.vw 161860))], [(59, [.h 1, .h 2, .h 3])], [(161860, 0)], [], []⟩)] .nil (.seq .nil (.cond [(.n, ⟨[.sl true 76 (.pair (.int .i64) (.int .i64)), .sl false 5 (.int .u8), .int .i64, .int .u64], [(7, .one (.vw 161859))], [(59, [.h 1, .h 2, .h 3])], [(161859, 0)], [], []⟩)] (.seq .nil (.cond [(.n, ⟨[.sl true 76 (.pair (.int .i64) (.int .i64)), .sl false 5 (.int .u8), .int .i64, .int .u64], [(7, .one (.vw 161858))], [(59, [.h 1, .h 2, .h 3])], [(161858, 0)], [], []⟩)] .nil .nil)) .nil)))))) .nil)))
def env_s_l1Cur_runs_f : Env := envOf ti [k_s_l1Cur_pick_f, k_s_l9Add, k_s_l1Cur_among_f] []
theorem eok_s_l1Cur_runs_f : EnvOk Try.prog env_s_l1Cur_runs_f := envOf_ok tab mix _ _ (by
  intro k hk
  simp only [List.mem_cons, List.not_mem_nil, or_false] at hk
  rcases hk with rfl | rfl | rfl
  · exact s_s_l1Cur_pick_f
  · exact s_s_l9Add
  · exact s_s_l1Cur_among_f)
theorem v_s_l1Cur_runs_f (x0 : Int) (x1 : Int) (x2 : List Int) (x3 : Int) (x4 : Int) : (vfun env_s_l1Cur_runs_f Try.f34 J_s_l1Cur_runs_f ann_s_l1Cur_runs_f [] [.pl 0 0, .one ⟨.int .i64, x0⟩, .one ⟨.int .i64, x1⟩] [[⟨.sl false 5 (.int .u8), x2⟩, ⟨.int .i64, x3⟩, ⟨.int .u64, x4⟩]]).run = (G.s_l1Cur_runs_f x0 x1 x2 x3 x4).bind fun y => some (Res.mk [.one ⟨.sl true 76 (.pair (.int .i64) (.int .i64)), y.1⟩] [[⟨.sl false 5 (.int .u8), y.2.1⟩, ⟨.int .i64, y.2.2.1⟩, ⟨.int .u64, y.2.2.2⟩]] []) := by kernel_rfl
def k_s_l1Cur_runs_f : Kn := ⟨34, [0, 0, 0], fun args rows => match args, rows with
  | [.pl 0 0, .one ⟨.int .i64, x0⟩, .one ⟨.int .i64, x1⟩], [[⟨.sl false 5 (.int .u8), x2⟩, ⟨.int .i64, x3⟩, ⟨.int .u64, x4⟩]] => some ⟨_, G.s_l1Cur_runs_f x0 x1 x2 x3 x4, fun y => ⟨[.one ⟨.sl true 76 (.pair (.int .i64) (.int .i64)), y.1⟩], [[⟨.sl false 5 (.int .u8), y.2.1⟩, ⟨.int .i64, y.2.2.1⟩, ⟨.int .u64, y.2.2.2⟩]], []⟩⟩
  | _, _ => none, []⟩
theorem s_s_l1Cur_runs_f : KnOk Try.prog k_s_l1Cur_runs_f := by
  intro args rows a h y hy
  simp only [k_s_l1Cur_runs_f] at h
  split at h
  · injection h with h
    subst h
    exact vfun_ok eok_s_l1Cur_runs_f Try.func34 rfl (by rw [v_s_l1Cur_runs_f]; simp only at hy; rw [hy]; rfl)
  · cases h
def J_s_DrawCarryRuns : Joins := [(.r, ⟨[.sl true 76 (.pair (.int .i64) (.int .i64)), .sl true 34 (.pair (.int .i64) (.pair (.int .i64) .str)), .int .i64], [(2, .one (.vw 136194)), (3, .one (.vw 136195)), (4, .one (.h 2))], [], [(136194, 0), (136195, 1)], [], []⟩)]
def ann_s_DrawCarryRuns : Ann := .seq .nil (.seq .nil (.seq .nil (.seq .nil (.seq (.seq .nil (.cond [(.n, ⟨[.int .i64, .sl true 34 (.pair (.int .i64) (.pair (.int .i64) .str)), .sl false 5 (.int .u8), .int .i64, .int .u64], [(5, .pl 11 0), (6, .one (.h 0)), (7, .one (.vw 136192))], [(11, [.h 2, .h 3, .h 4])], [(136192, 1)], [], []⟩)] .nil .nil)) (.seq .nil (.seq (.seq .nil (.cond [(.n, ⟨[.int .i64, .sl true 34 (.pair (.int .i64) (.pair (.int .i64) .str)), .int .i64, .sl false 5 (.int .u8), .int .i64, .int .u64], [(5, .pl 11 0), (6, .one (.h 0)), (7, .one (.vw 136193)), (8, .one (.h 2))], [(11, [.h 3, .h 4, .h 5])], [(136193, 1)], [], []⟩)] .nil .nil)) .nil))))))
def env_s_DrawCarryRuns : Env := envOf ti [k_s_l1Cur_size_f, k_s_l1Cur_changeOf_f, k_s_l1Cur_one_f, k_s_l1Cur_pick_f, k_s_l1Cur_among_f, k_s_l1Cur_runs_f] []
theorem eok_s_DrawCarryRuns : EnvOk Try.prog env_s_DrawCarryRuns := envOf_ok tab mix _ _ (by
  intro k hk
  simp only [List.mem_cons, List.not_mem_nil, or_false] at hk
  rcases hk with rfl | rfl | rfl | rfl | rfl | rfl
  · exact s_s_l1Cur_size_f
  · exact s_s_l1Cur_changeOf_f
  · exact s_s_l1Cur_one_f
  · exact s_s_l1Cur_pick_f
  · exact s_s_l1Cur_among_f
  · exact s_s_l1Cur_runs_f)
theorem v_s_DrawCarryRuns (x0 : List Int) : (vfun env_s_DrawCarryRuns Try.f6 J_s_DrawCarryRuns ann_s_DrawCarryRuns [] [.one ⟨.sl false 5 (.int .u8), x0⟩] []).run = (G.s_DrawCarryRuns x0).bind fun y => some (Res.mk [.one ⟨.sl true 76 (.pair (.int .i64) (.int .i64)), y.1⟩, .one ⟨.sl true 34 (.pair (.int .i64) (.pair (.int .i64) .str)), y.2.1⟩, .one ⟨.int .i64, y.2.2⟩] [] []) := by kernel_rfl
def k_s_DrawCarryRuns : Kn := ⟨6, [0], fun args rows => match args, rows with
  | [.one ⟨.sl false 5 (.int .u8), x0⟩], [] => some ⟨_, G.s_DrawCarryRuns x0, fun y => ⟨[.one ⟨.sl true 76 (.pair (.int .i64) (.int .i64)), y.1⟩, .one ⟨.sl true 34 (.pair (.int .i64) (.pair (.int .i64) .str)), y.2.1⟩, .one ⟨.int .i64, y.2.2⟩], [], []⟩⟩
  | _, _ => none, []⟩
theorem s_s_DrawCarryRuns : KnOk Try.prog k_s_DrawCarryRuns := by
  intro args rows a h y hy
  simp only [k_s_DrawCarryRuns] at h
  split at h
  · injection h with h
    subst h
    exact vfun_ok eok_s_DrawCarryRuns Try.func6 rfl (by rw [v_s_DrawCarryRuns]; simp only at hy; rw [hy]; rfl)
  · cases h
def J_i_Part_kind : Joins := [(.r, ⟨[.int .i64], [(2, .one (.h 0))], [], [], [], []⟩)]
def ann_i_Part_kind : Ann := .seq .nil (.seq (.block [] (.seq (.reg [(.n, ⟨[.bool, .int .i64, .int .i64, .str], [(1, .pl 1 0), (3, .one (.h 0))], [(1, [.h 1, .h 2, .h 3])], [], [], []⟩)]) (.cond [] .nil (.seq (.reg [(.n, ⟨[.bool, .int .i64, .int .i64, .str], [(1, .pl 1 0), (17, .one (.h 0))], [(1, [.h 1, .h 2, .h 3])], [], [], []⟩)]) (.cond [] .nil (.seq (.reg [(.n, ⟨[.bool], [(31, .one (.h 0))], [], [], [], []⟩)]) .nil)))))) .nil)
def env_i_Part_kind : Env := envOf ti [] []
theorem eok_i_Part_kind : EnvOk Try.prog env_i_Part_kind := envOf_ok tab mix _ _ (by
  intro k hk; cases hk)
theorem v_i_Part_kind (x0 : Int) (x1 : Int) (x2 : List UInt8) : (vfun env_i_Part_kind Try.f106 J_i_Part_kind ann_i_Part_kind [] [.ag [⟨.int .i64, x0⟩, ⟨.int .i64, x1⟩, ⟨.str, x2⟩]] []).run = (G.i_Part_kind x0 x1 x2).bind fun y => some (Res.mk [.one ⟨.int .i64, y⟩] [] []) := by kernel_rfl
def k_i_Part_kind : Kn := ⟨106, [0], fun args rows => match args, rows with
  | [.ag [⟨.int .i64, x0⟩, ⟨.int .i64, x1⟩, ⟨.str, x2⟩]], [] => some ⟨_, G.i_Part_kind x0 x1 x2, fun y => ⟨[.one ⟨.int .i64, y⟩], [], []⟩⟩
  | _, _ => none, []⟩
theorem s_i_Part_kind : KnOk Try.prog k_i_Part_kind := by
  intro args rows a h y hy
  simp only [k_i_Part_kind] at h
  split at h
  · injection h with h
    subst h
    exact vfun_ok eok_i_Part_kind Try.func106 rfl (by rw [v_i_Part_kind]; simp only at hy; rw [hy]; rfl)
  · cases h
def J_i_lengths : Joins := [(.r, ⟨[.int .i64, .int .i64, .bool], [(2, .one (.h 0)), (3, .one (.h 1)), (4, .one (.h 2))], [], [], [], []⟩)]
def ann_i_lengths : Ann := .seq .nil (.seq .nil (.seq (.seq .nil (.block [] (.loop ⟨[.int .i64, .int .i64, .sl false 34 (.pair (.int .i64) (.pair (.int .i64) .str)), .int .i64, .int .i64], [(5, .one (.h 0)), (6, .one (.h 1)), (9, .one (.h 2)), (10, .one (.h 3)), (11, .one (.h 4))], [], [], [], []⟩ [(.x 0, ⟨[.int .i64, .int .i64], [(5, .one (.h 0)), (6, .one (.h 1))], [], [], [], []⟩), (.r, ⟨[.int .i64, .int .i64, .bool], [(2, .one (.h 0)), (3, .one (.h 1)), (4, .one (.h 2))], [], [], [], []⟩)] (.seq .nil (.seq .nil (.seq (.block [] (.seq .nil (.seq (.seq (.reg [(.n, ⟨[.int .i64, .int .i64, .sl false 34 (.pair (.int .i64) (.pair (.int .i64) .str)), .int .i64, .int .i64, .bool, .int .i64, .int .i64, .str], [(5, .one (.h 0)), (6, .one (.h 1)), (8, .pl 8 0), (9, .one (.h 2)), (10, .one (.h 3)), (11, .one (.h 4)), (22, .one (.h 5))], [(8, [.h 6, .h 7, .h 8])], [], [], []⟩)]) .nil) (.seq .nil (.seq .nil (.seq (.reg [(.n, ⟨[.int .i64, .int .i64, .sl false 34 (.pair (.int .i64) (.pair (.int .i64) .str)), .int .i64, .int .i64, .bool], [(5, .one (.h 0)), (6, .one (.h 1)), (9, .one (.h 2)), (10, .one (.h 3)), (11, .one (.h 4)), (43, .one (.h 5))], [], [], [], []⟩)]) .nil)))))) .nil)))))) .nil))
def env_i_lengths : Env := envOf ti [] []
theorem eok_i_lengths : EnvOk Try.prog env_i_lengths := envOf_ok tab mix _ _ (by
  intro k hk; cases hk)
theorem v_i_lengths (x0 : List (Int × (Int × List UInt8))) : (vfun env_i_lengths Try.f82 J_i_lengths ann_i_lengths [] [.one ⟨.sl false 34 (.pair (.int .i64) (.pair (.int .i64) .str)), x0⟩] []).run = (G.i_lengths x0).bind fun y => some (Res.mk [.one ⟨.int .i64, y.1⟩, .one ⟨.int .i64, y.2.1⟩, .one ⟨.bool, y.2.2⟩] [] []) := by kernel_rfl
def k_i_lengths : Kn := ⟨82, [0], fun args rows => match args, rows with
  | [.one ⟨.sl false 34 (.pair (.int .i64) (.pair (.int .i64) .str)), x0⟩], [] => some ⟨_, G.i_lengths x0, fun y => ⟨[.one ⟨.int .i64, y.1⟩, .one ⟨.int .i64, y.2.1⟩, .one ⟨.bool, y.2.2⟩], [], []⟩⟩
  | _, _ => none, []⟩
theorem s_i_lengths : KnOk Try.prog k_i_lengths := by
  intro args rows a h y hy
  simp only [k_i_lengths] at h
  split at h
  · injection h with h
    subst h
    exact vfun_ok eok_i_lengths Try.func82 rfl (by rw [v_i_lengths]; simp only at hy; rw [hy]; rfl)
  · cases h
def J_i_GoodChange : Joins := [(.r, ⟨[.bool], [(2, .one (.h 0))], [], [], [], []⟩)]
def ann_i_GoodChange : Ann := .seq .nil (.seq (.seq .nil (.block [] (.loop ⟨[.sl false 34 (.pair (.int .i64) (.pair (.int .i64) .str)), .sl false 34 (.pair (.int .i64) (.pair (.int .i64) .str)), .int .i64, .int .i64], [(0, .one (.h 0)), (9, .one (.h 1)), (10, .one (.h 2)), (11, .one (.h 3))], [], [], [], []⟩ [(.x 0, ⟨[.sl false 34 (.pair (.int .i64) (.pair (.int .i64) .str))], [(0, .one (.h 0))], [], [], [], []⟩), (.r, ⟨[.bool], [(2, .one (.h 0))], [], [], [], []⟩)] (.seq .nil (.seq .nil (.seq (.block [] (.seq .nil (.seq .nil (.seq (.reg [(.n, ⟨[.sl false 34 (.pair (.int .i64) (.pair (.int .i64) .str)), .sl false 34 (.pair (.int .i64) (.pair (.int .i64) .str)), .int .i64, .int .i64, .bool], [(0, .one (.h 0)), (9, .one (.h 1)), (10, .one (.h 2)), (11, .one (.h 3)), (33, .one (.h 4))], [], [], [], []⟩)]) .nil)))) .nil)))))) .nil)
def env_i_GoodChange : Env := envOf ti [k_i_Part_kind, k_i_lengths] []
theorem eok_i_GoodChange : EnvOk Try.prog env_i_GoodChange := envOf_ok tab mix _ _ (by
  intro k hk
  simp only [List.mem_cons, List.not_mem_nil, or_false] at hk
  rcases hk with rfl | rfl
  · exact s_i_Part_kind
  · exact s_i_lengths)
theorem v_i_GoodChange (x0 : List (Int × (Int × List UInt8))) : (vfun env_i_GoodChange Try.f81 J_i_GoodChange ann_i_GoodChange [] [.one ⟨.sl false 34 (.pair (.int .i64) (.pair (.int .i64) .str)), x0⟩] []).run = (G.i_GoodChange x0).bind fun y => some (Res.mk [.one ⟨.bool, y⟩] [] []) := by kernel_rfl
def k_i_GoodChange : Kn := ⟨81, [0], fun args rows => match args, rows with
  | [.one ⟨.sl false 34 (.pair (.int .i64) (.pair (.int .i64) .str)), x0⟩], [] => some ⟨_, G.i_GoodChange x0, fun y => ⟨[.one ⟨.bool, y⟩], [], []⟩⟩
  | _, _ => none, []⟩
theorem s_i_GoodChange : KnOk Try.prog k_i_GoodChange := by
  intro args rows a h y hy
  simp only [k_i_GoodChange] at h
  split at h
  · injection h with h
    subst h
    exact vfun_ok eok_i_GoodChange Try.func81 rfl (by rw [v_i_GoodChange]; simp only at hy; rw [hy]; rfl)
  · cases h
def J_i_LengthsOf : Joins := [(.r, ⟨[.int .i64, .int .i64, .bool], [(2, .one (.h 0)), (3, .one (.h 1)), (4, .one (.h 2))], [], [], [], []⟩)]
def ann_i_LengthsOf : Ann := .nil
def env_i_LengthsOf : Env := envOf ti [k_i_GoodChange, k_i_lengths] []
theorem eok_i_LengthsOf : EnvOk Try.prog env_i_LengthsOf := envOf_ok tab mix _ _ (by
  intro k hk
  simp only [List.mem_cons, List.not_mem_nil, or_false] at hk
  rcases hk with rfl | rfl
  · exact s_i_GoodChange
  · exact s_i_lengths)
theorem v_i_LengthsOf (x0 : List (Int × (Int × List UInt8))) : (vfun env_i_LengthsOf Try.f35 J_i_LengthsOf ann_i_LengthsOf [] [.one ⟨.sl false 34 (.pair (.int .i64) (.pair (.int .i64) .str)), x0⟩] []).run = (G.i_LengthsOf x0).bind fun y => some (Res.mk [.one ⟨.int .i64, y.1⟩, .one ⟨.int .i64, y.2.1⟩, .one ⟨.bool, y.2.2⟩] [] []) := by kernel_rfl
def k_i_LengthsOf : Kn := ⟨35, [0], fun args rows => match args, rows with
  | [.one ⟨.sl false 34 (.pair (.int .i64) (.pair (.int .i64) .str)), x0⟩], [] => some ⟨_, G.i_LengthsOf x0, fun y => ⟨[.one ⟨.int .i64, y.1⟩, .one ⟨.int .i64, y.2.1⟩, .one ⟨.bool, y.2.2⟩], [], []⟩⟩
  | _, _ => none, []⟩
theorem s_i_LengthsOf : KnOk Try.prog k_i_LengthsOf := by
  intro args rows a h y hy
  simp only [k_i_LengthsOf] at h
  split at h
  · injection h with h
    subst h
    exact vfun_ok eok_i_LengthsOf Try.func35 rfl (by rw [v_i_LengthsOf]; simp only at hy; rw [hy]; rfl)
  · cases h
def J_i_within : Joins := [(.r, ⟨[.bool], [(6, .one (.h 0))], [], [], [], []⟩)]
def ann_i_within : Ann := .seq .nil (.seq (.reg [(.n, ⟨[.bool], [(6, .one (.h 0))], [], [], [], []⟩)]) .nil)
def env_i_within : Env := envOf ti [] []
theorem eok_i_within : EnvOk Try.prog env_i_within := envOf_ok tab mix _ _ (by
  intro k hk; cases hk)
theorem v_i_within (x0 : Int) (x1 : Int) (x2 : Int) : (vfun env_i_within Try.f36 J_i_within ann_i_within [] [.one ⟨.int .i64, x0⟩, .one ⟨.int .i64, x1⟩, .one ⟨.int .i64, x2⟩] []).run = (G.i_within x0 x1 x2).bind fun y => some (Res.mk [.one ⟨.bool, y⟩] [] []) := by kernel_rfl
def k_i_within : Kn := ⟨36, [0, 0, 0], fun args rows => match args, rows with
  | [.one ⟨.int .i64, x0⟩, .one ⟨.int .i64, x1⟩, .one ⟨.int .i64, x2⟩], [] => some ⟨_, G.i_within x0 x1 x2, fun y => ⟨[.one ⟨.bool, y⟩], [], []⟩⟩
  | _, _ => none, []⟩
theorem s_i_within : KnOk Try.prog k_i_within := by
  intro args rows a h y hy
  simp only [k_i_within] at h
  split at h
  · injection h with h
    subst h
    exact vfun_ok eok_i_within Try.func36 rfl (by rw [v_i_within]; simp only at hy; rw [hy]; rfl)
  · cases h
def J_i_GoodRuns : Joins := [(.r, ⟨[.bool], [(6, .one (.h 0))], [], [], [], []⟩)]
def ann_i_GoodRuns : Ann := .seq .nil (.seq (.seq (.reg [(.n, ⟨[.sl false 76 (.pair (.int .i64) (.int .i64)), .int .i64, .int .i64, .bool], [(0, .one (.h 0)), (1, .one (.h 1)), (2, .one (.h 2)), (17, .one (.h 3))], [], [], [], []⟩)]) .nil) (.seq .nil (.seq (.seq .nil (.block [] (.loop ⟨[.sl false 76 (.pair (.int .i64) (.int .i64)), .int .i64, .int .i64, .int .i64, .sl false 76 (.pair (.int .i64) (.int .i64)), .int .i64, .int .i64], [(0, .one (.h 0)), (1, .one (.h 1)), (2, .one (.h 2)), (7, .one (.h 3)), (18, .one (.h 4)), (19, .one (.h 5)), (20, .one (.h 6))], [], [], [], []⟩ [(.x 0, ⟨[.int .i64, .int .i64], [(1, .one (.h 0)), (7, .one (.h 1))], [], [], [], []⟩), (.r, ⟨[.bool], [(6, .one (.h 0))], [], [], [], []⟩)] (.seq .nil (.seq .nil (.seq (.block [] (.seq .nil (.seq (.seq (.reg [(.n, ⟨[.sl false 76 (.pair (.int .i64) (.int .i64)), .int .i64, .int .i64, .int .i64, .sl false 76 (.pair (.int .i64) (.int .i64)), .int .i64, .int .i64, .bool, .int .i64, .int .i64], [(0, .one (.h 0)), (1, .one (.h 1)), (2, .one (.h 2)), (7, .one (.h 3)), (9, .pl 9 0), (18, .one (.h 4)), (19, .one (.h 5)), (20, .one (.h 6)), (50, .one (.h 7))], [(9, [.h 8, .h 9])], [], [], []⟩)]) .nil) .nil))) .nil)))))) .nil)))
def env_i_GoodRuns : Env := envOf ti [k_i_within] []
theorem eok_i_GoodRuns : EnvOk Try.prog env_i_GoodRuns := envOf_ok tab mix _ _ (by
  intro k hk
  simp only [List.mem_cons, List.not_mem_nil, or_false] at hk
  rcases hk with rfl
  · exact s_i_within)
theorem v_i_GoodRuns (x0 : List (Int × Int)) (x1 : Int) (x2 : Int) : (vfun env_i_GoodRuns Try.f11 J_i_GoodRuns ann_i_GoodRuns [] [.one ⟨.sl false 76 (.pair (.int .i64) (.int .i64)), x0⟩, .one ⟨.int .i64, x1⟩, .one ⟨.int .i64, x2⟩] []).run = (G.i_GoodRuns x0 x1 x2).bind fun y => some (Res.mk [.one ⟨.bool, y⟩] [] []) := by kernel_rfl
def k_i_GoodRuns : Kn := ⟨11, [0, 0, 0], fun args rows => match args, rows with
  | [.one ⟨.sl false 76 (.pair (.int .i64) (.int .i64)), x0⟩, .one ⟨.int .i64, x1⟩, .one ⟨.int .i64, x2⟩], [] => some ⟨_, G.i_GoodRuns x0 x1 x2, fun y => ⟨[.one ⟨.bool, y⟩], [], []⟩⟩
  | _, _ => none, []⟩
theorem s_i_GoodRuns : KnOk Try.prog k_i_GoodRuns := by
  intro args rows a h y hy
  simp only [k_i_GoodRuns] at h
  split at h
  · injection h with h
    subst h
    exact vfun_ok eok_i_GoodRuns Try.func11 rfl (by rw [v_i_GoodRuns]; simp only at hy; rw [hy]; rfl)
  · cases h
def J_i_revs : Joins := [(.r, ⟨[.sl true 3 (.int .i64)], [(2, .one (.vw 128130))], [], [(128130, 0)], [], []⟩)]
def ann_i_revs : Ann := .seq .nil (.seq .nil (.seq (.seq .nil (.block [] (.loop ⟨[.sl true 3 (.int .i64), .sl false 76 (.pair (.int .i64) (.int .i64)), .int .i64, .int .i64], [(3, .one (.vw 128000)), (7, .one (.h 1)), (8, .one (.h 2)), (9, .one (.h 3))], [], [(128000, 0)], [], []⟩ [(.x 0, ⟨[.sl true 3 (.int .i64)], [(3, .one (.vw 128129))], [], [(128129, 0)], [], []⟩)] (.seq .nil (.seq .nil (.seq (.block [] (.seq .nil (.seq .nil (.block [] (.loop ⟨[.sl true 3 (.int .i64), .sl false 76 (.pair (.int .i64) (.int .i64)), .int .i64, .int .i64, .int .i64, .int .i64, .int .i64, .int .i64], [(3, .one (.vw 128064)), (5, .pl 5 0), (7, .one (.h 1)), (8, .one (.h 2)), (9, .one (.h 3)), (14, .one (.h 4)), (15, .one (.h 5))], [(5, [.h 6, .h 7])], [(128064, 0)], [], []⟩ [(.x 2, ⟨[.sl true 3 (.int .i64), .sl false 76 (.pair (.int .i64) (.int .i64)), .int .i64, .int .i64], [(3, .one (.vw 128128)), (7, .one (.h 1)), (8, .one (.h 2)), (9, .one (.h 3))], [], [(128128, 0)], [], []⟩)] .nil))))) .nil)))))) .nil))
def env_i_revs : Env := envOf ti [] []
theorem eok_i_revs : EnvOk Try.prog env_i_revs := envOf_ok tab mix _ _ (by
  intro k hk; cases hk)
theorem v_i_revs (x0 : List (Int × Int)) : (vfun env_i_revs Try.f45 J_i_revs ann_i_revs [] [.one ⟨.sl false 76 (.pair (.int .i64) (.int .i64)), x0⟩] []).run = (G.i_revs x0).bind fun y => some (Res.mk [.one ⟨.sl true 3 (.int .i64), y⟩] [] []) := by kernel_rfl
def k_i_revs : Kn := ⟨45, [0], fun args rows => match args, rows with
  | [.one ⟨.sl false 76 (.pair (.int .i64) (.int .i64)), x0⟩], [] => some ⟨_, G.i_revs x0, fun y => ⟨[.one ⟨.sl true 3 (.int .i64), y⟩], [], []⟩⟩
  | _, _ => none, []⟩
theorem s_i_revs : KnOk Try.prog k_i_revs := by
  intro args rows a h y hy
  simp only [k_i_revs] at h
  split at h
  · injection h with h
    subst h
    exact vfun_ok eok_i_revs Try.func45 rfl (by rw [v_i_revs]; simp only at hy; rw [hy]; rfl)
  · cases h
def J_i_runs : Joins := [(.r, ⟨[.sl true 76 (.pair (.int .i64) (.int .i64))], [(2, .one (.vw 147523))], [], [(147523, 0)], [], []⟩)]
def ann_i_runs : Ann := .seq .nil (.seq .nil (.seq (.seq .nil (.block [] (.loop ⟨[.sl true 76 (.pair (.int .i64) (.int .i64)), .sl false 3 (.int .i64), .int .i64, .int .i64], [(3, .one (.vw 147456)), (8, .one (.h 1)), (9, .one (.h 2)), (10, .one (.h 3))], [], [(147456, 0)], [], []⟩ [(.x 0, ⟨[.sl true 76 (.pair (.int .i64) (.int .i64))], [(3, .one (.vw 147522))], [], [(147522, 0)], [], []⟩)] (.seq .nil (.seq .nil (.seq (.block [] (.seq .nil (.seq .nil (.seq (.reg [(.n, ⟨[.sl true 76 (.pair (.int .i64) (.int .i64)), .int .i64, .int .i64, .sl false 3 (.int .i64), .int .i64, .int .i64, .bool], [(3, .one (.vw 147520)), (5, .one (.h 1)), (6, .one (.h 2)), (8, .one (.h 3)), (9, .one (.h 4)), (10, .one (.h 5)), (27, .one (.h 6))], [], [(147520, 0)], [], []⟩)]) (.cond [(.n, ⟨[.sl true 76 (.pair (.int .i64) (.int .i64)), .sl false 3 (.int .i64), .int .i64, .int .i64], [(3, .one (.vw 147521)), (8, .one (.h 1)), (9, .one (.h 2)), (10, .one (.h 3))], [], [(147521, 0)], [], []⟩)] .nil .nil))))) .nil)))))) .nil))
def env_i_runs : Env := envOf ti [] []
theorem eok_i_runs : EnvOk Try.prog env_i_runs := envOf_ok tab mix _ _ (by
  intro k hk; cases hk)
theorem v_i_runs (x0 : List Int) : (vfun env_i_runs Try.f83 J_i_runs ann_i_runs [] [.one ⟨.sl false 3 (.int .i64), x0⟩] []).run = (G.i_runs x0).bind fun y => some (Res.mk [.one ⟨.sl true 76 (.pair (.int .i64) (.int .i64)), y⟩] [] []) := by kernel_rfl
def k_i_runs : Kn := ⟨83, [0], fun args rows => match args, rows with
  | [.one ⟨.sl false 3 (.int .i64), x0⟩], [] => some ⟨_, G.i_runs x0, fun y => ⟨[.one ⟨.sl true 76 (.pair (.int .i64) (.int .i64)), y⟩], [], []⟩⟩
  | _, _ => none, []⟩
theorem s_i_runs : KnOk Try.prog k_i_runs := by
  intro args rows a h y hy
  simp only [k_i_runs] at h
  split at h
  · injection h with h
    subst h
    exact vfun_ok eok_i_runs Try.func83 rfl (by rw [v_i_runs]; simp only at hy; rw [hy]; rfl)
  · cases h
end
end Go.Proofs.Ythpnmoiohfiggaa

set_option linter.unusedVariables false
set_option maxRecDepth 100000
namespace Go.Proofs.Ythpnmoiohfiggaa
open Go.V
noncomputable section
def J_i_carryRuns : Joins := [(.r, ⟨[.sl true 76 (.pair (.int .i64) (.int .i64))], [(6, .one (.vw 153731))], [], [(153731, 0)], [], []⟩)]
def ann_i_carryRuns : Ann := .seq .nil (.seq .nil (.seq (.seq .nil (.block [] (.loop ⟨[.int .i64, .sl true 3 (.int .i64), .sl true 3 (.int .i64), .int .i64, .sl false 34 (.pair (.int .i64) (.pair (.int .i64) .str)), .int .i64, .int .i64], [(2, .one (.h 0)), (7, .one (.vw 153600)), (8, .one (.vw 153601)), (9, .one (.h 3)), (15, .one (.h 4)), (16, .one (.h 5)), (17, .one (.h 6))], [], [(153600, 1), (153601, 2)], [], []⟩ [(.x 0, ⟨[.sl true 3 (.int .i64)], [(8, .one (.vw 153730))], [], [(153730, 0)], [], []⟩)] (.seq .nil (.seq .nil (.seq (.block [] (.seq .nil (.seq .nil (.seq .nil (.seq .nil (.block [] (.loop ⟨[.int .i64, .sl true 3 (.int .i64), .sl true 3 (.int .i64), .int .i64, .sl false 34 (.pair (.int .i64) (.pair (.int .i64) .str)), .int .i64, .int .i64, .int .i64, .int .i64], [(2, .one (.h 0)), (7, .one (.vw 153664)), (8, .one (.vw 153665)), (9, .one (.h 3)), (15, .one (.h 4)), (16, .one (.h 5)), (17, .one (.h 6)), (39, .one (.h 7)), (40, .one (.h 8))], [], [(153664, 1), (153665, 2)], [], []⟩ [(.x 2, ⟨[.int .i64, .sl true 3 (.int .i64), .sl true 3 (.int .i64), .int .i64, .sl false 34 (.pair (.int .i64) (.pair (.int .i64) .str)), .int .i64, .int .i64], [(2, .one (.h 0)), (7, .one (.vw 153728)), (8, .one (.vw 153729)), (9, .one (.h 3)), (15, .one (.h 4)), (16, .one (.h 5)), (17, .one (.h 6))], [], [(153728, 1), (153729, 2)], [], []⟩)] .nil))))))) .nil)))))) .nil))
def env_i_carryRuns : Env := envOf ti [k_i_revs, k_i_runs] []
theorem eok_i_carryRuns : EnvOk Try.prog env_i_carryRuns := envOf_ok tab mix _ _ (by
  intro k hk
  simp only [List.mem_cons, List.not_mem_nil, or_false] at hk
  rcases hk with rfl | rfl
  · exact s_i_revs
  · exact s_i_runs)
theorem v_i_carryRuns (x0 : List (Int × Int)) (x1 : List (Int × (Int × List UInt8))) (x2 : Int) : (vfun env_i_carryRuns Try.f37 J_i_carryRuns ann_i_carryRuns [] [.one ⟨.sl false 76 (.pair (.int .i64) (.int .i64)), x0⟩, .one ⟨.sl false 34 (.pair (.int .i64) (.pair (.int .i64) .str)), x1⟩, .one ⟨.int .i64, x2⟩] []).run = (G.i_carryRuns x0 x1 x2).bind fun y => some (Res.mk [.one ⟨.sl true 76 (.pair (.int .i64) (.int .i64)), y⟩] [] []) := by kernel_rfl
def k_i_carryRuns : Kn := ⟨37, [0, 0, 0], fun args rows => match args, rows with
  | [.one ⟨.sl false 76 (.pair (.int .i64) (.int .i64)), x0⟩, .one ⟨.sl false 34 (.pair (.int .i64) (.pair (.int .i64) .str)), x1⟩, .one ⟨.int .i64, x2⟩], [] => some ⟨_, G.i_carryRuns x0 x1 x2, fun y => ⟨[.one ⟨.sl true 76 (.pair (.int .i64) (.int .i64)), y⟩], [], []⟩⟩
  | _, _ => none, []⟩
theorem s_i_carryRuns : KnOk Try.prog k_i_carryRuns := by
  intro args rows a h y hy
  simp only [k_i_carryRuns] at h
  split at h
  · injection h with h
    subst h
    exact vfun_ok eok_i_carryRuns Try.func37 rfl (by rw [v_i_carryRuns]; simp only at hy; rw [hy]; rfl)
  · cases h
def J_i_CarryRuns : Joins := [(.r, ⟨[.sl true 76 (.pair (.int .i64) (.int .i64)), .bool], [(6, .one (.vw 137216)), (7, .one (.h 1))], [], [(137216, 0)], [], []⟩)]
def ann_i_CarryRuns : Ann := .seq .nil (.seq .nil (.seq (.seq (.reg [(.n, ⟨[.sl false 76 (.pair (.int .i64) (.int .i64)), .sl false 34 (.pair (.int .i64) (.pair (.int .i64) .str)), .int .i64, .bool], [(0, .one (.h 0)), (1, .one (.h 1)), (2, .one (.h 2)), (29, .one (.h 3))], [], [], [], []⟩)]) .nil) .nil))
def env_i_CarryRuns : Env := envOf ti [k_i_LengthsOf, k_i_GoodRuns, k_i_within, k_i_carryRuns] []
theorem eok_i_CarryRuns : EnvOk Try.prog env_i_CarryRuns := envOf_ok tab mix _ _ (by
  intro k hk
  simp only [List.mem_cons, List.not_mem_nil, or_false] at hk
  rcases hk with rfl | rfl | rfl | rfl
  · exact s_i_LengthsOf
  · exact s_i_GoodRuns
  · exact s_i_within
  · exact s_i_carryRuns)
theorem v_i_CarryRuns (x0 : List (Int × Int)) (x1 : List (Int × (Int × List UInt8))) (x2 : Int) : (vfun env_i_CarryRuns Try.f7 J_i_CarryRuns ann_i_CarryRuns [] [.one ⟨.sl false 76 (.pair (.int .i64) (.int .i64)), x0⟩, .one ⟨.sl false 34 (.pair (.int .i64) (.pair (.int .i64) .str)), x1⟩, .one ⟨.int .i64, x2⟩] []).run = (G.i_CarryRuns x0 x1 x2).bind fun y => some (Res.mk [.one ⟨.sl true 76 (.pair (.int .i64) (.int .i64)), y.1⟩, .one ⟨.bool, y.2⟩] [] []) := by kernel_rfl
def k_i_CarryRuns : Kn := ⟨7, [0, 0, 0], fun args rows => match args, rows with
  | [.one ⟨.sl false 76 (.pair (.int .i64) (.int .i64)), x0⟩, .one ⟨.sl false 34 (.pair (.int .i64) (.pair (.int .i64) .str)), x1⟩, .one ⟨.int .i64, x2⟩], [] => some ⟨_, G.i_CarryRuns x0 x1 x2, fun y => ⟨[.one ⟨.sl true 76 (.pair (.int .i64) (.int .i64)), y.1⟩, .one ⟨.bool, y.2⟩], [], []⟩⟩
  | _, _ => none, []⟩
theorem s_i_CarryRuns : KnOk Try.prog k_i_CarryRuns := by
  intro args rows a h y hy
  simp only [k_i_CarryRuns] at h
  split at h
  · injection h with h
    subst h
    exact vfun_ok eok_i_CarryRuns Try.func7 rfl (by rw [v_i_CarryRuns]; simp only at hy; rw [hy]; rfl)
  · cases h
def J_s_GoodChange : Joins := [(.r, ⟨[.bool], [(2, .one (.h 0))], [], [], [], []⟩)]
def ann_s_GoodChange : Ann := .seq .nil (.seq .nil (.seq .nil (.seq (.seq .nil (.block [] (.loop ⟨[.sl false 34 (.pair (.int .i64) (.pair (.int .i64) .str)), .int .i64, .int .i64, .sl false 34 (.pair (.int .i64) (.pair (.int .i64) .str)), .int .i64, .int .i64], [(0, .one (.h 0)), (3, .one (.h 1)), (4, .one (.h 2)), (8, .one (.h 3)), (9, .one (.h 4)), (10, .one (.h 5))], [], [], [], []⟩ [(.x 0, ⟨[], [], [], [], [], []⟩), (.r, ⟨[.bool], [(2, .one (.h 0))], [], [], [], []⟩)] (.seq .nil (.seq .nil (.seq (.block [] (.seq .nil (.seq .nil (.seq (.seq (.reg [(.n, ⟨[.sl false 34 (.pair (.int .i64) (.pair (.int .i64) .str)), .int .i64, .int .i64, .sl false 34 (.pair (.int .i64) (.pair (.int .i64) .str)), .int .i64, .int .i64, .bool, .int .i64, .int .i64, .str], [(0, .one (.h 0)), (3, .one (.h 1)), (4, .one (.h 2)), (6, .pl 6 0), (8, .one (.h 3)), (9, .one (.h 4)), (10, .one (.h 5)), (48, .one (.h 6))], [(6, [.h 7, .h 8, .h 9])], [], [], []⟩)]) .nil) (.seq .nil (.seq .nil (.seq (.reg [(.n, ⟨[.sl false 34 (.pair (.int .i64) (.pair (.int .i64) .str)), .int .i64, .int .i64, .sl false 34 (.pair (.int .i64) (.pair (.int .i64) .str)), .int .i64, .int .i64, .bool], [(0, .one (.h 0)), (3, .one (.h 1)), (4, .one (.h 2)), (8, .one (.h 3)), (9, .one (.h 4)), (10, .one (.h 5)), (69, .one (.h 6))], [], [], [], []⟩)]) .nil))))))) .nil)))))) .nil)))
def env_s_GoodChange : Env := envOf ti [k_s_l1Kind] []
theorem eok_s_GoodChange : EnvOk Try.prog env_s_GoodChange := envOf_ok tab mix _ _ (by
  intro k hk
  simp only [List.mem_cons, List.not_mem_nil, or_false] at hk
  rcases hk with rfl
  · exact s_s_l1Kind)
theorem v_s_GoodChange (x0 : List (Int × (Int × List UInt8))) : (vfun env_s_GoodChange Try.f38 J_s_GoodChange ann_s_GoodChange [] [.one ⟨.sl false 34 (.pair (.int .i64) (.pair (.int .i64) .str)), x0⟩] []).run = (G.s_GoodChange x0).bind fun y => some (Res.mk [.one ⟨.bool, y⟩] [] []) := by kernel_rfl
def k_s_GoodChange : Kn := ⟨38, [0], fun args rows => match args, rows with
  | [.one ⟨.sl false 34 (.pair (.int .i64) (.pair (.int .i64) .str)), x0⟩], [] => some ⟨_, G.s_GoodChange x0, fun y => ⟨[.one ⟨.bool, y⟩], [], []⟩⟩
  | _, _ => none, []⟩
theorem s_s_GoodChange : KnOk Try.prog k_s_GoodChange := by
  intro args rows a h y hy
  simp only [k_s_GoodChange] at h
  split at h
  · injection h with h
    subst h
    exact vfun_ok eok_s_GoodChange Try.func38 rfl (by rw [v_s_GoodChange]; simp only at hy; rw [hy]; rfl)
  · cases h
def J_s_l1Source : Joins := [(.r, ⟨[.int .i64], [(2, .one (.h 0))], [], [], [], []⟩)]
def ann_s_l1Source : Ann := .seq .nil (.seq .nil (.seq (.seq .nil (.block [] (.loop ⟨[.int .i64, .sl false 34 (.pair (.int .i64) (.pair (.int .i64) .str)), .int .i64, .int .i64], [(3, .one (.h 0)), (6, .one (.h 1)), (7, .one (.h 2)), (8, .one (.h 3))], [], [], [], []⟩ [(.x 0, ⟨[.int .i64], [(3, .one (.h 0))], [], [], [], []⟩)] .nil))) .nil))
def env_s_l1Source : Env := envOf ti [] []
theorem eok_s_l1Source : EnvOk Try.prog env_s_l1Source := envOf_ok tab mix _ _ (by
  intro k hk; cases hk)
theorem v_s_l1Source (x0 : List (Int × (Int × List UInt8))) : (vfun env_s_l1Source Try.f40 J_s_l1Source ann_s_l1Source [] [.one ⟨.sl false 34 (.pair (.int .i64) (.pair (.int .i64) .str)), x0⟩] []).run = (G.s_l1Source x0).bind fun y => some (Res.mk [.one ⟨.int .i64, y⟩] [] []) := by kernel_rfl
def k_s_l1Source : Kn := ⟨40, [0], fun args rows => match args, rows with
  | [.one ⟨.sl false 34 (.pair (.int .i64) (.pair (.int .i64) .str)), x0⟩], [] => some ⟨_, G.s_l1Source x0, fun y => ⟨[.one ⟨.int .i64, y⟩], [], []⟩⟩
  | _, _ => none, []⟩
theorem s_s_l1Source : KnOk Try.prog k_s_l1Source := by
  intro args rows a h y hy
  simp only [k_s_l1Source] at h
  split at h
  · injection h with h
    subst h
    exact vfun_ok eok_s_l1Source Try.func40 rfl (by rw [v_s_l1Source]; simp only at hy; rw [hy]; rfl)
  · cases h
def J_s_l1In : Joins := [(.r, ⟨[.bool], [(6, .one (.h 0))], [], [], [], []⟩)]
def ann_s_l1In : Ann := .seq .nil (.seq (.reg [(.n, ⟨[.bool], [(6, .one (.h 0))], [], [], [], []⟩)]) .nil)
def env_s_l1In : Env := envOf ti [] []
theorem eok_s_l1In : EnvOk Try.prog env_s_l1In := envOf_ok tab mix _ _ (by
  intro k hk; cases hk)
theorem v_s_l1In (x0 : Int) (x1 : Int) (x2 : Int) : (vfun env_s_l1In Try.f41 J_s_l1In ann_s_l1In [] [.one ⟨.int .i64, x0⟩, .one ⟨.int .i64, x1⟩, .one ⟨.int .i64, x2⟩] []).run = (G.s_l1In x0 x1 x2).bind fun y => some (Res.mk [.one ⟨.bool, y⟩] [] []) := by kernel_rfl
def k_s_l1In : Kn := ⟨41, [0, 0, 0], fun args rows => match args, rows with
  | [.one ⟨.int .i64, x0⟩, .one ⟨.int .i64, x1⟩, .one ⟨.int .i64, x2⟩], [] => some ⟨_, G.s_l1In x0 x1 x2, fun y => ⟨[.one ⟨.bool, y⟩], [], []⟩⟩
  | _, _ => none, []⟩
theorem s_s_l1In : KnOk Try.prog k_s_l1In := by
  intro args rows a h y hy
  simp only [k_s_l1In] at h
  split at h
  · injection h with h
    subst h
    exact vfun_ok eok_s_l1In Try.func41 rfl (by rw [v_s_l1In]; simp only at hy; rw [hy]; rfl)
  · cases h
def J_s_GoodRuns : Joins := [(.r, ⟨[.bool], [(6, .one (.h 0))], [], [], [], []⟩)]
def ann_s_GoodRuns : Ann := .seq .nil (.seq (.seq (.reg [(.n, ⟨[.sl false 76 (.pair (.int .i64) (.int .i64)), .int .i64, .int .i64, .bool], [(0, .one (.h 0)), (1, .one (.h 1)), (2, .one (.h 2)), (17, .one (.h 3))], [], [], [], []⟩)]) .nil) (.seq .nil (.seq (.seq .nil (.block [] (.loop ⟨[.sl false 76 (.pair (.int .i64) (.int .i64)), .int .i64, .int .i64, .int .i64, .sl false 76 (.pair (.int .i64) (.int .i64)), .int .i64, .int .i64], [(0, .one (.h 0)), (1, .one (.h 1)), (2, .one (.h 2)), (7, .one (.h 3)), (18, .one (.h 4)), (19, .one (.h 5)), (20, .one (.h 6))], [], [], [], []⟩ [(.x 0, ⟨[.int .i64, .int .i64], [(1, .one (.h 0)), (7, .one (.h 1))], [], [], [], []⟩), (.r, ⟨[.bool], [(6, .one (.h 0))], [], [], [], []⟩)] (.seq .nil (.seq .nil (.seq (.block [] (.seq .nil (.seq (.seq (.reg [(.n, ⟨[.sl false 76 (.pair (.int .i64) (.int .i64)), .int .i64, .int .i64, .int .i64, .sl false 76 (.pair (.int .i64) (.int .i64)), .int .i64, .int .i64, .bool, .int .i64, .int .i64], [(0, .one (.h 0)), (1, .one (.h 1)), (2, .one (.h 2)), (7, .one (.h 3)), (9, .pl 9 0), (18, .one (.h 4)), (19, .one (.h 5)), (20, .one (.h 6)), (53, .one (.h 7))], [(9, [.h 8, .h 9])], [], [], []⟩)]) .nil) .nil))) .nil)))))) .nil)))
def env_s_GoodRuns : Env := envOf ti [k_s_l1In] []
theorem eok_s_GoodRuns : EnvOk Try.prog env_s_GoodRuns := envOf_ok tab mix _ _ (by
  intro k hk
  simp only [List.mem_cons, List.not_mem_nil, or_false] at hk
  rcases hk with rfl
  · exact s_s_l1In)
theorem v_s_GoodRuns (x0 : List (Int × Int)) (x1 : Int) (x2 : Int) : (vfun env_s_GoodRuns Try.f39 J_s_GoodRuns ann_s_GoodRuns [] [.one ⟨.sl false 76 (.pair (.int .i64) (.int .i64)), x0⟩, .one ⟨.int .i64, x1⟩, .one ⟨.int .i64, x2⟩] []).run = (G.s_GoodRuns x0 x1 x2).bind fun y => some (Res.mk [.one ⟨.bool, y⟩] [] []) := by kernel_rfl
def k_s_GoodRuns : Kn := ⟨39, [0, 0, 0], fun args rows => match args, rows with
  | [.one ⟨.sl false 76 (.pair (.int .i64) (.int .i64)), x0⟩, .one ⟨.int .i64, x1⟩, .one ⟨.int .i64, x2⟩], [] => some ⟨_, G.s_GoodRuns x0 x1 x2, fun y => ⟨[.one ⟨.bool, y⟩], [], []⟩⟩
  | _, _ => none, []⟩
theorem s_s_GoodRuns : KnOk Try.prog k_s_GoodRuns := by
  intro args rows a h y hy
  simp only [k_s_GoodRuns] at h
  split at h
  · injection h with h
    subst h
    exact vfun_ok eok_s_GoodRuns Try.func39 rfl (by rw [v_s_GoodRuns]; simp only at hy; rw [hy]; rfl)
  · cases h
def J_s_l9Each : Joins := [(.r, ⟨[.sl true 3 (.int .i64)], [(2, .one (.vw 129154))], [], [(129154, 0)], [], []⟩)]
def ann_s_l9Each : Ann := .seq .nil (.seq .nil (.seq (.seq .nil (.block [] (.loop ⟨[.sl true 3 (.int .i64), .sl false 76 (.pair (.int .i64) (.int .i64)), .int .i64, .int .i64], [(3, .one (.vw 129024)), (7, .one (.h 1)), (8, .one (.h 2)), (9, .one (.h 3))], [], [(129024, 0)], [], []⟩ [(.x 0, ⟨[.sl true 3 (.int .i64)], [(3, .one (.vw 129153))], [], [(129153, 0)], [], []⟩)] (.seq .nil (.seq .nil (.seq (.block [] (.seq .nil (.seq .nil (.block [] (.loop ⟨[.sl true 3 (.int .i64), .int .i64, .sl false 76 (.pair (.int .i64) (.int .i64)), .int .i64, .int .i64, .int .i64, .int .i64], [(3, .one (.vw 129088)), (5, .pl 5 0), (6, .one (.h 1)), (7, .one (.h 2)), (8, .one (.h 3)), (9, .one (.h 4))], [(5, [.h 5, .h 6])], [(129088, 0)], [], []⟩ [(.x 2, ⟨[.sl true 3 (.int .i64), .sl false 76 (.pair (.int .i64) (.int .i64)), .int .i64, .int .i64], [(3, .one (.vw 129152)), (7, .one (.h 1)), (8, .one (.h 2)), (9, .one (.h 3))], [], [(129152, 0)], [], []⟩)] .nil))))) .nil)))))) .nil))
def env_s_l9Each : Env := envOf ti [] []
theorem eok_s_l9Each : EnvOk Try.prog env_s_l9Each := envOf_ok tab mix _ _ (by
  intro k hk; cases hk)
theorem v_s_l9Each (x0 : List (Int × Int)) : (vfun env_s_l9Each Try.f85 J_s_l9Each ann_s_l9Each [] [.one ⟨.sl false 76 (.pair (.int .i64) (.int .i64)), x0⟩] []).run = (G.s_l9Each x0).bind fun y => some (Res.mk [.one ⟨.sl true 3 (.int .i64), y⟩] [] []) := by kernel_rfl
def k_s_l9Each : Kn := ⟨85, [0], fun args rows => match args, rows with
  | [.one ⟨.sl false 76 (.pair (.int .i64) (.int .i64)), x0⟩], [] => some ⟨_, G.s_l9Each x0, fun y => ⟨[.one ⟨.sl true 3 (.int .i64), y⟩], [], []⟩⟩
  | _, _ => none, []⟩
theorem s_s_l9Each : KnOk Try.prog k_s_l9Each := by
  intro args rows a h y hy
  simp only [k_s_l9Each] at h
  split at h
  · injection h with h
    subst h
    exact vfun_ok eok_s_l9Each Try.func85 rfl (by rw [v_s_l9Each]; simp only at hy; rw [hy]; rfl)
  · cases h
def J_s_l9Carry : Joins := [(.r, ⟨[.sl true 76 (.pair (.int .i64) (.int .i64))], [(6, .one (.vw 155779))], [], [(155779, 0)], [], []⟩)]
def ann_s_l9Carry : Ann := .seq .nil (.seq .nil (.seq .nil (.seq .nil (.seq (.seq .nil (.block [] (.loop ⟨[.int .i64, .sl true 3 (.int .i64), .sl true 76 (.pair (.int .i64) (.int .i64)), .int .i64, .sl false 34 (.pair (.int .i64) (.pair (.int .i64) .str)), .int .i64, .int .i64], [(2, .one (.h 0)), (7, .one (.vw 155648)), (8, .one (.vw 155649)), (9, .one (.h 3)), (15, .one (.h 4)), (16, .one (.h 5)), (17, .one (.h 6))], [], [(155648, 1), (155649, 2)], [], []⟩ [(.x 0, ⟨[.sl true 76 (.pair (.int .i64) (.int .i64))], [(8, .one (.vw 155778))], [], [(155778, 0)], [], []⟩)] (.seq .nil (.seq .nil (.seq (.block [] (.seq .nil (.seq (.seq .nil (.block [] (.loop ⟨[.int .i64, .sl true 3 (.int .i64), .sl true 76 (.pair (.int .i64) (.int .i64)), .int .i64, .int .i64, .sl false 34 (.pair (.int .i64) (.pair (.int .i64) .str)), .int .i64, .int .i64, .int .i64, .int .i64, .str], [(2, .one (.h 0)), (7, .one (.vw 155712)), (8, .one (.vw 155713)), (9, .one (.h 3)), (11, .pl 11 0), (12, .one (.h 4)), (15, .one (.h 5)), (16, .one (.h 6)), (17, .one (.h 7))], [(11, [.h 8, .h 9, .h 10])], [(155712, 1), (155713, 2)], [], []⟩ [(.x 2, ⟨[.int .i64, .sl true 3 (.int .i64), .sl true 76 (.pair (.int .i64) (.int .i64)), .int .i64, .sl false 34 (.pair (.int .i64) (.pair (.int .i64) .str)), .int .i64, .int .i64, .int .i64, .int .i64, .str], [(2, .one (.h 0)), (7, .one (.vw 155776)), (8, .one (.vw 155777)), (9, .one (.h 3)), (11, .pl 11 0), (15, .one (.h 4)), (16, .one (.h 5)), (17, .one (.h 6))], [(11, [.h 7, .h 8, .h 9])], [(155776, 1), (155777, 2)], [], []⟩)] .nil))) .nil))) .nil)))))) .nil))))
def env_s_l9Carry : Env := envOf ti [k_s_l9Each, k_s_l9Add] []
theorem eok_s_l9Carry : EnvOk Try.prog env_s_l9Carry := envOf_ok tab mix _ _ (by
  intro k hk
  simp only [List.mem_cons, List.not_mem_nil, or_false] at hk
  rcases hk with rfl | rfl
  · exact s_s_l9Each
  · exact s_s_l9Add)
theorem v_s_l9Carry (x0 : List (Int × Int)) (x1 : List (Int × (Int × List UInt8))) (x2 : Int) : (vfun env_s_l9Carry Try.f42 J_s_l9Carry ann_s_l9Carry [] [.one ⟨.sl false 76 (.pair (.int .i64) (.int .i64)), x0⟩, .one ⟨.sl false 34 (.pair (.int .i64) (.pair (.int .i64) .str)), x1⟩, .one ⟨.int .i64, x2⟩] []).run = (G.s_l9Carry x0 x1 x2).bind fun y => some (Res.mk [.one ⟨.sl true 76 (.pair (.int .i64) (.int .i64)), y⟩] [] []) := by kernel_rfl
def k_s_l9Carry : Kn := ⟨42, [0, 0, 0], fun args rows => match args, rows with
  | [.one ⟨.sl false 76 (.pair (.int .i64) (.int .i64)), x0⟩, .one ⟨.sl false 34 (.pair (.int .i64) (.pair (.int .i64) .str)), x1⟩, .one ⟨.int .i64, x2⟩], [] => some ⟨_, G.s_l9Carry x0 x1 x2, fun y => ⟨[.one ⟨.sl true 76 (.pair (.int .i64) (.int .i64)), y⟩], [], []⟩⟩
  | _, _ => none, []⟩
theorem s_s_l9Carry : KnOk Try.prog k_s_l9Carry := by
  intro args rows a h y hy
  simp only [k_s_l9Carry] at h
  split at h
  · injection h with h
    subst h
    exact vfun_ok eok_s_l9Carry Try.func42 rfl (by rw [v_s_l9Carry]; simp only at hy; rw [hy]; rfl)
  · cases h
def J_s_CarryRuns : Joins := [(.r, ⟨[.sl true 76 (.pair (.int .i64) (.int .i64)), .bool], [(6, .one (.vw 130048)), (7, .one (.h 1))], [], [(130048, 0)], [], []⟩)]
def ann_s_CarryRuns : Ann := .seq .nil (.seq (.seq (.reg [(.n, ⟨[.sl false 76 (.pair (.int .i64) (.int .i64)), .sl false 34 (.pair (.int .i64) (.pair (.int .i64) .str)), .int .i64, .bool], [(0, .one (.h 0)), (1, .one (.h 1)), (2, .one (.h 2)), (22, .one (.h 3))], [], [], [], []⟩)]) .nil) .nil)
def env_s_CarryRuns : Env := envOf ti [k_s_GoodChange, k_s_l1Source, k_s_GoodRuns, k_s_l1In, k_s_l9Carry] []
theorem eok_s_CarryRuns : EnvOk Try.prog env_s_CarryRuns := envOf_ok tab mix _ _ (by
  intro k hk
  simp only [List.mem_cons, List.not_mem_nil, or_false] at hk
  rcases hk with rfl | rfl | rfl | rfl | rfl
  · exact s_s_GoodChange
  · exact s_s_l1Source
  · exact s_s_GoodRuns
  · exact s_s_l1In
  · exact s_s_l9Carry)
theorem v_s_CarryRuns (x0 : List (Int × Int)) (x1 : List (Int × (Int × List UInt8))) (x2 : Int) : (vfun env_s_CarryRuns Try.f8 J_s_CarryRuns ann_s_CarryRuns [] [.one ⟨.sl false 76 (.pair (.int .i64) (.int .i64)), x0⟩, .one ⟨.sl false 34 (.pair (.int .i64) (.pair (.int .i64) .str)), x1⟩, .one ⟨.int .i64, x2⟩] []).run = (G.s_CarryRuns x0 x1 x2).bind fun y => some (Res.mk [.one ⟨.sl true 76 (.pair (.int .i64) (.int .i64)), y.1⟩, .one ⟨.bool, y.2⟩] [] []) := by kernel_rfl
def k_s_CarryRuns : Kn := ⟨8, [0, 0, 0], fun args rows => match args, rows with
  | [.one ⟨.sl false 76 (.pair (.int .i64) (.int .i64)), x0⟩, .one ⟨.sl false 34 (.pair (.int .i64) (.pair (.int .i64) .str)), x1⟩, .one ⟨.int .i64, x2⟩], [] => some ⟨_, G.s_CarryRuns x0 x1 x2, fun y => ⟨[.one ⟨.sl true 76 (.pair (.int .i64) (.int .i64)), y.1⟩, .one ⟨.bool, y.2⟩], [], []⟩⟩
  | _, _ => none, []⟩
theorem s_s_CarryRuns : KnOk Try.prog k_s_CarryRuns := by
  intro args rows a h y hy
  simp only [k_s_CarryRuns] at h
  split at h
  · injection h with h
    subst h
    exact vfun_ok eok_s_CarryRuns Try.func8 rfl (by rw [v_s_CarryRuns]; simp only at hy; rw [hy]; rfl)
  · cases h
def J_l_sameRuns : Joins := [(.r, ⟨[.bool], [(4, .one (.h 0))], [], [], [], []⟩)]
def ann_l_sameRuns : Ann := .seq .nil (.seq .nil (.seq (.seq .nil (.block [] (.loop ⟨[.sl false 76 (.pair (.int .i64) (.int .i64)), .sl false 76 (.pair (.int .i64) (.int .i64)), .int .i64, .int .i64], [(0, .one (.h 0)), (1, .one (.h 1)), (12, .one (.h 2)), (13, .one (.h 3))], [], [], [], []⟩ [(.x 0, ⟨[], [], [], [], [], []⟩), (.r, ⟨[.bool], [(4, .one (.h 0))], [], [], [], []⟩)] .nil))) .nil))
def env_l_sameRuns : Env := envOf ti [] []
theorem eok_l_sameRuns : EnvOk Try.prog env_l_sameRuns := envOf_ok tab mix _ _ (by
  intro k hk; cases hk)
theorem v_l_sameRuns (x0 : List (Int × Int)) (x1 : List (Int × Int)) : (vfun env_l_sameRuns Try.f9 J_l_sameRuns ann_l_sameRuns [] [.one ⟨.sl false 76 (.pair (.int .i64) (.int .i64)), x0⟩, .one ⟨.sl false 76 (.pair (.int .i64) (.int .i64)), x1⟩] []).run = (G.l_sameRuns x0 x1).bind fun y => some (Res.mk [.one ⟨.bool, y⟩] [] []) := by kernel_rfl
def k_l_sameRuns : Kn := ⟨9, [0, 0], fun args rows => match args, rows with
  | [.one ⟨.sl false 76 (.pair (.int .i64) (.int .i64)), x0⟩, .one ⟨.sl false 76 (.pair (.int .i64) (.int .i64)), x1⟩], [] => some ⟨_, G.l_sameRuns x0 x1, fun y => ⟨[.one ⟨.bool, y⟩], [], []⟩⟩
  | _, _ => none, []⟩
theorem s_l_sameRuns : KnOk Try.prog k_l_sameRuns := by
  intro args rows a h y hy
  simp only [k_l_sameRuns] at h
  split at h
  · injection h with h
    subst h
    exact vfun_ok eok_l_sameRuns Try.func9 rfl (by rw [v_l_sameRuns]; simp only at hy; rw [hy]; rfl)
  · cases h
def J_s_l1Target : Joins := [(.r, ⟨[.int .i64], [(2, .one (.h 0))], [], [], [], []⟩)]
def ann_s_l1Target : Ann := .seq .nil (.seq .nil (.seq (.seq .nil (.block [] (.loop ⟨[.int .i64, .sl false 34 (.pair (.int .i64) (.pair (.int .i64) .str)), .int .i64, .int .i64], [(3, .one (.h 0)), (6, .one (.h 1)), (7, .one (.h 2)), (8, .one (.h 3))], [], [], [], []⟩ [(.x 0, ⟨[.int .i64], [(3, .one (.h 0))], [], [], [], []⟩)] .nil))) .nil))
def env_s_l1Target : Env := envOf ti [] []
theorem eok_s_l1Target : EnvOk Try.prog env_s_l1Target := envOf_ok tab mix _ _ (by
  intro k hk; cases hk)
theorem v_s_l1Target (x0 : List (Int × (Int × List UInt8))) : (vfun env_s_l1Target Try.f43 J_s_l1Target ann_s_l1Target [] [.one ⟨.sl false 34 (.pair (.int .i64) (.pair (.int .i64) .str)), x0⟩] []).run = (G.s_l1Target x0).bind fun y => some (Res.mk [.one ⟨.int .i64, y⟩] [] []) := by kernel_rfl
def k_s_l1Target : Kn := ⟨43, [0], fun args rows => match args, rows with
  | [.one ⟨.sl false 34 (.pair (.int .i64) (.pair (.int .i64) .str)), x0⟩], [] => some ⟨_, G.s_l1Target x0, fun y => ⟨[.one ⟨.int .i64, y⟩], [], []⟩⟩
  | _, _ => none, []⟩
theorem s_s_l1Target : KnOk Try.prog k_s_l1Target := by
  intro args rows a h y hy
  simp only [k_s_l1Target] at h
  split at h
  · injection h with h
    subst h
    exact vfun_ok eok_s_l1Target Try.func43 rfl (by rw [v_s_l1Target]; simp only at hy; rw [hy]; rfl)
  · cases h
def J_s_LengthsOf : Joins := [(.r, ⟨[.int .i64, .int .i64, .bool], [(2, .one (.h 0)), (3, .one (.h 1)), (4, .one (.h 2))], [], [], [], []⟩)]
def ann_s_LengthsOf : Ann := .nil
def env_s_LengthsOf : Env := envOf ti [k_s_GoodChange, k_s_l1Source, k_s_l1Target] []
theorem eok_s_LengthsOf : EnvOk Try.prog env_s_LengthsOf := envOf_ok tab mix _ _ (by
  intro k hk
  simp only [List.mem_cons, List.not_mem_nil, or_false] at hk
  rcases hk with rfl | rfl | rfl
  · exact s_s_GoodChange
  · exact s_s_l1Source
  · exact s_s_l1Target)
theorem v_s_LengthsOf (x0 : List (Int × (Int × List UInt8))) : (vfun env_s_LengthsOf Try.f10 J_s_LengthsOf ann_s_LengthsOf [] [.one ⟨.sl false 34 (.pair (.int .i64) (.pair (.int .i64) .str)), x0⟩] []).run = (G.s_LengthsOf x0).bind fun y => some (Res.mk [.one ⟨.int .i64, y.1⟩, .one ⟨.int .i64, y.2.1⟩, .one ⟨.bool, y.2.2⟩] [] []) := by kernel_rfl
def k_s_LengthsOf : Kn := ⟨10, [0], fun args rows => match args, rows with
  | [.one ⟨.sl false 34 (.pair (.int .i64) (.pair (.int .i64) .str)), x0⟩], [] => some ⟨_, G.s_LengthsOf x0, fun y => ⟨[.one ⟨.int .i64, y.1⟩, .one ⟨.int .i64, y.2.1⟩, .one ⟨.bool, y.2.2⟩], [], []⟩⟩
  | _, _ => none, []⟩
theorem s_s_LengthsOf : KnOk Try.prog k_s_LengthsOf := by
  intro args rows a h y hy
  simp only [k_s_LengthsOf] at h
  split at h
  · injection h with h
    subst h
    exact vfun_ok eok_s_LengthsOf Try.func10 rfl (by rw [v_s_LengthsOf]; simp only at hy; rw [hy]; rfl)
  · cases h
end
end Go.Proofs.Ythpnmoiohfiggaa

set_option linter.unusedVariables false
set_option maxRecDepth 100000
namespace Go.Proofs.Ythpnmoiohfiggaa
open Go.V
noncomputable section
def J_i_someRuns : Joins := [(.r, ⟨[.bool], [(2, .one (.h 0))], [], [], [], []⟩)]
def ann_i_someRuns : Ann := .seq .nil (.seq .nil (.seq (.seq .nil (.block [] (.loop ⟨[.sl false 76 (.pair (.int .i64) (.int .i64)), .int .i64, .sl false 76 (.pair (.int .i64) (.int .i64)), .int .i64, .int .i64], [(0, .one (.h 0)), (3, .one (.h 1)), (6, .one (.h 2)), (7, .one (.h 3)), (8, .one (.h 4))], [], [], [], []⟩ [(.x 0, ⟨[.sl false 76 (.pair (.int .i64) (.int .i64)), .int .i64], [(0, .one (.h 0)), (3, .one (.h 1))], [], [], [], []⟩), (.r, ⟨[.bool], [(2, .one (.h 0))], [], [], [], []⟩)] (.seq .nil (.seq .nil (.seq (.block [] (.seq .nil (.seq (.seq (.reg [(.n, ⟨[.sl false 76 (.pair (.int .i64) (.int .i64)), .int .i64, .sl false 76 (.pair (.int .i64) (.int .i64)), .int .i64, .int .i64, .bool, .int .i64, .int .i64], [(0, .one (.h 0)), (3, .one (.h 1)), (5, .pl 5 0), (6, .one (.h 2)), (7, .one (.h 3)), (8, .one (.h 4)), (19, .one (.h 5))], [(5, [.h 6, .h 7])], [], [], []⟩)]) .nil) .nil))) .nil)))))) .nil))
def env_i_someRuns : Env := envOf ti [k_i_within, k_i_GoodRuns] []
theorem eok_i_someRuns : EnvOk Try.prog env_i_someRuns := envOf_ok tab mix _ _ (by
  intro k hk
  simp only [List.mem_cons, List.not_mem_nil, or_false] at hk
  rcases hk with rfl | rfl
  · exact s_i_within
  · exact s_i_GoodRuns)
theorem v_i_someRuns (x0 : List (Int × Int)) : (vfun env_i_someRuns Try.f44 J_i_someRuns ann_i_someRuns [] [.one ⟨.sl false 76 (.pair (.int .i64) (.int .i64)), x0⟩] []).run = (G.i_someRuns x0).bind fun y => some (Res.mk [.one ⟨.bool, y⟩] [] []) := by kernel_rfl
def k_i_someRuns : Kn := ⟨44, [0], fun args rows => match args, rows with
  | [.one ⟨.sl false 76 (.pair (.int .i64) (.int .i64)), x0⟩], [] => some ⟨_, G.i_someRuns x0, fun y => ⟨[.one ⟨.bool, y⟩], [], []⟩⟩
  | _, _ => none, []⟩
theorem s_i_someRuns : KnOk Try.prog k_i_someRuns := by
  intro args rows a h y hy
  simp only [k_i_someRuns] at h
  split at h
  · injection h with h
    subst h
    exact vfun_ok eok_i_someRuns Try.func44 rfl (by rw [v_i_someRuns]; simp only at hy; rw [hy]; rfl)
  · cases h
def J_i_RevOf : Joins := [(.r, ⟨[.int .i64], [(4, .one (.h 0))], [], [], [], []⟩)]
def ann_i_RevOf : Ann := .nil
def env_i_RevOf : Env := envOf ti [k_i_someRuns, k_i_revs, k_i_within] []
theorem eok_i_RevOf : EnvOk Try.prog env_i_RevOf := envOf_ok tab mix _ _ (by
  intro k hk
  simp only [List.mem_cons, List.not_mem_nil, or_false] at hk
  rcases hk with rfl | rfl | rfl
  · exact s_i_someRuns
  · exact s_i_revs
  · exact s_i_within)
theorem v_i_RevOf (x0 : List (Int × Int)) (x1 : Int) : (vfun env_i_RevOf Try.f12 J_i_RevOf ann_i_RevOf [] [.one ⟨.sl false 76 (.pair (.int .i64) (.int .i64)), x0⟩, .one ⟨.int .i64, x1⟩] []).run = (G.i_RevOf x0 x1).bind fun y => some (Res.mk [.one ⟨.int .i64, y⟩] [] []) := by kernel_rfl
def k_i_RevOf : Kn := ⟨12, [0, 0], fun args rows => match args, rows with
  | [.one ⟨.sl false 76 (.pair (.int .i64) (.int .i64)), x0⟩, .one ⟨.int .i64, x1⟩], [] => some ⟨_, G.i_RevOf x0 x1, fun y => ⟨[.one ⟨.int .i64, y⟩], [], []⟩⟩
  | _, _ => none, []⟩
theorem s_i_RevOf : KnOk Try.prog k_i_RevOf := by
  intro args rows a h y hy
  simp only [k_i_RevOf] at h
  split at h
  · injection h with h
    subst h
    exact vfun_ok eok_i_RevOf Try.func12 rfl (by rw [v_i_RevOf]; simp only at hy; rw [hy]; rfl)
  · cases h
def J_i_writeRuns : Joins := [(.r, ⟨[.sl true 5 (.int .u8)], [(2, .one (.vw 127041))], [], [(127041, 0)], [], []⟩)]
def ann_i_writeRuns : Ann := .seq .nil (.seq .nil (.seq (.seq .nil (.block [] (.loop ⟨[.sl true 5 (.int .u8), .sl false 76 (.pair (.int .i64) (.int .i64)), .int .i64, .int .i64], [(3, .one (.vw 126976)), (7, .one (.h 1)), (8, .one (.h 2)), (9, .one (.h 3))], [], [(126976, 0)], [], []⟩ [(.x 0, ⟨[.sl true 5 (.int .u8)], [(3, .one (.vw 127040))], [], [(127040, 0)], [], []⟩)] .nil))) .nil))
def env_i_writeRuns : Env := envOf ti [] []
theorem eok_i_writeRuns : EnvOk Try.prog env_i_writeRuns := envOf_ok tab mix _ _ (by
  intro k hk; cases hk)
theorem v_i_writeRuns (x0 : List (Int × Int)) : (vfun env_i_writeRuns Try.f46 J_i_writeRuns ann_i_writeRuns [] [.one ⟨.sl false 76 (.pair (.int .i64) (.int .i64)), x0⟩] []).run = (G.i_writeRuns x0).bind fun y => some (Res.mk [.one ⟨.sl true 5 (.int .u8), y⟩] [] []) := by kernel_rfl
def k_i_writeRuns : Kn := ⟨46, [0], fun args rows => match args, rows with
  | [.one ⟨.sl false 76 (.pair (.int .i64) (.int .i64)), x0⟩], [] => some ⟨_, G.i_writeRuns x0, fun y => ⟨[.one ⟨.sl true 5 (.int .u8), y⟩], [], []⟩⟩
  | _, _ => none, []⟩
theorem s_i_writeRuns : KnOk Try.prog k_i_writeRuns := by
  intro args rows a h y hy
  simp only [k_i_writeRuns] at h
  split at h
  · injection h with h
    subst h
    exact vfun_ok eok_i_writeRuns Try.func46 rfl (by rw [v_i_writeRuns]; simp only at hy; rw [hy]; rfl)
  · cases h
def J_i_WriteRuns : Joins := [(.r, ⟨[.sl true 5 (.int .u8), .bool], [(2, .one (.vw 111616)), (3, .one (.h 1))], [], [(111616, 0)], [], []⟩)]
def ann_i_WriteRuns : Ann := .nil
def env_i_WriteRuns : Env := envOf ti [k_i_someRuns, k_i_writeRuns] []
theorem eok_i_WriteRuns : EnvOk Try.prog env_i_WriteRuns := envOf_ok tab mix _ _ (by
  intro k hk
  simp only [List.mem_cons, List.not_mem_nil, or_false] at hk
  rcases hk with rfl | rfl
  · exact s_i_someRuns
  · exact s_i_writeRuns)
theorem v_i_WriteRuns (x0 : List (Int × Int)) : (vfun env_i_WriteRuns Try.f13 J_i_WriteRuns ann_i_WriteRuns [] [.one ⟨.sl false 76 (.pair (.int .i64) (.int .i64)), x0⟩] []).run = (G.i_WriteRuns x0).bind fun y => some (Res.mk [.one ⟨.sl true 5 (.int .u8), y.1⟩, .one ⟨.bool, y.2⟩] [] []) := by kernel_rfl
def k_i_WriteRuns : Kn := ⟨13, [0], fun args rows => match args, rows with
  | [.one ⟨.sl false 76 (.pair (.int .i64) (.int .i64)), x0⟩], [] => some ⟨_, G.i_WriteRuns x0, fun y => ⟨[.one ⟨.sl true 5 (.int .u8), y.1⟩, .one ⟨.bool, y.2⟩], [], []⟩⟩
  | _, _ => none, []⟩
theorem s_i_WriteRuns : KnOk Try.prog k_i_WriteRuns := by
  intro args rows a h y hy
  simp only [k_i_WriteRuns] at h
  split at h
  · injection h with h
    subst h
    exact vfun_ok eok_i_WriteRuns Try.func13 rfl (by rw [v_i_WriteRuns]; simp only at hy; rw [hy]; rfl)
  · cases h
def k_i_ReadRuns : Kn := ⟨14, [0], fun args rows => match args, rows with
  | [.one ⟨.sl false 5 (.int .u8), x0⟩], [] => some ⟨_, G.i_ReadRuns x0, fun y => ⟨[.one ⟨.sl true 76 (.pair (.int .i64) (.int .i64)), y.1⟩, .one ⟨.bool, y.2⟩], [], []⟩⟩
  | _, _ => none, []⟩
theorem s_i_ReadRuns : KnOk Try.prog k_i_ReadRuns := by
  intro args rows a h y hy
  simp only [k_i_ReadRuns] at h
  split at h
  · injection h with h
    subst h
    exact Go.Proofs.rr_known (fun xs b hb => s_i_someRuns [.one ⟨.sl false 76 (.pair (.int .i64) (.int .i64)), xs⟩] [] _ rfl b hb) hy
  · cases h
def J_l_FnBrought : Joins := [(.r, ⟨[.bool], [(2, .one (.h 0))], [], [], [], []⟩)]
def ann_l_FnBrought : Ann := .seq .nil (.seq .nil (.seq .nil (.seq .nil (.seq .nil (.seq (.seq (.reg [(.n, ⟨[.sl true 34 (.pair (.int .i64) (.pair (.int .i64) .str)), .int .i64, .sl true 76 (.pair (.int .i64) (.int .i64)), .bool, .bool], [(4, .one (.vw 218112)), (5, .one (.h 1)), (6, .one (.vw 218113)), (7, .one (.h 3)), (52, .one (.h 4))], [], [(218112, 0), (218113, 2)], [], []⟩)]) .nil) (.seq .nil (.seq .nil (.seq .nil (.seq .nil (.seq (.seq .nil (.block [] (.loop ⟨[.int .i64, .sl true 76 (.pair (.int .i64) (.int .i64)), .int .i64, .sl true 34 (.pair (.int .i64) (.pair (.int .i64) .str)), .int .i64, .int .i64], [(5, .one (.h 0)), (6, .one (.vw 218114)), (13, .one (.h 2)), (65, .one (.vw 218115)), (66, .one (.h 4)), (67, .one (.h 5))], [], [(218114, 1), (218115, 3)], [], []⟩ [(.x 0, ⟨[.sl true 76 (.pair (.int .i64) (.int .i64))], [(6, .one (.vw 218244))], [], [(218244, 0)], [], []⟩), (.r, ⟨[.bool], [(2, .one (.h 0))], [], [], [], []⟩)] (.seq .nil (.seq .nil (.seq (.block [] (.seq .nil (.seq (.seq .nil (.block [] (.loop ⟨[.int .i64, .sl true 76 (.pair (.int .i64) (.int .i64)), .int .i64, .int .i64, .sl true 34 (.pair (.int .i64) (.pair (.int .i64) .str)), .int .i64, .int .i64, .int .i64, .int .i64, .str], [(5, .one (.h 0)), (6, .one (.vw 218178)), (13, .one (.h 2)), (15, .pl 15 0), (16, .one (.h 3)), (65, .one (.vw 218179)), (66, .one (.h 5)), (67, .one (.h 6))], [(15, [.h 7, .h 8, .h 9])], [(218178, 1), (218179, 4)], [], []⟩ [(.x 2, ⟨[.int .i64, .sl true 76 (.pair (.int .i64) (.int .i64)), .int .i64, .sl true 34 (.pair (.int .i64) (.pair (.int .i64) .str)), .int .i64, .int .i64, .int .i64, .int .i64, .str], [(5, .one (.h 0)), (6, .one (.vw 218242)), (13, .one (.h 2)), (15, .pl 15 0), (65, .one (.vw 218243)), (66, .one (.h 4)), (67, .one (.h 5))], [(15, [.h 6, .h 7, .h 8])], [(218242, 1), (218243, 3)], [], []⟩), (.r, ⟨[.bool], [(2, .one (.h 0))], [], [], [], []⟩)] .nil))) .nil))) .nil)))))) (.seq .nil (.seq .nil (.seq (.reg [(.n, ⟨[.bool], [(2, .one (.h 0))], [], [], [], []⟩)]) .nil)))))))))))))
def env_l_FnBrought : Env := envOf ti [k_s_DrawCarryRuns, k_i_CarryRuns, k_s_CarryRuns, k_l_sameRuns, k_s_LengthsOf, k_i_GoodRuns, k_i_RevOf, k_i_WriteRuns, k_i_ReadRuns] []
theorem eok_l_FnBrought : EnvOk Try.prog env_l_FnBrought := envOf_ok tab mix _ _ (by
  intro k hk
  simp only [List.mem_cons, List.not_mem_nil, or_false] at hk
  rcases hk with rfl | rfl | rfl | rfl | rfl | rfl | rfl | rfl | rfl
  · exact s_s_DrawCarryRuns
  · exact s_i_CarryRuns
  · exact s_s_CarryRuns
  · exact s_l_sameRuns
  · exact s_s_LengthsOf
  · exact s_i_GoodRuns
  · exact s_i_RevOf
  · exact s_i_WriteRuns
  · exact s_i_ReadRuns)
theorem v_l_FnBrought (x0 : List Int) : (vfun env_l_FnBrought Try.f3 J_l_FnBrought ann_l_FnBrought [] [.one ⟨.sl false 5 (.int .u8), x0⟩] []).run = (G.l_FnBrought x0).bind fun y => some (Res.mk [.one ⟨.bool, y⟩] [] []) := by kernel_rfl
def k_l_FnBrought : Kn := ⟨3, [0], fun args rows => match args, rows with
  | [.one ⟨.sl false 5 (.int .u8), x0⟩], [] => some ⟨_, G.l_FnBrought x0, fun y => ⟨[.one ⟨.bool, y⟩], [], []⟩⟩
  | _, _ => none, []⟩
theorem s_l_FnBrought : KnOk Try.prog k_l_FnBrought := by
  intro args rows a h y hy
  simp only [k_l_FnBrought] at h
  split at h
  · injection h with h
    subst h
    exact vfun_ok eok_l_FnBrought Try.func3 rfl (by rw [v_l_FnBrought]; simp only at hy; rw [hy]; rfl)
  · cases h
end
end Go.Proofs.Ythpnmoiohfiggaa
