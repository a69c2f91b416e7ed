import Derived.Test.YthpnmoiohfiggaaQBuF
import Derived.Test.YthpnmoiohfiggaaProg
import Derived.KernelRfl
import Derived.Test.YthpnmoiohfiggaaRows
import Derived.WalkKit
import Derived.ProofKit
import Derived.OpenShut
import Derived.ShutString
import Derived.ChangeOld
import Derived.Below
set_option linter.unusedVariables false
set_option maxRecDepth 100000
namespace Go.Proofs.Ythpnmoiohfiggaa
open Go.V
def tiL : List TI := [
  .other,
  .other,
  .cell (.int .i64),
  .cell (.int .i64),
  .cell .bool,
  .cell (.int .u8),
  .cell (.int .u8),
  .other,
  .other,
  .cell .str,
  .cell .str,
  .cell .str,
  .cell (.int .u64),
  .other,
  .other,
  .ptr 147,
  .ptr 150,
  .ptr 158,
  .other,
  .other,
  .other,
  .cell (.int .i32),
  .slice 5 [(.int .u8)] 1,
  .slice 76 [(.int .i64), (.int .i64)] 16,
  .slice 34 [(.int .i64), (.int .i64), .str] 32,
  .other,
  .other,
  .other,
  .other,
  .other,
  .other,
  .other,
  .other,
  .struct [(0, 1, false), (1, 1, false), (2, 1, false)] [(.int .i64), (.int .i64), .str] true,
  .struct [(0, 1, false), (1, 1, false), (2, 1, false)] [(.int .i64), (.int .i64), .str] true,
  .other,
  .other,
  .other,
  .other,
  .other,
  .slice 93 [(.sl true 34 (.pair (.int .i64) (.pair (.int .i64) .str)))] 24,
  .struct [(0, 1, false), (1, 1, false), (2, 1, false), (3, 1, false)] [(.int .i64), .str, (.sl true 76 (.pair (.int .i64) (.int .i64))), (.sl true 93 (.sl true 34 (.pair (.int .i64) (.pair (.int .i64) .str))))] false,
  .struct [(0, 1, false), (1, 1, false), (2, 1, false), (3, 1, false)] [(.int .i64), .str, (.sl true 76 (.pair (.int .i64) (.int .i64))), (.sl true 93 (.sl true 34 (.pair (.int .i64) (.pair (.int .i64) .str))))] false,
  .other,
  .other,
  .other,
  .other,
  .other,
  .other,
  .other,
  .other,
  .other,
  .other,
  .other,
  .other,
  .other,
  .other,
  .other,
  .other,
  .cell (.int .u64),
  .ptr 63,
  .cell (.int .u64),
  .struct [(0, 1, false), (1, 1, false), (2, 1, false)] [(.sl true 5 (.int .u8)), (.int .i64), (.int .u64)] false,
  .struct [(0, 1, false), (1, 1, false), (2, 1, false)] [(.sl true 5 (.int .u8)), (.int .i64), (.int .u64)] false,
  .other,
  .other,
  .other,
  .other,
  .other,
  .slice 3 [(.int .i64)] 8,
  .other,
  .other,
  .other,
  .other,
  .other,
  .struct [(0, 1, false), (1, 1, false)] [(.int .i64), (.int .i64)] true,
  .struct [(0, 1, false), (1, 1, false)] [(.int .i64), (.int .i64)] true,
  .other,
  .other,
  .other,
  .other,
  .other,
  .other,
  .cell (.int .u32),
  .other,
  .ptr 87,
  .struct [(0, 1, false), (1, 1, false), (2, 1, false)] [(.sl true 5 (.int .u8)), (.int .i64), .bool] false,
  .struct [(0, 1, false), (1, 1, false), (2, 1, false)] [(.sl true 5 (.int .u8)), (.int .i64), .bool] false,
  .other,
  .slice 22 [(.sl true 5 (.int .u8))] 24,
  .other,
  .other,
  .struct [(0, 1, false)] [(.sl true 34 (.pair (.int .i64) (.pair (.int .i64) .str)))] false,
  .struct [(0, 1, false)] [(.sl true 34 (.pair (.int .i64) (.pair (.int .i64) .str)))] false,
  .other,
  .other,
  .ptr 98,
  .struct [(0, 1, false), (1, 1, false)] [(.sl true 5 (.int .u8)), .bool] false,
  .struct [(0, 1, false), (1, 1, false)] [(.sl true 5 (.int .u8)), .bool] false,
  .other,
  .other,
  .other,
  .other,
  .other,
  .other,
  .other,
  .other,
  .other,
  .other,
  .other,
  .other,
  .other,
  .other,
  .other,
  .other,
  .other,
  .other,
  .other,
  .other,
  .other,
  .other,
  .other,
  .other,
  .other,
  .other,
  .other,
  .other,
  .other,
  .other,
  .slice 9 [.str] 16,
  .other,
  .other,
  .other,
  .other,
  .other,
  .other,
  .other,
  .other,
  .other,
  .other,
  .other,
  .slice 4 [.bool] 1,
  .struct [(0, 1, false), (1, 1, false)] [(.sl true 4 .bool), (.sl true 9 .str)] false,
  .struct [(0, 1, false), (1, 1, false)] [(.sl true 4 .bool), (.sl true 9 .str)] false,
  .other,
  .other,
  .other,
  .other,
  .other,
  .other,
  .other,
  .cell (.int .u8),
  .cell (.int .u8),
  .other,
  .ptr 5,
  .cell (.int .i32),
  .cell (.int .i32),
  .other,
  .other,
  .other]
def ti (t : TypeId) : TI := tiL.getD t .other
theorem tab : TabOk Try.prog ti := tabOf Try.prog tiL (by kernel_rfl)
theorem mix : Try.prog.follows .mixedOrders = true := by kernel_rfl
end Go.Proofs.Ythpnmoiohfiggaa

set_option maxRecDepth 100000
namespace Go.Proofs.Ythpnmoiohfiggaa
open Go.V
theorem own : ownKnob Try.prog.godebug = none := by kernel_rfl
theorem laidOut : laidOutB Try.prog = true := by kernel_rfl
theorem tab2 : ∀ t, tyOk2 Try.prog ti t (ti t) = true := tabOf2 Try.prog tiL (by kernel_rfl)
end Go.Proofs.Ythpnmoiohfiggaa

set_option linter.unusedVariables false
set_option maxRecDepth 100000
namespace Go.Proofs.Ythpnmoiohfiggaa
open Go.V
noncomputable section
def J_s_l10New : Joins := [(.r, ⟨[.int .i64, .str], [(0, .pl 0 0)], [(0, [.h 0, .h 1, .nil, .nil])], [], [], []⟩)]
def ann_s_l10New : Ann := .nil
def env_s_l10New : Env := envOf ti [] []
theorem eok_s_l10New : EnvOk Try.prog env_s_l10New := envOf_ok tab mix _ _ (by
  intro k hk; cases hk)
theorem v_s_l10New  : (vfun env_s_l10New Try.f110 J_s_l10New ann_s_l10New [] [] []).run = (G.s_l10New ).bind fun y => some (Res.mk [.ag [⟨.int .i64, y.1⟩, ⟨.str, y.2⟩, ⟨.sl true 76 (.pair (.int .i64) (.int .i64)), []⟩, ⟨.sl true 93 (.sl true 34 (.pair (.int .i64) (.pair (.int .i64) .str))), []⟩]] [] []) := by kernel_rfl
def k_s_l10New : Kn := ⟨110, [], fun args rows => match args, rows with
  | [], [] => some ⟨_, G.s_l10New , fun y => ⟨[.ag [⟨.int .i64, y.1⟩, ⟨.str, y.2⟩, ⟨.sl true 76 (.pair (.int .i64) (.int .i64)), []⟩, ⟨.sl true 93 (.sl true 34 (.pair (.int .i64) (.pair (.int .i64) .str))), []⟩]], [], []⟩⟩
  | _, _ => none, []⟩
theorem s_s_l10New : KnOk Try.prog k_s_l10New := by
  intro args rows a h y hy
  simp only [k_s_l10New] at h
  split at h
  · injection h with h
    subst h
    exact vfun_ok eok_s_l10New Try.func110 rfl (by rw [v_s_l10New]; simp only at hy; rw [hy]; rfl)
  · cases h
def J_s_l1Cur_next_f : Joins := [(.r, ⟨[.int .i64, .sl false 5 (.int .u8), .int .i64, .int .u64], [(2, .one (.h 0))], [(63, [.h 1, .h 2, .h 3])], [], [], []⟩)]
def ann_s_l1Cur_next_f : Ann := .seq .nil (.seq .nil (.seq (.seq .nil (.cond [(.n, ⟨[.int .i64, .sl false 5 (.int .u8), .int .i64, .int .u64], [(0, .pl 63 0), (3, .one (.h 0))], [(63, [.h 1, .h 2, .h 3])], [], [], []⟩)] .nil .nil)) .nil))
def env_s_l1Cur_next_f : Env := envOf ti [] []
theorem eok_s_l1Cur_next_f : EnvOk Try.prog env_s_l1Cur_next_f := envOf_ok tab mix _ _ (by
  intro k hk; cases hk)
theorem v_s_l1Cur_next_f (x0 : List Int) (x1 : Int) (x2 : Int) : (vfun env_s_l1Cur_next_f Try.f79 J_s_l1Cur_next_f ann_s_l1Cur_next_f [] [.pl 0 0] [[⟨.sl false 5 (.int .u8), x0⟩, ⟨.int .i64, x1⟩, ⟨.int .u64, x2⟩]]).run = (G.s_l1Cur_next_f x0 x1 x2).bind fun y => some (Res.mk [.one ⟨.int .i64, y.1⟩] [[⟨.sl false 5 (.int .u8), y.2.1⟩, ⟨.int .i64, y.2.2.1⟩, ⟨.int .u64, y.2.2.2⟩]] []) := by kernel_rfl
def k_s_l1Cur_next_f : Kn := ⟨79, [0], fun args rows => match args, rows with
  | [.pl 0 0], [[⟨.sl false 5 (.int .u8), x0⟩, ⟨.int .i64, x1⟩, ⟨.int .u64, x2⟩]] => some ⟨_, G.s_l1Cur_next_f x0 x1 x2, fun y => ⟨[.one ⟨.int .i64, y.1⟩], [[⟨.sl false 5 (.int .u8), y.2.1⟩, ⟨.int .i64, y.2.2.1⟩, ⟨.int .u64, y.2.2.2⟩]], []⟩⟩
  | _, _ => none, []⟩
theorem s_s_l1Cur_next_f : KnOk Try.prog k_s_l1Cur_next_f := by
  intro args rows a h y hy
  simp only [k_s_l1Cur_next_f] at h
  split at h
  · injection h with h
    subst h
    exact vfun_ok eok_s_l1Cur_next_f Try.func79 rfl (by rw [v_s_l1Cur_next_f]; simp only at hy; rw [hy]; rfl)
  · cases h
def J_s_l1Cur_pick_f : Joins := [(.r, ⟨[.int .i64, .sl false 5 (.int .u8), .int .i64, .int .u64], [(4, .one (.h 0))], [(21, [.h 1, .h 2, .h 3])], [], [], []⟩)]
def ann_s_l1Cur_pick_f : Ann := .seq .nil (.seq .nil (.seq .nil (.seq (.seq .nil (.cond [(.n, ⟨[.int .i64, .int .i64, .sl false 5 (.int .u8), .int .i64, .int .u64], [(1, .one (.h 0)), (5, .one (.h 1))], [(21, [.h 2, .h 3, .h 4])], [], [], []⟩)] .nil .nil)) .nil)))
def env_s_l1Cur_pick_f : Env := envOf ti [k_s_l1Cur_next_f] []
theorem eok_s_l1Cur_pick_f : EnvOk Try.prog env_s_l1Cur_pick_f := envOf_ok tab mix _ _ (by
  intro k hk
  simp only [List.mem_cons, List.not_mem_nil, or_false] at hk
  rcases hk with rfl
  · exact s_s_l1Cur_next_f)
theorem v_s_l1Cur_pick_f (x0 : Int) (x1 : List Int) (x2 : Int) (x3 : Int) : (vfun env_s_l1Cur_pick_f Try.f32 J_s_l1Cur_pick_f ann_s_l1Cur_pick_f [] [.pl 0 0, .one ⟨.int .i64, x0⟩] [[⟨.sl false 5 (.int .u8), x1⟩, ⟨.int .i64, x2⟩, ⟨.int .u64, x3⟩]]).run = (G.s_l1Cur_pick_f x0 x1 x2 x3).bind fun y => some (Res.mk [.one ⟨.int .i64, y.1⟩] [[⟨.sl false 5 (.int .u8), y.2.1⟩, ⟨.int .i64, y.2.2.1⟩, ⟨.int .u64, y.2.2.2⟩]] []) := by kernel_rfl
def k_s_l1Cur_pick_f : Kn := ⟨32, [0, 0], fun args rows => match args, rows with
  | [.pl 0 0, .one ⟨.int .i64, x0⟩], [[⟨.sl false 5 (.int .u8), x1⟩, ⟨.int .i64, x2⟩, ⟨.int .u64, x3⟩]] => some ⟨_, G.s_l1Cur_pick_f x0 x1 x2 x3, fun y => ⟨[.one ⟨.int .i64, y.1⟩], [[⟨.sl false 5 (.int .u8), y.2.1⟩, ⟨.int .i64, y.2.2.1⟩, ⟨.int .u64, y.2.2.2⟩]], []⟩⟩
  | _, _ => none, []⟩
theorem s_s_l1Cur_pick_f : KnOk Try.prog k_s_l1Cur_pick_f := by
  intro args rows a h y hy
  simp only [k_s_l1Cur_pick_f] at h
  split at h
  · injection h with h
    subst h
    exact vfun_ok eok_s_l1Cur_pick_f Try.func32 rfl (by rw [v_s_l1Cur_pick_f]; simp only at hy; rw [hy]; rfl)
  · cases h
def J_s_l1Cur_one_f : Joins := [(.r, ⟨[.bool, .sl false 5 (.int .u8), .int .i64, .int .u64], [(4, .one (.h 0))], [(10, [.h 1, .h 2, .h 3])], [], [], []⟩)]
def ann_s_l1Cur_one_f : Ann := .nil
def env_s_l1Cur_one_f : Env := envOf ti [k_s_l1Cur_pick_f] []
theorem eok_s_l1Cur_one_f : EnvOk Try.prog env_s_l1Cur_one_f := envOf_ok tab mix _ _ (by
  intro k hk
  simp only [List.mem_cons, List.not_mem_nil, or_false] at hk
  rcases hk with rfl
  · exact s_s_l1Cur_pick_f)
theorem v_s_l1Cur_one_f (x0 : Int) (x1 : List Int) (x2 : Int) (x3 : Int) : (vfun env_s_l1Cur_one_f Try.f31 J_s_l1Cur_one_f ann_s_l1Cur_one_f [] [.pl 0 0, .one ⟨.int .i64, x0⟩] [[⟨.sl false 5 (.int .u8), x1⟩, ⟨.int .i64, x2⟩, ⟨.int .u64, x3⟩]]).run = (G.s_l1Cur_one_f x0 x1 x2 x3).bind fun y => some (Res.mk [.one ⟨.bool, y.1⟩] [[⟨.sl false 5 (.int .u8), y.2.1⟩, ⟨.int .i64, y.2.2.1⟩, ⟨.int .u64, y.2.2.2⟩]] []) := by kernel_rfl
def k_s_l1Cur_one_f : Kn := ⟨31, [0, 0], fun args rows => match args, rows with
  | [.pl 0 0, .one ⟨.int .i64, x0⟩], [[⟨.sl false 5 (.int .u8), x1⟩, ⟨.int .i64, x2⟩, ⟨.int .u64, x3⟩]] => some ⟨_, G.s_l1Cur_one_f x0 x1 x2 x3, fun y => ⟨[.one ⟨.bool, y.1⟩], [[⟨.sl false 5 (.int .u8), y.2.1⟩, ⟨.int .i64, y.2.2.1⟩, ⟨.int .u64, y.2.2.2⟩]], []⟩⟩
  | _, _ => none, []⟩
theorem s_s_l1Cur_one_f : KnOk Try.prog k_s_l1Cur_one_f := by
  intro args rows a h y hy
  simp only [k_s_l1Cur_one_f] at h
  split at h
  · injection h with h
    subst h
    exact vfun_ok eok_s_l1Cur_one_f Try.func31 rfl (by rw [v_s_l1Cur_one_f]; simp only at hy; rw [hy]; rfl)
  · cases h
def J_s_l1Cur_textOf_f : Joins := [(.r, ⟨[.str, .sl false 5 (.int .u8), .int .i64, .int .u64], [(4, .one (.h 0))], [(25, [.h 1, .h 2, .h 3])], [], [], []⟩)]
def ann_s_l1Cur_textOf_f : Ann := .seq .nil (.seq .nil (.seq (.seq .nil (.block [] (.loop ⟨[.sl true 5 (.int .u8), .int .i64, .int .i64, .sl false 5 (.int .u8), .int .i64, .int .u64], [(0, .pl 25 0), (5, .one (.vw 126976)), (10, .one (.h 1)), (11, .one (.h 2))], [(25, [.h 3, .h 4, .h 5])], [(126976, 0)], [], []⟩ [(.x 0, ⟨[.sl true 5 (.int .u8), .sl false 5 (.int .u8), .int .i64, .int .u64], [(5, .one (.vw 127040))], [(25, [.h 1, .h 2, .h 3])], [(127040, 0)], [], []⟩)] .nil))) .nil))
def env_s_l1Cur_textOf_f : Env := envOf ti [k_s_l1Cur_pick_f] []
theorem eok_s_l1Cur_textOf_f : EnvOk Try.prog env_s_l1Cur_textOf_f := envOf_ok tab mix _ _ (by
  intro k hk
  simp only [List.mem_cons, List.not_mem_nil, or_false] at hk
  rcases hk with rfl
  · exact s_s_l1Cur_pick_f)
theorem v_s_l1Cur_textOf_f (x0 : Int) (x1 : List Int) (x2 : Int) (x3 : Int) : (vfun env_s_l1Cur_textOf_f Try.f111 J_s_l1Cur_textOf_f ann_s_l1Cur_textOf_f [] [.pl 0 0, .one ⟨.int .i64, x0⟩] [[⟨.sl false 5 (.int .u8), x1⟩, ⟨.int .i64, x2⟩, ⟨.int .u64, x3⟩]]).run = (G.s_l1Cur_textOf_f x0 x1 x2 x3).bind fun y => some (Res.mk [.one ⟨.str, y.1⟩] [[⟨.sl false 5 (.int .u8), y.2.1⟩, ⟨.int .i64, y.2.2.1⟩, ⟨.int .u64, y.2.2.2⟩]] []) := by kernel_rfl
def k_s_l1Cur_textOf_f : Kn := ⟨111, [0, 0], fun args rows => match args, rows with
  | [.pl 0 0, .one ⟨.int .i64, x0⟩], [[⟨.sl false 5 (.int .u8), x1⟩, ⟨.int .i64, x2⟩, ⟨.int .u64, x3⟩]] => some ⟨_, G.s_l1Cur_textOf_f x0 x1 x2 x3, fun y => ⟨[.one ⟨.str, y.1⟩], [[⟨.sl false 5 (.int .u8), y.2.1⟩, ⟨.int .i64, y.2.2.1⟩, ⟨.int .u64, y.2.2.2⟩]], []⟩⟩
  | _, _ => none, []⟩
theorem s_s_l1Cur_textOf_f : KnOk Try.prog k_s_l1Cur_textOf_f := by
  intro args rows a h y hy
  simp only [k_s_l1Cur_textOf_f] at h
  split at h
  · injection h with h
    subst h
    exact vfun_ok eok_s_l1Cur_textOf_f Try.func111 rfl (by rw [v_s_l1Cur_textOf_f]; simp only at hy; rw [hy]; rfl)
  · cases h
def J_s_l9Add : Joins := [(.r, ⟨[.sl true 76 (.pair (.int .i64) (.int .i64))], [(4, .one (.vw 144385))], [], [(144385, 0)], [], []⟩)]
def ann_s_l9Add : Ann := .seq .nil (.seq .nil (.seq (.seq .nil (.seq (.reg [(.n, ⟨[.sl true 76 (.pair (.int .i64) (.int .i64)), .int .i64, .bool, .int .i64, .int .i64], [(0, .one (.vw 144384)), (3, .pl 3 0), (5, .one (.h 1)), (24, .one (.h 2))], [(3, [.h 3, .h 4])], [(144384, 0)], [], []⟩)]) .nil)) .nil))
def env_s_l9Add : Env := envOf ti [] []
theorem eok_s_l9Add : EnvOk Try.prog env_s_l9Add := envOf_ok tab mix _ _ (by
  intro k hk; cases hk)
theorem v_s_l9Add (x0 : List (Int × Int)) (x1 : Int) (x2 : Int) : (vfun env_s_l9Add Try.f80 J_s_l9Add ann_s_l9Add [] [.one ⟨.sl true 76 (.pair (.int .i64) (.int .i64)), x0⟩, .ag [⟨.int .i64, x1⟩, ⟨.int .i64, x2⟩]] []).run = (G.s_l9Add x0 x1 x2).bind fun y => some (Res.mk [.one ⟨.sl true 76 (.pair (.int .i64) (.int .i64)), y⟩] [] []) := by kernel_rfl
def k_s_l9Add : Kn := ⟨80, [1, 0], fun args rows => match args, rows with
  | [.one ⟨.sl true 76 (.pair (.int .i64) (.int .i64)), x0⟩, .ag [⟨.int .i64, x1⟩, ⟨.int .i64, x2⟩]], [] => some ⟨_, G.s_l9Add x0 x1 x2, fun y => ⟨[.one ⟨.sl true 76 (.pair (.int .i64) (.int .i64)), y⟩], [], []⟩⟩
  | _, _ => none, []⟩
theorem s_s_l9Add : KnOk Try.prog k_s_l9Add := by
  intro args rows a h y hy
  simp only [k_s_l9Add] at h
  split at h
  · injection h with h
    subst h
    exact vfun_ok eok_s_l9Add Try.func80 rfl (by rw [v_s_l9Add]; simp only at hy; rw [hy]; rfl)
  · cases h
def J_s_l1Cur_among_f : Joins := [(.r, ⟨[.int .i64, .sl false 5 (.int .u8), .int .i64, .int .u64], [(4, .one (.h 0))], [(13, [.h 1, .h 2, .h 3])], [], [], []⟩)]
def ann_s_l1Cur_among_f : Ann := .nil
def env_s_l1Cur_among_f : Env := envOf ti [k_s_l1Cur_pick_f] []
theorem eok_s_l1Cur_among_f : EnvOk Try.prog env_s_l1Cur_among_f := envOf_ok tab mix _ _ (by
  intro k hk
  simp only [List.mem_cons, List.not_mem_nil, or_false] at hk
  rcases hk with rfl
  · exact s_s_l1Cur_pick_f)
theorem v_s_l1Cur_among_f (x0 : List Int) (x1 : List Int) (x2 : Int) (x3 : Int) : (vfun env_s_l1Cur_among_f Try.f33 J_s_l1Cur_among_f ann_s_l1Cur_among_f [] [.pl 0 0, .one ⟨.sl true 3 (.int .i64), x0⟩] [[⟨.sl false 5 (.int .u8), x1⟩, ⟨.int .i64, x2⟩, ⟨.int .u64, x3⟩]]).run = (G.s_l1Cur_among_f x0 x1 x2 x3).bind fun y => some (Res.mk [.one ⟨.int .i64, y.1⟩] [[⟨.sl false 5 (.int .u8), y.2.1⟩, ⟨.int .i64, y.2.2.1⟩, ⟨.int .u64, y.2.2.2⟩]] []) := by kernel_rfl
def k_s_l1Cur_among_f : Kn := ⟨33, [0, 1], fun args rows => match args, rows with
  | [.pl 0 0, .one ⟨.sl true 3 (.int .i64), x0⟩], [[⟨.sl false 5 (.int .u8), x1⟩, ⟨.int .i64, x2⟩, ⟨.int .u64, x3⟩]] => some ⟨_, G.s_l1Cur_among_f x0 x1 x2 x3, fun y => ⟨[.one ⟨.int .i64, y.1⟩], [[⟨.sl false 5 (.int .u8), y.2.1⟩, ⟨.int .i64, y.2.2.1⟩, ⟨.int .u64, y.2.2.2⟩]], []⟩⟩
  | _, _ => none, []⟩
theorem s_s_l1Cur_among_f : KnOk Try.prog k_s_l1Cur_among_f := by
  intro args rows a h y hy
  simp only [k_s_l1Cur_among_f] at h
  split at h
  · injection h with h
    subst h
    exact vfun_ok eok_s_l1Cur_among_f Try.func33 rfl (by rw [v_s_l1Cur_among_f]; simp only at hy; rw [hy]; rfl)
  · cases h
def J_s_l1Cur_runs_f : Joins := [(.r, ⟨[.sl true 76 (.pair (.int .i64) (.int .i64)), .sl false 5 (.int .u8), .int .i64, .int .u64], [(6, .one (.vw 161861))], [(59, [.h 1, .h 2, .h 3])], [(161861, 0)], [], []⟩)]
def ann_s_l1Cur_runs_f : Ann := .seq .nil (.seq .nil (.seq (.block [] (.loop ⟨[.int .i64, .int .i64, .sl true 76 (.pair (.int .i64) (.int .i64)), .sl false 5 (.int .u8), .int .i64, .int .u64], [(0, .pl 59 0), (1, .one (.h 0)), (2, .one (.h 1)), (7, .one (.vw 161792))], [(59, [.h 3, .h 4, .h 5])], [(161792, 2)], [], []⟩ [(.x 0, ⟨[.sl true 76 (.pair (.int .i64) (.int .i64)), .sl false 5 (.int .u8), .int .i64, .int .u64], [(0, .pl 59 0), (7, .one (.vw 161857))], [(59, [.h 1, .h 2, .h 3])], [(161857, 0)], [], []⟩)] (.seq .nil (.block [] (.seq .nil (.seq (.seq .nil (.cond [(.n, ⟨[.int .i64, .int .i64, .sl true 76 (.pair (.int .i64) (.int .i64)), .int .i64, .sl false 5 (.int .u8), .int .i64, .int .u64], [(0, .pl 59 0), (1, .one (.h 0)), (2, .one (.h 1)), (7, .one (.vw 161856)), (8, .one (.h 3))], [(59, [.h 4, .h 5, .h 6])], [(161856, 2)], [], []⟩)] .nil .nil)) .nil)))))) (.seq (.seq .nil (.block [] (.seq .nil (.cond [(.n, ⟨[.sl true 76 (.pair (.int .i64) (.int .i64)), .sl false 5 (.int .u8), .int .i64, .int .u64], [(7, .one (.vw 161860))], [(59, [.h 1, .h 2, .h 3])], [(161860, 0)], [], []⟩)] .nil (.seq .nil (.cond [(.n, ⟨[.sl true 76 (.pair (.int .i64) (.int .i64)), .sl false 5 (.int .u8), .int .i64, .int .u64], [(7, .one (.vw 161859))], [(59, [.h 1, .h 2, .h 3])], [(161859, 0)], [], []⟩)] (.seq .nil (.cond [(.n, ⟨[.sl true 76 (.pair (.int .i64) (.int .i64)), .sl false 5 (.int .u8), .int .i64, .int .u64], [(7, .one (.vw 161858))], [(59, [.h 1, .h 2, .h 3])], [(161858, 0)], [], []⟩)] .nil .nil)) .nil)))))) .nil)))
def env_s_l1Cur_runs_f : Env := envOf ti [k_s_l1Cur_pick_f, k_s_l9Add, k_s_l1Cur_among_f] []
theorem eok_s_l1Cur_runs_f : EnvOk Try.prog env_s_l1Cur_runs_f := envOf_ok tab mix _ _ (by
  intro k hk
  simp only [List.mem_cons, List.not_mem_nil, or_false] at hk
  rcases hk with rfl | rfl | rfl
  · exact s_s_l1Cur_pick_f
  · exact s_s_l9Add
  · exact s_s_l1Cur_among_f)
theorem v_s_l1Cur_runs_f (x0 : Int) (x1 : Int) (x2 : List Int) (x3 : Int) (x4 : Int) : (vfun env_s_l1Cur_runs_f Try.f34 J_s_l1Cur_runs_f ann_s_l1Cur_runs_f [] [.pl 0 0, .one ⟨.int .i64, x0⟩, .one ⟨.int .i64, x1⟩] [[⟨.sl false 5 (.int .u8), x2⟩, ⟨.int .i64, x3⟩, ⟨.int .u64, x4⟩]]).run = (G.s_l1Cur_runs_f x0 x1 x2 x3 x4).bind fun y => some (Res.mk [.one ⟨.sl true 76 (.pair (.int .i64) (.int .i64)), y.1⟩] [[⟨.sl false 5 (.int .u8), y.2.1⟩, ⟨.int .i64, y.2.2.1⟩, ⟨.int .u64, y.2.2.2⟩]] []) := by kernel_rfl
def k_s_l1Cur_runs_f : Kn := ⟨34, [0, 0, 0], fun args rows => match args, rows with
  | [.pl 0 0, .one ⟨.int .i64, x0⟩, .one ⟨.int .i64, x1⟩], [[⟨.sl false 5 (.int .u8), x2⟩, ⟨.int .i64, x3⟩, ⟨.int .u64, x4⟩]] => some ⟨_, G.s_l1Cur_runs_f x0 x1 x2 x3 x4, fun y => ⟨[.one ⟨.sl true 76 (.pair (.int .i64) (.int .i64)), y.1⟩], [[⟨.sl false 5 (.int .u8), y.2.1⟩, ⟨.int .i64, y.2.2.1⟩, ⟨.int .u64, y.2.2.2⟩]], []⟩⟩
  | _, _ => none, []⟩
theorem s_s_l1Cur_runs_f : KnOk Try.prog k_s_l1Cur_runs_f := by
  intro args rows a h y hy
  simp only [k_s_l1Cur_runs_f] at h
  split at h
  · injection h with h
    subst h
    exact vfun_ok eok_s_l1Cur_runs_f Try.func34 rfl (by rw [v_s_l1Cur_runs_f]; simp only at hy; rw [hy]; rfl)
  · cases h
def J_s_l1In : Joins := [(.r, ⟨[.bool], [(6, .one (.h 0))], [], [], [], []⟩)]
def ann_s_l1In : Ann := .seq .nil (.seq (.reg [(.n, ⟨[.bool], [(6, .one (.h 0))], [], [], [], []⟩)]) .nil)
def env_s_l1In : Env := envOf ti [] []
theorem eok_s_l1In : EnvOk Try.prog env_s_l1In := envOf_ok tab mix _ _ (by
  intro k hk; cases hk)
theorem v_s_l1In (x0 : Int) (x1 : Int) (x2 : Int) : (vfun env_s_l1In Try.f41 J_s_l1In ann_s_l1In [] [.one ⟨.int .i64, x0⟩, .one ⟨.int .i64, x1⟩, .one ⟨.int .i64, x2⟩] []).run = (G.s_l1In x0 x1 x2).bind fun y => some (Res.mk [.one ⟨.bool, y⟩] [] []) := by kernel_rfl
def k_s_l1In : Kn := ⟨41, [0, 0, 0], fun args rows => match args, rows with
  | [.one ⟨.int .i64, x0⟩, .one ⟨.int .i64, x1⟩, .one ⟨.int .i64, x2⟩], [] => some ⟨_, G.s_l1In x0 x1 x2, fun y => ⟨[.one ⟨.bool, y⟩], [], []⟩⟩
  | _, _ => none, []⟩
theorem s_s_l1In : KnOk Try.prog k_s_l1In := by
  intro args rows a h y hy
  simp only [k_s_l1In] at h
  split at h
  · injection h with h
    subst h
    exact vfun_ok eok_s_l1In Try.func41 rfl (by rw [v_s_l1In]; simp only at hy; rw [hy]; rfl)
  · cases h
def J_s_GoodRuns : Joins := [(.r, ⟨[.bool], [(6, .one (.h 0))], [], [], [], []⟩)]
def ann_s_GoodRuns : Ann := .seq .nil (.seq (.seq (.reg [(.n, ⟨[.sl false 76 (.pair (.int .i64) (.int .i64)), .int .i64, .int .i64, .bool], [(0, .one (.h 0)), (1, .one (.h 1)), (2, .one (.h 2)), (17, .one (.h 3))], [], [], [], []⟩)]) .nil) (.seq .nil (.seq (.seq .nil (.block [] (.loop ⟨[.sl false 76 (.pair (.int .i64) (.int .i64)), .int .i64, .int .i64, .int .i64, .sl false 76 (.pair (.int .i64) (.int .i64)), .int .i64, .int .i64], [(0, .one (.h 0)), (1, .one (.h 1)), (2, .one (.h 2)), (7, .one (.h 3)), (18, .one (.h 4)), (19, .one (.h 5)), (20, .one (.h 6))], [], [], [], []⟩ [(.x 0, ⟨[.int .i64, .int .i64], [(1, .one (.h 0)), (7, .one (.h 1))], [], [], [], []⟩), (.r, ⟨[.bool], [(6, .one (.h 0))], [], [], [], []⟩)] (.seq .nil (.seq .nil (.seq (.block [] (.seq .nil (.seq (.seq (.reg [(.n, ⟨[.sl false 76 (.pair (.int .i64) (.int .i64)), .int .i64, .int .i64, .int .i64, .sl false 76 (.pair (.int .i64) (.int .i64)), .int .i64, .int .i64, .bool, .int .i64, .int .i64], [(0, .one (.h 0)), (1, .one (.h 1)), (2, .one (.h 2)), (7, .one (.h 3)), (9, .pl 9 0), (18, .one (.h 4)), (19, .one (.h 5)), (20, .one (.h 6)), (53, .one (.h 7))], [(9, [.h 8, .h 9])], [], [], []⟩)]) .nil) .nil))) .nil)))))) .nil)))
def env_s_GoodRuns : Env := envOf ti [k_s_l1In] []
theorem eok_s_GoodRuns : EnvOk Try.prog env_s_GoodRuns := envOf_ok tab mix _ _ (by
  intro k hk
  simp only [List.mem_cons, List.not_mem_nil, or_false] at hk
  rcases hk with rfl
  · exact s_s_l1In)
theorem v_s_GoodRuns (x0 : List (Int × Int)) (x1 : Int) (x2 : Int) : (vfun env_s_GoodRuns Try.f39 J_s_GoodRuns ann_s_GoodRuns [] [.one ⟨.sl false 76 (.pair (.int .i64) (.int .i64)), x0⟩, .one ⟨.int .i64, x1⟩, .one ⟨.int .i64, x2⟩] []).run = (G.s_GoodRuns x0 x1 x2).bind fun y => some (Res.mk [.one ⟨.bool, y⟩] [] []) := by kernel_rfl
def k_s_GoodRuns : Kn := ⟨39, [0, 0, 0], fun args rows => match args, rows with
  | [.one ⟨.sl false 76 (.pair (.int .i64) (.int .i64)), x0⟩, .one ⟨.int .i64, x1⟩, .one ⟨.int .i64, x2⟩], [] => some ⟨_, G.s_GoodRuns x0 x1 x2, fun y => ⟨[.one ⟨.bool, y⟩], [], []⟩⟩
  | _, _ => none, []⟩
theorem s_s_GoodRuns : KnOk Try.prog k_s_GoodRuns := by
  intro args rows a h y hy
  simp only [k_s_GoodRuns] at h
  split at h
  · injection h with h
    subst h
    exact vfun_ok eok_s_GoodRuns Try.func39 rfl (by rw [v_s_GoodRuns]; simp only at hy; rw [hy]; rfl)
  · cases h
def J_s_l1Kind : Joins := [(.r, ⟨[.int .i64], [(2, .one (.h 0))], [], [], [], []⟩)]
def ann_s_l1Kind : Ann := .seq .nil (.seq (.block [] (.seq (.reg [(.n, ⟨[.bool, .int .i64, .int .i64, .str], [(1, .pl 1 0), (3, .one (.h 0))], [(1, [.h 1, .h 2, .h 3])], [], [], []⟩)]) (.cond [] .nil (.seq (.reg [(.n, ⟨[.bool, .int .i64, .int .i64, .str], [(1, .pl 1 0), (17, .one (.h 0))], [(1, [.h 1, .h 2, .h 3])], [], [], []⟩)]) (.cond [] .nil (.seq (.reg [(.n, ⟨[.bool], [(31, .one (.h 0))], [], [], [], []⟩)]) .nil)))))) .nil)
def env_s_l1Kind : Env := envOf ti [] []
theorem eok_s_l1Kind : EnvOk Try.prog env_s_l1Kind := envOf_ok tab mix _ _ (by
  intro k hk; cases hk)
theorem v_s_l1Kind (x0 : Int) (x1 : Int) (x2 : List UInt8) : (vfun env_s_l1Kind Try.f84 J_s_l1Kind ann_s_l1Kind [] [.ag [⟨.int .i64, x0⟩, ⟨.int .i64, x1⟩, ⟨.str, x2⟩]] []).run = (G.s_l1Kind x0 x1 x2).bind fun y => some (Res.mk [.one ⟨.int .i64, y⟩] [] []) := by kernel_rfl
def k_s_l1Kind : Kn := ⟨84, [0], fun args rows => match args, rows with
  | [.ag [⟨.int .i64, x0⟩, ⟨.int .i64, x1⟩, ⟨.str, x2⟩]], [] => some ⟨_, G.s_l1Kind x0 x1 x2, fun y => ⟨[.one ⟨.int .i64, y⟩], [], []⟩⟩
  | _, _ => none, []⟩
theorem s_s_l1Kind : KnOk Try.prog k_s_l1Kind := by
  intro args rows a h y hy
  simp only [k_s_l1Kind] at h
  split at h
  · injection h with h
    subst h
    exact vfun_ok eok_s_l1Kind Try.func84 rfl (by rw [v_s_l1Kind]; simp only at hy; rw [hy]; rfl)
  · cases h
def J_s_GoodChange : Joins := [(.r, ⟨[.bool], [(2, .one (.h 0))], [], [], [], []⟩)]
def ann_s_GoodChange : Ann := .seq .nil (.seq .nil (.seq .nil (.seq (.seq .nil (.block [] (.loop ⟨[.sl false 34 (.pair (.int .i64) (.pair (.int .i64) .str)), .int .i64, .int .i64, .sl false 34 (.pair (.int .i64) (.pair (.int .i64) .str)), .int .i64, .int .i64], [(0, .one (.h 0)), (3, .one (.h 1)), (4, .one (.h 2)), (8, .one (.h 3)), (9, .one (.h 4)), (10, .one (.h 5))], [], [], [], []⟩ [(.x 0, ⟨[], [], [], [], [], []⟩), (.r, ⟨[.bool], [(2, .one (.h 0))], [], [], [], []⟩)] (.seq .nil (.seq .nil (.seq (.block [] (.seq .nil (.seq .nil (.seq (.seq (.reg [(.n, ⟨[.sl false 34 (.pair (.int .i64) (.pair (.int .i64) .str)), .int .i64, .int .i64, .sl false 34 (.pair (.int .i64) (.pair (.int .i64) .str)), .int .i64, .int .i64, .bool, .int .i64, .int .i64, .str], [(0, .one (.h 0)), (3, .one (.h 1)), (4, .one (.h 2)), (6, .pl 6 0), (8, .one (.h 3)), (9, .one (.h 4)), (10, .one (.h 5)), (48, .one (.h 6))], [(6, [.h 7, .h 8, .h 9])], [], [], []⟩)]) .nil) (.seq .nil (.seq .nil (.seq (.reg [(.n, ⟨[.sl false 34 (.pair (.int .i64) (.pair (.int .i64) .str)), .int .i64, .int .i64, .sl false 34 (.pair (.int .i64) (.pair (.int .i64) .str)), .int .i64, .int .i64, .bool], [(0, .one (.h 0)), (3, .one (.h 1)), (4, .one (.h 2)), (8, .one (.h 3)), (9, .one (.h 4)), (10, .one (.h 5)), (69, .one (.h 6))], [], [], [], []⟩)]) .nil))))))) .nil)))))) .nil)))
def env_s_GoodChange : Env := envOf ti [k_s_l1Kind] []
theorem eok_s_GoodChange : EnvOk Try.prog env_s_GoodChange := envOf_ok tab mix _ _ (by
  intro k hk
  simp only [List.mem_cons, List.not_mem_nil, or_false] at hk
  rcases hk with rfl
  · exact s_s_l1Kind)
theorem v_s_GoodChange (x0 : List (Int × (Int × List UInt8))) : (vfun env_s_GoodChange Try.f38 J_s_GoodChange ann_s_GoodChange [] [.one ⟨.sl false 34 (.pair (.int .i64) (.pair (.int .i64) .str)), x0⟩] []).run = (G.s_GoodChange x0).bind fun y => some (Res.mk [.one ⟨.bool, y⟩] [] []) := by kernel_rfl
def k_s_GoodChange : Kn := ⟨38, [0], fun args rows => match args, rows with
  | [.one ⟨.sl false 34 (.pair (.int .i64) (.pair (.int .i64) .str)), x0⟩], [] => some ⟨_, G.s_GoodChange x0, fun y => ⟨[.one ⟨.bool, y⟩], [], []⟩⟩
  | _, _ => none, []⟩
theorem s_s_GoodChange : KnOk Try.prog k_s_GoodChange := by
  intro args rows a h y hy
  simp only [k_s_GoodChange] at h
  split at h
  · injection h with h
    subst h
    exact vfun_ok eok_s_GoodChange Try.func38 rfl (by rw [v_s_GoodChange]; simp only at hy; rw [hy]; rfl)
  · cases h
end
end Go.Proofs.Ythpnmoiohfiggaa

set_option linter.unusedVariables false
set_option maxRecDepth 100000
namespace Go.Proofs.Ythpnmoiohfiggaa
open Go.V
noncomputable section
def J_s_l1Source : Joins := [(.r, ⟨[.int .i64], [(2, .one (.h 0))], [], [], [], []⟩)]
def ann_s_l1Source : Ann := .seq .nil (.seq .nil (.seq (.seq .nil (.block [] (.loop ⟨[.int .i64, .sl false 34 (.pair (.int .i64) (.pair (.int .i64) .str)), .int .i64, .int .i64], [(3, .one (.h 0)), (6, .one (.h 1)), (7, .one (.h 2)), (8, .one (.h 3))], [], [], [], []⟩ [(.x 0, ⟨[.int .i64], [(3, .one (.h 0))], [], [], [], []⟩)] .nil))) .nil))
def env_s_l1Source : Env := envOf ti [] []
theorem eok_s_l1Source : EnvOk Try.prog env_s_l1Source := envOf_ok tab mix _ _ (by
  intro k hk; cases hk)
theorem v_s_l1Source (x0 : List (Int × (Int × List UInt8))) : (vfun env_s_l1Source Try.f40 J_s_l1Source ann_s_l1Source [] [.one ⟨.sl false 34 (.pair (.int .i64) (.pair (.int .i64) .str)), x0⟩] []).run = (G.s_l1Source x0).bind fun y => some (Res.mk [.one ⟨.int .i64, y⟩] [] []) := by kernel_rfl
def k_s_l1Source : Kn := ⟨40, [0], fun args rows => match args, rows with
  | [.one ⟨.sl false 34 (.pair (.int .i64) (.pair (.int .i64) .str)), x0⟩], [] => some ⟨_, G.s_l1Source x0, fun y => ⟨[.one ⟨.int .i64, y⟩], [], []⟩⟩
  | _, _ => none, []⟩
theorem s_s_l1Source : KnOk Try.prog k_s_l1Source := by
  intro args rows a h y hy
  simp only [k_s_l1Source] at h
  split at h
  · injection h with h
    subst h
    exact vfun_ok eok_s_l1Source Try.func40 rfl (by rw [v_s_l1Source]; simp only at hy; rw [hy]; rfl)
  · cases h
def J_s_l1Target : Joins := [(.r, ⟨[.int .i64], [(2, .one (.h 0))], [], [], [], []⟩)]
def ann_s_l1Target : Ann := .seq .nil (.seq .nil (.seq (.seq .nil (.block [] (.loop ⟨[.int .i64, .sl false 34 (.pair (.int .i64) (.pair (.int .i64) .str)), .int .i64, .int .i64], [(3, .one (.h 0)), (6, .one (.h 1)), (7, .one (.h 2)), (8, .one (.h 3))], [], [], [], []⟩ [(.x 0, ⟨[.int .i64], [(3, .one (.h 0))], [], [], [], []⟩)] .nil))) .nil))
def env_s_l1Target : Env := envOf ti [] []
theorem eok_s_l1Target : EnvOk Try.prog env_s_l1Target := envOf_ok tab mix _ _ (by
  intro k hk; cases hk)
theorem v_s_l1Target (x0 : List (Int × (Int × List UInt8))) : (vfun env_s_l1Target Try.f43 J_s_l1Target ann_s_l1Target [] [.one ⟨.sl false 34 (.pair (.int .i64) (.pair (.int .i64) .str)), x0⟩] []).run = (G.s_l1Target x0).bind fun y => some (Res.mk [.one ⟨.int .i64, y⟩] [] []) := by kernel_rfl
def k_s_l1Target : Kn := ⟨43, [0], fun args rows => match args, rows with
  | [.one ⟨.sl false 34 (.pair (.int .i64) (.pair (.int .i64) .str)), x0⟩], [] => some ⟨_, G.s_l1Target x0, fun y => ⟨[.one ⟨.int .i64, y⟩], [], []⟩⟩
  | _, _ => none, []⟩
theorem s_s_l1Target : KnOk Try.prog k_s_l1Target := by
  intro args rows a h y hy
  simp only [k_s_l1Target] at h
  split at h
  · injection h with h
    subst h
    exact vfun_ok eok_s_l1Target Try.func43 rfl (by rw [v_s_l1Target]; simp only at hy; rw [hy]; rfl)
  · cases h
def J_s_GoodHistory : Joins := [(.r, ⟨[.bool], [(2, .one (.h 0))], [], [], [], []⟩)]
def ann_s_GoodHistory : Ann := .seq .nil (.seq (.seq (.reg [(.n, ⟨[.bool, .int .i64, .str, .sl false 76 (.pair (.int .i64) (.int .i64)), .sl false 93 (.sl false 34 (.pair (.int .i64) (.pair (.int .i64) .str)))], [(1, .pl 1 0), (35, .one (.h 0))], [(1, [.h 1, .h 2, .h 3, .h 4])], [], [], []⟩)]) .nil) (.seq .nil (.seq (.seq .nil (.block [] (.loop ⟨[.int .i64, .sl false 93 (.sl false 34 (.pair (.int .i64) (.pair (.int .i64) .str))), .int .i64, .int .i64], [(3, .one (.h 0)), (40, .one (.h 1)), (41, .one (.h 2)), (42, .one (.h 3))], [], [], [], []⟩ [(.x 0, ⟨[], [], [], [], [], []⟩), (.r, ⟨[.bool], [(2, .one (.h 0))], [], [], [], []⟩)] (.seq .nil (.seq .nil (.seq (.block [] (.seq .nil (.seq (.seq (.reg [(.n, ⟨[.sl false 93 (.sl false 34 (.pair (.int .i64) (.pair (.int .i64) .str))), .int .i64, .int .i64, .bool, .sl false 34 (.pair (.int .i64) (.pair (.int .i64) .str))], [(5, .pl 5 0), (40, .one (.h 0)), (41, .one (.h 1)), (42, .one (.h 2)), (56, .one (.h 3))], [(5, [.h 4])], [], [], []⟩)]) .nil) .nil))) .nil)))))) .nil)))
def env_s_GoodHistory : Env := envOf ti [k_s_l1In, k_s_GoodRuns, k_s_GoodChange, k_s_l1Source, k_s_l1Target] []
theorem eok_s_GoodHistory : EnvOk Try.prog env_s_GoodHistory := envOf_ok tab mix _ _ (by
  intro k hk
  simp only [List.mem_cons, List.not_mem_nil, or_false] at hk
  rcases hk with rfl | rfl | rfl | rfl | rfl
  · exact s_s_l1In
  · exact s_s_GoodRuns
  · exact s_s_GoodChange
  · exact s_s_l1Source
  · exact s_s_l1Target)
theorem v_s_GoodHistory (x0 : Int) (x1 : List UInt8) (x2 : List (Int × Int)) (x3 : List (List (Int × (Int × List UInt8)))) : (vfun env_s_GoodHistory Try.f53 J_s_GoodHistory ann_s_GoodHistory [] [.ag [⟨.int .i64, x0⟩, ⟨.str, x1⟩, ⟨.sl false 76 (.pair (.int .i64) (.int .i64)), x2⟩, ⟨.sl false 93 (.sl false 34 (.pair (.int .i64) (.pair (.int .i64) .str))), x3⟩]] []).run = (G.s_GoodHistory x0 x1 x2 x3).bind fun y => some (Res.mk [.one ⟨.bool, y⟩] [] []) := by kernel_rfl
def k_s_GoodHistory : Kn := ⟨53, [0], fun args rows => match args, rows with
  | [.ag [⟨.int .i64, x0⟩, ⟨.str, x1⟩, ⟨.sl false 76 (.pair (.int .i64) (.int .i64)), x2⟩, ⟨.sl false 93 (.sl false 34 (.pair (.int .i64) (.pair (.int .i64) .str))), x3⟩]], [] => some ⟨_, G.s_GoodHistory x0 x1 x2 x3, fun y => ⟨[.one ⟨.bool, y⟩], [], []⟩⟩
  | _, _ => none, []⟩
theorem s_s_GoodHistory : KnOk Try.prog k_s_GoodHistory := by
  intro args rows a h y hy
  simp only [k_s_GoodHistory] at h
  split at h
  · injection h with h
    subst h
    exact vfun_ok eok_s_GoodHistory Try.func53 rfl (by rw [v_s_GoodHistory]; simp only at hy; rw [hy]; rfl)
  · cases h
def J_s_l10Head : Joins := [(.r, ⟨[.int .i64], [(2, .one (.h 0))], [], [], [], []⟩)]
def ann_s_l10Head : Ann := .nil
def env_s_l10Head : Env := envOf ti [] []
theorem eok_s_l10Head : EnvOk Try.prog env_s_l10Head := envOf_ok tab mix _ _ (by
  intro k hk; cases hk)
theorem v_s_l10Head (x0 : Int) (x1 : List UInt8) (x2 : List (Int × Int)) (x3 : List (List (Int × (Int × List UInt8)))) : (vfun env_s_l10Head Try.f100 J_s_l10Head ann_s_l10Head [] [.ag [⟨.int .i64, x0⟩, ⟨.str, x1⟩, ⟨.sl false 76 (.pair (.int .i64) (.int .i64)), x2⟩, ⟨.sl false 93 (.sl false 34 (.pair (.int .i64) (.pair (.int .i64) .str))), x3⟩]] []).run = (G.s_l10Head x0 x1 x2 x3).bind fun y => some (Res.mk [.one ⟨.int .i64, y⟩] [] []) := by kernel_rfl
def k_s_l10Head : Kn := ⟨100, [0], fun args rows => match args, rows with
  | [.ag [⟨.int .i64, x0⟩, ⟨.str, x1⟩, ⟨.sl false 76 (.pair (.int .i64) (.int .i64)), x2⟩, ⟨.sl false 93 (.sl false 34 (.pair (.int .i64) (.pair (.int .i64) .str))), x3⟩]], [] => some ⟨_, G.s_l10Head x0 x1 x2 x3, fun y => ⟨[.one ⟨.int .i64, y⟩], [], []⟩⟩
  | _, _ => none, []⟩
theorem s_s_l10Head : KnOk Try.prog k_s_l10Head := by
  intro args rows a h y hy
  simp only [k_s_l10Head] at h
  split at h
  · injection h with h
    subst h
    exact vfun_ok eok_s_l10Head Try.func100 rfl (by rw [v_s_l10Head]; simp only at hy; rw [hy]; rfl)
  · cases h
def J_s_ApplyChange : Joins := [(.r, ⟨[.str, .bool], [(4, .one (.h 0)), (5, .one (.h 1))], [], [], [], []⟩)]
def ann_s_ApplyChange : Ann := .seq .nil (.seq (.seq (.reg [(.n, ⟨[.str, .sl false 34 (.pair (.int .i64) (.pair (.int .i64) .str)), .bool], [(0, .one (.h 0)), (1, .one (.h 1)), (19, .one (.h 2))], [], [], [], []⟩)]) .nil) (.seq .nil (.seq .nil (.seq (.seq .nil (.block [] (.loop ⟨[.str, .str, .int .i64, .sl false 34 (.pair (.int .i64) (.pair (.int .i64) .str)), .int .i64, .int .i64], [(0, .one (.h 0)), (6, .one (.h 1)), (7, .one (.h 2)), (20, .one (.h 3)), (21, .one (.h 4)), (22, .one (.h 5))], [], [], [], []⟩ [(.x 0, ⟨[.str], [(6, .one (.h 0))], [], [], [], []⟩)] .nil))) .nil))))
def env_s_ApplyChange : Env := envOf ti [k_s_GoodChange, k_s_l1Source] []
theorem eok_s_ApplyChange : EnvOk Try.prog env_s_ApplyChange := envOf_ok tab mix _ _ (by
  intro k hk
  simp only [List.mem_cons, List.not_mem_nil, or_false] at hk
  rcases hk with rfl | rfl
  · exact s_s_GoodChange
  · exact s_s_l1Source)
theorem v_s_ApplyChange (x0 : List UInt8) (x1 : List (Int × (Int × List UInt8))) : (vfun env_s_ApplyChange Try.f101 J_s_ApplyChange ann_s_ApplyChange [] [.one ⟨.str, x0⟩, .one ⟨.sl false 34 (.pair (.int .i64) (.pair (.int .i64) .str)), x1⟩] []).run = (G.s_ApplyChange x0 x1).bind fun y => some (Res.mk [.one ⟨.str, y.1⟩, .one ⟨.bool, y.2⟩] [] []) := by kernel_rfl
def k_s_ApplyChange : Kn := ⟨101, [0, 0], fun args rows => match args, rows with
  | [.one ⟨.str, x0⟩, .one ⟨.sl false 34 (.pair (.int .i64) (.pair (.int .i64) .str)), x1⟩], [] => some ⟨_, G.s_ApplyChange x0 x1, fun y => ⟨[.one ⟨.str, y.1⟩, .one ⟨.bool, y.2⟩], [], []⟩⟩
  | _, _ => none, []⟩
theorem s_s_ApplyChange : KnOk Try.prog k_s_ApplyChange := by
  intro args rows a h y hy
  simp only [k_s_ApplyChange] at h
  split at h
  · injection h with h
    subst h
    exact vfun_ok eok_s_ApplyChange Try.func101 rfl (by rw [v_s_ApplyChange]; simp only at hy; rw [hy]; rfl)
  · cases h
def J_s_l10Text : Joins := [(.r, ⟨[.str], [(4, .one (.h 0))], [], [], [], []⟩)]
def ann_s_l10Text : Ann := .seq .nil (.seq .nil (.seq (.seq .nil (.block [] (.loop ⟨[.str, .sl false 93 (.sl false 34 (.pair (.int .i64) (.pair (.int .i64) .str))), .int .i64, .int .i64], [(5, .one (.h 0)), (16, .one (.h 1)), (17, .one (.h 2)), (18, .one (.h 3))], [], [], [], []⟩ [(.x 0, ⟨[.str], [(5, .one (.h 0))], [], [], [], []⟩)] .nil))) .nil))
def env_s_l10Text : Env := envOf ti [k_s_ApplyChange] []
theorem eok_s_l10Text : EnvOk Try.prog env_s_l10Text := envOf_ok tab mix _ _ (by
  intro k hk
  simp only [List.mem_cons, List.not_mem_nil, or_false] at hk
  rcases hk with rfl
  · exact s_s_ApplyChange)
theorem v_s_l10Text (x0 : Int) (x1 : List UInt8) (x2 : List (Int × Int)) (x3 : List (List (Int × (Int × List UInt8)))) (x4 : Int) : (vfun env_s_l10Text Try.f70 J_s_l10Text ann_s_l10Text [] [.ag [⟨.int .i64, x0⟩, ⟨.str, x1⟩, ⟨.sl false 76 (.pair (.int .i64) (.int .i64)), x2⟩, ⟨.sl false 93 (.sl false 34 (.pair (.int .i64) (.pair (.int .i64) .str))), x3⟩], .one ⟨.int .i64, x4⟩] []).run = (G.s_l10Text x0 x1 x2 x3 x4).bind fun y => some (Res.mk [.one ⟨.str, y⟩] [] []) := by kernel_rfl
def k_s_l10Text : Kn := ⟨70, [0, 0], fun args rows => match args, rows with
  | [.ag [⟨.int .i64, x0⟩, ⟨.str, x1⟩, ⟨.sl false 76 (.pair (.int .i64) (.int .i64)), x2⟩, ⟨.sl false 93 (.sl false 34 (.pair (.int .i64) (.pair (.int .i64) .str))), x3⟩], .one ⟨.int .i64, x4⟩], [] => some ⟨_, G.s_l10Text x0 x1 x2 x3 x4, fun y => ⟨[.one ⟨.str, y⟩], [], []⟩⟩
  | _, _ => none, []⟩
theorem s_s_l10Text : KnOk Try.prog k_s_l10Text := by
  intro args rows a h y hy
  simp only [k_s_l10Text] at h
  split at h
  · injection h with h
    subst h
    exact vfun_ok eok_s_l10Text Try.func70 rfl (by rw [v_s_l10Text]; simp only at hy; rw [hy]; rfl)
  · cases h
def J_s_l1Cur_of_f : Joins := [(.r, ⟨[.str, .sl false 5 (.int .u8), .int .i64, .int .u64], [(4, .one (.h 0))], [(13, [.h 1, .h 2, .h 3])], [], [], []⟩)]
def ann_s_l1Cur_of_f : Ann := .nil
def env_s_l1Cur_of_f : Env := envOf ti [k_s_l1Cur_pick_f] []
theorem eok_s_l1Cur_of_f : EnvOk Try.prog env_s_l1Cur_of_f := envOf_ok tab mix _ _ (by
  intro k hk
  simp only [List.mem_cons, List.not_mem_nil, or_false] at hk
  rcases hk with rfl
  · exact s_s_l1Cur_pick_f)
theorem v_s_l1Cur_of_f (x0 : List (List UInt8)) (x1 : List Int) (x2 : Int) (x3 : Int) : (vfun env_s_l1Cur_of_f Try.f104 J_s_l1Cur_of_f ann_s_l1Cur_of_f [] [.pl 0 0, .one ⟨.sl true 9 .str, x0⟩] [[⟨.sl false 5 (.int .u8), x1⟩, ⟨.int .i64, x2⟩, ⟨.int .u64, x3⟩]]).run = (G.s_l1Cur_of_f x0 x1 x2 x3).bind fun y => some (Res.mk [.one ⟨.str, y.1⟩] [[⟨.sl false 5 (.int .u8), y.2.1⟩, ⟨.int .i64, y.2.2.1⟩, ⟨.int .u64, y.2.2.2⟩]] []) := by kernel_rfl
def k_s_l1Cur_of_f : Kn := ⟨104, [0, 1], fun args rows => match args, rows with
  | [.pl 0 0, .one ⟨.sl true 9 .str, x0⟩], [[⟨.sl false 5 (.int .u8), x1⟩, ⟨.int .i64, x2⟩, ⟨.int .u64, x3⟩]] => some ⟨_, G.s_l1Cur_of_f x0 x1 x2 x3, fun y => ⟨[.one ⟨.str, y.1⟩], [[⟨.sl false 5 (.int .u8), y.2.1⟩, ⟨.int .i64, y.2.2.1⟩, ⟨.int .u64, y.2.2.2⟩]], []⟩⟩
  | _, _ => none, []⟩
theorem s_s_l1Cur_of_f : KnOk Try.prog k_s_l1Cur_of_f := by
  intro args rows a h y hy
  simp only [k_s_l1Cur_of_f] at h
  split at h
  · injection h with h
    subst h
    exact vfun_ok eok_s_l1Cur_of_f Try.func104 rfl (by rw [v_s_l1Cur_of_f]; simp only at hy; rw [hy]; rfl)
  · cases h
def J_s_l1Cur_put_f : Joins := [(.r, ⟨[.str, .sl false 5 (.int .u8), .int .i64, .int .u64], [(2, .one (.h 0))], [(7, [.h 1, .h 2, .h 3])], [], [], []⟩)]
def ann_s_l1Cur_put_f : Ann := .nil
def env_s_l1Cur_put_f : Env := envOf ti [k_s_l1Cur_of_f] []
theorem eok_s_l1Cur_put_f : EnvOk Try.prog env_s_l1Cur_put_f := envOf_ok tab mix _ _ (by
  intro k hk
  simp only [List.mem_cons, List.not_mem_nil, or_false] at hk
  rcases hk with rfl
  · exact s_s_l1Cur_of_f)
theorem v_s_l1Cur_put_f (x0 : List Int) (x1 : Int) (x2 : Int) : (vfun env_s_l1Cur_put_f Try.f76 J_s_l1Cur_put_f ann_s_l1Cur_put_f [] [.pl 0 0] [[⟨.sl false 5 (.int .u8), x0⟩, ⟨.int .i64, x1⟩, ⟨.int .u64, x2⟩]]).run = (G.s_l1Cur_put_f x0 x1 x2).bind fun y => some (Res.mk [.one ⟨.str, y.1⟩] [[⟨.sl false 5 (.int .u8), y.2.1⟩, ⟨.int .i64, y.2.2.1⟩, ⟨.int .u64, y.2.2.2⟩]] []) := by kernel_rfl
def k_s_l1Cur_put_f : Kn := ⟨76, [0], fun args rows => match args, rows with
  | [.pl 0 0], [[⟨.sl false 5 (.int .u8), x0⟩, ⟨.int .i64, x1⟩, ⟨.int .u64, x2⟩]] => some ⟨_, G.s_l1Cur_put_f x0 x1 x2, fun y => ⟨[.one ⟨.str, y.1⟩], [[⟨.sl false 5 (.int .u8), y.2.1⟩, ⟨.int .i64, y.2.2.1⟩, ⟨.int .u64, y.2.2.2⟩]], []⟩⟩
  | _, _ => none, []⟩
theorem s_s_l1Cur_put_f : KnOk Try.prog k_s_l1Cur_put_f := by
  intro args rows a h y hy
  simp only [k_s_l1Cur_put_f] at h
  split at h
  · injection h with h
    subst h
    exact vfun_ok eok_s_l1Cur_put_f Try.func76 rfl (by rw [v_s_l1Cur_put_f]; simp only at hy; rw [hy]; rfl)
  · cases h
def J_s_l1Add : Joins := [(.r, ⟨[.sl true 34 (.pair (.int .i64) (.pair (.int .i64) .str))], [(4, .one (.vw 165889))], [], [(165889, 0)], [], []⟩)]
def ann_s_l1Add : Ann := .seq .nil (.seq .nil (.seq (.seq .nil (.seq (.reg [(.n, ⟨[.sl true 34 (.pair (.int .i64) (.pair (.int .i64) .str)), .int .i64, .bool, .int .i64, .int .i64, .str], [(0, .one (.vw 165888)), (3, .pl 3 0), (5, .one (.h 1)), (24, .one (.h 2))], [(3, [.h 3, .h 4, .h 5])], [(165888, 0)], [], []⟩)]) .nil)) .nil))
def env_s_l1Add : Env := envOf ti [k_s_l1Kind] []
theorem eok_s_l1Add : EnvOk Try.prog env_s_l1Add := envOf_ok tab mix _ _ (by
  intro k hk
  simp only [List.mem_cons, List.not_mem_nil, or_false] at hk
  rcases hk with rfl
  · exact s_s_l1Kind)
theorem v_s_l1Add (x0 : List (Int × (Int × List UInt8))) (x1 : Int) (x2 : Int) (x3 : List UInt8) : (vfun env_s_l1Add Try.f77 J_s_l1Add ann_s_l1Add [] [.one ⟨.sl true 34 (.pair (.int .i64) (.pair (.int .i64) .str)), x0⟩, .ag [⟨.int .i64, x1⟩, ⟨.int .i64, x2⟩, ⟨.str, x3⟩]] []).run = (G.s_l1Add x0 x1 x2 x3).bind fun y => some (Res.mk [.one ⟨.sl true 34 (.pair (.int .i64) (.pair (.int .i64) .str)), y⟩] [] []) := by kernel_rfl
def k_s_l1Add : Kn := ⟨77, [1, 0], fun args rows => match args, rows with
  | [.one ⟨.sl true 34 (.pair (.int .i64) (.pair (.int .i64) .str)), x0⟩, .ag [⟨.int .i64, x1⟩, ⟨.int .i64, x2⟩, ⟨.str, x3⟩]], [] => some ⟨_, G.s_l1Add x0 x1 x2 x3, fun y => ⟨[.one ⟨.sl true 34 (.pair (.int .i64) (.pair (.int .i64) .str)), y⟩], [], []⟩⟩
  | _, _ => none, []⟩
theorem s_s_l1Add : KnOk Try.prog k_s_l1Add := by
  intro args rows a h y hy
  simp only [k_s_l1Add] at h
  split at h
  · injection h with h
    subst h
    exact vfun_ok eok_s_l1Add Try.func77 rfl (by rw [v_s_l1Add]; simp only at hy; rw [hy]; rfl)
  · cases h
def J_s_l1Cur_wide_f : Joins := [(.r, ⟨[.int .i64, .sl false 5 (.int .u8), .int .i64, .int .u64], [(2, .one (.h 0))], [(16, [.h 1, .h 2, .h 3])], [], [], []⟩)]
def ann_s_l1Cur_wide_f : Ann := .seq .nil (.seq .nil (.seq (.seq .nil (.block [] (.loop ⟨[.int .i64, .int .i64, .sl false 5 (.int .u8), .int .i64, .int .u64], [(0, .pl 16 0), (3, .one (.h 0)), (4, .one (.h 1))], [(16, [.h 2, .h 3, .h 4])], [], [], []⟩ [(.x 0, ⟨[.int .i64, .sl false 5 (.int .u8), .int .i64, .int .u64], [(3, .one (.h 0))], [(16, [.h 1, .h 2, .h 3])], [], [], []⟩)] .nil))) .nil))
def env_s_l1Cur_wide_f : Env := envOf ti [k_s_l1Cur_next_f] []
theorem eok_s_l1Cur_wide_f : EnvOk Try.prog env_s_l1Cur_wide_f := envOf_ok tab mix _ _ (by
  intro k hk
  simp only [List.mem_cons, List.not_mem_nil, or_false] at hk
  rcases hk with rfl
  · exact s_s_l1Cur_next_f)
theorem v_s_l1Cur_wide_f (x0 : List Int) (x1 : Int) (x2 : Int) : (vfun env_s_l1Cur_wide_f Try.f114 J_s_l1Cur_wide_f ann_s_l1Cur_wide_f [] [.pl 0 0] [[⟨.sl false 5 (.int .u8), x0⟩, ⟨.int .i64, x1⟩, ⟨.int .u64, x2⟩]]).run = (G.s_l1Cur_wide_f x0 x1 x2).bind fun y => some (Res.mk [.one ⟨.int .i64, y.1⟩] [[⟨.sl false 5 (.int .u8), y.2.1⟩, ⟨.int .i64, y.2.2.1⟩, ⟨.int .u64, y.2.2.2⟩]] []) := by kernel_rfl
def k_s_l1Cur_wide_f : Kn := ⟨114, [0], fun args rows => match args, rows with
  | [.pl 0 0], [[⟨.sl false 5 (.int .u8), x0⟩, ⟨.int .i64, x1⟩, ⟨.int .u64, x2⟩]] => some ⟨_, G.s_l1Cur_wide_f x0 x1 x2, fun y => ⟨[.one ⟨.int .i64, y.1⟩], [[⟨.sl false 5 (.int .u8), y.2.1⟩, ⟨.int .i64, y.2.2.1⟩, ⟨.int .u64, y.2.2.2⟩]], []⟩⟩
  | _, _ => none, []⟩
theorem s_s_l1Cur_wide_f : KnOk Try.prog k_s_l1Cur_wide_f := by
  intro args rows a h y hy
  simp only [k_s_l1Cur_wide_f] at h
  split at h
  · injection h with h
    subst h
    exact vfun_ok eok_s_l1Cur_wide_f Try.func114 rfl (by rw [v_s_l1Cur_wide_f]; simp only at hy; rw [hy]; rfl)
  · cases h
def J_s_l1Cur_sized_f : Joins := [(.r, ⟨[.int .i64, .sl false 5 (.int .u8), .int .i64, .int .u64], [(2, .one (.h 0))], [(39, [.h 1, .h 2, .h 3])], [], [], []⟩)]
def ann_s_l1Cur_sized_f : Ann := .seq .nil (.seq .nil (.seq (.seq .nil (.block [] (.seq .nil (.cond [(.n, ⟨[.int .i64, .sl false 5 (.int .u8), .int .i64, .int .u64], [(0, .pl 39 0), (3, .one (.h 0))], [(39, [.h 1, .h 2, .h 3])], [], [], []⟩)] .nil (.seq .nil (.cond [(.n, ⟨[.int .i64, .sl false 5 (.int .u8), .int .i64, .int .u64], [(0, .pl 39 0), (3, .one (.h 0))], [(39, [.h 1, .h 2, .h 3])], [], [], []⟩)] .nil (.seq .nil (.cond [(.n, ⟨[.int .i64, .sl false 5 (.int .u8), .int .i64, .int .u64], [(0, .pl 39 0), (3, .one (.h 0))], [(39, [.h 1, .h 2, .h 3])], [], [], []⟩)] .nil (.seq .nil (.cond [(.n, ⟨[.int .i64, .sl false 5 (.int .u8), .int .i64, .int .u64], [(0, .pl 39 0), (3, .one (.h 0))], [(39, [.h 1, .h 2, .h 3])], [], [], []⟩)] .nil .nil)))))))))) (.seq (.seq .nil (.cond [(.n, ⟨[.int .i64, .sl false 5 (.int .u8), .int .i64, .int .u64], [(3, .one (.h 0))], [(39, [.h 1, .h 2, .h 3])], [], [], []⟩)] .nil .nil)) .nil)))
def env_s_l1Cur_sized_f : Env := envOf ti [k_s_l1Cur_pick_f, k_s_l1Cur_wide_f, k_s_l1Cur_one_f] []
theorem eok_s_l1Cur_sized_f : EnvOk Try.prog env_s_l1Cur_sized_f := envOf_ok tab mix _ _ (by
  intro k hk
  simp only [List.mem_cons, List.not_mem_nil, or_false] at hk
  rcases hk with rfl | rfl | rfl
  · exact s_s_l1Cur_pick_f
  · exact s_s_l1Cur_wide_f
  · exact s_s_l1Cur_one_f)
theorem v_s_l1Cur_sized_f (x0 : List Int) (x1 : Int) (x2 : Int) : (vfun env_s_l1Cur_sized_f Try.f105 J_s_l1Cur_sized_f ann_s_l1Cur_sized_f [] [.pl 0 0] [[⟨.sl false 5 (.int .u8), x0⟩, ⟨.int .i64, x1⟩, ⟨.int .u64, x2⟩]]).run = (G.s_l1Cur_sized_f x0 x1 x2).bind fun y => some (Res.mk [.one ⟨.int .i64, y.1⟩] [[⟨.sl false 5 (.int .u8), y.2.1⟩, ⟨.int .i64, y.2.2.1⟩, ⟨.int .u64, y.2.2.2⟩]] []) := by kernel_rfl
def k_s_l1Cur_sized_f : Kn := ⟨105, [0], fun args rows => match args, rows with
  | [.pl 0 0], [[⟨.sl false 5 (.int .u8), x0⟩, ⟨.int .i64, x1⟩, ⟨.int .u64, x2⟩]] => some ⟨_, G.s_l1Cur_sized_f x0 x1 x2, fun y => ⟨[.one ⟨.int .i64, y.1⟩], [[⟨.sl false 5 (.int .u8), y.2.1⟩, ⟨.int .i64, y.2.2.1⟩, ⟨.int .u64, y.2.2.2⟩]], []⟩⟩
  | _, _ => none, []⟩
theorem s_s_l1Cur_sized_f : KnOk Try.prog k_s_l1Cur_sized_f := by
  intro args rows a h y hy
  simp only [k_s_l1Cur_sized_f] at h
  split at h
  · injection h with h
    subst h
    exact vfun_ok eok_s_l1Cur_sized_f Try.func105 rfl (by rw [v_s_l1Cur_sized_f]; simp only at hy; rw [hy]; rfl)
  · cases h
def J_s_l1Cur_part_f : Joins := [(.r, ⟨[.int .i64, .int .i64, .str, .sl false 5 (.int .u8), .int .i64, .int .u64], [(2, .pl 2 0)], [(2, [.h 0, .h 1, .h 2]), (28, [.h 3, .h 4, .h 5])], [], [], []⟩)]
def ann_s_l1Cur_part_f : Ann := .nil
def env_s_l1Cur_part_f : Env := envOf ti [k_s_l1Cur_pick_f, k_s_l1Cur_sized_f] []
theorem eok_s_l1Cur_part_f : EnvOk Try.prog env_s_l1Cur_part_f := envOf_ok tab mix _ _ (by
  intro k hk
  simp only [List.mem_cons, List.not_mem_nil, or_false] at hk
  rcases hk with rfl | rfl
  · exact s_s_l1Cur_pick_f
  · exact s_s_l1Cur_sized_f)
theorem v_s_l1Cur_part_f (x0 : List Int) (x1 : Int) (x2 : Int) : (vfun env_s_l1Cur_part_f Try.f78 J_s_l1Cur_part_f ann_s_l1Cur_part_f [] [.pl 0 0] [[⟨.sl false 5 (.int .u8), x0⟩, ⟨.int .i64, x1⟩, ⟨.int .u64, x2⟩]]).run = (G.s_l1Cur_part_f x0 x1 x2).bind fun y => some (Res.mk [.ag [⟨.int .i64, y.1⟩, ⟨.int .i64, y.2.1⟩, ⟨.str, y.2.2.1⟩]] [[⟨.sl false 5 (.int .u8), y.2.2.2.1⟩, ⟨.int .i64, y.2.2.2.2.1⟩, ⟨.int .u64, y.2.2.2.2.2⟩]] []) := by kernel_rfl
def k_s_l1Cur_part_f : Kn := ⟨78, [0], fun args rows => match args, rows with
  | [.pl 0 0], [[⟨.sl false 5 (.int .u8), x0⟩, ⟨.int .i64, x1⟩, ⟨.int .u64, x2⟩]] => some ⟨_, G.s_l1Cur_part_f x0 x1 x2, fun y => ⟨[.ag [⟨.int .i64, y.1⟩, ⟨.int .i64, y.2.1⟩, ⟨.str, y.2.2.1⟩]], [[⟨.sl false 5 (.int .u8), y.2.2.2.1⟩, ⟨.int .i64, y.2.2.2.2.1⟩, ⟨.int .u64, y.2.2.2.2.2⟩]], []⟩⟩
  | _, _ => none, []⟩
theorem s_s_l1Cur_part_f : KnOk Try.prog k_s_l1Cur_part_f := by
  intro args rows a h y hy
  simp only [k_s_l1Cur_part_f] at h
  split at h
  · injection h with h
    subst h
    exact vfun_ok eok_s_l1Cur_part_f Try.func78 rfl (by rw [v_s_l1Cur_part_f]; simp only at hy; rw [hy]; rfl)
  · cases h
end
end Go.Proofs.Ythpnmoiohfiggaa

set_option linter.unusedVariables false
set_option maxRecDepth 100000
namespace Go.Proofs.Ythpnmoiohfiggaa
open Go.V
noncomputable section
def J_s_l1Cur_changeOf_f : Joins := [(.r, ⟨[.sl true 34 (.pair (.int .i64) (.pair (.int .i64) .str)), .sl false 5 (.int .u8), .int .i64, .int .u64], [(4, .one (.vw 184393))], [(81, [.h 1, .h 2, .h 3])], [(184393, 0)], [], []⟩)]
def ann_s_l1Cur_changeOf_f : Ann := .seq .nil (.seq .nil (.seq .nil (.seq (.block [] (.loop ⟨[.int .i64, .sl true 34 (.pair (.int .i64) (.pair (.int .i64) .str)), .int .i64, .sl false 5 (.int .u8), .int .i64, .int .u64], [(0, .pl 81 0), (1, .one (.h 0)), (5, .one (.vw 184320)), (6, .one (.h 2))], [(81, [.h 3, .h 4, .h 5])], [(184320, 1)], [], []⟩ [(.x 0, ⟨[.sl true 34 (.pair (.int .i64) (.pair (.int .i64) .str)), .int .i64, .sl false 5 (.int .u8), .int .i64, .int .u64], [(0, .pl 81 0), (5, .one (.vw 184389)), (6, .one (.h 1))], [(81, [.h 2, .h 3, .h 4])], [(184389, 0)], [], []⟩)] (.seq .nil (.block [] (.seq (.seq .nil (.seq (.reg [(.n, ⟨[.int .i64, .sl true 34 (.pair (.int .i64) (.pair (.int .i64) .str)), .int .i64, .str, .bool, .sl false 5 (.int .u8), .int .i64, .int .u64], [(0, .pl 81 0), (1, .one (.h 0)), (5, .one (.vw 184384)), (6, .one (.h 2)), (7, .one (.h 3)), (23, .one (.h 4))], [(81, [.h 5, .h 6, .h 7])], [(184384, 1)], [], []⟩)]) (.cond [(.n, ⟨[.int .i64, .sl true 34 (.pair (.int .i64) (.pair (.int .i64) .str)), .int .i64, .sl false 5 (.int .u8), .int .i64, .int .u64], [(0, .pl 81 0), (1, .one (.h 0)), (5, .one (.vw 184385)), (6, .one (.h 2))], [(81, [.h 3, .h 4, .h 5])], [(184385, 1)], [], []⟩)] .nil .nil))) (.seq .nil (.seq (.seq .nil (.cond [(.n, ⟨[.int .i64, .sl true 34 (.pair (.int .i64) (.pair (.int .i64) .str)), .int .i64, .int .i64, .sl false 5 (.int .u8), .int .i64, .int .u64], [(0, .pl 81 0), (1, .one (.h 0)), (5, .one (.vw 184386)), (6, .one (.h 2)), (8, .one (.h 3))], [(81, [.h 4, .h 5, .h 6])], [(184386, 1)], [], []⟩)] .nil .nil)) (.seq (.seq .nil (.cond [(.n, ⟨[.int .i64, .sl true 34 (.pair (.int .i64) (.pair (.int .i64) .str)), .int .i64, .int .i64, .sl false 5 (.int .u8), .int .i64, .int .u64], [(0, .pl 81 0), (1, .one (.h 0)), (5, .one (.vw 184387)), (6, .one (.h 2)), (8, .one (.h 3))], [(81, [.h 4, .h 5, .h 6])], [(184387, 1)], [], []⟩)] .nil .nil)) (.seq (.seq .nil (.cond [(.n, ⟨[.int .i64, .sl true 34 (.pair (.int .i64) (.pair (.int .i64) .str)), .int .i64, .int .i64, .sl false 5 (.int .u8), .int .i64, .int .u64], [(0, .pl 81 0), (1, .one (.h 0)), (5, .one (.vw 184388)), (6, .one (.h 2)), (8, .one (.h 3))], [(81, [.h 4, .h 5, .h 6])], [(184388, 1)], [], []⟩)] .nil .nil)) .nil))))))))) (.seq (.seq .nil (.seq (.reg [(.n, ⟨[.sl true 34 (.pair (.int .i64) (.pair (.int .i64) .str)), .str, .bool, .sl false 5 (.int .u8), .int .i64, .int .u64], [(0, .pl 81 0), (5, .one (.vw 184390)), (9, .one (.h 1)), (67, .one (.h 2))], [(81, [.h 3, .h 4, .h 5])], [(184390, 0)], [], []⟩)]) (.cond [(.n, ⟨[.sl true 34 (.pair (.int .i64) (.pair (.int .i64) .str)), .sl false 5 (.int .u8), .int .i64, .int .u64], [(0, .pl 81 0), (5, .one (.vw 184391))], [(81, [.h 1, .h 2, .h 3])], [(184391, 0)], [], []⟩)] .nil .nil))) (.seq (.seq .nil (.cond [(.n, ⟨[.sl true 34 (.pair (.int .i64) (.pair (.int .i64) .str)), .sl false 5 (.int .u8), .int .i64, .int .u64], [(5, .one (.vw 184392))], [(81, [.h 1, .h 2, .h 3])], [(184392, 0)], [], []⟩)] .nil .nil)) .nil)))))
def env_s_l1Cur_changeOf_f : Env := envOf ti [k_s_l1Cur_put_f, k_s_l1Cur_one_f, k_s_l1Add, k_s_l1Cur_pick_f, k_s_l1Cur_part_f] []
theorem eok_s_l1Cur_changeOf_f : EnvOk Try.prog env_s_l1Cur_changeOf_f := envOf_ok tab mix _ _ (by
  intro k hk
  simp only [List.mem_cons, List.not_mem_nil, or_false] at hk
  rcases hk with rfl | rfl | rfl | rfl | rfl
  · exact s_s_l1Cur_put_f
  · exact s_s_l1Cur_one_f
  · exact s_s_l1Add
  · exact s_s_l1Cur_pick_f
  · exact s_s_l1Cur_part_f)
theorem v_s_l1Cur_changeOf_f (x0 : Int) (x1 : List Int) (x2 : Int) (x3 : Int) : (vfun env_s_l1Cur_changeOf_f Try.f30 J_s_l1Cur_changeOf_f ann_s_l1Cur_changeOf_f [] [.pl 0 0, .one ⟨.int .i64, x0⟩] [[⟨.sl false 5 (.int .u8), x1⟩, ⟨.int .i64, x2⟩, ⟨.int .u64, x3⟩]]).run = (G.s_l1Cur_changeOf_f x0 x1 x2 x3).bind fun y => some (Res.mk [.one ⟨.sl true 34 (.pair (.int .i64) (.pair (.int .i64) .str)), y.1⟩] [[⟨.sl false 5 (.int .u8), y.2.1⟩, ⟨.int .i64, y.2.2.1⟩, ⟨.int .u64, y.2.2.2⟩]] []) := by kernel_rfl
def k_s_l1Cur_changeOf_f : Kn := ⟨30, [0, 0], fun args rows => match args, rows with
  | [.pl 0 0, .one ⟨.int .i64, x0⟩], [[⟨.sl false 5 (.int .u8), x1⟩, ⟨.int .i64, x2⟩, ⟨.int .u64, x3⟩]] => some ⟨_, G.s_l1Cur_changeOf_f x0 x1 x2 x3, fun y => ⟨[.one ⟨.sl true 34 (.pair (.int .i64) (.pair (.int .i64) .str)), y.1⟩], [[⟨.sl false 5 (.int .u8), y.2.1⟩, ⟨.int .i64, y.2.2.1⟩, ⟨.int .u64, y.2.2.2⟩]], []⟩⟩
  | _, _ => none, []⟩
theorem s_s_l1Cur_changeOf_f : KnOk Try.prog k_s_l1Cur_changeOf_f := by
  intro args rows a h y hy
  simp only [k_s_l1Cur_changeOf_f] at h
  split at h
  · injection h with h
    subst h
    exact vfun_ok eok_s_l1Cur_changeOf_f Try.func30 rfl (by rw [v_s_l1Cur_changeOf_f]; simp only at hy; rw [hy]; rfl)
  · cases h
def J_s_l10Range : Joins := [(.r, ⟨[.int .i64], [(6, .one (.h 0))], [], [], [], []⟩)]
def ann_s_l10Range : Ann := .seq .nil (.seq (.block [] (.seq .nil (.cond [] .nil (.seq (.reg [(.n, ⟨[.bool], [(11, .one (.h 0))], [], [], [], []⟩)]) .nil)))) .nil)
def env_s_l10Range : Env := envOf ti [k_s_GoodHistory, k_s_l1In, k_s_l10Head] []
theorem eok_s_l10Range : EnvOk Try.prog env_s_l10Range := envOf_ok tab mix _ _ (by
  intro k hk
  simp only [List.mem_cons, List.not_mem_nil, or_false] at hk
  rcases hk with rfl | rfl | rfl
  · exact s_s_GoodHistory
  · exact s_s_l1In
  · exact s_s_l10Head)
theorem v_s_l10Range (x0 : Int) (x1 : List UInt8) (x2 : List (Int × Int)) (x3 : List (List (Int × (Int × List UInt8)))) (x4 : Int) (x5 : Int) : (vfun env_s_l10Range Try.f69 J_s_l10Range ann_s_l10Range [] [.ag [⟨.int .i64, x0⟩, ⟨.str, x1⟩, ⟨.sl false 76 (.pair (.int .i64) (.int .i64)), x2⟩, ⟨.sl false 93 (.sl false 34 (.pair (.int .i64) (.pair (.int .i64) .str))), x3⟩], .one ⟨.int .i64, x4⟩, .one ⟨.int .i64, x5⟩] []).run = (G.s_l10Range x0 x1 x2 x3 x4 x5).bind fun y => some (Res.mk [.one ⟨.int .i64, y⟩] [] []) := by kernel_rfl
def k_s_l10Range : Kn := ⟨69, [0, 0, 0], fun args rows => match args, rows with
  | [.ag [⟨.int .i64, x0⟩, ⟨.str, x1⟩, ⟨.sl false 76 (.pair (.int .i64) (.int .i64)), x2⟩, ⟨.sl false 93 (.sl false 34 (.pair (.int .i64) (.pair (.int .i64) .str))), x3⟩], .one ⟨.int .i64, x4⟩, .one ⟨.int .i64, x5⟩], [] => some ⟨_, G.s_l10Range x0 x1 x2 x3 x4 x5, fun y => ⟨[.one ⟨.int .i64, y⟩], [], []⟩⟩
  | _, _ => none, []⟩
theorem s_s_l10Range : KnOk Try.prog k_s_l10Range := by
  intro args rows a h y hy
  simp only [k_s_l10Range] at h
  split at h
  · injection h with h
    subst h
    exact vfun_ok eok_s_l10Range Try.func69 rfl (by rw [v_s_l10Range]; simp only at hy; rw [hy]; rfl)
  · cases h
def J_s_l1Open : Joins := [(.r, ⟨[.sl true 4 .bool, .sl true 9 .str], [(2, .pl 2 0)], [(2, [.vw 154756, .vw 154757])], [(154756, 0), (154757, 1)], [], []⟩)]
def ann_s_l1Open : Ann := .seq .nil (.seq .nil (.seq (.seq .nil (.block [] (.loop ⟨[.sl false 34 (.pair (.int .i64) (.pair (.int .i64) .str)), .int .i64, .int .i64, .sl true 4 .bool, .sl true 9 .str], [(2, .pl 2 0), (3, .pl 3 0), (9, .one (.h 0)), (10, .one (.h 1)), (11, .one (.h 2))], [(2, [.nil, .nil]), (3, [.vw 154624, .vw 154625])], [(154624, 3), (154625, 4)], [], []⟩ [(.x 0, ⟨[.sl true 4 .bool, .sl true 9 .str], [(2, .pl 2 0), (3, .pl 3 0)], [(2, [.nil, .nil]), (3, [.vw 154754, .vw 154755])], [(154754, 0), (154755, 1)], [], []⟩)] (.seq .nil (.seq .nil (.seq (.block [] (.seq .nil (.seq .nil (.seq .nil (.block [] (.loop ⟨[.int .i64, .sl false 34 (.pair (.int .i64) (.pair (.int .i64) .str)), .int .i64, .int .i64, .sl true 4 .bool, .sl true 9 .str, .int .i64, .int .i64, .str], [(2, .pl 2 0), (3, .pl 3 0), (5, .pl 5 0), (6, .one (.h 0)), (9, .one (.h 1)), (10, .one (.h 2)), (11, .one (.h 3))], [(2, [.nil, .nil]), (3, [.vw 154688, .vw 154689]), (5, [.h 6, .h 7, .h 8])], [(154688, 4), (154689, 5)], [], []⟩ [(.x 2, ⟨[.sl false 34 (.pair (.int .i64) (.pair (.int .i64) .str)), .int .i64, .int .i64, .sl true 4 .bool, .sl true 9 .str], [(2, .pl 2 0), (3, .pl 3 0), (9, .one (.h 0)), (10, .one (.h 1)), (11, .one (.h 2))], [(2, [.nil, .nil]), (3, [.vw 154752, .vw 154753])], [(154752, 3), (154753, 4)], [], []⟩)] .nil)))))) .nil)))))) .nil))
def env_s_l1Open : Env := envOf ti [] []
theorem eok_s_l1Open : EnvOk Try.prog env_s_l1Open := envOf_ok tab mix _ _ (by
  intro k hk; cases hk)
theorem v_s_l1Open (x0 : List (Int × (Int × List UInt8))) : (vfun env_s_l1Open Try.f122 J_s_l1Open ann_s_l1Open [] [.one ⟨.sl false 34 (.pair (.int .i64) (.pair (.int .i64) .str)), x0⟩] []).run = (G.s_l1Open x0).bind fun y => some (Res.mk [.ag [⟨.sl true 4 .bool, y.1⟩, ⟨.sl true 9 .str, y.2⟩]] [] []) := by kernel_rfl
def k_s_l1Open : Kn := ⟨122, [0], fun args rows => match args, rows with
  | [.one ⟨.sl false 34 (.pair (.int .i64) (.pair (.int .i64) .str)), x0⟩], [] => some ⟨_, G.s_l1Open x0, fun y => ⟨[.ag [⟨.sl true 4 .bool, y.1⟩, ⟨.sl true 9 .str, y.2⟩]], [], []⟩⟩
  | _, _ => none, []⟩
theorem s_s_l1Open : KnOk Try.prog k_s_l1Open := by
  intro args rows a h y hy
  simp only [k_s_l1Open] at h
  split at h
  · injection h with h
    subst h
    exact vfun_ok eok_s_l1Open Try.func122 rfl (by rw [v_s_l1Open]; simp only at hy; rw [hy]; rfl)
  · cases h
def J_s_l1Close : Joins := [(.r, ⟨[.sl true 34 (.pair (.int .i64) (.pair (.int .i64) .str))], [(2, .one (.vw 139331))], [], [(139331, 0)], [], []⟩)]
def ann_s_l1Close : Ann := .seq .nil (.seq .nil (.seq (.seq .nil (.block [] (.loop ⟨[.sl true 34 (.pair (.int .i64) (.pair (.int .i64) .str)), .sl false 9 .str, .int .i64, .int .i64, .sl false 4 .bool, .sl false 9 .str], [(1, .pl 1 0), (3, .one (.vw 139264)), (7, .one (.h 1)), (8, .one (.h 2)), (9, .one (.h 3))], [(1, [.h 4, .h 5])], [(139264, 0)], [], []⟩ [(.x 0, ⟨[.sl true 34 (.pair (.int .i64) (.pair (.int .i64) .str))], [(3, .one (.vw 139330))], [], [(139330, 0)], [], []⟩)] (.seq .nil (.seq .nil (.seq (.block [] (.seq .nil (.seq .nil (.seq .nil (.cond [(.n, ⟨[.sl true 34 (.pair (.int .i64) (.pair (.int .i64) .str)), .sl false 9 .str, .int .i64, .int .i64, .sl false 4 .bool, .sl false 9 .str], [(1, .pl 1 0), (3, .one (.vw 139329)), (7, .one (.h 1)), (8, .one (.h 2)), (9, .one (.h 3))], [(1, [.h 4, .h 5])], [(139329, 0)], [], []⟩)] (.seq .nil (.cond [(.n, ⟨[.sl true 34 (.pair (.int .i64) (.pair (.int .i64) .str)), .sl false 9 .str, .int .i64, .int .i64, .sl false 4 .bool, .sl false 9 .str], [(1, .pl 1 0), (3, .one (.vw 139328)), (7, .one (.h 1)), (8, .one (.h 2)), (9, .one (.h 3))], [(1, [.h 4, .h 5])], [(139328, 0)], [], []⟩)] .nil .nil)) .nil))))) .nil)))))) .nil))
def env_s_l1Close : Env := envOf ti [k_s_l1Add] []
theorem eok_s_l1Close : EnvOk Try.prog env_s_l1Close := envOf_ok tab mix _ _ (by
  intro k hk
  simp only [List.mem_cons, List.not_mem_nil, or_false] at hk
  rcases hk with rfl
  · exact s_s_l1Add)
theorem v_s_l1Close (x0 : List Bool) (x1 : List (List UInt8)) : (vfun env_s_l1Close Try.f123 J_s_l1Close ann_s_l1Close [] [.ag [⟨.sl false 4 .bool, x0⟩, ⟨.sl false 9 .str, x1⟩]] []).run = (G.s_l1Close x0 x1).bind fun y => some (Res.mk [.one ⟨.sl true 34 (.pair (.int .i64) (.pair (.int .i64) .str)), y⟩] [] []) := by kernel_rfl
def k_s_l1Close : Kn := ⟨123, [0], fun args rows => match args, rows with
  | [.ag [⟨.sl false 4 .bool, x0⟩, ⟨.sl false 9 .str, x1⟩]], [] => some ⟨_, G.s_l1Close x0 x1, fun y => ⟨[.one ⟨.sl true 34 (.pair (.int .i64) (.pair (.int .i64) .str)), y⟩], [], []⟩⟩
  | _, _ => none, []⟩
theorem s_s_l1Close : KnOk Try.prog k_s_l1Close := by
  intro args rows a h y hy
  simp only [k_s_l1Close] at h
  split at h
  · injection h with h
    subst h
    exact vfun_ok eok_s_l1Close Try.func123 rfl (by rw [v_s_l1Close]; simp only at hy; rw [hy]; rfl)
  · cases h
def J_s_l1Compose : Joins := [(.r, ⟨[.sl true 34 (.pair (.int .i64) (.pair (.int .i64) .str))], [(4, .one (.vw 219286))], [], [(219286, 0)], [], []⟩)]
def ann_s_l1Compose : Ann := .seq .nil (.seq .nil (.seq .nil (.seq .nil (.seq .nil (.seq .nil (.seq (.seq .nil (.block [] (.loop ⟨[.int .i64, .sl true 9 .str, .int .i64, .int .i64, .sl true 4 .bool, .sl true 4 .bool, .sl true 9 .str, .sl true 4 .bool, .sl true 9 .str], [(5, .pl 5 0), (6, .pl 6 0), (7, .pl 7 0), (8, .one (.h 0)), (29, .one (.vw 219136)), (30, .one (.h 2)), (31, .one (.h 3))], [(5, [.vw 219137, .vw 219136]), (6, [.vw 219138, .vw 219139]), (7, [.vw 219140, .vw 219141])], [(219136, 1), (219137, 4), (219138, 5), (219139, 6), (219140, 7), (219141, 8)], [], []⟩ [(.x 0, ⟨[.sl true 4 .bool, .sl true 9 .str], [(7, .pl 7 0)], [(7, [.vw 219284, .vw 219285])], [(219284, 0), (219285, 1)], [], []⟩)] (.seq .nil (.seq .nil (.seq (.block [(.n, ⟨[.int .i64, .sl true 9 .str, .int .i64, .int .i64, .sl true 4 .bool, .sl true 4 .bool, .sl true 9 .str, .sl true 4 .bool, .sl true 9 .str], [(5, .pl 5 0), (6, .pl 6 0), (7, .pl 7 0), (8, .one (.h 0)), (29, .one (.vw 219276)), (30, .one (.h 2)), (31, .one (.h 3))], [(5, [.vw 219277, .vw 219276]), (6, [.vw 219278, .vw 219279]), (7, [.vw 219280, .vw 219281])], [(219276, 1), (219277, 4), (219278, 5), (219279, 6), (219280, 7), (219281, 8)], [], []⟩), (.x 0, ⟨[.sl true 4 .bool, .sl true 9 .str], [(7, .pl 7 0)], [(7, [.vw 219282, .vw 219283])], [(219282, 0), (219283, 1)], [], []⟩)] (.seq .nil (.seq (.seq .nil (.block [] (.loop ⟨[.int .i64, .int .i64, .str, .int .i64, .sl true 9 .str, .int .i64, .int .i64, .sl true 4 .bool, .sl true 4 .bool, .sl true 9 .str, .sl true 4 .bool, .sl true 9 .str], [(5, .pl 5 0), (6, .pl 6 0), (7, .pl 7 0), (8, .one (.h 0)), (9, .one (.h 1)), (10, .one (.h 2)), (11, .one (.h 3)), (29, .one (.vw 219200)), (30, .one (.h 5)), (31, .one (.h 6))], [(5, [.vw 219201, .vw 219200]), (6, [.vw 219202, .vw 219203]), (7, [.vw 219204, .vw 219205])], [(219200, 4), (219201, 7), (219202, 8), (219203, 9), (219204, 10), (219205, 11)], [], []⟩ [(.x 2, ⟨[.int .i64, .int .i64, .sl true 9 .str, .int .i64, .int .i64, .sl true 4 .bool, .sl true 4 .bool, .sl true 9 .str, .sl true 4 .bool, .sl true 9 .str], [(5, .pl 5 0), (6, .pl 6 0), (7, .pl 7 0), (8, .one (.h 0)), (9, .one (.h 1)), (29, .one (.vw 219270)), (30, .one (.h 3)), (31, .one (.h 4))], [(5, [.vw 219271, .vw 219270]), (6, [.vw 219272, .vw 219273]), (7, [.vw 219274, .vw 219275])], [(219270, 2), (219271, 5), (219272, 6), (219273, 7), (219274, 8), (219275, 9)], [], []⟩)] (.seq .nil (.seq (.block [] (.seq (.seq .nil (.cond [(.n, ⟨[.int .i64, .int .i64, .str, .int .i64, .sl true 9 .str, .int .i64, .int .i64, .sl true 4 .bool, .sl true 4 .bool, .sl true 9 .str, .sl true 4 .bool, .sl true 9 .str], [(5, .pl 5 0), (6, .pl 6 0), (7, .pl 7 0), (8, .one (.h 0)), (9, .one (.h 1)), (10, .one (.h 2)), (11, .one (.h 3)), (29, .one (.vw 219264)), (30, .one (.h 5)), (31, .one (.h 6))], [(5, [.vw 219265, .vw 219264]), (6, [.vw 219266, .vw 219267]), (7, [.vw 219268, .vw 219269])], [(219264, 4), (219265, 7), (219266, 8), (219267, 9), (219268, 10), (219269, 11)], [], []⟩)] .nil .nil)) .nil)) .nil))))) .nil))) .nil)))))) .nil))))))
def env_s_l1Compose : Env := envOf ti [k_s_l1Open, k_s_l1Close] []
theorem eok_s_l1Compose : EnvOk Try.prog env_s_l1Compose := envOf_ok tab mix _ _ (by
  intro k hk
  simp only [List.mem_cons, List.not_mem_nil, or_false] at hk
  rcases hk with rfl | rfl
  · exact s_s_l1Open
  · exact s_s_l1Close)
theorem v_s_l1Compose (x0 : List (Int × (Int × List UInt8))) (x1 : List (Int × (Int × List UInt8))) : (vfun env_s_l1Compose Try.f121 J_s_l1Compose ann_s_l1Compose [] [.one ⟨.sl false 34 (.pair (.int .i64) (.pair (.int .i64) .str)), x0⟩, .one ⟨.sl false 34 (.pair (.int .i64) (.pair (.int .i64) .str)), x1⟩] []).run = (G.s_l1Compose x0 x1).bind fun y => some (Res.mk [.one ⟨.sl true 34 (.pair (.int .i64) (.pair (.int .i64) .str)), y⟩] [] []) := by kernel_rfl
def k_s_l1Compose : Kn := ⟨121, [0, 0], fun args rows => match args, rows with
  | [.one ⟨.sl false 34 (.pair (.int .i64) (.pair (.int .i64) .str)), x0⟩, .one ⟨.sl false 34 (.pair (.int .i64) (.pair (.int .i64) .str)), x1⟩], [] => some ⟨_, G.s_l1Compose x0 x1, fun y => ⟨[.one ⟨.sl true 34 (.pair (.int .i64) (.pair (.int .i64) .str)), y⟩], [], []⟩⟩
  | _, _ => none, []⟩
theorem s_s_l1Compose : KnOk Try.prog k_s_l1Compose := by
  intro args rows a h y hy
  simp only [k_s_l1Compose] at h
  split at h
  · injection h with h
    subst h
    exact vfun_ok eok_s_l1Compose Try.func121 rfl (by rw [v_s_l1Compose]; simp only at hy; rw [hy]; rfl)
  · cases h
def J_s_l10Between : Joins := [(.r, ⟨[.sl true 34 (.pair (.int .i64) (.pair (.int .i64) .str))], [(6, .one (.vw 141377))], [], [(141377, 0)], [], []⟩)]
def ann_s_l10Between : Ann := .seq .nil (.seq .nil (.seq (.seq .nil (.block [] (.loop ⟨[.sl true 34 (.pair (.int .i64) (.pair (.int .i64) .str)), .sl false 93 (.sl false 34 (.pair (.int .i64) (.pair (.int .i64) .str))), .int .i64, .int .i64], [(7, .one (.vw 141312)), (26, .one (.h 1)), (27, .one (.h 2)), (28, .one (.h 3))], [], [(141312, 0)], [], []⟩ [(.x 0, ⟨[.sl true 34 (.pair (.int .i64) (.pair (.int .i64) .str))], [(7, .one (.vw 141376))], [], [(141376, 0)], [], []⟩)] .nil))) .nil))
def env_s_l10Between : Env := envOf ti [k_s_l10Text, k_s_l1Add, k_s_l1Compose] []
theorem eok_s_l10Between : EnvOk Try.prog env_s_l10Between := envOf_ok tab mix _ _ (by
  intro k hk
  simp only [List.mem_cons, List.not_mem_nil, or_false] at hk
  rcases hk with rfl | rfl | rfl
  · exact s_s_l10Text
  · exact s_s_l1Add
  · exact s_s_l1Compose)
theorem v_s_l10Between (x0 : Int) (x1 : List UInt8) (x2 : List (Int × Int)) (x3 : List (List (Int × (Int × List UInt8)))) (x4 : Int) (x5 : Int) : (vfun env_s_l10Between Try.f119 J_s_l10Between ann_s_l10Between [] [.ag [⟨.int .i64, x0⟩, ⟨.str, x1⟩, ⟨.sl false 76 (.pair (.int .i64) (.int .i64)), x2⟩, ⟨.sl false 93 (.sl false 34 (.pair (.int .i64) (.pair (.int .i64) .str))), x3⟩], .one ⟨.int .i64, x4⟩, .one ⟨.int .i64, x5⟩] []).run = (G.s_l10Between x0 x1 x2 x3 x4 x5).bind fun y => some (Res.mk [.one ⟨.sl true 34 (.pair (.int .i64) (.pair (.int .i64) .str)), y⟩] [] []) := by kernel_rfl
def k_s_l10Between : Kn := ⟨119, [0, 0, 0], fun args rows => match args, rows with
  | [.ag [⟨.int .i64, x0⟩, ⟨.str, x1⟩, ⟨.sl false 76 (.pair (.int .i64) (.int .i64)), x2⟩, ⟨.sl false 93 (.sl false 34 (.pair (.int .i64) (.pair (.int .i64) .str))), x3⟩], .one ⟨.int .i64, x4⟩, .one ⟨.int .i64, x5⟩], [] => some ⟨_, G.s_l10Between x0 x1 x2 x3 x4 x5, fun y => ⟨[.one ⟨.sl true 34 (.pair (.int .i64) (.pair (.int .i64) .str)), y⟩], [], []⟩⟩
  | _, _ => none, []⟩
theorem s_s_l10Between : KnOk Try.prog k_s_l10Between := by
  intro args rows a h y hy
  simp only [k_s_l10Between] at h
  split at h
  · injection h with h
    subst h
    exact vfun_ok eok_s_l10Between Try.func119 rfl (by rw [v_s_l10Between]; simp only at hy; rw [hy]; rfl)
  · cases h
def J_s_l1Carry : Joins := [(.r, ⟨[.sl true 34 (.pair (.int .i64) (.pair (.int .i64) .str))], [(6, .one (.vw 174170))], [], [(174170, 0)], [], []⟩)]
def ann_s_l1Carry : Ann := .seq .nil (.seq .nil (.seq .nil (.seq .nil (.seq (.seq .nil (.block [] (.loop ⟨[.bool, .sl true 34 (.pair (.int .i64) (.pair (.int .i64) .str)), .sl true 9 .str, .int .i64, .int .i64, .sl true 4 .bool, .sl true 4 .bool, .sl true 9 .str], [(2, .one (.h 0)), (7, .pl 7 0), (8, .pl 8 0), (9, .one (.vw 174080)), (17, .one (.vw 174081)), (18, .one (.h 3)), (19, .one (.h 4))], [(7, [.vw 174082, .vw 174081]), (8, [.vw 174083, .vw 174084])], [(174080, 1), (174081, 2), (174082, 5), (174083, 6), (174084, 7)], [], []⟩ [(.x 0, ⟨[.sl true 34 (.pair (.int .i64) (.pair (.int .i64) .str))], [(9, .one (.vw 174169))], [], [(174169, 0)], [], []⟩)] (.seq .nil (.seq .nil (.seq (.block [(.n, ⟨[.bool, .sl true 34 (.pair (.int .i64) (.pair (.int .i64) .str)), .sl true 9 .str, .int .i64, .int .i64, .sl true 4 .bool, .sl true 4 .bool, .sl true 9 .str], [(2, .one (.h 0)), (7, .pl 7 0), (8, .pl 8 0), (9, .one (.vw 174164)), (17, .one (.vw 174165)), (18, .one (.h 3)), (19, .one (.h 4))], [(7, [.vw 174166, .vw 174165]), (8, [.vw 174167, .vw 174168])], [(174164, 1), (174165, 2), (174166, 5), (174167, 6), (174168, 7)], [], []⟩)] (.seq .nil (.seq (.seq .nil (.cond [(.n, ⟨[.bool, .sl true 34 (.pair (.int .i64) (.pair (.int .i64) .str)), .int .i64, .str, .sl true 9 .str, .int .i64, .int .i64, .sl true 4 .bool, .sl true 4 .bool, .sl true 9 .str], [(2, .one (.h 0)), (7, .pl 7 0), (8, .pl 8 0), (9, .one (.vw 174144)), (10, .one (.h 2)), (11, .one (.h 3)), (17, .one (.vw 174145)), (18, .one (.h 5)), (19, .one (.h 6))], [(7, [.vw 174146, .vw 174145]), (8, [.vw 174147, .vw 174148])], [(174144, 1), (174145, 4), (174146, 7), (174147, 8), (174148, 9)], [], []⟩)] .nil .nil)) (.seq .nil (.seq (.seq .nil (.cond [(.n, ⟨[.bool, .sl true 34 (.pair (.int .i64) (.pair (.int .i64) .str)), .int .i64, .sl true 9 .str, .int .i64, .int .i64, .sl true 4 .bool, .sl true 4 .bool, .sl true 9 .str], [(2, .one (.h 0)), (7, .pl 7 0), (8, .pl 8 0), (9, .one (.vw 174149)), (10, .one (.h 2)), (17, .one (.vw 174150)), (18, .one (.h 4)), (19, .one (.h 5))], [(7, [.vw 174151, .vw 174150]), (8, [.vw 174152, .vw 174153])], [(174149, 1), (174150, 3), (174151, 6), (174152, 7), (174153, 8)], [], []⟩)] .nil .nil)) (.seq (.seq (.reg [(.n, ⟨[.bool, .sl true 34 (.pair (.int .i64) (.pair (.int .i64) .str)), .int .i64, .sl true 9 .str, .int .i64, .int .i64, .bool, .sl true 4 .bool, .sl true 4 .bool, .sl true 9 .str], [(2, .one (.h 0)), (7, .pl 7 0), (8, .pl 8 0), (9, .one (.vw 174154)), (10, .one (.h 2)), (17, .one (.vw 174155)), (18, .one (.h 4)), (19, .one (.h 5)), (56, .one (.h 6))], [(7, [.vw 174156, .vw 174155]), (8, [.vw 174157, .vw 174158])], [(174154, 1), (174155, 3), (174156, 7), (174157, 8), (174158, 9)], [], []⟩)]) .nil) (.seq .nil (.cond [(.n, ⟨[.bool, .sl true 34 (.pair (.int .i64) (.pair (.int .i64) .str)), .sl true 9 .str, .int .i64, .int .i64, .sl true 4 .bool, .sl true 4 .bool, .sl true 9 .str], [(2, .one (.h 0)), (7, .pl 7 0), (8, .pl 8 0), (9, .one (.vw 174159)), (17, .one (.vw 174160)), (18, .one (.h 3)), (19, .one (.h 4))], [(7, [.vw 174161, .vw 174160]), (8, [.vw 174162, .vw 174163])], [(174159, 1), (174160, 2), (174161, 5), (174162, 6), (174163, 7)], [], []⟩)] .nil .nil)))))))) .nil)))))) .nil))))
def env_s_l1Carry : Env := envOf ti [k_s_l1Open, k_s_l1Add] []
theorem eok_s_l1Carry : EnvOk Try.prog env_s_l1Carry := envOf_ok tab mix _ _ (by
  intro k hk
  simp only [List.mem_cons, List.not_mem_nil, or_false] at hk
  rcases hk with rfl | rfl
  · exact s_s_l1Open
  · exact s_s_l1Add)
theorem v_s_l1Carry (x0 : List (Int × (Int × List UInt8))) (x1 : List (Int × (Int × List UInt8))) (x2 : Bool) : (vfun env_s_l1Carry Try.f120 J_s_l1Carry ann_s_l1Carry [] [.one ⟨.sl false 34 (.pair (.int .i64) (.pair (.int .i64) .str)), x0⟩, .one ⟨.sl false 34 (.pair (.int .i64) (.pair (.int .i64) .str)), x1⟩, .one ⟨.bool, x2⟩] []).run = (G.s_l1Carry x0 x1 x2).bind fun y => some (Res.mk [.one ⟨.sl true 34 (.pair (.int .i64) (.pair (.int .i64) .str)), y⟩] [] []) := by kernel_rfl
def k_s_l1Carry : Kn := ⟨120, [0, 0, 0], fun args rows => match args, rows with
  | [.one ⟨.sl false 34 (.pair (.int .i64) (.pair (.int .i64) .str)), x0⟩, .one ⟨.sl false 34 (.pair (.int .i64) (.pair (.int .i64) .str)), x1⟩, .one ⟨.bool, x2⟩], [] => some ⟨_, G.s_l1Carry x0 x1 x2, fun y => ⟨[.one ⟨.sl true 34 (.pair (.int .i64) (.pair (.int .i64) .str)), y⟩], [], []⟩⟩
  | _, _ => none, []⟩
theorem s_s_l1Carry : KnOk Try.prog k_s_l1Carry := by
  intro args rows a h y hy
  simp only [k_s_l1Carry] at h
  split at h
  · injection h with h
    subst h
    exact vfun_ok eok_s_l1Carry Try.func120 rfl (by rw [v_s_l1Carry]; simp only at hy; rw [hy]; rfl)
  · cases h
def J_s_CarryChange : Joins := [(.r, ⟨[.sl true 34 (.pair (.int .i64) (.pair (.int .i64) .str)), .bool], [(6, .one (.vw 135168)), (7, .one (.h 1))], [], [(135168, 0)], [], []⟩)]
def ann_s_CarryChange : Ann := .seq .nil (.seq (.seq (.reg [(.n, ⟨[.sl false 34 (.pair (.int .i64) (.pair (.int .i64) .str)), .sl false 34 (.pair (.int .i64) (.pair (.int .i64) .str)), .bool, .bool], [(0, .one (.h 0)), (1, .one (.h 1)), (2, .one (.h 2)), (23, .one (.h 3))], [], [], [], []⟩)]) .nil) .nil)
def env_s_CarryChange : Env := envOf ti [k_s_GoodChange, k_s_l1Source, k_s_l1Carry] []
theorem eok_s_CarryChange : EnvOk Try.prog env_s_CarryChange := envOf_ok tab mix _ _ (by
  intro k hk
  simp only [List.mem_cons, List.not_mem_nil, or_false] at hk
  rcases hk with rfl | rfl | rfl
  · exact s_s_GoodChange
  · exact s_s_l1Source
  · exact s_s_l1Carry)
theorem v_s_CarryChange (x0 : List (Int × (Int × List UInt8))) (x1 : List (Int × (Int × List UInt8))) (x2 : Bool) : (vfun env_s_CarryChange Try.f118 J_s_CarryChange ann_s_CarryChange [] [.one ⟨.sl false 34 (.pair (.int .i64) (.pair (.int .i64) .str)), x0⟩, .one ⟨.sl false 34 (.pair (.int .i64) (.pair (.int .i64) .str)), x1⟩, .one ⟨.bool, x2⟩] []).run = (G.s_CarryChange x0 x1 x2).bind fun y => some (Res.mk [.one ⟨.sl true 34 (.pair (.int .i64) (.pair (.int .i64) .str)), y.1⟩, .one ⟨.bool, y.2⟩] [] []) := by kernel_rfl
def k_s_CarryChange : Kn := ⟨118, [0, 0, 0], fun args rows => match args, rows with
  | [.one ⟨.sl false 34 (.pair (.int .i64) (.pair (.int .i64) .str)), x0⟩, .one ⟨.sl false 34 (.pair (.int .i64) (.pair (.int .i64) .str)), x1⟩, .one ⟨.bool, x2⟩], [] => some ⟨_, G.s_CarryChange x0 x1 x2, fun y => ⟨[.one ⟨.sl true 34 (.pair (.int .i64) (.pair (.int .i64) .str)), y.1⟩, .one ⟨.bool, y.2⟩], [], []⟩⟩
  | _, _ => none, []⟩
theorem s_s_CarryChange : KnOk Try.prog k_s_CarryChange := by
  intro args rows a h y hy
  simp only [k_s_CarryChange] at h
  split at h
  · injection h with h
    subst h
    exact vfun_ok eok_s_CarryChange Try.func118 rfl (by rw [v_s_CarryChange]; simp only at hy; rw [hy]; rfl)
  · cases h
def J_s_RebaseOf : Joins := [(.r, ⟨[.sl true 34 (.pair (.int .i64) (.pair (.int .i64) .str)), .int .i64], [(6, .one (.vw 146432)), (7, .one (.h 1))], [], [(146432, 0)], [], []⟩)]
def ann_s_RebaseOf : Ann := .seq .nil (.seq .nil (.seq (.seq (.reg [(.n, ⟨[.int .i64, .sl false 34 (.pair (.int .i64) (.pair (.int .i64) .str)), .bool, .int .i64, .str, .sl false 76 (.pair (.int .i64) (.int .i64)), .sl false 93 (.sl false 34 (.pair (.int .i64) (.pair (.int .i64) .str)))], [(1, .one (.h 0)), (2, .one (.h 1)), (3, .pl 3 0), (29, .one (.h 2))], [(3, [.h 3, .h 4, .h 5, .h 6])], [], [], []⟩)]) .nil) .nil))
def env_s_RebaseOf : Env := envOf ti [k_s_l10Range, k_s_GoodChange, k_s_l1Source, k_s_l10Text, k_s_l10Head, k_s_l10Between, k_s_CarryChange] []
theorem eok_s_RebaseOf : EnvOk Try.prog env_s_RebaseOf := envOf_ok tab mix _ _ (by
  intro k hk
  simp only [List.mem_cons, List.not_mem_nil, or_false] at hk
  rcases hk with rfl | rfl | rfl | rfl | rfl | rfl | rfl
  · exact s_s_l10Range
  · exact s_s_GoodChange
  · exact s_s_l1Source
  · exact s_s_l10Text
  · exact s_s_l10Head
  · exact s_s_l10Between
  · exact s_s_CarryChange)
theorem v_s_RebaseOf (x0 : Int) (x1 : List UInt8) (x2 : List (Int × Int)) (x3 : List (List (Int × (Int × List UInt8)))) (x4 : Int) (x5 : List (Int × (Int × List UInt8))) : (vfun env_s_RebaseOf Try.f116 J_s_RebaseOf ann_s_RebaseOf [] [.ag [⟨.int .i64, x0⟩, ⟨.str, x1⟩, ⟨.sl false 76 (.pair (.int .i64) (.int .i64)), x2⟩, ⟨.sl false 93 (.sl false 34 (.pair (.int .i64) (.pair (.int .i64) .str))), x3⟩], .one ⟨.int .i64, x4⟩, .one ⟨.sl false 34 (.pair (.int .i64) (.pair (.int .i64) .str)), x5⟩] []).run = (G.s_RebaseOf x0 x1 x2 x3 x4 x5).bind fun y => some (Res.mk [.one ⟨.sl true 34 (.pair (.int .i64) (.pair (.int .i64) .str)), y.1⟩, .one ⟨.int .i64, y.2⟩] [] []) := by kernel_rfl
def k_s_RebaseOf : Kn := ⟨116, [0, 0, 0], fun args rows => match args, rows with
  | [.ag [⟨.int .i64, x0⟩, ⟨.str, x1⟩, ⟨.sl false 76 (.pair (.int .i64) (.int .i64)), x2⟩, ⟨.sl false 93 (.sl false 34 (.pair (.int .i64) (.pair (.int .i64) .str))), x3⟩], .one ⟨.int .i64, x4⟩, .one ⟨.sl false 34 (.pair (.int .i64) (.pair (.int .i64) .str)), x5⟩], [] => some ⟨_, G.s_RebaseOf x0 x1 x2 x3 x4 x5, fun y => ⟨[.one ⟨.sl true 34 (.pair (.int .i64) (.pair (.int .i64) .str)), y.1⟩, .one ⟨.int .i64, y.2⟩], [], []⟩⟩
  | _, _ => none, []⟩
theorem s_s_RebaseOf : KnOk Try.prog k_s_RebaseOf := by
  intro args rows a h y hy
  simp only [k_s_RebaseOf] at h
  split at h
  · injection h with h
    subst h
    exact vfun_ok eok_s_RebaseOf Try.func116 rfl (by rw [v_s_RebaseOf]; simp only at hy; rw [hy]; rfl)
  · cases h
def J_s_l10Own : Joins := [(.r, ⟨[.int .i64, .str, .sl true 76 (.pair (.int .i64) (.int .i64)), .sl true 93 (.sl true 34 (.pair (.int .i64) (.pair (.int .i64) .str)))], [(2, .pl 2 0)], [(2, [.h 0, .h 1, .vw 135233, .vw 135234])], [(135233, 2), (135234, 3)], [], []⟩)]
def ann_s_l10Own : Ann := .seq .nil (.seq .nil (.seq (.seq .nil (.block [] (.loop ⟨[.sl true 93 (.sl true 34 (.pair (.int .i64) (.pair (.int .i64) .str))), .sl false 93 (.sl false 34 (.pair (.int .i64) (.pair (.int .i64) .str))), .int .i64, .int .i64, .int .i64, .str, .sl false 76 (.pair (.int .i64) (.int .i64)), .sl false 93 (.sl false 34 (.pair (.int .i64) (.pair (.int .i64) .str))), .int .i64, .str], [(1, .pl 1 0), (2, .pl 2 0), (3, .one (.vw 135168)), (7, .one (.h 1)), (8, .one (.h 2)), (9, .one (.h 3))], [(1, [.h 4, .h 5, .h 6, .h 7]), (2, [.h 8, .h 9, .nil, .nil])], [(135168, 0)], [], []⟩ [(.x 0, ⟨[.sl true 93 (.sl true 34 (.pair (.int .i64) (.pair (.int .i64) .str))), .int .i64, .str, .sl false 76 (.pair (.int .i64) (.int .i64)), .sl false 93 (.sl false 34 (.pair (.int .i64) (.pair (.int .i64) .str))), .int .i64, .str], [(1, .pl 1 0), (2, .pl 2 0), (3, .one (.vw 135232))], [(1, [.h 1, .h 2, .h 3, .h 4]), (2, [.h 5, .h 6, .nil, .nil])], [(135232, 0)], [], []⟩)] .nil))) .nil))
def env_s_l10Own : Env := envOf ti [] []
theorem eok_s_l10Own : EnvOk Try.prog env_s_l10Own := envOf_ok tab mix _ _ (by
  intro k hk; cases hk)
theorem v_s_l10Own (x0 : Int) (x1 : List UInt8) (x2 : List (Int × Int)) (x3 : List (List (Int × (Int × List UInt8)))) : (vfun env_s_l10Own Try.f117 J_s_l10Own ann_s_l10Own [] [.ag [⟨.int .i64, x0⟩, ⟨.str, x1⟩, ⟨.sl false 76 (.pair (.int .i64) (.int .i64)), x2⟩, ⟨.sl false 93 (.sl false 34 (.pair (.int .i64) (.pair (.int .i64) .str))), x3⟩]] []).run = (G.s_l10Own x0 x1 x2 x3).bind fun y => some (Res.mk [.ag [⟨.int .i64, y.1⟩, ⟨.str, y.2.1⟩, ⟨.sl true 76 (.pair (.int .i64) (.int .i64)), y.2.2.1⟩, ⟨.sl true 93 (.sl true 34 (.pair (.int .i64) (.pair (.int .i64) .str))), y.2.2.2⟩]] [] []) := by kernel_rfl
def k_s_l10Own : Kn := ⟨117, [0], fun args rows => match args, rows with
  | [.ag [⟨.int .i64, x0⟩, ⟨.str, x1⟩, ⟨.sl false 76 (.pair (.int .i64) (.int .i64)), x2⟩, ⟨.sl false 93 (.sl false 34 (.pair (.int .i64) (.pair (.int .i64) .str))), x3⟩]], [] => some ⟨_, G.s_l10Own x0 x1 x2 x3, fun y => ⟨[.ag [⟨.int .i64, y.1⟩, ⟨.str, y.2.1⟩, ⟨.sl true 76 (.pair (.int .i64) (.int .i64)), y.2.2.1⟩, ⟨.sl true 93 (.sl true 34 (.pair (.int .i64) (.pair (.int .i64) .str))), y.2.2.2⟩]], [], []⟩⟩
  | _, _ => none, []⟩
theorem s_s_l10Own : KnOk Try.prog k_s_l10Own := by
  intro args rows a h y hy
  simp only [k_s_l10Own] at h
  split at h
  · injection h with h
    subst h
    exact vfun_ok eok_s_l10Own Try.func117 rfl (by rw [v_s_l10Own]; simp only at hy; rw [hy]; rfl)
  · cases h
def J_s_Submit : Joins := [(.r, ⟨[.int .i64, .int .i64, .int .i64, .str, .sl true 76 (.pair (.int .i64) (.int .i64)), .sl true 93 (.sl true 34 (.pair (.int .i64) (.pair (.int .i64) .str)))], [(6, .pl 6 0), (7, .one (.h 0)), (8, .one (.h 1))], [(6, [.h 2, .h 3, .vw 148486, .vw 148487])], [(148486, 4), (148487, 5)], [], []⟩)]
def ann_s_Submit : Ann := .seq .nil (.seq .nil (.seq .nil (.seq .nil (.seq (.seq (.reg [(.n, ⟨[.sl true 34 (.pair (.int .i64) (.pair (.int .i64) .str)), .int .i64, .bool, .int .i64, .str, .sl true 76 (.pair (.int .i64) (.int .i64)), .sl true 93 (.sl true 34 (.pair (.int .i64) (.pair (.int .i64) .str))), .int .i64, .str], [(3, .pl 3 0), (6, .pl 6 0), (9, .one (.vw 148480)), (10, .one (.h 1)), (30, .one (.h 2))], [(3, [.h 3, .h 4, .vw 148481, .vw 148482]), (6, [.h 7, .h 8, .nil, .nil])], [(148480, 0), (148481, 5), (148482, 6)], [], []⟩)]) (.cond [(.n, ⟨[.sl true 34 (.pair (.int .i64) (.pair (.int .i64) .str)), .int .i64, .int .i64, .str, .sl true 76 (.pair (.int .i64) (.int .i64)), .sl true 93 (.sl true 34 (.pair (.int .i64) (.pair (.int .i64) .str))), .int .i64, .str], [(3, .pl 3 0), (6, .pl 6 0), (9, .one (.vw 148483)), (10, .one (.h 1))], [(3, [.h 2, .h 3, .vw 148484, .vw 148485]), (6, [.h 6, .h 7, .nil, .nil])], [(148483, 0), (148484, 4), (148485, 5)], [], []⟩)] .nil .nil)) .nil))))
def env_s_Submit : Env := envOf ti [k_s_GoodHistory, k_s_RebaseOf, k_s_l10Own, k_s_l10Head] []
theorem eok_s_Submit : EnvOk Try.prog env_s_Submit := envOf_ok tab mix _ _ (by
  intro k hk
  simp only [List.mem_cons, List.not_mem_nil, or_false] at hk
  rcases hk with rfl | rfl | rfl | rfl
  · exact s_s_GoodHistory
  · exact s_s_RebaseOf
  · exact s_s_l10Own
  · exact s_s_l10Head)
theorem v_s_Submit (x0 : Int) (x1 : List UInt8) (x2 : List (Int × Int)) (x3 : List (List (Int × (Int × List UInt8)))) (x4 : Int) (x5 : List (Int × (Int × List UInt8))) : (vfun env_s_Submit Try.f112 J_s_Submit ann_s_Submit [] [.ag [⟨.int .i64, x0⟩, ⟨.str, x1⟩, ⟨.sl false 76 (.pair (.int .i64) (.int .i64)), x2⟩, ⟨.sl false 93 (.sl false 34 (.pair (.int .i64) (.pair (.int .i64) .str))), x3⟩], .one ⟨.int .i64, x4⟩, .one ⟨.sl false 34 (.pair (.int .i64) (.pair (.int .i64) .str)), x5⟩] []).run = (G.s_Submit x0 x1 x2 x3 x4 x5).bind fun y => some (Res.mk [.ag [⟨.int .i64, y.2.2.1⟩, ⟨.str, y.2.2.2.1⟩, ⟨.sl true 76 (.pair (.int .i64) (.int .i64)), y.2.2.2.2.1⟩, ⟨.sl true 93 (.sl true 34 (.pair (.int .i64) (.pair (.int .i64) .str))), y.2.2.2.2.2⟩], .one ⟨.int .i64, y.1⟩, .one ⟨.int .i64, y.2.1⟩] [] []) := by kernel_rfl
def k_s_Submit : Kn := ⟨112, [0, 0, 0], fun args rows => match args, rows with
  | [.ag [⟨.int .i64, x0⟩, ⟨.str, x1⟩, ⟨.sl false 76 (.pair (.int .i64) (.int .i64)), x2⟩, ⟨.sl false 93 (.sl false 34 (.pair (.int .i64) (.pair (.int .i64) .str))), x3⟩], .one ⟨.int .i64, x4⟩, .one ⟨.sl false 34 (.pair (.int .i64) (.pair (.int .i64) .str)), x5⟩], [] => some ⟨_, G.s_Submit x0 x1 x2 x3 x4 x5, fun y => ⟨[.ag [⟨.int .i64, y.2.2.1⟩, ⟨.str, y.2.2.2.1⟩, ⟨.sl true 76 (.pair (.int .i64) (.int .i64)), y.2.2.2.2.1⟩, ⟨.sl true 93 (.sl true 34 (.pair (.int .i64) (.pair (.int .i64) .str))), y.2.2.2.2.2⟩], .one ⟨.int .i64, y.1⟩, .one ⟨.int .i64, y.2.1⟩], [], []⟩⟩
  | _, _ => none, []⟩
theorem s_s_Submit : KnOk Try.prog k_s_Submit := by
  intro args rows a h y hy
  simp only [k_s_Submit] at h
  split at h
  · injection h with h
    subst h
    exact vfun_ok eok_s_Submit Try.func112 rfl (by rw [v_s_Submit]; simp only at hy; rw [hy]; rfl)
  · cases h
def J_s_l1Cur_history_f : Joins := [(.r, ⟨[.int .i64, .str, .sl true 76 (.pair (.int .i64) (.int .i64)), .sl true 93 (.sl true 34 (.pair (.int .i64) (.pair (.int .i64) .str))), .sl false 5 (.int .u8), .int .i64, .int .u64], [(2, .pl 2 0)], [(2, [.h 0, .h 1, .vw 206930, .vw 206931]), (103, [.h 4, .h 5, .h 6])], [(206930, 2), (206931, 3)], [], []⟩)]
def ann_s_l1Cur_history_f : Ann := .seq .nil (.seq .nil (.seq (.seq .nil (.cond [(.n, ⟨[.int .i64, .str, .int .i64, .str, .sl true 76 (.pair (.int .i64) (.int .i64)), .sl true 93 (.sl true 34 (.pair (.int .i64) (.pair (.int .i64) .str))), .sl false 5 (.int .u8), .int .i64, .int .u64], [(0, .pl 103 0), (2, .pl 2 0), (3, .pl 3 0)], [(2, [.h 0, .h 1, .nil, .nil]), (3, [.h 2, .h 3, .vw 206848, .vw 206849]), (103, [.h 6, .h 7, .h 8])], [(206848, 4), (206849, 5)], [], []⟩)] .nil .nil)) (.seq .nil (.seq (.seq .nil (.cond [(.n, ⟨[.int .i64, .int .i64, .str, .int .i64, .str, .sl true 76 (.pair (.int .i64) (.int .i64)), .sl true 93 (.sl true 34 (.pair (.int .i64) (.pair (.int .i64) .str))), .sl false 5 (.int .u8), .int .i64, .int .u64], [(0, .pl 103 0), (2, .pl 2 0), (3, .pl 3 0), (5, .one (.h 0))], [(2, [.h 1, .h 2, .nil, .nil]), (3, [.h 3, .h 4, .vw 206850, .vw 206851]), (103, [.h 7, .h 8, .h 9])], [(206850, 5), (206851, 6)], [], []⟩)] .nil .nil)) (.seq (.block [] (.loop ⟨[.int .i64, .int .i64, .str, .int .i64, .str, .sl true 76 (.pair (.int .i64) (.int .i64)), .sl true 93 (.sl true 34 (.pair (.int .i64) (.pair (.int .i64) .str))), .sl false 5 (.int .u8), .int .i64, .int .u64], [(0, .pl 103 0), (2, .pl 2 0), (3, .pl 3 0), (5, .one (.h 0))], [(2, [.h 1, .h 2, .nil, .nil]), (3, [.h 3, .h 4, .vw 206852, .vw 206853]), (103, [.h 7, .h 8, .h 9])], [(206852, 5), (206853, 6)], [], []⟩ [(.x 0, ⟨[.int .i64, .str, .int .i64, .str, .sl true 76 (.pair (.int .i64) (.int .i64)), .sl true 93 (.sl true 34 (.pair (.int .i64) (.pair (.int .i64) .str))), .sl false 5 (.int .u8), .int .i64, .int .u64], [(0, .pl 103 0), (2, .pl 2 0), (3, .pl 3 0)], [(2, [.h 0, .h 1, .nil, .nil]), (3, [.h 2, .h 3, .vw 206922, .vw 206923]), (103, [.h 6, .h 7, .h 8])], [(206922, 4), (206923, 5)], [], []⟩)] (.seq (.seq (.reg [(.n, ⟨[.int .i64, .bool, .int .i64, .str, .int .i64, .str, .sl true 76 (.pair (.int .i64) (.int .i64)), .sl true 93 (.sl true 34 (.pair (.int .i64) (.pair (.int .i64) .str))), .sl false 5 (.int .u8), .int .i64, .int .u64], [(0, .pl 103 0), (2, .pl 2 0), (3, .pl 3 0), (5, .one (.h 0)), (45, .one (.h 1))], [(2, [.h 2, .h 3, .nil, .nil]), (3, [.h 4, .h 5, .vw 206916, .vw 206917]), (103, [.h 8, .h 9, .h 10])], [(206916, 6), (206917, 7)], [], []⟩)]) .nil) (.seq (.block [] (.seq .nil (.seq (.seq .nil (.cond [(.n, ⟨[.int .i64, .int .i64, .int .i64, .str, .int .i64, .str, .sl true 76 (.pair (.int .i64) (.int .i64)), .sl true 93 (.sl true 34 (.pair (.int .i64) (.pair (.int .i64) .str))), .sl false 5 (.int .u8), .int .i64, .int .u64], [(0, .pl 103 0), (2, .pl 2 0), (3, .pl 3 0), (5, .one (.h 0)), (6, .one (.h 1))], [(2, [.h 2, .h 3, .nil, .nil]), (3, [.h 4, .h 5, .vw 206918, .vw 206919]), (103, [.h 8, .h 9, .h 10])], [(206918, 6), (206919, 7)], [], []⟩)] .nil .nil)) (.seq .nil (.seq .nil (.cond [(.n, ⟨[.int .i64, .int .i64, .str, .int .i64, .str, .sl true 76 (.pair (.int .i64) (.int .i64)), .sl true 93 (.sl true 34 (.pair (.int .i64) (.pair (.int .i64) .str))), .sl false 5 (.int .u8), .int .i64, .int .u64], [(0, .pl 103 0), (2, .pl 2 0), (3, .pl 3 0), (5, .one (.h 0))], [(2, [.h 1, .h 2, .nil, .nil]), (3, [.h 3, .h 4, .vw 206920, .vw 206921]), (103, [.h 7, .h 8, .h 9])], [(206920, 5), (206921, 6)], [], []⟩)] .nil .nil)))))) .nil)))) (.seq (.seq .nil (.block [] (.seq .nil (.cond [(.n, ⟨[.int .i64, .str, .int .i64, .str, .sl true 76 (.pair (.int .i64) (.int .i64)), .sl true 93 (.sl true 34 (.pair (.int .i64) (.pair (.int .i64) .str))), .sl false 5 (.int .u8), .int .i64, .int .u64], [(2, .pl 2 0), (3, .pl 3 0)], [(2, [.h 0, .h 1, .nil, .nil]), (3, [.h 2, .h 3, .vw 206928, .vw 206929]), (103, [.h 6, .h 7, .h 8])], [(206928, 4), (206929, 5)], [], []⟩)] .nil (.seq .nil (.cond [(.n, ⟨[.int .i64, .str, .int .i64, .str, .sl true 76 (.pair (.int .i64) (.int .i64)), .sl true 93 (.sl true 34 (.pair (.int .i64) (.pair (.int .i64) .str))), .sl false 5 (.int .u8), .int .i64, .int .u64], [(2, .pl 2 0), (3, .pl 3 0)], [(2, [.h 0, .h 1, .nil, .nil]), (3, [.h 2, .h 3, .vw 206926, .vw 206927]), (103, [.h 6, .h 7, .h 8])], [(206926, 4), (206927, 5)], [], []⟩)] .nil (.seq .nil (.cond [(.n, ⟨[.int .i64, .str, .int .i64, .str, .sl true 76 (.pair (.int .i64) (.int .i64)), .sl true 93 (.sl true 34 (.pair (.int .i64) (.pair (.int .i64) .str))), .sl false 5 (.int .u8), .int .i64, .int .u64], [(2, .pl 2 0), (3, .pl 3 0)], [(2, [.h 0, .h 1, .nil, .nil]), (3, [.h 2, .h 3, .vw 206924, .vw 206925]), (103, [.h 6, .h 7, .h 8])], [(206924, 4), (206925, 5)], [], []⟩)] .nil .nil)))))))) .nil))))))
def env_s_l1Cur_history_f : Env := envOf ti [k_s_l10New, k_s_l1Cur_one_f, k_s_l1Cur_pick_f, k_s_l1Cur_textOf_f, k_s_l1Cur_runs_f, k_s_GoodHistory, k_s_l10Head, k_s_l10Text, k_s_l1Cur_changeOf_f, k_s_Submit, k_s_l1Cur_among_f] []
theorem eok_s_l1Cur_history_f : EnvOk Try.prog env_s_l1Cur_history_f := envOf_ok tab mix _ _ (by
  intro k hk
  simp only [List.mem_cons, List.not_mem_nil, or_false] at hk
  rcases hk with rfl | rfl | rfl | rfl | rfl | rfl | rfl | rfl | rfl | rfl | rfl
  · exact s_s_l10New
  · exact s_s_l1Cur_one_f
  · exact s_s_l1Cur_pick_f
  · exact s_s_l1Cur_textOf_f
  · exact s_s_l1Cur_runs_f
  · exact s_s_GoodHistory
  · exact s_s_l10Head
  · exact s_s_l10Text
  · exact s_s_l1Cur_changeOf_f
  · exact s_s_Submit
  · exact s_s_l1Cur_among_f)
theorem v_s_l1Cur_history_f (x0 : List Int) (x1 : Int) (x2 : Int) : (vfun env_s_l1Cur_history_f Try.f95 J_s_l1Cur_history_f ann_s_l1Cur_history_f [] [.pl 0 0] [[⟨.sl false 5 (.int .u8), x0⟩, ⟨.int .i64, x1⟩, ⟨.int .u64, x2⟩]]).run = (G.s_l1Cur_history_f x0 x1 x2).bind fun y => some (Res.mk [.ag [⟨.int .i64, y.1⟩, ⟨.str, y.2.1⟩, ⟨.sl true 76 (.pair (.int .i64) (.int .i64)), y.2.2.1⟩, ⟨.sl true 93 (.sl true 34 (.pair (.int .i64) (.pair (.int .i64) .str))), y.2.2.2.1⟩]] [[⟨.sl false 5 (.int .u8), y.2.2.2.2.1⟩, ⟨.int .i64, y.2.2.2.2.2.1⟩, ⟨.int .u64, y.2.2.2.2.2.2⟩]] []) := by kernel_rfl
def k_s_l1Cur_history_f : Kn := ⟨95, [0], fun args rows => match args, rows with
  | [.pl 0 0], [[⟨.sl false 5 (.int .u8), x0⟩, ⟨.int .i64, x1⟩, ⟨.int .u64, x2⟩]] => some ⟨_, G.s_l1Cur_history_f x0 x1 x2, fun y => ⟨[.ag [⟨.int .i64, y.1⟩, ⟨.str, y.2.1⟩, ⟨.sl true 76 (.pair (.int .i64) (.int .i64)), y.2.2.1⟩, ⟨.sl true 93 (.sl true 34 (.pair (.int .i64) (.pair (.int .i64) .str))), y.2.2.2.1⟩]], [[⟨.sl false 5 (.int .u8), y.2.2.2.2.1⟩, ⟨.int .i64, y.2.2.2.2.2.1⟩, ⟨.int .u64, y.2.2.2.2.2.2⟩]], []⟩⟩
  | _, _ => none, []⟩
theorem s_s_l1Cur_history_f : KnOk Try.prog k_s_l1Cur_history_f := by
  intro args rows a h y hy
  simp only [k_s_l1Cur_history_f] at h
  split at h
  · injection h with h
    subst h
    exact vfun_ok eok_s_l1Cur_history_f Try.func95 rfl (by rw [v_s_l1Cur_history_f]; simp only at hy; rw [hy]; rfl)
  · cases h
end
end Go.Proofs.Ythpnmoiohfiggaa

set_option linter.unusedVariables false
set_option maxRecDepth 100000
namespace Go.Proofs.Ythpnmoiohfiggaa
open Go.V
noncomputable section
def J_s_l1Cur_revIn_l_f : Joins := [(.r, ⟨[.int .i64, .str, .sl true 76 (.pair (.int .i64) (.int .i64)), .sl true 93 (.sl true 34 (.pair (.int .i64) (.pair (.int .i64) .str))), .int .i64, .sl false 5 (.int .u8), .int .i64, .int .u64], [(1, .ag [.h 0, .h 1, .vw 128000, .vw 128001]), (4, .one (.h 4))], [(26, [.h 5, .h 6, .h 7])], [(128000, 2), (128001, 3)], [], []⟩)]
def ann_s_l1Cur_revIn_l_f : Ann := .nil
def env_s_l1Cur_revIn_l_f : Env := envOf ti [k_s_l1Cur_one_f, k_s_l10Head, k_s_l1Cur_among_f, k_s_l1Cur_pick_f] [1]
theorem eok_s_l1Cur_revIn_l_f : EnvOk Try.prog env_s_l1Cur_revIn_l_f := envOf_ok tab mix _ _ (by
  intro k hk
  simp only [List.mem_cons, List.not_mem_nil, or_false] at hk
  rcases hk with rfl | rfl | rfl | rfl
  · exact s_s_l1Cur_one_f
  · exact s_s_l10Head
  · exact s_s_l1Cur_among_f
  · exact s_s_l1Cur_pick_f)
theorem v_s_l1Cur_revIn_l_f (x0 : Int) (x1 : List UInt8) (x2 : List (Int × Int)) (x3 : List (List (Int × (Int × List UInt8)))) (x4 : List Int) (x5 : Int) (x6 : Int) : (vfun env_s_l1Cur_revIn_l_f Try.f113 J_s_l1Cur_revIn_l_f ann_s_l1Cur_revIn_l_f [(1, 2), (1, 3)] [.pl 0 0, .ag [⟨.int .i64, x0⟩, ⟨.str, x1⟩, ⟨.sl true 76 (.pair (.int .i64) (.int .i64)), x2⟩, ⟨.sl true 93 (.sl true 34 (.pair (.int .i64) (.pair (.int .i64) .str))), x3⟩]] [[⟨.sl false 5 (.int .u8), x4⟩, ⟨.int .i64, x5⟩, ⟨.int .u64, x6⟩]]).run = (G.s_l1Cur_revIn_l_f x0 x1 x2 x3 x4 x5 x6).bind fun y => some (Res.mk [.one ⟨.int .i64, y.2.2.2.2.1⟩] [[⟨.sl false 5 (.int .u8), y.2.2.2.2.2.1⟩, ⟨.int .i64, y.2.2.2.2.2.2.1⟩, ⟨.int .u64, y.2.2.2.2.2.2.2⟩]] [((1, 2), ⟨.sl true 76 (.pair (.int .i64) (.int .i64)), y.2.2.1⟩), ((1, 3), ⟨.sl true 93 (.sl true 34 (.pair (.int .i64) (.pair (.int .i64) .str))), y.2.2.2.1⟩)]) := by kernel_rfl
def k_s_l1Cur_revIn_l_f : Kn := ⟨113, [0, 2], fun args rows => match args, rows with
  | [.pl 0 0, .ag [⟨.int .i64, x0⟩, ⟨.str, x1⟩, ⟨.sl true 76 (.pair (.int .i64) (.int .i64)), x2⟩, ⟨.sl true 93 (.sl true 34 (.pair (.int .i64) (.pair (.int .i64) .str))), x3⟩]], [[⟨.sl false 5 (.int .u8), x4⟩, ⟨.int .i64, x5⟩, ⟨.int .u64, x6⟩]] => some ⟨_, G.s_l1Cur_revIn_l_f x0 x1 x2 x3 x4 x5 x6, fun y => ⟨[.one ⟨.int .i64, y.2.2.2.2.1⟩], [[⟨.sl false 5 (.int .u8), y.2.2.2.2.2.1⟩, ⟨.int .i64, y.2.2.2.2.2.2.1⟩, ⟨.int .u64, y.2.2.2.2.2.2.2⟩]], [((1, 2), ⟨.sl true 76 (.pair (.int .i64) (.int .i64)), y.2.2.1⟩), ((1, 3), ⟨.sl true 93 (.sl true 34 (.pair (.int .i64) (.pair (.int .i64) .str))), y.2.2.2.1⟩)]⟩⟩
  | _, _ => none, []⟩
theorem s_s_l1Cur_revIn_l_f : KnOk Try.prog k_s_l1Cur_revIn_l_f := by
  intro args rows a h y hy
  simp only [k_s_l1Cur_revIn_l_f] at h
  split at h
  · injection h with h
    subst h
    exact vfun_ok eok_s_l1Cur_revIn_l_f Try.func113 rfl (by rw [v_s_l1Cur_revIn_l_f]; simp only at hy; rw [hy]; rfl)
  · cases h
def J_s_l1Cur_twoIn_l_f : Joins := [(.r, ⟨[.int .i64, .str, .sl true 76 (.pair (.int .i64) (.int .i64)), .sl true 93 (.sl true 34 (.pair (.int .i64) (.pair (.int .i64) .str))), .int .i64, .int .i64, .sl false 5 (.int .u8), .int .i64, .int .u64], [(1, .ag [.h 0, .h 1, .vw 129026, .vw 129027]), (4, .one (.h 4)), (5, .one (.h 5))], [(27, [.h 6, .h 7, .h 8])], [(129026, 2), (129027, 3)], [], []⟩)]
def ann_s_l1Cur_twoIn_l_f : Ann := .seq .nil (.seq .nil (.seq .nil (.seq (.seq (.reg [(.n, ⟨[.int .i64, .str, .sl true 76 (.pair (.int .i64) (.int .i64)), .sl true 93 (.sl true 34 (.pair (.int .i64) (.pair (.int .i64) .str))), .int .i64, .int .i64, .bool, .sl false 5 (.int .u8), .int .i64, .int .u64], [(1, .ag [.h 0, .h 1, .vw 129024, .vw 129025]), (6, .one (.h 4)), (7, .one (.h 5)), (21, .one (.h 6))], [(27, [.h 7, .h 8, .h 9])], [(129024, 2), (129025, 3)], [], []⟩)]) .nil) .nil)))
def env_s_l1Cur_twoIn_l_f : Env := envOf ti [k_s_l1Cur_revIn_l_f, k_s_l1Cur_one_f] [1]
theorem eok_s_l1Cur_twoIn_l_f : EnvOk Try.prog env_s_l1Cur_twoIn_l_f := envOf_ok tab mix _ _ (by
  intro k hk
  simp only [List.mem_cons, List.not_mem_nil, or_false] at hk
  rcases hk with rfl | rfl
  · exact s_s_l1Cur_revIn_l_f
  · exact s_s_l1Cur_one_f)
theorem v_s_l1Cur_twoIn_l_f (x0 : Int) (x1 : List UInt8) (x2 : List (Int × Int)) (x3 : List (List (Int × (Int × List UInt8)))) (x4 : List Int) (x5 : Int) (x6 : Int) : (vfun env_s_l1Cur_twoIn_l_f Try.f96 J_s_l1Cur_twoIn_l_f ann_s_l1Cur_twoIn_l_f [(1, 2), (1, 3)] [.pl 0 0, .ag [⟨.int .i64, x0⟩, ⟨.str, x1⟩, ⟨.sl true 76 (.pair (.int .i64) (.int .i64)), x2⟩, ⟨.sl true 93 (.sl true 34 (.pair (.int .i64) (.pair (.int .i64) .str))), x3⟩]] [[⟨.sl false 5 (.int .u8), x4⟩, ⟨.int .i64, x5⟩, ⟨.int .u64, x6⟩]]).run = (G.s_l1Cur_twoIn_l_f x0 x1 x2 x3 x4 x5 x6).bind fun y => some (Res.mk [.one ⟨.int .i64, y.2.2.2.2.1⟩, .one ⟨.int .i64, y.2.2.2.2.2.1⟩] [[⟨.sl false 5 (.int .u8), y.2.2.2.2.2.2.1⟩, ⟨.int .i64, y.2.2.2.2.2.2.2.1⟩, ⟨.int .u64, y.2.2.2.2.2.2.2.2⟩]] [((1, 2), ⟨.sl true 76 (.pair (.int .i64) (.int .i64)), y.2.2.1⟩), ((1, 3), ⟨.sl true 93 (.sl true 34 (.pair (.int .i64) (.pair (.int .i64) .str))), y.2.2.2.1⟩)]) := by kernel_rfl
def k_s_l1Cur_twoIn_l_f : Kn := ⟨96, [0, 2], fun args rows => match args, rows with
  | [.pl 0 0, .ag [⟨.int .i64, x0⟩, ⟨.str, x1⟩, ⟨.sl true 76 (.pair (.int .i64) (.int .i64)), x2⟩, ⟨.sl true 93 (.sl true 34 (.pair (.int .i64) (.pair (.int .i64) .str))), x3⟩]], [[⟨.sl false 5 (.int .u8), x4⟩, ⟨.int .i64, x5⟩, ⟨.int .u64, x6⟩]] => some ⟨_, G.s_l1Cur_twoIn_l_f x0 x1 x2 x3 x4 x5 x6, fun y => ⟨[.one ⟨.int .i64, y.2.2.2.2.1⟩, .one ⟨.int .i64, y.2.2.2.2.2.1⟩], [[⟨.sl false 5 (.int .u8), y.2.2.2.2.2.2.1⟩, ⟨.int .i64, y.2.2.2.2.2.2.2.1⟩, ⟨.int .u64, y.2.2.2.2.2.2.2.2⟩]], [((1, 2), ⟨.sl true 76 (.pair (.int .i64) (.int .i64)), y.2.2.1⟩), ((1, 3), ⟨.sl true 93 (.sl true 34 (.pair (.int .i64) (.pair (.int .i64) .str))), y.2.2.2.1⟩)]⟩⟩
  | _, _ => none, []⟩
theorem s_s_l1Cur_twoIn_l_f : KnOk Try.prog k_s_l1Cur_twoIn_l_f := by
  intro args rows a h y hy
  simp only [k_s_l1Cur_twoIn_l_f] at h
  split at h
  · injection h with h
    subst h
    exact vfun_ok eok_s_l1Cur_twoIn_l_f Try.func96 rfl (by rw [v_s_l1Cur_twoIn_l_f]; simp only at hy; rw [hy]; rfl)
  · cases h
def J_s_DrawChangeBetween : Joins := [(.r, ⟨[.int .i64, .int .i64, .int .i64, .str, .sl true 76 (.pair (.int .i64) (.int .i64)), .sl true 93 (.sl true 34 (.pair (.int .i64) (.pair (.int .i64) .str)))], [(2, .pl 2 0), (3, .one (.h 0)), (4, .one (.h 1))], [(2, [.h 2, .h 3, .vw 125952, .vw 125953])], [(125952, 4), (125953, 5)], [], []⟩)]
def ann_s_DrawChangeBetween : Ann := .nil
def env_s_DrawChangeBetween : Env := envOf ti [k_s_l1Cur_history_f, k_s_l1Cur_twoIn_l_f] []
theorem eok_s_DrawChangeBetween : EnvOk Try.prog env_s_DrawChangeBetween := envOf_ok tab mix _ _ (by
  intro k hk
  simp only [List.mem_cons, List.not_mem_nil, or_false] at hk
  rcases hk with rfl | rfl
  · exact s_s_l1Cur_history_f
  · exact s_s_l1Cur_twoIn_l_f)
theorem v_s_DrawChangeBetween (x0 : List Int) : (vfun env_s_DrawChangeBetween Try.f66 J_s_DrawChangeBetween ann_s_DrawChangeBetween [] [.one ⟨.sl false 5 (.int .u8), x0⟩] []).run = (G.s_DrawChangeBetween x0).bind fun y => some (Res.mk [.ag [⟨.int .i64, y.2.2.1⟩, ⟨.str, y.2.2.2.1⟩, ⟨.sl true 76 (.pair (.int .i64) (.int .i64)), y.2.2.2.2.1⟩, ⟨.sl true 93 (.sl true 34 (.pair (.int .i64) (.pair (.int .i64) .str))), y.2.2.2.2.2⟩], .one ⟨.int .i64, y.1⟩, .one ⟨.int .i64, y.2.1⟩] [] []) := by kernel_rfl
def k_s_DrawChangeBetween : Kn := ⟨66, [0], fun args rows => match args, rows with
  | [.one ⟨.sl false 5 (.int .u8), x0⟩], [] => some ⟨_, G.s_DrawChangeBetween x0, fun y => ⟨[.ag [⟨.int .i64, y.2.2.1⟩, ⟨.str, y.2.2.2.1⟩, ⟨.sl true 76 (.pair (.int .i64) (.int .i64)), y.2.2.2.2.1⟩, ⟨.sl true 93 (.sl true 34 (.pair (.int .i64) (.pair (.int .i64) .str))), y.2.2.2.2.2⟩], .one ⟨.int .i64, y.1⟩, .one ⟨.int .i64, y.2.1⟩], [], []⟩⟩
  | _, _ => none, []⟩
theorem s_s_DrawChangeBetween : KnOk Try.prog k_s_DrawChangeBetween := by
  intro args rows a h y hy
  simp only [k_s_DrawChangeBetween] at h
  split at h
  · injection h with h
    subst h
    exact vfun_ok eok_s_DrawChangeBetween Try.func66 rfl (by rw [v_s_DrawChangeBetween]; simp only at hy; rw [hy]; rfl)
  · cases h
def J_s_DrawExportRange : Joins := [(.r, ⟨[.int .i64, .int .i64, .int .i64, .str, .sl true 76 (.pair (.int .i64) (.int .i64)), .sl true 93 (.sl true 34 (.pair (.int .i64) (.pair (.int .i64) .str)))], [(2, .pl 2 0), (3, .one (.h 0)), (4, .one (.h 1))], [(2, [.h 2, .h 3, .vw 112640, .vw 112641])], [(112640, 4), (112641, 5)], [], []⟩)]
def ann_s_DrawExportRange : Ann := .nil
def env_s_DrawExportRange : Env := envOf ti [k_s_DrawChangeBetween] []
theorem eok_s_DrawExportRange : EnvOk Try.prog env_s_DrawExportRange := envOf_ok tab mix _ _ (by
  intro k hk
  simp only [List.mem_cons, List.not_mem_nil, or_false] at hk
  rcases hk with rfl
  · exact s_s_DrawChangeBetween)
theorem v_s_DrawExportRange (x0 : List Int) : (vfun env_s_DrawExportRange Try.f23 J_s_DrawExportRange ann_s_DrawExportRange [] [.one ⟨.sl false 5 (.int .u8), x0⟩] []).run = (G.s_DrawExportRange x0).bind fun y => some (Res.mk [.ag [⟨.int .i64, y.2.2.1⟩, ⟨.str, y.2.2.2.1⟩, ⟨.sl true 76 (.pair (.int .i64) (.int .i64)), y.2.2.2.2.1⟩, ⟨.sl true 93 (.sl true 34 (.pair (.int .i64) (.pair (.int .i64) .str))), y.2.2.2.2.2⟩], .one ⟨.int .i64, y.1⟩, .one ⟨.int .i64, y.2.1⟩] [] []) := by kernel_rfl
def k_s_DrawExportRange : Kn := ⟨23, [0], fun args rows => match args, rows with
  | [.one ⟨.sl false 5 (.int .u8), x0⟩], [] => some ⟨_, G.s_DrawExportRange x0, fun y => ⟨[.ag [⟨.int .i64, y.2.2.1⟩, ⟨.str, y.2.2.2.1⟩, ⟨.sl true 76 (.pair (.int .i64) (.int .i64)), y.2.2.2.2.1⟩, ⟨.sl true 93 (.sl true 34 (.pair (.int .i64) (.pair (.int .i64) .str))), y.2.2.2.2.2⟩], .one ⟨.int .i64, y.1⟩, .one ⟨.int .i64, y.2.1⟩], [], []⟩⟩
  | _, _ => none, []⟩
theorem s_s_DrawExportRange : KnOk Try.prog k_s_DrawExportRange := by
  intro args rows a h y hy
  simp only [k_s_DrawExportRange] at h
  split at h
  · injection h with h
    subst h
    exact vfun_ok eok_s_DrawExportRange Try.func23 rfl (by rw [v_s_DrawExportRange]; simp only at hy; rw [hy]; rfl)
  · cases h
def J_i_within : Joins := [(.r, ⟨[.bool], [(6, .one (.h 0))], [], [], [], []⟩)]
def ann_i_within : Ann := .seq .nil (.seq (.reg [(.n, ⟨[.bool], [(6, .one (.h 0))], [], [], [], []⟩)]) .nil)
def env_i_within : Env := envOf ti [] []
theorem eok_i_within : EnvOk Try.prog env_i_within := envOf_ok tab mix _ _ (by
  intro k hk; cases hk)
theorem v_i_within (x0 : Int) (x1 : Int) (x2 : Int) : (vfun env_i_within Try.f36 J_i_within ann_i_within [] [.one ⟨.int .i64, x0⟩, .one ⟨.int .i64, x1⟩, .one ⟨.int .i64, x2⟩] []).run = (G.i_within x0 x1 x2).bind fun y => some (Res.mk [.one ⟨.bool, y⟩] [] []) := by kernel_rfl
def k_i_within : Kn := ⟨36, [0, 0, 0], fun args rows => match args, rows with
  | [.one ⟨.int .i64, x0⟩, .one ⟨.int .i64, x1⟩, .one ⟨.int .i64, x2⟩], [] => some ⟨_, G.i_within x0 x1 x2, fun y => ⟨[.one ⟨.bool, y⟩], [], []⟩⟩
  | _, _ => none, []⟩
theorem s_i_within : KnOk Try.prog k_i_within := by
  intro args rows a h y hy
  simp only [k_i_within] at h
  split at h
  · injection h with h
    subst h
    exact vfun_ok eok_i_within Try.func36 rfl (by rw [v_i_within]; simp only at hy; rw [hy]; rfl)
  · cases h
def J_i_GoodRuns : Joins := [(.r, ⟨[.bool], [(6, .one (.h 0))], [], [], [], []⟩)]
def ann_i_GoodRuns : Ann := .seq .nil (.seq (.seq (.reg [(.n, ⟨[.sl false 76 (.pair (.int .i64) (.int .i64)), .int .i64, .int .i64, .bool], [(0, .one (.h 0)), (1, .one (.h 1)), (2, .one (.h 2)), (17, .one (.h 3))], [], [], [], []⟩)]) .nil) (.seq .nil (.seq (.seq .nil (.block [] (.loop ⟨[.sl false 76 (.pair (.int .i64) (.int .i64)), .int .i64, .int .i64, .int .i64, .sl false 76 (.pair (.int .i64) (.int .i64)), .int .i64, .int .i64], [(0, .one (.h 0)), (1, .one (.h 1)), (2, .one (.h 2)), (7, .one (.h 3)), (18, .one (.h 4)), (19, .one (.h 5)), (20, .one (.h 6))], [], [], [], []⟩ [(.x 0, ⟨[.int .i64, .int .i64], [(1, .one (.h 0)), (7, .one (.h 1))], [], [], [], []⟩), (.r, ⟨[.bool], [(6, .one (.h 0))], [], [], [], []⟩)] (.seq .nil (.seq .nil (.seq (.block [] (.seq .nil (.seq (.seq (.reg [(.n, ⟨[.sl false 76 (.pair (.int .i64) (.int .i64)), .int .i64, .int .i64, .int .i64, .sl false 76 (.pair (.int .i64) (.int .i64)), .int .i64, .int .i64, .bool, .int .i64, .int .i64], [(0, .one (.h 0)), (1, .one (.h 1)), (2, .one (.h 2)), (7, .one (.h 3)), (9, .pl 9 0), (18, .one (.h 4)), (19, .one (.h 5)), (20, .one (.h 6)), (50, .one (.h 7))], [(9, [.h 8, .h 9])], [], [], []⟩)]) .nil) .nil))) .nil)))))) .nil)))
def env_i_GoodRuns : Env := envOf ti [k_i_within] []
theorem eok_i_GoodRuns : EnvOk Try.prog env_i_GoodRuns := envOf_ok tab mix _ _ (by
  intro k hk
  simp only [List.mem_cons, List.not_mem_nil, or_false] at hk
  rcases hk with rfl
  · exact s_i_within)
theorem v_i_GoodRuns (x0 : List (Int × Int)) (x1 : Int) (x2 : Int) : (vfun env_i_GoodRuns Try.f11 J_i_GoodRuns ann_i_GoodRuns [] [.one ⟨.sl false 76 (.pair (.int .i64) (.int .i64)), x0⟩, .one ⟨.int .i64, x1⟩, .one ⟨.int .i64, x2⟩] []).run = (G.i_GoodRuns x0 x1 x2).bind fun y => some (Res.mk [.one ⟨.bool, y⟩] [] []) := by kernel_rfl
def k_i_GoodRuns : Kn := ⟨11, [0, 0, 0], fun args rows => match args, rows with
  | [.one ⟨.sl false 76 (.pair (.int .i64) (.int .i64)), x0⟩, .one ⟨.int .i64, x1⟩, .one ⟨.int .i64, x2⟩], [] => some ⟨_, G.i_GoodRuns x0 x1 x2, fun y => ⟨[.one ⟨.bool, y⟩], [], []⟩⟩
  | _, _ => none, []⟩
theorem s_i_GoodRuns : KnOk Try.prog k_i_GoodRuns := by
  intro args rows a h y hy
  simp only [k_i_GoodRuns] at h
  split at h
  · injection h with h
    subst h
    exact vfun_ok eok_i_GoodRuns Try.func11 rfl (by rw [v_i_GoodRuns]; simp only at hy; rw [hy]; rfl)
  · cases h
def J_i_Part_kind : Joins := [(.r, ⟨[.int .i64], [(2, .one (.h 0))], [], [], [], []⟩)]
def ann_i_Part_kind : Ann := .seq .nil (.seq (.block [] (.seq (.reg [(.n, ⟨[.bool, .int .i64, .int .i64, .str], [(1, .pl 1 0), (3, .one (.h 0))], [(1, [.h 1, .h 2, .h 3])], [], [], []⟩)]) (.cond [] .nil (.seq (.reg [(.n, ⟨[.bool, .int .i64, .int .i64, .str], [(1, .pl 1 0), (17, .one (.h 0))], [(1, [.h 1, .h 2, .h 3])], [], [], []⟩)]) (.cond [] .nil (.seq (.reg [(.n, ⟨[.bool], [(31, .one (.h 0))], [], [], [], []⟩)]) .nil)))))) .nil)
def env_i_Part_kind : Env := envOf ti [] []
theorem eok_i_Part_kind : EnvOk Try.prog env_i_Part_kind := envOf_ok tab mix _ _ (by
  intro k hk; cases hk)
theorem v_i_Part_kind (x0 : Int) (x1 : Int) (x2 : List UInt8) : (vfun env_i_Part_kind Try.f106 J_i_Part_kind ann_i_Part_kind [] [.ag [⟨.int .i64, x0⟩, ⟨.int .i64, x1⟩, ⟨.str, x2⟩]] []).run = (G.i_Part_kind x0 x1 x2).bind fun y => some (Res.mk [.one ⟨.int .i64, y⟩] [] []) := by kernel_rfl
def k_i_Part_kind : Kn := ⟨106, [0], fun args rows => match args, rows with
  | [.ag [⟨.int .i64, x0⟩, ⟨.int .i64, x1⟩, ⟨.str, x2⟩]], [] => some ⟨_, G.i_Part_kind x0 x1 x2, fun y => ⟨[.one ⟨.int .i64, y⟩], [], []⟩⟩
  | _, _ => none, []⟩
theorem s_i_Part_kind : KnOk Try.prog k_i_Part_kind := by
  intro args rows a h y hy
  simp only [k_i_Part_kind] at h
  split at h
  · injection h with h
    subst h
    exact vfun_ok eok_i_Part_kind Try.func106 rfl (by rw [v_i_Part_kind]; simp only at hy; rw [hy]; rfl)
  · cases h
def J_i_lengths : Joins := [(.r, ⟨[.int .i64, .int .i64, .bool], [(2, .one (.h 0)), (3, .one (.h 1)), (4, .one (.h 2))], [], [], [], []⟩)]
def ann_i_lengths : Ann := .seq .nil (.seq .nil (.seq (.seq .nil (.block [] (.loop ⟨[.int .i64, .int .i64, .sl false 34 (.pair (.int .i64) (.pair (.int .i64) .str)), .int .i64, .int .i64], [(5, .one (.h 0)), (6, .one (.h 1)), (9, .one (.h 2)), (10, .one (.h 3)), (11, .one (.h 4))], [], [], [], []⟩ [(.x 0, ⟨[.int .i64, .int .i64], [(5, .one (.h 0)), (6, .one (.h 1))], [], [], [], []⟩), (.r, ⟨[.int .i64, .int .i64, .bool], [(2, .one (.h 0)), (3, .one (.h 1)), (4, .one (.h 2))], [], [], [], []⟩)] (.seq .nil (.seq .nil (.seq (.block [] (.seq .nil (.seq (.seq (.reg [(.n, ⟨[.int .i64, .int .i64, .sl false 34 (.pair (.int .i64) (.pair (.int .i64) .str)), .int .i64, .int .i64, .bool, .int .i64, .int .i64, .str], [(5, .one (.h 0)), (6, .one (.h 1)), (8, .pl 8 0), (9, .one (.h 2)), (10, .one (.h 3)), (11, .one (.h 4)), (22, .one (.h 5))], [(8, [.h 6, .h 7, .h 8])], [], [], []⟩)]) .nil) (.seq .nil (.seq .nil (.seq (.reg [(.n, ⟨[.int .i64, .int .i64, .sl false 34 (.pair (.int .i64) (.pair (.int .i64) .str)), .int .i64, .int .i64, .bool], [(5, .one (.h 0)), (6, .one (.h 1)), (9, .one (.h 2)), (10, .one (.h 3)), (11, .one (.h 4)), (43, .one (.h 5))], [], [], [], []⟩)]) .nil)))))) .nil)))))) .nil))
def env_i_lengths : Env := envOf ti [] []
theorem eok_i_lengths : EnvOk Try.prog env_i_lengths := envOf_ok tab mix _ _ (by
  intro k hk; cases hk)
theorem v_i_lengths (x0 : List (Int × (Int × List UInt8))) : (vfun env_i_lengths Try.f82 J_i_lengths ann_i_lengths [] [.one ⟨.sl false 34 (.pair (.int .i64) (.pair (.int .i64) .str)), x0⟩] []).run = (G.i_lengths x0).bind fun y => some (Res.mk [.one ⟨.int .i64, y.1⟩, .one ⟨.int .i64, y.2.1⟩, .one ⟨.bool, y.2.2⟩] [] []) := by kernel_rfl
def k_i_lengths : Kn := ⟨82, [0], fun args rows => match args, rows with
  | [.one ⟨.sl false 34 (.pair (.int .i64) (.pair (.int .i64) .str)), x0⟩], [] => some ⟨_, G.i_lengths x0, fun y => ⟨[.one ⟨.int .i64, y.1⟩, .one ⟨.int .i64, y.2.1⟩, .one ⟨.bool, y.2.2⟩], [], []⟩⟩
  | _, _ => none, []⟩
theorem s_i_lengths : KnOk Try.prog k_i_lengths := by
  intro args rows a h y hy
  simp only [k_i_lengths] at h
  split at h
  · injection h with h
    subst h
    exact vfun_ok eok_i_lengths Try.func82 rfl (by rw [v_i_lengths]; simp only at hy; rw [hy]; rfl)
  · cases h
def J_i_GoodChange : Joins := [(.r, ⟨[.bool], [(2, .one (.h 0))], [], [], [], []⟩)]
def ann_i_GoodChange : Ann := .seq .nil (.seq (.seq .nil (.block [] (.loop ⟨[.sl false 34 (.pair (.int .i64) (.pair (.int .i64) .str)), .sl false 34 (.pair (.int .i64) (.pair (.int .i64) .str)), .int .i64, .int .i64], [(0, .one (.h 0)), (9, .one (.h 1)), (10, .one (.h 2)), (11, .one (.h 3))], [], [], [], []⟩ [(.x 0, ⟨[.sl false 34 (.pair (.int .i64) (.pair (.int .i64) .str))], [(0, .one (.h 0))], [], [], [], []⟩), (.r, ⟨[.bool], [(2, .one (.h 0))], [], [], [], []⟩)] (.seq .nil (.seq .nil (.seq (.block [] (.seq .nil (.seq .nil (.seq (.reg [(.n, ⟨[.sl false 34 (.pair (.int .i64) (.pair (.int .i64) .str)), .sl false 34 (.pair (.int .i64) (.pair (.int .i64) .str)), .int .i64, .int .i64, .bool], [(0, .one (.h 0)), (9, .one (.h 1)), (10, .one (.h 2)), (11, .one (.h 3)), (33, .one (.h 4))], [], [], [], []⟩)]) .nil)))) .nil)))))) .nil)
def env_i_GoodChange : Env := envOf ti [k_i_Part_kind, k_i_lengths] []
theorem eok_i_GoodChange : EnvOk Try.prog env_i_GoodChange := envOf_ok tab mix _ _ (by
  intro k hk
  simp only [List.mem_cons, List.not_mem_nil, or_false] at hk
  rcases hk with rfl | rfl
  · exact s_i_Part_kind
  · exact s_i_lengths)
theorem v_i_GoodChange (x0 : List (Int × (Int × List UInt8))) : (vfun env_i_GoodChange Try.f81 J_i_GoodChange ann_i_GoodChange [] [.one ⟨.sl false 34 (.pair (.int .i64) (.pair (.int .i64) .str)), x0⟩] []).run = (G.i_GoodChange x0).bind fun y => some (Res.mk [.one ⟨.bool, y⟩] [] []) := by kernel_rfl
def k_i_GoodChange : Kn := ⟨81, [0], fun args rows => match args, rows with
  | [.one ⟨.sl false 34 (.pair (.int .i64) (.pair (.int .i64) .str)), x0⟩], [] => some ⟨_, G.i_GoodChange x0, fun y => ⟨[.one ⟨.bool, y⟩], [], []⟩⟩
  | _, _ => none, []⟩
theorem s_i_GoodChange : KnOk Try.prog k_i_GoodChange := by
  intro args rows a h y hy
  simp only [k_i_GoodChange] at h
  split at h
  · injection h with h
    subst h
    exact vfun_ok eok_i_GoodChange Try.func81 rfl (by rw [v_i_GoodChange]; simp only at hy; rw [hy]; rfl)
  · cases h
def J_i_LengthsOf : Joins := [(.r, ⟨[.int .i64, .int .i64, .bool], [(2, .one (.h 0)), (3, .one (.h 1)), (4, .one (.h 2))], [], [], [], []⟩)]
def ann_i_LengthsOf : Ann := .nil
def env_i_LengthsOf : Env := envOf ti [k_i_GoodChange, k_i_lengths] []
theorem eok_i_LengthsOf : EnvOk Try.prog env_i_LengthsOf := envOf_ok tab mix _ _ (by
  intro k hk
  simp only [List.mem_cons, List.not_mem_nil, or_false] at hk
  rcases hk with rfl | rfl
  · exact s_i_GoodChange
  · exact s_i_lengths)
theorem v_i_LengthsOf (x0 : List (Int × (Int × List UInt8))) : (vfun env_i_LengthsOf Try.f35 J_i_LengthsOf ann_i_LengthsOf [] [.one ⟨.sl false 34 (.pair (.int .i64) (.pair (.int .i64) .str)), x0⟩] []).run = (G.i_LengthsOf x0).bind fun y => some (Res.mk [.one ⟨.int .i64, y.1⟩, .one ⟨.int .i64, y.2.1⟩, .one ⟨.bool, y.2.2⟩] [] []) := by kernel_rfl
def k_i_LengthsOf : Kn := ⟨35, [0], fun args rows => match args, rows with
  | [.one ⟨.sl false 34 (.pair (.int .i64) (.pair (.int .i64) .str)), x0⟩], [] => some ⟨_, G.i_LengthsOf x0, fun y => ⟨[.one ⟨.int .i64, y.1⟩, .one ⟨.int .i64, y.2.1⟩, .one ⟨.bool, y.2.2⟩], [], []⟩⟩
  | _, _ => none, []⟩
theorem s_i_LengthsOf : KnOk Try.prog k_i_LengthsOf := by
  intro args rows a h y hy
  simp only [k_i_LengthsOf] at h
  split at h
  · injection h with h
    subst h
    exact vfun_ok eok_i_LengthsOf Try.func35 rfl (by rw [v_i_LengthsOf]; simp only at hy; rw [hy]; rfl)
  · cases h
end
end Go.Proofs.Ythpnmoiohfiggaa

set_option linter.unusedVariables false
set_option maxRecDepth 100000
namespace Go.Proofs.Ythpnmoiohfiggaa
open Go.V
noncomputable section
def J_i_chained : Joins := [(.r, ⟨[.bool], [(4, .one (.h 0))], [], [], [], []⟩)]
def ann_i_chained : Ann := .seq .nil (.seq (.seq .nil (.block [] (.loop ⟨[.int .i64, .sl false 93 (.sl false 34 (.pair (.int .i64) (.pair (.int .i64) .str))), .int .i64, .int .i64], [(0, .one (.h 0)), (10, .one (.h 1)), (11, .one (.h 2)), (12, .one (.h 3))], [], [], [], []⟩ [(.x 0, ⟨[], [], [], [], [], []⟩), (.r, ⟨[.bool], [(4, .one (.h 0))], [], [], [], []⟩)] (.seq .nil (.seq .nil (.seq (.block [] (.seq .nil (.seq .nil (.seq (.seq (.reg [(.n, ⟨[.int .i64, .sl false 93 (.sl false 34 (.pair (.int .i64) (.pair (.int .i64) .str))), .int .i64, .int .i64, .bool], [(8, .one (.h 0)), (10, .one (.h 1)), (11, .one (.h 2)), (12, .one (.h 3)), (29, .one (.h 4))], [], [], [], []⟩)]) .nil) .nil)))) .nil)))))) .nil)
def env_i_chained : Env := envOf ti [k_i_LengthsOf] []
theorem eok_i_chained : EnvOk Try.prog env_i_chained := envOf_ok tab mix _ _ (by
  intro k hk
  simp only [List.mem_cons, List.not_mem_nil, or_false] at hk
  rcases hk with rfl
  · exact s_i_LengthsOf)
theorem v_i_chained (x0 : Int) (x1 : List (List (Int × (Int × List UInt8)))) : (vfun env_i_chained Try.f90 J_i_chained ann_i_chained [] [.one ⟨.int .i64, x0⟩, .one ⟨.sl false 93 (.sl false 34 (.pair (.int .i64) (.pair (.int .i64) .str))), x1⟩] []).run = (G.i_chained x0 x1).bind fun y => some (Res.mk [.one ⟨.bool, y⟩] [] []) := by kernel_rfl
def k_i_chained : Kn := ⟨90, [0, 0], fun args rows => match args, rows with
  | [.one ⟨.int .i64, x0⟩, .one ⟨.sl false 93 (.sl false 34 (.pair (.int .i64) (.pair (.int .i64) .str))), x1⟩], [] => some ⟨_, G.i_chained x0 x1, fun y => ⟨[.one ⟨.bool, y⟩], [], []⟩⟩
  | _, _ => none, []⟩
theorem s_i_chained : KnOk Try.prog k_i_chained := by
  intro args rows a h y hy
  simp only [k_i_chained] at h
  split at h
  · injection h with h
    subst h
    exact vfun_ok eok_i_chained Try.func90 rfl (by rw [v_i_chained]; simp only at hy; rw [hy]; rfl)
  · cases h
def J_i_GoodHistory : Joins := [(.r, ⟨[.bool], [(2, .one (.h 0))], [], [], [], []⟩)]
def ann_i_GoodHistory : Ann := .seq .nil (.seq (.reg [(.n, ⟨[.bool], [(2, .one (.h 0))], [], [], [], []⟩)]) .nil)
def env_i_GoodHistory : Env := envOf ti [k_i_within, k_i_GoodRuns, k_i_chained] []
theorem eok_i_GoodHistory : EnvOk Try.prog env_i_GoodHistory := envOf_ok tab mix _ _ (by
  intro k hk
  simp only [List.mem_cons, List.not_mem_nil, or_false] at hk
  rcases hk with rfl | rfl | rfl
  · exact s_i_within
  · exact s_i_GoodRuns
  · exact s_i_chained)
theorem v_i_GoodHistory (x0 : Int) (x1 : List UInt8) (x2 : List (Int × Int)) (x3 : List (List (Int × (Int × List UInt8)))) : (vfun env_i_GoodHistory Try.f59 J_i_GoodHistory ann_i_GoodHistory [] [.ag [⟨.int .i64, x0⟩, ⟨.str, x1⟩, ⟨.sl false 76 (.pair (.int .i64) (.int .i64)), x2⟩, ⟨.sl false 93 (.sl false 34 (.pair (.int .i64) (.pair (.int .i64) .str))), x3⟩]] []).run = (G.i_GoodHistory x0 x1 x2 x3).bind fun y => some (Res.mk [.one ⟨.bool, y⟩] [] []) := by kernel_rfl
def k_i_GoodHistory : Kn := ⟨59, [0], fun args rows => match args, rows with
  | [.ag [⟨.int .i64, x0⟩, ⟨.str, x1⟩, ⟨.sl false 76 (.pair (.int .i64) (.int .i64)), x2⟩, ⟨.sl false 93 (.sl false 34 (.pair (.int .i64) (.pair (.int .i64) .str))), x3⟩]], [] => some ⟨_, G.i_GoodHistory x0 x1 x2 x3, fun y => ⟨[.one ⟨.bool, y⟩], [], []⟩⟩
  | _, _ => none, []⟩
theorem s_i_GoodHistory : KnOk Try.prog k_i_GoodHistory := by
  intro args rows a h y hy
  simp only [k_i_GoodHistory] at h
  split at h
  · injection h with h
    subst h
    exact vfun_ok eok_i_GoodHistory Try.func59 rfl (by rw [v_i_GoodHistory]; simp only at hy; rw [hy]; rfl)
  · cases h
def J_i_History_head : Joins := [(.r, ⟨[.int .i64], [(2, .one (.h 0))], [], [], [], []⟩)]
def ann_i_History_head : Ann := .nil
def env_i_History_head : Env := envOf ti [] []
theorem eok_i_History_head : EnvOk Try.prog env_i_History_head := envOf_ok tab mix _ _ (by
  intro k hk; cases hk)
theorem v_i_History_head (x0 : Int) (x1 : List UInt8) (x2 : List (Int × Int)) (x3 : List (List (Int × (Int × List UInt8)))) : (vfun env_i_History_head Try.f97 J_i_History_head ann_i_History_head [] [.ag [⟨.int .i64, x0⟩, ⟨.str, x1⟩, ⟨.sl false 76 (.pair (.int .i64) (.int .i64)), x2⟩, ⟨.sl false 93 (.sl false 34 (.pair (.int .i64) (.pair (.int .i64) .str))), x3⟩]] []).run = (G.i_History_head x0 x1 x2 x3).bind fun y => some (Res.mk [.one ⟨.int .i64, y⟩] [] []) := by kernel_rfl
def k_i_History_head : Kn := ⟨97, [0], fun args rows => match args, rows with
  | [.ag [⟨.int .i64, x0⟩, ⟨.str, x1⟩, ⟨.sl false 76 (.pair (.int .i64) (.int .i64)), x2⟩, ⟨.sl false 93 (.sl false 34 (.pair (.int .i64) (.pair (.int .i64) .str))), x3⟩]], [] => some ⟨_, G.i_History_head x0 x1 x2 x3, fun y => ⟨[.one ⟨.int .i64, y⟩], [], []⟩⟩
  | _, _ => none, []⟩
theorem s_i_History_head : KnOk Try.prog k_i_History_head := by
  intro args rows a h y hy
  simp only [k_i_History_head] at h
  split at h
  · injection h with h
    subst h
    exact vfun_ok eok_i_History_head Try.func97 rfl (by rw [v_i_History_head]; simp only at hy; rw [hy]; rfl)
  · cases h
def J_i_History_code : Joins := [(.r, ⟨[.int .i64], [(6, .one (.h 0))], [], [], [], []⟩)]
def ann_i_History_code : Ann := .seq .nil (.seq (.block [] (.seq .nil (.cond [] .nil (.seq (.reg [(.n, ⟨[.bool], [(11, .one (.h 0))], [], [], [], []⟩)]) .nil)))) .nil)
def env_i_History_code : Env := envOf ti [k_i_GoodHistory, k_i_History_head] []
theorem eok_i_History_code : EnvOk Try.prog env_i_History_code := envOf_ok tab mix _ _ (by
  intro k hk
  simp only [List.mem_cons, List.not_mem_nil, or_false] at hk
  rcases hk with rfl | rfl
  · exact s_i_GoodHistory
  · exact s_i_History_head)
theorem v_i_History_code (x0 : Int) (x1 : List UInt8) (x2 : List (Int × Int)) (x3 : List (List (Int × (Int × List UInt8)))) (x4 : Int) (x5 : Int) : (vfun env_i_History_code Try.f67 J_i_History_code ann_i_History_code [] [.ag [⟨.int .i64, x0⟩, ⟨.str, x1⟩, ⟨.sl false 76 (.pair (.int .i64) (.int .i64)), x2⟩, ⟨.sl false 93 (.sl false 34 (.pair (.int .i64) (.pair (.int .i64) .str))), x3⟩], .one ⟨.int .i64, x4⟩, .one ⟨.int .i64, x5⟩] []).run = (G.i_History_code x0 x1 x2 x3 x4 x5).bind fun y => some (Res.mk [.one ⟨.int .i64, y⟩] [] []) := by kernel_rfl
def k_i_History_code : Kn := ⟨67, [0, 0, 0], fun args rows => match args, rows with
  | [.ag [⟨.int .i64, x0⟩, ⟨.str, x1⟩, ⟨.sl false 76 (.pair (.int .i64) (.int .i64)), x2⟩, ⟨.sl false 93 (.sl false 34 (.pair (.int .i64) (.pair (.int .i64) .str))), x3⟩], .one ⟨.int .i64, x4⟩, .one ⟨.int .i64, x5⟩], [] => some ⟨_, G.i_History_code x0 x1 x2 x3 x4 x5, fun y => ⟨[.one ⟨.int .i64, y⟩], [], []⟩⟩
  | _, _ => none, []⟩
theorem s_i_History_code : KnOk Try.prog k_i_History_code := by
  intro args rows a h y hy
  simp only [k_i_History_code] at h
  split at h
  · injection h with h
    subst h
    exact vfun_ok eok_i_History_code Try.func67 rfl (by rw [v_i_History_code]; simp only at hy; rw [hy]; rfl)
  · cases h
def J_i_apply : Joins := [(.r, ⟨[.str], [(4, .one (.h 0))], [], [], [], []⟩)]
def ann_i_apply : Ann := .seq .nil (.seq .nil (.seq (.seq .nil (.block [] (.loop ⟨[.str, .str, .int .i64, .sl false 34 (.pair (.int .i64) (.pair (.int .i64) .str)), .int .i64, .int .i64], [(0, .one (.h 0)), (5, .one (.h 1)), (6, .one (.h 2)), (9, .one (.h 3)), (10, .one (.h 4)), (11, .one (.h 5))], [], [], [], []⟩ [(.x 0, ⟨[.str], [(5, .one (.h 0))], [], [], [], []⟩)] .nil))) .nil))
def env_i_apply : Env := envOf ti [] []
theorem eok_i_apply : EnvOk Try.prog env_i_apply := envOf_ok tab mix _ _ (by
  intro k hk; cases hk)
theorem v_i_apply (x0 : List UInt8) (x1 : List (Int × (Int × List UInt8))) : (vfun env_i_apply Try.f102 J_i_apply ann_i_apply [] [.one ⟨.str, x0⟩, .one ⟨.sl false 34 (.pair (.int .i64) (.pair (.int .i64) .str)), x1⟩] []).run = (G.i_apply x0 x1).bind fun y => some (Res.mk [.one ⟨.str, y⟩] [] []) := by kernel_rfl
def k_i_apply : Kn := ⟨102, [0, 0], fun args rows => match args, rows with
  | [.one ⟨.str, x0⟩, .one ⟨.sl false 34 (.pair (.int .i64) (.pair (.int .i64) .str)), x1⟩], [] => some ⟨_, G.i_apply x0 x1, fun y => ⟨[.one ⟨.str, y⟩], [], []⟩⟩
  | _, _ => none, []⟩
theorem s_i_apply : KnOk Try.prog k_i_apply := by
  intro args rows a h y hy
  simp only [k_i_apply] at h
  split at h
  · injection h with h
    subst h
    exact vfun_ok eok_i_apply Try.func102 rfl (by rw [v_i_apply]; simp only at hy; rw [hy]; rfl)
  · cases h
def J_i_History_text : Joins := [(.r, ⟨[.str], [(4, .one (.h 0))], [], [], [], []⟩)]
def ann_i_History_text : Ann := .seq .nil (.seq .nil (.seq (.seq .nil (.block [] (.loop ⟨[.str, .sl false 93 (.sl false 34 (.pair (.int .i64) (.pair (.int .i64) .str))), .int .i64, .int .i64], [(5, .one (.h 0)), (16, .one (.h 1)), (17, .one (.h 2)), (18, .one (.h 3))], [], [], [], []⟩ [(.x 0, ⟨[.str], [(5, .one (.h 0))], [], [], [], []⟩)] .nil))) .nil))
def env_i_History_text : Env := envOf ti [k_i_apply] []
theorem eok_i_History_text : EnvOk Try.prog env_i_History_text := envOf_ok tab mix _ _ (by
  intro k hk
  simp only [List.mem_cons, List.not_mem_nil, or_false] at hk
  rcases hk with rfl
  · exact s_i_apply)
theorem v_i_History_text (x0 : Int) (x1 : List UInt8) (x2 : List (Int × Int)) (x3 : List (List (Int × (Int × List UInt8)))) (x4 : Int) : (vfun env_i_History_text Try.f74 J_i_History_text ann_i_History_text [] [.ag [⟨.int .i64, x0⟩, ⟨.str, x1⟩, ⟨.sl false 76 (.pair (.int .i64) (.int .i64)), x2⟩, ⟨.sl false 93 (.sl false 34 (.pair (.int .i64) (.pair (.int .i64) .str))), x3⟩], .one ⟨.int .i64, x4⟩] []).run = (G.i_History_text x0 x1 x2 x3 x4).bind fun y => some (Res.mk [.one ⟨.str, y⟩] [] []) := by kernel_rfl
def k_i_History_text : Kn := ⟨74, [0, 0], fun args rows => match args, rows with
  | [.ag [⟨.int .i64, x0⟩, ⟨.str, x1⟩, ⟨.sl false 76 (.pair (.int .i64) (.int .i64)), x2⟩, ⟨.sl false 93 (.sl false 34 (.pair (.int .i64) (.pair (.int .i64) .str))), x3⟩], .one ⟨.int .i64, x4⟩], [] => some ⟨_, G.i_History_text x0 x1 x2 x3 x4, fun y => ⟨[.one ⟨.str, y⟩], [], []⟩⟩
  | _, _ => none, []⟩
theorem s_i_History_text : KnOk Try.prog k_i_History_text := by
  intro args rows a h y hy
  simp only [k_i_History_text] at h
  split at h
  · injection h with h
    subst h
    exact vfun_ok eok_i_History_text Try.func74 rfl (by rw [v_i_History_text]; simp only at hy; rw [hy]; rfl)
  · cases h
def J_slices_Clone_loop_example_g00083_impl_Run_loop_example_g00083_impl_Run : Joins := [(.r, ⟨[.sl true 76 (.pair (.int .i64) (.int .i64))], [(2, .one (.vw 110593))], [], [(110593, 0)], [], []⟩)]
def ann_slices_Clone_loop_example_g00083_impl_Run_loop_example_g00083_impl_Run : Ann := .seq .nil (.both [(.r, ⟨[.sl true 76 (.pair (.int .i64) (.int .i64))], [(2, .one (.vw 110592))], [], [(110592, 0)], [], []⟩)] .nil .nil .nil .nil .nil)
def env_slices_Clone_loop_example_g00083_impl_Run_loop_example_g00083_impl_Run : Env := envOf ti [] []
theorem eok_slices_Clone_loop_example_g00083_impl_Run_loop_example_g00083_impl_Run : EnvOk Try.prog env_slices_Clone_loop_example_g00083_impl_Run_loop_example_g00083_impl_Run := envOf_ok tab mix _ _ (by
  intro k hk; cases hk)
theorem v_slices_Clone_loop_example_g00083_impl_Run_loop_example_g00083_impl_Run (x0 : List (Int × Int)) : (vfun env_slices_Clone_loop_example_g00083_impl_Run_loop_example_g00083_impl_Run Try.f103 J_slices_Clone_loop_example_g00083_impl_Run_loop_example_g00083_impl_Run ann_slices_Clone_loop_example_g00083_impl_Run_loop_example_g00083_impl_Run [] [.one ⟨.sl false 76 (.pair (.int .i64) (.int .i64)), x0⟩] []).run = (G.slices_Clone_loop_example_g00083_impl_Run_loop_example_g00083_impl_Run x0).bind fun y => some (Res.mk [.one ⟨.sl true 76 (.pair (.int .i64) (.int .i64)), y⟩] [] []) := by kernel_rfl
def k_slices_Clone_loop_example_g00083_impl_Run_loop_example_g00083_impl_Run : Kn := ⟨103, [0], fun args rows => match args, rows with
  | [.one ⟨.sl false 76 (.pair (.int .i64) (.int .i64)), x0⟩], [] => some ⟨_, G.slices_Clone_loop_example_g00083_impl_Run_loop_example_g00083_impl_Run x0, fun y => ⟨[.one ⟨.sl true 76 (.pair (.int .i64) (.int .i64)), y⟩], [], []⟩⟩
  | _, _ => none, []⟩
theorem s_slices_Clone_loop_example_g00083_impl_Run_loop_example_g00083_impl_Run : KnOk Try.prog k_slices_Clone_loop_example_g00083_impl_Run_loop_example_g00083_impl_Run := by
  intro args rows a h y hy
  simp only [k_slices_Clone_loop_example_g00083_impl_Run_loop_example_g00083_impl_Run] at h
  split at h
  · injection h with h
    subst h
    exact vfun_ok eok_slices_Clone_loop_example_g00083_impl_Run_loop_example_g00083_impl_Run Try.func103 rfl (by rw [v_slices_Clone_loop_example_g00083_impl_Run_loop_example_g00083_impl_Run]; simp only at hy; rw [hy]; rfl)
  · cases h
def J_i_revs : Joins := [(.r, ⟨[.sl true 3 (.int .i64)], [(2, .one (.vw 128130))], [], [(128130, 0)], [], []⟩)]
def ann_i_revs : Ann := .seq .nil (.seq .nil (.seq (.seq .nil (.block [] (.loop ⟨[.sl true 3 (.int .i64), .sl false 76 (.pair (.int .i64) (.int .i64)), .int .i64, .int .i64], [(3, .one (.vw 128000)), (7, .one (.h 1)), (8, .one (.h 2)), (9, .one (.h 3))], [], [(128000, 0)], [], []⟩ [(.x 0, ⟨[.sl true 3 (.int .i64)], [(3, .one (.vw 128129))], [], [(128129, 0)], [], []⟩)] (.seq .nil (.seq .nil (.seq (.block [] (.seq .nil (.seq .nil (.block [] (.loop ⟨[.sl true 3 (.int .i64), .sl false 76 (.pair (.int .i64) (.int .i64)), .int .i64, .int .i64, .int .i64, .int .i64, .int .i64, .int .i64], [(3, .one (.vw 128064)), (5, .pl 5 0), (7, .one (.h 1)), (8, .one (.h 2)), (9, .one (.h 3)), (14, .one (.h 4)), (15, .one (.h 5))], [(5, [.h 6, .h 7])], [(128064, 0)], [], []⟩ [(.x 2, ⟨[.sl true 3 (.int .i64), .sl false 76 (.pair (.int .i64) (.int .i64)), .int .i64, .int .i64], [(3, .one (.vw 128128)), (7, .one (.h 1)), (8, .one (.h 2)), (9, .one (.h 3))], [], [(128128, 0)], [], []⟩)] .nil))))) .nil)))))) .nil))
def env_i_revs : Env := envOf ti [] []
theorem eok_i_revs : EnvOk Try.prog env_i_revs := envOf_ok tab mix _ _ (by
  intro k hk; cases hk)
theorem v_i_revs (x0 : List (Int × Int)) : (vfun env_i_revs Try.f45 J_i_revs ann_i_revs [] [.one ⟨.sl false 76 (.pair (.int .i64) (.int .i64)), x0⟩] []).run = (G.i_revs x0).bind fun y => some (Res.mk [.one ⟨.sl true 3 (.int .i64), y⟩] [] []) := by kernel_rfl
def k_i_revs : Kn := ⟨45, [0], fun args rows => match args, rows with
  | [.one ⟨.sl false 76 (.pair (.int .i64) (.int .i64)), x0⟩], [] => some ⟨_, G.i_revs x0, fun y => ⟨[.one ⟨.sl true 3 (.int .i64), y⟩], [], []⟩⟩
  | _, _ => none, []⟩
theorem s_i_revs : KnOk Try.prog k_i_revs := by
  intro args rows a h y hy
  simp only [k_i_revs] at h
  split at h
  · injection h with h
    subst h
    exact vfun_ok eok_i_revs Try.func45 rfl (by rw [v_i_revs]; simp only at hy; rw [hy]; rfl)
  · cases h
def J_i_runs : Joins := [(.r, ⟨[.sl true 76 (.pair (.int .i64) (.int .i64))], [(2, .one (.vw 147523))], [], [(147523, 0)], [], []⟩)]
def ann_i_runs : Ann := .seq .nil (.seq .nil (.seq (.seq .nil (.block [] (.loop ⟨[.sl true 76 (.pair (.int .i64) (.int .i64)), .sl false 3 (.int .i64), .int .i64, .int .i64], [(3, .one (.vw 147456)), (8, .one (.h 1)), (9, .one (.h 2)), (10, .one (.h 3))], [], [(147456, 0)], [], []⟩ [(.x 0, ⟨[.sl true 76 (.pair (.int .i64) (.int .i64))], [(3, .one (.vw 147522))], [], [(147522, 0)], [], []⟩)] (.seq .nil (.seq .nil (.seq (.block [] (.seq .nil (.seq .nil (.seq (.reg [(.n, ⟨[.sl true 76 (.pair (.int .i64) (.int .i64)), .int .i64, .int .i64, .sl false 3 (.int .i64), .int .i64, .int .i64, .bool], [(3, .one (.vw 147520)), (5, .one (.h 1)), (6, .one (.h 2)), (8, .one (.h 3)), (9, .one (.h 4)), (10, .one (.h 5)), (27, .one (.h 6))], [], [(147520, 0)], [], []⟩)]) (.cond [(.n, ⟨[.sl true 76 (.pair (.int .i64) (.int .i64)), .sl false 3 (.int .i64), .int .i64, .int .i64], [(3, .one (.vw 147521)), (8, .one (.h 1)), (9, .one (.h 2)), (10, .one (.h 3))], [], [(147521, 0)], [], []⟩)] .nil .nil))))) .nil)))))) .nil))
def env_i_runs : Env := envOf ti [] []
theorem eok_i_runs : EnvOk Try.prog env_i_runs := envOf_ok tab mix _ _ (by
  intro k hk; cases hk)
theorem v_i_runs (x0 : List Int) : (vfun env_i_runs Try.f83 J_i_runs ann_i_runs [] [.one ⟨.sl false 3 (.int .i64), x0⟩] []).run = (G.i_runs x0).bind fun y => some (Res.mk [.one ⟨.sl true 76 (.pair (.int .i64) (.int .i64)), y⟩] [] []) := by kernel_rfl
def k_i_runs : Kn := ⟨83, [0], fun args rows => match args, rows with
  | [.one ⟨.sl false 3 (.int .i64), x0⟩], [] => some ⟨_, G.i_runs x0, fun y => ⟨[.one ⟨.sl true 76 (.pair (.int .i64) (.int .i64)), y⟩], [], []⟩⟩
  | _, _ => none, []⟩
theorem s_i_runs : KnOk Try.prog k_i_runs := by
  intro args rows a h y hy
  simp only [k_i_runs] at h
  split at h
  · injection h with h
    subst h
    exact vfun_ok eok_i_runs Try.func83 rfl (by rw [v_i_runs]; simp only at hy; rw [hy]; rfl)
  · cases h
def J_i_carryRuns : Joins := [(.r, ⟨[.sl true 76 (.pair (.int .i64) (.int .i64))], [(6, .one (.vw 153731))], [], [(153731, 0)], [], []⟩)]
def ann_i_carryRuns : Ann := .seq .nil (.seq .nil (.seq (.seq .nil (.block [] (.loop ⟨[.int .i64, .sl true 3 (.int .i64), .sl true 3 (.int .i64), .int .i64, .sl false 34 (.pair (.int .i64) (.pair (.int .i64) .str)), .int .i64, .int .i64], [(2, .one (.h 0)), (7, .one (.vw 153600)), (8, .one (.vw 153601)), (9, .one (.h 3)), (15, .one (.h 4)), (16, .one (.h 5)), (17, .one (.h 6))], [], [(153600, 1), (153601, 2)], [], []⟩ [(.x 0, ⟨[.sl true 3 (.int .i64)], [(8, .one (.vw 153730))], [], [(153730, 0)], [], []⟩)] (.seq .nil (.seq .nil (.seq (.block [] (.seq .nil (.seq .nil (.seq .nil (.seq .nil (.block [] (.loop ⟨[.int .i64, .sl true 3 (.int .i64), .sl true 3 (.int .i64), .int .i64, .sl false 34 (.pair (.int .i64) (.pair (.int .i64) .str)), .int .i64, .int .i64, .int .i64, .int .i64], [(2, .one (.h 0)), (7, .one (.vw 153664)), (8, .one (.vw 153665)), (9, .one (.h 3)), (15, .one (.h 4)), (16, .one (.h 5)), (17, .one (.h 6)), (39, .one (.h 7)), (40, .one (.h 8))], [], [(153664, 1), (153665, 2)], [], []⟩ [(.x 2, ⟨[.int .i64, .sl true 3 (.int .i64), .sl true 3 (.int .i64), .int .i64, .sl false 34 (.pair (.int .i64) (.pair (.int .i64) .str)), .int .i64, .int .i64], [(2, .one (.h 0)), (7, .one (.vw 153728)), (8, .one (.vw 153729)), (9, .one (.h 3)), (15, .one (.h 4)), (16, .one (.h 5)), (17, .one (.h 6))], [], [(153728, 1), (153729, 2)], [], []⟩)] .nil))))))) .nil)))))) .nil))
def env_i_carryRuns : Env := envOf ti [k_i_revs, k_i_runs] []
theorem eok_i_carryRuns : EnvOk Try.prog env_i_carryRuns := envOf_ok tab mix _ _ (by
  intro k hk
  simp only [List.mem_cons, List.not_mem_nil, or_false] at hk
  rcases hk with rfl | rfl
  · exact s_i_revs
  · exact s_i_runs)
theorem v_i_carryRuns (x0 : List (Int × Int)) (x1 : List (Int × (Int × List UInt8))) (x2 : Int) : (vfun env_i_carryRuns Try.f37 J_i_carryRuns ann_i_carryRuns [] [.one ⟨.sl false 76 (.pair (.int .i64) (.int .i64)), x0⟩, .one ⟨.sl false 34 (.pair (.int .i64) (.pair (.int .i64) .str)), x1⟩, .one ⟨.int .i64, x2⟩] []).run = (G.i_carryRuns x0 x1 x2).bind fun y => some (Res.mk [.one ⟨.sl true 76 (.pair (.int .i64) (.int .i64)), y⟩] [] []) := by kernel_rfl
def k_i_carryRuns : Kn := ⟨37, [0, 0, 0], fun args rows => match args, rows with
  | [.one ⟨.sl false 76 (.pair (.int .i64) (.int .i64)), x0⟩, .one ⟨.sl false 34 (.pair (.int .i64) (.pair (.int .i64) .str)), x1⟩, .one ⟨.int .i64, x2⟩], [] => some ⟨_, G.i_carryRuns x0 x1 x2, fun y => ⟨[.one ⟨.sl true 76 (.pair (.int .i64) (.int .i64)), y⟩], [], []⟩⟩
  | _, _ => none, []⟩
theorem s_i_carryRuns : KnOk Try.prog k_i_carryRuns := by
  intro args rows a h y hy
  simp only [k_i_carryRuns] at h
  split at h
  · injection h with h
    subst h
    exact vfun_ok eok_i_carryRuns Try.func37 rfl (by rw [v_i_carryRuns]; simp only at hy; rw [hy]; rfl)
  · cases h
def J_i_History_blame : Joins := [(.r, ⟨[.sl true 76 (.pair (.int .i64) (.int .i64))], [(4, .one (.vw 138305))], [], [(138305, 0)], [], []⟩)]
def ann_i_History_blame : Ann := .seq .nil (.seq .nil (.seq (.seq .nil (.block [] (.loop ⟨[.sl true 76 (.pair (.int .i64) (.int .i64)), .sl false 93 (.sl false 34 (.pair (.int .i64) (.pair (.int .i64) .str))), .int .i64, .int .i64, .int .i64, .str, .sl false 76 (.pair (.int .i64) (.int .i64)), .sl false 93 (.sl false 34 (.pair (.int .i64) (.pair (.int .i64) .str)))], [(2, .pl 2 0), (5, .one (.vw 138240)), (17, .one (.h 1)), (18, .one (.h 2)), (19, .one (.h 3))], [(2, [.h 4, .h 5, .h 6, .h 7])], [(138240, 0)], [], []⟩ [(.x 0, ⟨[.sl true 76 (.pair (.int .i64) (.int .i64))], [(5, .one (.vw 138304))], [], [(138304, 0)], [], []⟩)] .nil))) .nil))
def env_i_History_blame : Env := envOf ti [k_slices_Clone_loop_example_g00083_impl_Run_loop_example_g00083_impl_Run, k_i_carryRuns] []
theorem eok_i_History_blame : EnvOk Try.prog env_i_History_blame := envOf_ok tab mix _ _ (by
  intro k hk
  simp only [List.mem_cons, List.not_mem_nil, or_false] at hk
  rcases hk with rfl | rfl
  · exact s_slices_Clone_loop_example_g00083_impl_Run_loop_example_g00083_impl_Run
  · exact s_i_carryRuns)
theorem v_i_History_blame (x0 : Int) (x1 : List UInt8) (x2 : List (Int × Int)) (x3 : List (List (Int × (Int × List UInt8)))) (x4 : Int) : (vfun env_i_History_blame Try.f75 J_i_History_blame ann_i_History_blame [] [.ag [⟨.int .i64, x0⟩, ⟨.str, x1⟩, ⟨.sl false 76 (.pair (.int .i64) (.int .i64)), x2⟩, ⟨.sl false 93 (.sl false 34 (.pair (.int .i64) (.pair (.int .i64) .str))), x3⟩], .one ⟨.int .i64, x4⟩] []).run = (G.i_History_blame x0 x1 x2 x3 x4).bind fun y => some (Res.mk [.one ⟨.sl true 76 (.pair (.int .i64) (.int .i64)), y⟩] [] []) := by kernel_rfl
def k_i_History_blame : Kn := ⟨75, [0, 0], fun args rows => match args, rows with
  | [.ag [⟨.int .i64, x0⟩, ⟨.str, x1⟩, ⟨.sl false 76 (.pair (.int .i64) (.int .i64)), x2⟩, ⟨.sl false 93 (.sl false 34 (.pair (.int .i64) (.pair (.int .i64) .str))), x3⟩], .one ⟨.int .i64, x4⟩], [] => some ⟨_, G.i_History_blame x0 x1 x2 x3 x4, fun y => ⟨[.one ⟨.sl true 76 (.pair (.int .i64) (.int .i64)), y⟩], [], []⟩⟩
  | _, _ => none, []⟩
theorem s_i_History_blame : KnOk Try.prog k_i_History_blame := by
  intro args rows a h y hy
  simp only [k_i_History_blame] at h
  split at h
  · injection h with h
    subst h
    exact vfun_ok eok_i_History_blame Try.func75 rfl (by rw [v_i_History_blame]; simp only at hy; rw [hy]; rfl)
  · cases h
def J_i_writeRuns : Joins := [(.r, ⟨[.sl true 5 (.int .u8)], [(2, .one (.vw 127041))], [], [(127041, 0)], [], []⟩)]
def ann_i_writeRuns : Ann := .seq .nil (.seq .nil (.seq (.seq .nil (.block [] (.loop ⟨[.sl true 5 (.int .u8), .sl false 76 (.pair (.int .i64) (.int .i64)), .int .i64, .int .i64], [(3, .one (.vw 126976)), (7, .one (.h 1)), (8, .one (.h 2)), (9, .one (.h 3))], [], [(126976, 0)], [], []⟩ [(.x 0, ⟨[.sl true 5 (.int .u8)], [(3, .one (.vw 127040))], [], [(127040, 0)], [], []⟩)] .nil))) .nil))
def env_i_writeRuns : Env := envOf ti [] []
theorem eok_i_writeRuns : EnvOk Try.prog env_i_writeRuns := envOf_ok tab mix _ _ (by
  intro k hk; cases hk)
theorem v_i_writeRuns (x0 : List (Int × Int)) : (vfun env_i_writeRuns Try.f46 J_i_writeRuns ann_i_writeRuns [] [.one ⟨.sl false 76 (.pair (.int .i64) (.int .i64)), x0⟩] []).run = (G.i_writeRuns x0).bind fun y => some (Res.mk [.one ⟨.sl true 5 (.int .u8), y⟩] [] []) := by kernel_rfl
def k_i_writeRuns : Kn := ⟨46, [0], fun args rows => match args, rows with
  | [.one ⟨.sl false 76 (.pair (.int .i64) (.int .i64)), x0⟩], [] => some ⟨_, G.i_writeRuns x0, fun y => ⟨[.one ⟨.sl true 5 (.int .u8), y⟩], [], []⟩⟩
  | _, _ => none, []⟩
theorem s_i_writeRuns : KnOk Try.prog k_i_writeRuns := by
  intro args rows a h y hy
  simp only [k_i_writeRuns] at h
  split at h
  · injection h with h
    subst h
    exact vfun_ok eok_i_writeRuns Try.func46 rfl (by rw [v_i_writeRuns]; simp only at hy; rw [hy]; rfl)
  · cases h
end
end Go.Proofs.Ythpnmoiohfiggaa

set_option linter.unusedVariables false
set_option maxRecDepth 100000
namespace Go.Proofs.Ythpnmoiohfiggaa
open Go.V
noncomputable section
def J_i_two : Joins := [(.r, ⟨[.sl true 5 (.int .u8)], [(2, .one (.vw 111616))], [], [(111616, 0)], [], []⟩)]
def ann_i_two : Ann := .nil
def env_i_two : Env := envOf ti [] []
theorem eok_i_two : EnvOk Try.prog env_i_two := envOf_ok tab mix _ _ (by
  intro k hk; cases hk)
theorem v_i_two (x0 : Int) : (vfun env_i_two Try.f98 J_i_two ann_i_two [] [.one ⟨.int .i64, x0⟩] []).run = (G.i_two x0).bind fun y => some (Res.mk [.one ⟨.sl true 5 (.int .u8), y⟩] [] []) := by kernel_rfl
def k_i_two : Kn := ⟨98, [0], fun args rows => match args, rows with
  | [.one ⟨.int .i64, x0⟩], [] => some ⟨_, G.i_two x0, fun y => ⟨[.one ⟨.sl true 5 (.int .u8), y⟩], [], []⟩⟩
  | _, _ => none, []⟩
theorem s_i_two : KnOk Try.prog k_i_two := by
  intro args rows a h y hy
  simp only [k_i_two] at h
  split at h
  · injection h with h
    subst h
    exact vfun_ok eok_i_two Try.func98 rfl (by rw [v_i_two]; simp only at hy; rw [hy]; rfl)
  · cases h
def J_i_writeChange : Joins := [(.r, ⟨[.sl true 5 (.int .u8)], [(2, .one (.vw 138305))], [], [(138305, 0)], [], []⟩)]
def ann_i_writeChange : Ann := .seq .nil (.seq .nil (.seq (.seq .nil (.block [] (.loop ⟨[.sl true 5 (.int .u8), .sl false 34 (.pair (.int .i64) (.pair (.int .i64) .str)), .int .i64, .int .i64], [(3, .one (.vw 138240)), (7, .one (.h 1)), (8, .one (.h 2)), (9, .one (.h 3))], [], [(138240, 0)], [], []⟩ [(.x 0, ⟨[.sl true 5 (.int .u8)], [(3, .one (.vw 138304))], [], [(138304, 0)], [], []⟩)] .nil))) .nil))
def env_i_writeChange : Env := envOf ti [k_i_Part_kind] []
theorem eok_i_writeChange : EnvOk Try.prog env_i_writeChange := envOf_ok tab mix _ _ (by
  intro k hk
  simp only [List.mem_cons, List.not_mem_nil, or_false] at hk
  rcases hk with rfl
  · exact s_i_Part_kind)
theorem v_i_writeChange (x0 : List (Int × (Int × List UInt8))) : (vfun env_i_writeChange Try.f99 J_i_writeChange ann_i_writeChange [] [.one ⟨.sl false 34 (.pair (.int .i64) (.pair (.int .i64) .str)), x0⟩] []).run = (G.i_writeChange x0).bind fun y => some (Res.mk [.one ⟨.sl true 5 (.int .u8), y⟩] [] []) := by kernel_rfl
def k_i_writeChange : Kn := ⟨99, [0], fun args rows => match args, rows with
  | [.one ⟨.sl false 34 (.pair (.int .i64) (.pair (.int .i64) .str)), x0⟩], [] => some ⟨_, G.i_writeChange x0, fun y => ⟨[.one ⟨.sl true 5 (.int .u8), y⟩], [], []⟩⟩
  | _, _ => none, []⟩
theorem s_i_writeChange : KnOk Try.prog k_i_writeChange := by
  intro args rows a h y hy
  simp only [k_i_writeChange] at h
  split at h
  · injection h with h
    subst h
    exact vfun_ok eok_i_writeChange Try.func99 rfl (by rw [v_i_writeChange]; simp only at hy; rw [hy]; rfl)
  · cases h
def J_i_digest : Joins := [(.r, ⟨[.int .u32], [(4, .one (.h 0))], [], [], [], []⟩)]
def ann_i_digest : Ann := .seq .nil (.seq (.seq .nil (.block [] (.loop ⟨[.int .u32, .sl false 5 (.int .u8), .int .i64, .int .i64], [(0, .one (.h 0)), (7, .one (.h 1)), (8, .one (.h 2)), (9, .one (.h 3))], [], [], [], []⟩ [(.x 0, ⟨[.int .u32], [(0, .one (.h 0))], [], [], [], []⟩)] .nil))) .nil)
def env_i_digest : Env := envOf ti [] []
theorem eok_i_digest : EnvOk Try.prog env_i_digest := envOf_ok tab mix _ _ (by
  intro k hk; cases hk)
theorem v_i_digest (x0 : Int) (x1 : List Int) : (vfun env_i_digest Try.f88 J_i_digest ann_i_digest [] [.one ⟨.int .u32, x0⟩, .one ⟨.sl false 5 (.int .u8), x1⟩] []).run = (G.i_digest x0 x1).bind fun y => some (Res.mk [.one ⟨.int .u32, y⟩] [] []) := by kernel_rfl
def k_i_digest : Kn := ⟨88, [0, 0], fun args rows => match args, rows with
  | [.one ⟨.int .u32, x0⟩, .one ⟨.sl false 5 (.int .u8), x1⟩], [] => some ⟨_, G.i_digest x0 x1, fun y => ⟨[.one ⟨.int .u32, y⟩], [], []⟩⟩
  | _, _ => none, []⟩
theorem s_i_digest : KnOk Try.prog k_i_digest := by
  intro args rows a h y hy
  simp only [k_i_digest] at h
  split at h
  · injection h with h
    subst h
    exact vfun_ok eok_i_digest Try.func88 rfl (by rw [v_i_digest]; simp only at hy; rw [hy]; rfl)
  · cases h
def J_i_DigestOf : Joins := [(.r, ⟨[.int .u32], [(2, .one (.h 0))], [], [], [], []⟩)]
def ann_i_DigestOf : Ann := .nil
def env_i_DigestOf : Env := envOf ti [k_i_digest] []
theorem eok_i_DigestOf : EnvOk Try.prog env_i_DigestOf := envOf_ok tab mix _ _ (by
  intro k hk
  simp only [List.mem_cons, List.not_mem_nil, or_false] at hk
  rcases hk with rfl
  · exact s_i_digest)
theorem v_i_DigestOf (x0 : List Int) : (vfun env_i_DigestOf Try.f56 J_i_DigestOf ann_i_DigestOf [] [.one ⟨.sl false 5 (.int .u8), x0⟩] []).run = (G.i_DigestOf x0).bind fun y => some (Res.mk [.one ⟨.int .u32, y⟩] [] []) := by kernel_rfl
def k_i_DigestOf : Kn := ⟨56, [0], fun args rows => match args, rows with
  | [.one ⟨.sl false 5 (.int .u8), x0⟩], [] => some ⟨_, G.i_DigestOf x0, fun y => ⟨[.one ⟨.int .u32, y⟩], [], []⟩⟩
  | _, _ => none, []⟩
theorem s_i_DigestOf : KnOk Try.prog k_i_DigestOf := by
  intro args rows a h y hy
  simp only [k_i_DigestOf] at h
  split at h
  · injection h with h
    subst h
    exact vfun_ok eok_i_DigestOf Try.func56 rfl (by rw [v_i_DigestOf]; simp only at hy; rw [hy]; rfl)
  · cases h
def J_i_four : Joins := [(.r, ⟨[.sl true 5 (.int .u8)], [(2, .one (.vw 117760))], [], [(117760, 0)], [], []⟩)]
def ann_i_four : Ann := .nil
def env_i_four : Env := envOf ti [] []
theorem eok_i_four : EnvOk Try.prog env_i_four := envOf_ok tab mix _ _ (by
  intro k hk; cases hk)
theorem v_i_four (x0 : Int) : (vfun env_i_four Try.f55 J_i_four ann_i_four [] [.one ⟨.int .u32, x0⟩] []).run = (G.i_four x0).bind fun y => some (Res.mk [.one ⟨.sl true 5 (.int .u8), y⟩] [] []) := by kernel_rfl
def k_i_four : Kn := ⟨55, [0], fun args rows => match args, rows with
  | [.one ⟨.int .u32, x0⟩], [] => some ⟨_, G.i_four x0, fun y => ⟨[.one ⟨.sl true 5 (.int .u8), y⟩], [], []⟩⟩
  | _, _ => none, []⟩
theorem s_i_four : KnOk Try.prog k_i_four := by
  intro args rows a h y hy
  simp only [k_i_four] at h
  split at h
  · injection h with h
    subst h
    exact vfun_ok eok_i_four Try.func55 rfl (by rw [v_i_four]; simp only at hy; rw [hy]; rfl)
  · cases h
def J_i_bundle : Joins := [(.r, ⟨[.sl true 5 (.int .u8)], [(6, .one (.vw 173121))], [], [(173121, 0)], [], []⟩)]
def ann_i_bundle : Ann := .seq .nil (.seq .nil (.seq .nil (.seq .nil (.seq (.seq .nil (.block [] (.loop ⟨[.sl true 5 (.int .u8), .sl false 93 (.sl false 34 (.pair (.int .i64) (.pair (.int .i64) .str))), .int .i64, .int .i64], [(9, .one (.vw 173056)), (47, .one (.h 1)), (48, .one (.h 2)), (49, .one (.h 3))], [], [(173056, 0)], [], []⟩ [(.x 0, ⟨[.sl true 5 (.int .u8)], [(9, .one (.vw 173120))], [], [(173120, 0)], [], []⟩)] .nil))) .nil))))
def env_i_bundle : Env := envOf ti [k_i_History_text, k_i_History_blame, k_i_writeRuns, k_i_two, k_i_writeChange, k_i_DigestOf, k_i_four] []
theorem eok_i_bundle : EnvOk Try.prog env_i_bundle := envOf_ok tab mix _ _ (by
  intro k hk
  simp only [List.mem_cons, List.not_mem_nil, or_false] at hk
  rcases hk with rfl | rfl | rfl | rfl | rfl | rfl | rfl
  · exact s_i_History_text
  · exact s_i_History_blame
  · exact s_i_writeRuns
  · exact s_i_two
  · exact s_i_writeChange
  · exact s_i_DigestOf
  · exact s_i_four)
theorem v_i_bundle (x0 : Int) (x1 : List UInt8) (x2 : List (Int × Int)) (x3 : List (List (Int × (Int × List UInt8)))) (x4 : Int) (x5 : Int) : (vfun env_i_bundle Try.f68 J_i_bundle ann_i_bundle [] [.ag [⟨.int .i64, x0⟩, ⟨.str, x1⟩, ⟨.sl false 76 (.pair (.int .i64) (.int .i64)), x2⟩, ⟨.sl false 93 (.sl false 34 (.pair (.int .i64) (.pair (.int .i64) .str))), x3⟩], .one ⟨.int .i64, x4⟩, .one ⟨.int .i64, x5⟩] []).run = (G.i_bundle x0 x1 x2 x3 x4 x5).bind fun y => some (Res.mk [.one ⟨.sl true 5 (.int .u8), y⟩] [] []) := by kernel_rfl
def k_i_bundle : Kn := ⟨68, [0, 0, 0], fun args rows => match args, rows with
  | [.ag [⟨.int .i64, x0⟩, ⟨.str, x1⟩, ⟨.sl false 76 (.pair (.int .i64) (.int .i64)), x2⟩, ⟨.sl false 93 (.sl false 34 (.pair (.int .i64) (.pair (.int .i64) .str))), x3⟩], .one ⟨.int .i64, x4⟩, .one ⟨.int .i64, x5⟩], [] => some ⟨_, G.i_bundle x0 x1 x2 x3 x4 x5, fun y => ⟨[.one ⟨.sl true 5 (.int .u8), y⟩], [], []⟩⟩
  | _, _ => none, []⟩
theorem s_i_bundle : KnOk Try.prog k_i_bundle := by
  intro args rows a h y hy
  simp only [k_i_bundle] at h
  split at h
  · injection h with h
    subst h
    exact vfun_ok eok_i_bundle Try.func68 rfl (by rw [v_i_bundle]; simp only at hy; rw [hy]; rfl)
  · cases h
def J_i_ExportRange : Joins := [(.r, ⟨[.sl true 5 (.int .u8), .int .i64], [(6, .one (.vw 128000)), (7, .one (.h 1))], [], [(128000, 0)], [], []⟩)]
def ann_i_ExportRange : Ann := .nil
def env_i_ExportRange : Env := envOf ti [k_i_History_code, k_i_bundle] []
theorem eok_i_ExportRange : EnvOk Try.prog env_i_ExportRange := envOf_ok tab mix _ _ (by
  intro k hk
  simp only [List.mem_cons, List.not_mem_nil, or_false] at hk
  rcases hk with rfl | rfl
  · exact s_i_History_code
  · exact s_i_bundle)
theorem v_i_ExportRange (x0 : Int) (x1 : List UInt8) (x2 : List (Int × Int)) (x3 : List (List (Int × (Int × List UInt8)))) (x4 : Int) (x5 : Int) : (vfun env_i_ExportRange Try.f24 J_i_ExportRange ann_i_ExportRange [] [.ag [⟨.int .i64, x0⟩, ⟨.str, x1⟩, ⟨.sl false 76 (.pair (.int .i64) (.int .i64)), x2⟩, ⟨.sl false 93 (.sl false 34 (.pair (.int .i64) (.pair (.int .i64) .str))), x3⟩], .one ⟨.int .i64, x4⟩, .one ⟨.int .i64, x5⟩] []).run = (G.i_ExportRange x0 x1 x2 x3 x4 x5).bind fun y => some (Res.mk [.one ⟨.sl true 5 (.int .u8), y.1⟩, .one ⟨.int .i64, y.2⟩] [] []) := by kernel_rfl
def k_i_ExportRange : Kn := ⟨24, [0, 0, 0], fun args rows => match args, rows with
  | [.ag [⟨.int .i64, x0⟩, ⟨.str, x1⟩, ⟨.sl false 76 (.pair (.int .i64) (.int .i64)), x2⟩, ⟨.sl false 93 (.sl false 34 (.pair (.int .i64) (.pair (.int .i64) .str))), x3⟩], .one ⟨.int .i64, x4⟩, .one ⟨.int .i64, x5⟩], [] => some ⟨_, G.i_ExportRange x0 x1 x2 x3 x4 x5, fun y => ⟨[.one ⟨.sl true 5 (.int .u8), y.1⟩, .one ⟨.int .i64, y.2⟩], [], []⟩⟩
  | _, _ => none, []⟩
theorem s_i_ExportRange : KnOk Try.prog k_i_ExportRange := by
  intro args rows a h y hy
  simp only [k_i_ExportRange] at h
  split at h
  · injection h with h
    subst h
    exact vfun_ok eok_i_ExportRange Try.func24 rfl (by rw [v_i_ExportRange]; simp only at hy; rw [hy]; rfl)
  · cases h
def J_s_l9Each : Joins := [(.r, ⟨[.sl true 3 (.int .i64)], [(2, .one (.vw 129154))], [], [(129154, 0)], [], []⟩)]
def ann_s_l9Each : Ann := .seq .nil (.seq .nil (.seq (.seq .nil (.block [] (.loop ⟨[.sl true 3 (.int .i64), .sl false 76 (.pair (.int .i64) (.int .i64)), .int .i64, .int .i64], [(3, .one (.vw 129024)), (7, .one (.h 1)), (8, .one (.h 2)), (9, .one (.h 3))], [], [(129024, 0)], [], []⟩ [(.x 0, ⟨[.sl true 3 (.int .i64)], [(3, .one (.vw 129153))], [], [(129153, 0)], [], []⟩)] (.seq .nil (.seq .nil (.seq (.block [] (.seq .nil (.seq .nil (.block [] (.loop ⟨[.sl true 3 (.int .i64), .int .i64, .sl false 76 (.pair (.int .i64) (.int .i64)), .int .i64, .int .i64, .int .i64, .int .i64], [(3, .one (.vw 129088)), (5, .pl 5 0), (6, .one (.h 1)), (7, .one (.h 2)), (8, .one (.h 3)), (9, .one (.h 4))], [(5, [.h 5, .h 6])], [(129088, 0)], [], []⟩ [(.x 2, ⟨[.sl true 3 (.int .i64), .sl false 76 (.pair (.int .i64) (.int .i64)), .int .i64, .int .i64], [(3, .one (.vw 129152)), (7, .one (.h 1)), (8, .one (.h 2)), (9, .one (.h 3))], [], [(129152, 0)], [], []⟩)] .nil))))) .nil)))))) .nil))
def env_s_l9Each : Env := envOf ti [] []
theorem eok_s_l9Each : EnvOk Try.prog env_s_l9Each := envOf_ok tab mix _ _ (by
  intro k hk; cases hk)
theorem v_s_l9Each (x0 : List (Int × Int)) : (vfun env_s_l9Each Try.f85 J_s_l9Each ann_s_l9Each [] [.one ⟨.sl false 76 (.pair (.int .i64) (.int .i64)), x0⟩] []).run = (G.s_l9Each x0).bind fun y => some (Res.mk [.one ⟨.sl true 3 (.int .i64), y⟩] [] []) := by kernel_rfl
def k_s_l9Each : Kn := ⟨85, [0], fun args rows => match args, rows with
  | [.one ⟨.sl false 76 (.pair (.int .i64) (.int .i64)), x0⟩], [] => some ⟨_, G.s_l9Each x0, fun y => ⟨[.one ⟨.sl true 3 (.int .i64), y⟩], [], []⟩⟩
  | _, _ => none, []⟩
theorem s_s_l9Each : KnOk Try.prog k_s_l9Each := by
  intro args rows a h y hy
  simp only [k_s_l9Each] at h
  split at h
  · injection h with h
    subst h
    exact vfun_ok eok_s_l9Each Try.func85 rfl (by rw [v_s_l9Each]; simp only at hy; rw [hy]; rfl)
  · cases h
def J_s_l9Carry : Joins := [(.r, ⟨[.sl true 76 (.pair (.int .i64) (.int .i64))], [(6, .one (.vw 155779))], [], [(155779, 0)], [], []⟩)]
def ann_s_l9Carry : Ann := .seq .nil (.seq .nil (.seq .nil (.seq .nil (.seq (.seq .nil (.block [] (.loop ⟨[.int .i64, .sl true 3 (.int .i64), .sl true 76 (.pair (.int .i64) (.int .i64)), .int .i64, .sl false 34 (.pair (.int .i64) (.pair (.int .i64) .str)), .int .i64, .int .i64], [(2, .one (.h 0)), (7, .one (.vw 155648)), (8, .one (.vw 155649)), (9, .one (.h 3)), (15, .one (.h 4)), (16, .one (.h 5)), (17, .one (.h 6))], [], [(155648, 1), (155649, 2)], [], []⟩ [(.x 0, ⟨[.sl true 76 (.pair (.int .i64) (.int .i64))], [(8, .one (.vw 155778))], [], [(155778, 0)], [], []⟩)] (.seq .nil (.seq .nil (.seq (.block [] (.seq .nil (.seq (.seq .nil (.block [] (.loop ⟨[.int .i64, .sl true 3 (.int .i64), .sl true 76 (.pair (.int .i64) (.int .i64)), .int .i64, .int .i64, .sl false 34 (.pair (.int .i64) (.pair (.int .i64) .str)), .int .i64, .int .i64, .int .i64, .int .i64, .str], [(2, .one (.h 0)), (7, .one (.vw 155712)), (8, .one (.vw 155713)), (9, .one (.h 3)), (11, .pl 11 0), (12, .one (.h 4)), (15, .one (.h 5)), (16, .one (.h 6)), (17, .one (.h 7))], [(11, [.h 8, .h 9, .h 10])], [(155712, 1), (155713, 2)], [], []⟩ [(.x 2, ⟨[.int .i64, .sl true 3 (.int .i64), .sl true 76 (.pair (.int .i64) (.int .i64)), .int .i64, .sl false 34 (.pair (.int .i64) (.pair (.int .i64) .str)), .int .i64, .int .i64, .int .i64, .int .i64, .str], [(2, .one (.h 0)), (7, .one (.vw 155776)), (8, .one (.vw 155777)), (9, .one (.h 3)), (11, .pl 11 0), (15, .one (.h 4)), (16, .one (.h 5)), (17, .one (.h 6))], [(11, [.h 7, .h 8, .h 9])], [(155776, 1), (155777, 2)], [], []⟩)] .nil))) .nil))) .nil)))))) .nil))))
def env_s_l9Carry : Env := envOf ti [k_s_l9Each, k_s_l9Add] []
theorem eok_s_l9Carry : EnvOk Try.prog env_s_l9Carry := envOf_ok tab mix _ _ (by
  intro k hk
  simp only [List.mem_cons, List.not_mem_nil, or_false] at hk
  rcases hk with rfl | rfl
  · exact s_s_l9Each
  · exact s_s_l9Add)
theorem v_s_l9Carry (x0 : List (Int × Int)) (x1 : List (Int × (Int × List UInt8))) (x2 : Int) : (vfun env_s_l9Carry Try.f42 J_s_l9Carry ann_s_l9Carry [] [.one ⟨.sl false 76 (.pair (.int .i64) (.int .i64)), x0⟩, .one ⟨.sl false 34 (.pair (.int .i64) (.pair (.int .i64) .str)), x1⟩, .one ⟨.int .i64, x2⟩] []).run = (G.s_l9Carry x0 x1 x2).bind fun y => some (Res.mk [.one ⟨.sl true 76 (.pair (.int .i64) (.int .i64)), y⟩] [] []) := by kernel_rfl
def k_s_l9Carry : Kn := ⟨42, [0, 0, 0], fun args rows => match args, rows with
  | [.one ⟨.sl false 76 (.pair (.int .i64) (.int .i64)), x0⟩, .one ⟨.sl false 34 (.pair (.int .i64) (.pair (.int .i64) .str)), x1⟩, .one ⟨.int .i64, x2⟩], [] => some ⟨_, G.s_l9Carry x0 x1 x2, fun y => ⟨[.one ⟨.sl true 76 (.pair (.int .i64) (.int .i64)), y⟩], [], []⟩⟩
  | _, _ => none, []⟩
theorem s_s_l9Carry : KnOk Try.prog k_s_l9Carry := by
  intro args rows a h y hy
  simp only [k_s_l9Carry] at h
  split at h
  · injection h with h
    subst h
    exact vfun_ok eok_s_l9Carry Try.func42 rfl (by rw [v_s_l9Carry]; simp only at hy; rw [hy]; rfl)
  · cases h
def J_s_l10Blame : Joins := [(.r, ⟨[.sl true 76 (.pair (.int .i64) (.int .i64))], [(4, .one (.vw 139329))], [], [(139329, 0)], [], []⟩)]
def ann_s_l10Blame : Ann := .seq .nil (.seq .nil (.seq (.seq .nil (.block [] (.loop ⟨[.sl true 76 (.pair (.int .i64) (.int .i64)), .sl false 93 (.sl false 34 (.pair (.int .i64) (.pair (.int .i64) .str))), .int .i64, .int .i64, .int .i64, .str, .sl false 76 (.pair (.int .i64) (.int .i64)), .sl false 93 (.sl false 34 (.pair (.int .i64) (.pair (.int .i64) .str)))], [(2, .pl 2 0), (5, .one (.vw 139264)), (18, .one (.h 1)), (19, .one (.h 2)), (20, .one (.h 3))], [(2, [.h 4, .h 5, .h 6, .h 7])], [(139264, 0)], [], []⟩ [(.x 0, ⟨[.sl true 76 (.pair (.int .i64) (.int .i64))], [(5, .one (.vw 139328))], [], [(139328, 0)], [], []⟩)] .nil))) .nil))
def env_s_l10Blame : Env := envOf ti [k_s_l9Carry] []
theorem eok_s_l10Blame : EnvOk Try.prog env_s_l10Blame := envOf_ok tab mix _ _ (by
  intro k hk
  simp only [List.mem_cons, List.not_mem_nil, or_false] at hk
  rcases hk with rfl
  · exact s_s_l9Carry)
theorem v_s_l10Blame (x0 : Int) (x1 : List UInt8) (x2 : List (Int × Int)) (x3 : List (List (Int × (Int × List UInt8)))) (x4 : Int) : (vfun env_s_l10Blame Try.f72 J_s_l10Blame ann_s_l10Blame [] [.ag [⟨.int .i64, x0⟩, ⟨.str, x1⟩, ⟨.sl false 76 (.pair (.int .i64) (.int .i64)), x2⟩, ⟨.sl false 93 (.sl false 34 (.pair (.int .i64) (.pair (.int .i64) .str))), x3⟩], .one ⟨.int .i64, x4⟩] []).run = (G.s_l10Blame x0 x1 x2 x3 x4).bind fun y => some (Res.mk [.one ⟨.sl true 76 (.pair (.int .i64) (.int .i64)), y⟩] [] []) := by kernel_rfl
def k_s_l10Blame : Kn := ⟨72, [0, 0], fun args rows => match args, rows with
  | [.ag [⟨.int .i64, x0⟩, ⟨.str, x1⟩, ⟨.sl false 76 (.pair (.int .i64) (.int .i64)), x2⟩, ⟨.sl false 93 (.sl false 34 (.pair (.int .i64) (.pair (.int .i64) .str))), x3⟩], .one ⟨.int .i64, x4⟩], [] => some ⟨_, G.s_l10Blame x0 x1 x2 x3 x4, fun y => ⟨[.one ⟨.sl true 76 (.pair (.int .i64) (.int .i64)), y⟩], [], []⟩⟩
  | _, _ => none, []⟩
theorem s_s_l10Blame : KnOk Try.prog k_s_l10Blame := by
  intro args rows a h y hy
  simp only [k_s_l10Blame] at h
  split at h
  · injection h with h
    subst h
    exact vfun_ok eok_s_l10Blame Try.func72 rfl (by rw [v_s_l10Blame]; simp only at hy; rw [hy]; rfl)
  · cases h
def J_s_l9Write : Joins := [(.r, ⟨[.sl true 5 (.int .u8)], [(2, .one (.vw 126017))], [], [(126017, 0)], [], []⟩)]
def ann_s_l9Write : Ann := .seq .nil (.seq .nil (.seq (.seq .nil (.block [] (.loop ⟨[.sl true 5 (.int .u8), .sl false 76 (.pair (.int .i64) (.int .i64)), .int .i64, .int .i64], [(3, .one (.vw 125952)), (6, .one (.h 1)), (7, .one (.h 2)), (8, .one (.h 3))], [], [(125952, 0)], [], []⟩ [(.x 0, ⟨[.sl true 5 (.int .u8)], [(3, .one (.vw 126016))], [], [(126016, 0)], [], []⟩)] .nil))) .nil))
def env_s_l9Write : Env := envOf ti [] []
theorem eok_s_l9Write : EnvOk Try.prog env_s_l9Write := envOf_ok tab mix _ _ (by
  intro k hk; cases hk)
theorem v_s_l9Write (x0 : List (Int × Int)) : (vfun env_s_l9Write Try.f71 J_s_l9Write ann_s_l9Write [] [.one ⟨.sl false 76 (.pair (.int .i64) (.int .i64)), x0⟩] []).run = (G.s_l9Write x0).bind fun y => some (Res.mk [.one ⟨.sl true 5 (.int .u8), y⟩] [] []) := by kernel_rfl
def k_s_l9Write : Kn := ⟨71, [0], fun args rows => match args, rows with
  | [.one ⟨.sl false 76 (.pair (.int .i64) (.int .i64)), x0⟩], [] => some ⟨_, G.s_l9Write x0, fun y => ⟨[.one ⟨.sl true 5 (.int .u8), y⟩], [], []⟩⟩
  | _, _ => none, []⟩
theorem s_s_l9Write : KnOk Try.prog k_s_l9Write := by
  intro args rows a h y hy
  simp only [k_s_l9Write] at h
  split at h
  · injection h with h
    subst h
    exact vfun_ok eok_s_l9Write Try.func71 rfl (by rw [v_s_l9Write]; simp only at hy; rw [hy]; rfl)
  · cases h
def J_s_l1Write : Joins := [(.r, ⟨[.sl true 5 (.int .u8)], [(2, .one (.vw 139329))], [], [(139329, 0)], [], []⟩)]
def ann_s_l1Write : Ann := .seq .nil (.seq .nil (.seq (.seq .nil (.block [] (.loop ⟨[.sl true 5 (.int .u8), .sl false 34 (.pair (.int .i64) (.pair (.int .i64) .str)), .int .i64, .int .i64], [(3, .one (.vw 139264)), (7, .one (.h 1)), (8, .one (.h 2)), (9, .one (.h 3))], [], [(139264, 0)], [], []⟩ [(.x 0, ⟨[.sl true 5 (.int .u8)], [(3, .one (.vw 139328))], [], [(139328, 0)], [], []⟩)] .nil))) .nil))
def env_s_l1Write : Env := envOf ti [k_s_l1Kind] []
theorem eok_s_l1Write : EnvOk Try.prog env_s_l1Write := envOf_ok tab mix _ _ (by
  intro k hk
  simp only [List.mem_cons, List.not_mem_nil, or_false] at hk
  rcases hk with rfl
  · exact s_s_l1Kind)
theorem v_s_l1Write (x0 : List (Int × (Int × List UInt8))) : (vfun env_s_l1Write Try.f73 J_s_l1Write ann_s_l1Write [] [.one ⟨.sl false 34 (.pair (.int .i64) (.pair (.int .i64) .str)), x0⟩] []).run = (G.s_l1Write x0).bind fun y => some (Res.mk [.one ⟨.sl true 5 (.int .u8), y⟩] [] []) := by kernel_rfl
def k_s_l1Write : Kn := ⟨73, [0], fun args rows => match args, rows with
  | [.one ⟨.sl false 34 (.pair (.int .i64) (.pair (.int .i64) .str)), x0⟩], [] => some ⟨_, G.s_l1Write x0, fun y => ⟨[.one ⟨.sl true 5 (.int .u8), y⟩], [], []⟩⟩
  | _, _ => none, []⟩
theorem s_s_l1Write : KnOk Try.prog k_s_l1Write := by
  intro args rows a h y hy
  simp only [k_s_l1Write] at h
  split at h
  · injection h with h
    subst h
    exact vfun_ok eok_s_l1Write Try.func73 rfl (by rw [v_s_l1Write]; simp only at hy; rw [hy]; rfl)
  · cases h
end
end Go.Proofs.Ythpnmoiohfiggaa

set_option linter.unusedVariables false
set_option maxRecDepth 100000
namespace Go.Proofs.Ythpnmoiohfiggaa
open Go.V
noncomputable section
def J_s_DigestOf : Joins := [(.r, ⟨[.int .u32], [(2, .one (.h 0))], [], [], [], []⟩)]
def ann_s_DigestOf : Ann := .seq .nil (.seq .nil (.seq (.seq .nil (.block [] (.loop ⟨[.int .u64, .sl false 5 (.int .u8), .int .i64, .int .i64], [(3, .one (.h 0)), (6, .one (.h 1)), (7, .one (.h 2)), (8, .one (.h 3))], [], [], [], []⟩ [(.x 0, ⟨[.int .u64], [(3, .one (.h 0))], [], [], [], []⟩)] .nil))) .nil))
def env_s_DigestOf : Env := envOf ti [] []
theorem eok_s_DigestOf : EnvOk Try.prog env_s_DigestOf := envOf_ok tab mix _ _ (by
  intro k hk; cases hk)
theorem v_s_DigestOf (x0 : List Int) : (vfun env_s_DigestOf Try.f48 J_s_DigestOf ann_s_DigestOf [] [.one ⟨.sl false 5 (.int .u8), x0⟩] []).run = (G.s_DigestOf x0).bind fun y => some (Res.mk [.one ⟨.int .u32, y⟩] [] []) := by kernel_rfl
def k_s_DigestOf : Kn := ⟨48, [0], fun args rows => match args, rows with
  | [.one ⟨.sl false 5 (.int .u8), x0⟩], [] => some ⟨_, G.s_DigestOf x0, fun y => ⟨[.one ⟨.int .u32, y⟩], [], []⟩⟩
  | _, _ => none, []⟩
theorem s_s_DigestOf : KnOk Try.prog k_s_DigestOf := by
  intro args rows a h y hy
  simp only [k_s_DigestOf] at h
  split at h
  · injection h with h
    subst h
    exact vfun_ok eok_s_DigestOf Try.func48 rfl (by rw [v_s_DigestOf]; simp only at hy; rw [hy]; rfl)
  · cases h
def J_s_ExportRange : Joins := [(.r, ⟨[.sl true 5 (.int .u8), .int .i64], [(6, .one (.vw 212033)), (7, .one (.h 1))], [], [(212033, 0)], [], []⟩)]
def ann_s_ExportRange : Ann := .seq .nil (.seq .nil (.seq .nil (.seq .nil (.seq .nil (.seq .nil (.seq .nil (.seq .nil (.seq (.seq .nil (.block [] (.loop ⟨[.sl true 5 (.int .u8), .sl false 93 (.sl false 34 (.pair (.int .i64) (.pair (.int .i64) .str))), .int .i64, .int .i64], [(10, .one (.vw 211968)), (64, .one (.h 1)), (65, .one (.h 2)), (66, .one (.h 3))], [], [(211968, 0)], [], []⟩ [(.x 1, ⟨[.sl true 5 (.int .u8)], [(10, .one (.vw 212032))], [], [(212032, 0)], [], []⟩)] .nil))) .nil))))))))
def env_s_ExportRange : Env := envOf ti [k_s_l10Range, k_s_l10Text, k_s_l10Blame, k_s_l9Write, k_s_l1Write, k_s_DigestOf] []
theorem eok_s_ExportRange : EnvOk Try.prog env_s_ExportRange := envOf_ok tab mix _ _ (by
  intro k hk
  simp only [List.mem_cons, List.not_mem_nil, or_false] at hk
  rcases hk with rfl | rfl | rfl | rfl | rfl | rfl
  · exact s_s_l10Range
  · exact s_s_l10Text
  · exact s_s_l10Blame
  · exact s_s_l9Write
  · exact s_s_l1Write
  · exact s_s_DigestOf)
theorem v_s_ExportRange (x0 : Int) (x1 : List UInt8) (x2 : List (Int × Int)) (x3 : List (List (Int × (Int × List UInt8)))) (x4 : Int) (x5 : Int) : (vfun env_s_ExportRange Try.f25 J_s_ExportRange ann_s_ExportRange [] [.ag [⟨.int .i64, x0⟩, ⟨.str, x1⟩, ⟨.sl false 76 (.pair (.int .i64) (.int .i64)), x2⟩, ⟨.sl false 93 (.sl false 34 (.pair (.int .i64) (.pair (.int .i64) .str))), x3⟩], .one ⟨.int .i64, x4⟩, .one ⟨.int .i64, x5⟩] []).run = (G.s_ExportRange x0 x1 x2 x3 x4 x5).bind fun y => some (Res.mk [.one ⟨.sl true 5 (.int .u8), y.1⟩, .one ⟨.int .i64, y.2⟩] [] []) := by kernel_rfl
def k_s_ExportRange : Kn := ⟨25, [0, 0, 0], fun args rows => match args, rows with
  | [.ag [⟨.int .i64, x0⟩, ⟨.str, x1⟩, ⟨.sl false 76 (.pair (.int .i64) (.int .i64)), x2⟩, ⟨.sl false 93 (.sl false 34 (.pair (.int .i64) (.pair (.int .i64) .str))), x3⟩], .one ⟨.int .i64, x4⟩, .one ⟨.int .i64, x5⟩], [] => some ⟨_, G.s_ExportRange x0 x1 x2 x3 x4 x5, fun y => ⟨[.one ⟨.sl true 5 (.int .u8), y.1⟩, .one ⟨.int .i64, y.2⟩], [], []⟩⟩
  | _, _ => none, []⟩
theorem s_s_ExportRange : KnOk Try.prog k_s_ExportRange := by
  intro args rows a h y hy
  simp only [k_s_ExportRange] at h
  split at h
  · injection h with h
    subst h
    exact vfun_ok eok_s_ExportRange Try.func25 rfl (by rw [v_s_ExportRange]; simp only at hy; rw [hy]; rfl)
  · cases h
def J_slices_Equal_byte_byte : Joins := [(.r, ⟨[.bool], [(4, .one (.h 0))], [], [], [], []⟩)]
def ann_slices_Equal_byte_byte : Ann := .seq .nil (.seq .nil (.seq (.seq .nil (.block [] (.loop ⟨[.sl false 5 (.int .u8), .sl false 5 (.int .u8), .int .i64, .int .i64], [(0, .one (.h 0)), (1, .one (.h 1)), (12, .one (.h 2)), (13, .one (.h 3))], [], [], [], []⟩ [(.x 0, ⟨[], [], [], [], [], []⟩), (.r, ⟨[.bool], [(4, .one (.h 0))], [], [], [], []⟩)] .nil))) .nil))
def env_slices_Equal_byte_byte : Env := envOf ti [] []
theorem eok_slices_Equal_byte_byte : EnvOk Try.prog env_slices_Equal_byte_byte := envOf_ok tab mix _ _ (by
  intro k hk; cases hk)
theorem v_slices_Equal_byte_byte (x0 : List Int) (x1 : List Int) : (vfun env_slices_Equal_byte_byte Try.f54 J_slices_Equal_byte_byte ann_slices_Equal_byte_byte [] [.one ⟨.sl false 5 (.int .u8), x0⟩, .one ⟨.sl false 5 (.int .u8), x1⟩] []).run = (G.slices_Equal_byte_byte x0 x1).bind fun y => some (Res.mk [.one ⟨.bool, y⟩] [] []) := by kernel_rfl
def k_slices_Equal_byte_byte : Kn := ⟨54, [0, 0], fun args rows => match args, rows with
  | [.one ⟨.sl false 5 (.int .u8), x0⟩, .one ⟨.sl false 5 (.int .u8), x1⟩], [] => some ⟨_, G.slices_Equal_byte_byte x0 x1, fun y => ⟨[.one ⟨.bool, y⟩], [], []⟩⟩
  | _, _ => none, []⟩
theorem s_slices_Equal_byte_byte : KnOk Try.prog k_slices_Equal_byte_byte := by
  intro args rows a h y hy
  simp only [k_slices_Equal_byte_byte] at h
  split at h
  · injection h with h
    subst h
    exact vfun_ok eok_slices_Equal_byte_byte Try.func54 rfl (by rw [v_slices_Equal_byte_byte]; simp only at hy; rw [hy]; rfl)
  · cases h
def J_i_taker_take_f : Joins := [(.r, ⟨[.sl false 5 (.int .u8), .sl false 5 (.int .u8), .bool], [(4, .one (.h 0))], [(33, [.h 1, .h 2])], [], [], []⟩)]
def ann_i_taker_take_f : Ann := .seq .nil (.seq (.seq .nil (.cond [(.n, ⟨[.int .i64, .sl false 5 (.int .u8), .bool], [(0, .pl 33 0), (1, .one (.h 0))], [(33, [.h 1, .h 2])], [], [], []⟩)] .nil .nil)) .nil)
def env_i_taker_take_f : Env := envOf ti [] []
theorem eok_i_taker_take_f : EnvOk Try.prog env_i_taker_take_f := envOf_ok tab mix _ _ (by
  intro k hk; cases hk)
theorem v_i_taker_take_f (x0 : Int) (x1 : List Int) (x2 : Bool) : (vfun env_i_taker_take_f Try.f89 J_i_taker_take_f ann_i_taker_take_f [] [.pl 0 0, .one ⟨.int .i64, x0⟩] [[⟨.sl false 5 (.int .u8), x1⟩, ⟨.bool, x2⟩]]).run = (G.i_taker_take_f x0 x1 x2).bind fun y => some (Res.mk [.one ⟨.sl false 5 (.int .u8), y.1⟩] [[⟨.sl false 5 (.int .u8), y.2.1⟩, ⟨.bool, y.2.2⟩]] []) := by kernel_rfl
def k_i_taker_take_f : Kn := ⟨89, [0, 0], fun args rows => match args, rows with
  | [.pl 0 0, .one ⟨.int .i64, x0⟩], [[⟨.sl false 5 (.int .u8), x1⟩, ⟨.bool, x2⟩]] => some ⟨_, G.i_taker_take_f x0 x1 x2, fun y => ⟨[.one ⟨.sl false 5 (.int .u8), y.1⟩], [[⟨.sl false 5 (.int .u8), y.2.1⟩, ⟨.bool, y.2.2⟩]], []⟩⟩
  | _, _ => none, []⟩
theorem s_i_taker_take_f : KnOk Try.prog k_i_taker_take_f := by
  intro args rows a h y hy
  simp only [k_i_taker_take_f] at h
  split at h
  · injection h with h
    subst h
    exact vfun_ok eok_i_taker_take_f Try.func89 rfl (by rw [v_i_taker_take_f]; simp only at hy; rw [hy]; rfl)
  · cases h
def J_i_taker_sized_f : Joins := [(.r, ⟨[.sl false 5 (.int .u8), .sl false 5 (.int .u8), .bool], [(4, .one (.h 0))], [(26, [.h 1, .h 2])], [], [], []⟩)]
def ann_i_taker_sized_f : Ann := .seq .nil (.seq .nil (.seq (.seq .nil (.block [] (.loop ⟨[.int .i64, .sl false 5 (.int .u8), .int .i64, .int .i64, .sl false 5 (.int .u8), .bool], [(0, .pl 26 0), (5, .one (.h 0)), (10, .one (.h 1)), (11, .one (.h 2)), (12, .one (.h 3))], [(26, [.h 4, .h 5])], [], [], []⟩ [(.x 0, ⟨[.int .i64, .sl false 5 (.int .u8), .bool], [(0, .pl 26 0), (5, .one (.h 0))], [(26, [.h 1, .h 2])], [], [], []⟩)] .nil))) .nil))
def env_i_taker_sized_f : Env := envOf ti [k_i_taker_take_f] []
theorem eok_i_taker_sized_f : EnvOk Try.prog env_i_taker_sized_f := envOf_ok tab mix _ _ (by
  intro k hk
  simp only [List.mem_cons, List.not_mem_nil, or_false] at hk
  rcases hk with rfl
  · exact s_i_taker_take_f)
theorem v_i_taker_sized_f (x0 : Int) (x1 : List Int) (x2 : Bool) : (vfun env_i_taker_sized_f Try.f57 J_i_taker_sized_f ann_i_taker_sized_f [] [.pl 0 0, .one ⟨.int .i64, x0⟩] [[⟨.sl false 5 (.int .u8), x1⟩, ⟨.bool, x2⟩]]).run = (G.i_taker_sized_f x0 x1 x2).bind fun y => some (Res.mk [.one ⟨.sl false 5 (.int .u8), y.1⟩] [[⟨.sl false 5 (.int .u8), y.2.1⟩, ⟨.bool, y.2.2⟩]] []) := by kernel_rfl
def k_i_taker_sized_f : Kn := ⟨57, [0, 0], fun args rows => match args, rows with
  | [.pl 0 0, .one ⟨.int .i64, x0⟩], [[⟨.sl false 5 (.int .u8), x1⟩, ⟨.bool, x2⟩]] => some ⟨_, G.i_taker_sized_f x0 x1 x2, fun y => ⟨[.one ⟨.sl false 5 (.int .u8), y.1⟩], [[⟨.sl false 5 (.int .u8), y.2.1⟩, ⟨.bool, y.2.2⟩]], []⟩⟩
  | _, _ => none, []⟩
theorem s_i_taker_sized_f : KnOk Try.prog k_i_taker_sized_f := by
  intro args rows a h y hy
  simp only [k_i_taker_sized_f] at h
  split at h
  · injection h with h
    subst h
    exact vfun_ok eok_i_taker_sized_f Try.func57 rfl (by rw [v_i_taker_sized_f]; simp only at hy; rw [hy]; rfl)
  · cases h
def J_i_someRuns : Joins := [(.r, ⟨[.bool], [(2, .one (.h 0))], [], [], [], []⟩)]
def ann_i_someRuns : Ann := .seq .nil (.seq .nil (.seq (.seq .nil (.block [] (.loop ⟨[.sl false 76 (.pair (.int .i64) (.int .i64)), .int .i64, .sl false 76 (.pair (.int .i64) (.int .i64)), .int .i64, .int .i64], [(0, .one (.h 0)), (3, .one (.h 1)), (6, .one (.h 2)), (7, .one (.h 3)), (8, .one (.h 4))], [], [], [], []⟩ [(.x 0, ⟨[.sl false 76 (.pair (.int .i64) (.int .i64)), .int .i64], [(0, .one (.h 0)), (3, .one (.h 1))], [], [], [], []⟩), (.r, ⟨[.bool], [(2, .one (.h 0))], [], [], [], []⟩)] (.seq .nil (.seq .nil (.seq (.block [] (.seq .nil (.seq (.seq (.reg [(.n, ⟨[.sl false 76 (.pair (.int .i64) (.int .i64)), .int .i64, .sl false 76 (.pair (.int .i64) (.int .i64)), .int .i64, .int .i64, .bool, .int .i64, .int .i64], [(0, .one (.h 0)), (3, .one (.h 1)), (5, .pl 5 0), (6, .one (.h 2)), (7, .one (.h 3)), (8, .one (.h 4)), (19, .one (.h 5))], [(5, [.h 6, .h 7])], [], [], []⟩)]) .nil) .nil))) .nil)))))) .nil))
def env_i_someRuns : Env := envOf ti [k_i_within, k_i_GoodRuns] []
theorem eok_i_someRuns : EnvOk Try.prog env_i_someRuns := envOf_ok tab mix _ _ (by
  intro k hk
  simp only [List.mem_cons, List.not_mem_nil, or_false] at hk
  rcases hk with rfl | rfl
  · exact s_i_within
  · exact s_i_GoodRuns)
theorem v_i_someRuns (x0 : List (Int × Int)) : (vfun env_i_someRuns Try.f44 J_i_someRuns ann_i_someRuns [] [.one ⟨.sl false 76 (.pair (.int .i64) (.int .i64)), x0⟩] []).run = (G.i_someRuns x0).bind fun y => some (Res.mk [.one ⟨.bool, y⟩] [] []) := by kernel_rfl
def k_i_someRuns : Kn := ⟨44, [0], fun args rows => match args, rows with
  | [.one ⟨.sl false 76 (.pair (.int .i64) (.int .i64)), x0⟩], [] => some ⟨_, G.i_someRuns x0, fun y => ⟨[.one ⟨.bool, y⟩], [], []⟩⟩
  | _, _ => none, []⟩
theorem s_i_someRuns : KnOk Try.prog k_i_someRuns := by
  intro args rows a h y hy
  simp only [k_i_someRuns] at h
  split at h
  · injection h with h
    subst h
    exact vfun_ok eok_i_someRuns Try.func44 rfl (by rw [v_i_someRuns]; simp only at hy; rw [hy]; rfl)
  · cases h
def k_i_ReadRuns : Kn := ⟨14, [0], fun args rows => match args, rows with
  | [.one ⟨.sl false 5 (.int .u8), x0⟩], [] => some ⟨_, G.i_ReadRuns x0, fun y => ⟨[.one ⟨.sl true 76 (.pair (.int .i64) (.int .i64)), y.1⟩, .one ⟨.bool, y.2⟩], [], []⟩⟩
  | _, _ => none, []⟩
theorem s_i_ReadRuns : KnOk Try.prog k_i_ReadRuns := by
  intro args rows a h y hy
  simp only [k_i_ReadRuns] at h
  split at h
  · injection h with h
    subst h
    exact Go.Proofs.rr_known (fun xs b hb => s_i_someRuns [.one ⟨.sl false 76 (.pair (.int .i64) (.int .i64)), xs⟩] [] _ rfl b hb) hy
  · cases h
def J_i_ReadChange : Joins := [(.r, ⟨[.sl true 34 (.pair (.int .i64) (.pair (.int .i64) .str)), .bool], [(2, .one (.vw 166980)), (3, .one (.h 1))], [], [(166980, 0)], [], []⟩)]
def ann_i_ReadChange : Ann := .seq .nil (.seq .nil (.seq (.block [] (.loop ⟨[.sl false 5 (.int .u8), .sl true 34 (.pair (.int .i64) (.pair (.int .i64) .str))], [(0, .one (.h 0)), (4, .one (.vw 166912))], [], [(166912, 1)], [], []⟩ [(.x 0, ⟨[.sl true 34 (.pair (.int .i64) (.pair (.int .i64) .str))], [(4, .one (.vw 166979))], [], [(166979, 0)], [], []⟩), (.r, ⟨[.bool], [(2, .one (.nil)), (3, .one (.h 0))], [], [], [], []⟩)] (.seq .nil (.block [] (.seq .nil (.seq .nil (.seq .nil (.block [] (.seq .nil (.cond [(.n, ⟨[.sl false 5 (.int .u8), .sl true 34 (.pair (.int .i64) (.pair (.int .i64) .str))], [(0, .one (.h 0)), (4, .one (.vw 166978))], [], [(166978, 1)], [], []⟩), (.r, ⟨[.bool], [(2, .one (.nil)), (3, .one (.h 0))], [], [], [], []⟩)] .nil (.seq .nil (.cond [(.n, ⟨[.sl false 5 (.int .u8), .sl true 34 (.pair (.int .i64) (.pair (.int .i64) .str))], [(0, .one (.h 0)), (4, .one (.vw 166977))], [], [(166977, 1)], [], []⟩), (.r, ⟨[.bool], [(2, .one (.nil)), (3, .one (.h 0))], [], [], [], []⟩)] .nil (.seq (.reg [(.n, ⟨[.sl false 5 (.int .u8), .sl true 34 (.pair (.int .i64) (.pair (.int .i64) .str)), .int .i64, .bool], [(0, .one (.h 0)), (4, .one (.vw 166976)), (6, .one (.h 2)), (39, .one (.h 3))], [], [(166976, 1)], [], []⟩)]) .nil))))))))))))) .nil))
def env_i_ReadChange : Env := envOf ti [k_i_GoodChange] []
theorem eok_i_ReadChange : EnvOk Try.prog env_i_ReadChange := envOf_ok tab mix _ _ (by
  intro k hk
  simp only [List.mem_cons, List.not_mem_nil, or_false] at hk
  rcases hk with rfl
  · exact s_i_GoodChange)
theorem v_i_ReadChange (x0 : List Int) : (vfun env_i_ReadChange Try.f58 J_i_ReadChange ann_i_ReadChange [] [.one ⟨.sl false 5 (.int .u8), x0⟩] []).run = (G.i_ReadChange x0).bind fun y => some (Res.mk [.one ⟨.sl true 34 (.pair (.int .i64) (.pair (.int .i64) .str)), y.1⟩, .one ⟨.bool, y.2⟩] [] []) := by kernel_rfl
def k_i_ReadChange : Kn := ⟨58, [0], fun args rows => match args, rows with
  | [.one ⟨.sl false 5 (.int .u8), x0⟩], [] => some ⟨_, G.i_ReadChange x0, fun y => ⟨[.one ⟨.sl true 34 (.pair (.int .i64) (.pair (.int .i64) .str)), y.1⟩, .one ⟨.bool, y.2⟩], [], []⟩⟩
  | _, _ => none, []⟩
theorem s_i_ReadChange : KnOk Try.prog k_i_ReadChange := by
  intro args rows a h y hy
  simp only [k_i_ReadChange] at h
  split at h
  · injection h with h
    subst h
    exact vfun_ok eok_i_ReadChange Try.func58 rfl (by rw [v_i_ReadChange]; simp only at hy; rw [hy]; rfl)
  · cases h
def J_i_ReadBundle : Joins := [(.r, ⟨[.int .i64, .int .i64, .str, .sl true 76 (.pair (.int .i64) (.int .i64)), .sl true 93 (.sl true 34 (.pair (.int .i64) (.pair (.int .i64) .str)))], [(2, .pl 2 0), (3, .one (.h 0))], [(2, [.h 1, .h 2, .vw 247947, .vw 247948])], [(247947, 3), (247948, 4)], [], []⟩)]
def ann_i_ReadBundle : Ann := .seq .nil (.seq .nil (.seq .nil (.seq .nil (.seq (.seq (.reg [(.n, ⟨[.sl false 5 (.int .u8), .int .i64, .int .i64, .int .i64, .bool, .int .i64, .str], [(0, .one (.h 0)), (2, .pl 2 0), (4, .one (.h 1)), (5, .one (.h 2)), (6, .one (.h 3)), (62, .one (.h 4))], [(2, [.h 5, .h 6, .nil, .nil])], [], [], []⟩)]) .nil) (.seq .nil (.seq .nil (.seq .nil (.seq (.seq .nil (.block [] (.loop ⟨[.sl false 5 (.int .u8), .sl true 22 (.sl false 5 (.int .u8)), .int .i64, .int .i64, .int .i64, .str, .int .i64, .str, .sl false 5 (.int .u8), .bool], [(2, .pl 2 0), (7, .pl 69 0), (8, .pl 8 0), (9, .one (.h 0)), (10, .one (.vw 247808)), (80, .one (.h 2)), (81, .one (.h 3))], [(2, [.h 4, .h 5, .nil, .nil]), (8, [.h 6, .h 7, .nil, .nil]), (69, [.h 8, .h 9])], [(247808, 1)], [], []⟩ [(.x 1, ⟨[.sl false 5 (.int .u8), .sl true 22 (.sl false 5 (.int .u8)), .int .i64, .str, .int .i64, .str, .sl false 5 (.int .u8), .bool], [(2, .pl 2 0), (7, .pl 69 0), (8, .pl 8 0), (9, .one (.h 0)), (10, .one (.vw 247872))], [(2, [.h 2, .h 3, .nil, .nil]), (8, [.h 4, .h 5, .nil, .nil]), (69, [.h 6, .h 7])], [(247872, 1)], [], []⟩)] .nil))) (.seq .nil (.seq .nil (.seq .nil (.seq (.reg [(.n, ⟨[.sl true 22 (.sl false 5 (.int .u8)), .bool, .int .i64, .str, .int .i64, .str, .sl true 76 (.pair (.int .i64) (.int .i64))], [(2, .pl 2 0), (8, .pl 8 0), (10, .one (.vw 247873)), (12, .one (.h 1))], [(2, [.h 2, .h 3, .nil, .nil]), (8, [.h 4, .h 5, .vw 247874, .nil])], [(247873, 0), (247874, 6)], [], []⟩)]) (.seq (.seq .nil (.block [] (.loop ⟨[.bool, .sl true 22 (.sl false 5 (.int .u8)), .int .i64, .int .i64, .int .i64, .str, .int .i64, .str, .sl true 76 (.pair (.int .i64) (.int .i64)), .sl true 93 (.sl true 34 (.pair (.int .i64) (.pair (.int .i64) .str)))], [(2, .pl 2 0), (8, .pl 8 0), (12, .one (.h 0)), (110, .one (.vw 247875)), (111, .one (.h 2)), (112, .one (.h 3))], [(2, [.h 4, .h 5, .nil, .nil]), (8, [.h 6, .h 7, .vw 247876, .vw 247877])], [(247875, 1), (247876, 8), (247877, 9)], [], []⟩ [(.x 3, ⟨[.bool, .int .i64, .str, .int .i64, .str, .sl true 76 (.pair (.int .i64) (.int .i64)), .sl true 93 (.sl true 34 (.pair (.int .i64) (.pair (.int .i64) .str)))], [(2, .pl 2 0), (8, .pl 8 0), (12, .one (.h 0))], [(2, [.h 1, .h 2, .nil, .nil]), (8, [.h 3, .h 4, .vw 247943, .vw 247944])], [(247943, 5), (247944, 6)], [], []⟩)] (.seq .nil (.seq .nil (.seq (.block [] (.seq .nil (.seq .nil (.seq (.reg [(.n, ⟨[.bool, .sl true 34 (.pair (.int .i64) (.pair (.int .i64) .str)), .sl true 22 (.sl false 5 (.int .u8)), .int .i64, .int .i64, .int .i64, .str, .int .i64, .str, .sl true 76 (.pair (.int .i64) (.int .i64)), .sl true 93 (.sl true 34 (.pair (.int .i64) (.pair (.int .i64) .str)))], [(2, .pl 2 0), (8, .pl 8 0), (12, .one (.h 0)), (15, .one (.vw 247939)), (110, .one (.vw 247940)), (111, .one (.h 3)), (112, .one (.h 4))], [(2, [.h 5, .h 6, .nil, .nil]), (8, [.h 7, .h 8, .vw 247941, .vw 247942])], [(247939, 1), (247940, 2), (247941, 9), (247942, 10)], [], []⟩)]) .nil)))) .nil)))))) (.seq (.seq (.reg [(.n, ⟨[.bool, .int .i64, .str, .int .i64, .str, .sl true 76 (.pair (.int .i64) (.int .i64)), .sl true 93 (.sl true 34 (.pair (.int .i64) (.pair (.int .i64) .str)))], [(2, .pl 2 0), (8, .pl 8 0), (139, .one (.h 0))], [(2, [.h 1, .h 2, .nil, .nil]), (8, [.h 3, .h 4, .vw 247945, .vw 247946])], [(247945, 5), (247946, 6)], [], []⟩)]) .nil) .nil))))))))))))))
def env_i_ReadBundle : Env := envOf ti [k_slices_Equal_byte_byte, k_i_DigestOf, k_i_four, k_i_taker_sized_f, k_i_ReadRuns, k_i_ReadChange, k_i_GoodHistory] [] [(77, [.sl false 5 (.int .u8)])]
theorem eok_i_ReadBundle : EnvOk Try.prog env_i_ReadBundle := envOf_ok tab mix _ _ (by
  intro k hk
  simp only [List.mem_cons, List.not_mem_nil, or_false] at hk
  rcases hk with rfl | rfl | rfl | rfl | rfl | rfl | rfl
  · exact s_slices_Equal_byte_byte
  · exact s_i_DigestOf
  · exact s_i_four
  · exact s_i_taker_sized_f
  · exact s_i_ReadRuns
  · exact s_i_ReadChange
  · exact s_i_GoodHistory) _
theorem v_i_ReadBundle (x0 : List Int) : (vfun env_i_ReadBundle Try.f17 J_i_ReadBundle ann_i_ReadBundle [] [.one ⟨.sl false 5 (.int .u8), x0⟩] []).run = (G.i_ReadBundle x0).bind fun y => some (Res.mk [.ag [⟨.int .i64, y.2.1⟩, ⟨.str, y.2.2.1⟩, ⟨.sl true 76 (.pair (.int .i64) (.int .i64)), y.2.2.2.1⟩, ⟨.sl true 93 (.sl true 34 (.pair (.int .i64) (.pair (.int .i64) .str))), y.2.2.2.2⟩], .one ⟨.int .i64, y.1⟩] [] []) := by kernel_rfl
def k_i_ReadBundle : Kn := ⟨17, [0], fun args rows => match args, rows with
  | [.one ⟨.sl false 5 (.int .u8), x0⟩], [] => some ⟨_, G.i_ReadBundle x0, fun y => ⟨[.ag [⟨.int .i64, y.2.1⟩, ⟨.str, y.2.2.1⟩, ⟨.sl true 76 (.pair (.int .i64) (.int .i64)), y.2.2.2.1⟩, ⟨.sl true 93 (.sl true 34 (.pair (.int .i64) (.pair (.int .i64) .str))), y.2.2.2.2⟩], .one ⟨.int .i64, y.1⟩], [], []⟩⟩
  | _, _ => none, []⟩
theorem s_i_ReadBundle : KnOk Try.prog k_i_ReadBundle := by
  intro args rows a h y hy
  simp only [k_i_ReadBundle] at h
  split at h
  · injection h with h
    subst h
    exact vfun_ok eok_i_ReadBundle Try.func17 rfl (by rw [v_i_ReadBundle]; simp only at hy; rw [hy]; rfl)
  · cases h
def J_i_TextAt : Joins := [(.r, ⟨[.str, .int .i64], [(4, .one (.h 0)), (5, .one (.h 1))], [], [], [], []⟩)]
def ann_i_TextAt : Ann := .nil
def env_i_TextAt : Env := envOf ti [k_i_History_code, k_i_History_text] []
theorem eok_i_TextAt : EnvOk Try.prog env_i_TextAt := envOf_ok tab mix _ _ (by
  intro k hk
  simp only [List.mem_cons, List.not_mem_nil, or_false] at hk
  rcases hk with rfl | rfl
  · exact s_i_History_code
  · exact s_i_History_text)
theorem v_i_TextAt (x0 : Int) (x1 : List UInt8) (x2 : List (Int × Int)) (x3 : List (List (Int × (Int × List UInt8)))) (x4 : Int) : (vfun env_i_TextAt Try.f26 J_i_TextAt ann_i_TextAt [] [.ag [⟨.int .i64, x0⟩, ⟨.str, x1⟩, ⟨.sl false 76 (.pair (.int .i64) (.int .i64)), x2⟩, ⟨.sl false 93 (.sl false 34 (.pair (.int .i64) (.pair (.int .i64) .str))), x3⟩], .one ⟨.int .i64, x4⟩] []).run = (G.i_TextAt x0 x1 x2 x3 x4).bind fun y => some (Res.mk [.one ⟨.str, y.1⟩, .one ⟨.int .i64, y.2⟩] [] []) := by kernel_rfl
def k_i_TextAt : Kn := ⟨26, [0, 0], fun args rows => match args, rows with
  | [.ag [⟨.int .i64, x0⟩, ⟨.str, x1⟩, ⟨.sl false 76 (.pair (.int .i64) (.int .i64)), x2⟩, ⟨.sl false 93 (.sl false 34 (.pair (.int .i64) (.pair (.int .i64) .str))), x3⟩], .one ⟨.int .i64, x4⟩], [] => some ⟨_, G.i_TextAt x0 x1 x2 x3 x4, fun y => ⟨[.one ⟨.str, y.1⟩, .one ⟨.int .i64, y.2⟩], [], []⟩⟩
  | _, _ => none, []⟩
theorem s_i_TextAt : KnOk Try.prog k_i_TextAt := by
  intro args rows a h y hy
  simp only [k_i_TextAt] at h
  split at h
  · injection h with h
    subst h
    exact vfun_ok eok_i_TextAt Try.func26 rfl (by rw [v_i_TextAt]; simp only at hy; rw [hy]; rfl)
  · cases h
def J_i_BlameAt : Joins := [(.r, ⟨[.sl true 76 (.pair (.int .i64) (.int .i64)), .int .i64], [(4, .one (.vw 119808)), (5, .one (.h 1))], [], [(119808, 0)], [], []⟩)]
def ann_i_BlameAt : Ann := .nil
def env_i_BlameAt : Env := envOf ti [k_i_History_code, k_i_History_blame] []
theorem eok_i_BlameAt : EnvOk Try.prog env_i_BlameAt := envOf_ok tab mix _ _ (by
  intro k hk
  simp only [List.mem_cons, List.not_mem_nil, or_false] at hk
  rcases hk with rfl | rfl
  · exact s_i_History_code
  · exact s_i_History_blame)
theorem v_i_BlameAt (x0 : Int) (x1 : List UInt8) (x2 : List (Int × Int)) (x3 : List (List (Int × (Int × List UInt8)))) (x4 : Int) : (vfun env_i_BlameAt Try.f27 J_i_BlameAt ann_i_BlameAt [] [.ag [⟨.int .i64, x0⟩, ⟨.str, x1⟩, ⟨.sl false 76 (.pair (.int .i64) (.int .i64)), x2⟩, ⟨.sl false 93 (.sl false 34 (.pair (.int .i64) (.pair (.int .i64) .str))), x3⟩], .one ⟨.int .i64, x4⟩] []).run = (G.i_BlameAt x0 x1 x2 x3 x4).bind fun y => some (Res.mk [.one ⟨.sl true 76 (.pair (.int .i64) (.int .i64)), y.1⟩, .one ⟨.int .i64, y.2⟩] [] []) := by kernel_rfl
def k_i_BlameAt : Kn := ⟨27, [0, 0], fun args rows => match args, rows with
  | [.ag [⟨.int .i64, x0⟩, ⟨.str, x1⟩, ⟨.sl false 76 (.pair (.int .i64) (.int .i64)), x2⟩, ⟨.sl false 93 (.sl false 34 (.pair (.int .i64) (.pair (.int .i64) .str))), x3⟩], .one ⟨.int .i64, x4⟩], [] => some ⟨_, G.i_BlameAt x0 x1 x2 x3 x4, fun y => ⟨[.one ⟨.sl true 76 (.pair (.int .i64) (.int .i64)), y.1⟩, .one ⟨.int .i64, y.2⟩], [], []⟩⟩
  | _, _ => none, []⟩
theorem s_i_BlameAt : KnOk Try.prog k_i_BlameAt := by
  intro args rows a h y hy
  simp only [k_i_BlameAt] at h
  split at h
  · injection h with h
    subst h
    exact vfun_ok eok_i_BlameAt Try.func27 rfl (by rw [v_i_BlameAt]; simp only at hy; rw [hy]; rfl)
  · cases h
def J_l_sameRuns : Joins := [(.r, ⟨[.bool], [(4, .one (.h 0))], [], [], [], []⟩)]
def ann_l_sameRuns : Ann := .seq .nil (.seq .nil (.seq (.seq .nil (.block [] (.loop ⟨[.sl false 76 (.pair (.int .i64) (.int .i64)), .sl false 76 (.pair (.int .i64) (.int .i64)), .int .i64, .int .i64], [(0, .one (.h 0)), (1, .one (.h 1)), (12, .one (.h 2)), (13, .one (.h 3))], [], [], [], []⟩ [(.x 0, ⟨[], [], [], [], [], []⟩), (.r, ⟨[.bool], [(4, .one (.h 0))], [], [], [], []⟩)] .nil))) .nil))
def env_l_sameRuns : Env := envOf ti [] []
theorem eok_l_sameRuns : EnvOk Try.prog env_l_sameRuns := envOf_ok tab mix _ _ (by
  intro k hk; cases hk)
theorem v_l_sameRuns (x0 : List (Int × Int)) (x1 : List (Int × Int)) : (vfun env_l_sameRuns Try.f9 J_l_sameRuns ann_l_sameRuns [] [.one ⟨.sl false 76 (.pair (.int .i64) (.int .i64)), x0⟩, .one ⟨.sl false 76 (.pair (.int .i64) (.int .i64)), x1⟩] []).run = (G.l_sameRuns x0 x1).bind fun y => some (Res.mk [.one ⟨.bool, y⟩] [] []) := by kernel_rfl
def k_l_sameRuns : Kn := ⟨9, [0, 0], fun args rows => match args, rows with
  | [.one ⟨.sl false 76 (.pair (.int .i64) (.int .i64)), x0⟩, .one ⟨.sl false 76 (.pair (.int .i64) (.int .i64)), x1⟩], [] => some ⟨_, G.l_sameRuns x0 x1, fun y => ⟨[.one ⟨.bool, y⟩], [], []⟩⟩
  | _, _ => none, []⟩
theorem s_l_sameRuns : KnOk Try.prog k_l_sameRuns := by
  intro args rows a h y hy
  simp only [k_l_sameRuns] at h
  split at h
  · injection h with h
    subst h
    exact vfun_ok eok_l_sameRuns Try.func9 rfl (by rw [v_l_sameRuns]; simp only at hy; rw [hy]; rfl)
  · cases h
end
end Go.Proofs.Ythpnmoiohfiggaa

set_option linter.unusedVariables false
set_option maxRecDepth 100000
namespace Go.Proofs.Ythpnmoiohfiggaa
open Go.V
noncomputable section
def J_l_numberOf : Joins := [(.r, ⟨[.int .i64], [(2, .one (.h 0))], [], [], [], []⟩)]
def ann_l_numberOf : Ann := .seq .nil (.seq .nil (.seq (.seq .nil (.block [] (.loop ⟨[.int .i64, .sl false 5 (.int .u8), .int .i64, .int .i64], [(3, .one (.h 0)), (6, .one (.h 1)), (7, .one (.h 2)), (8, .one (.h 3))], [], [], [], []⟩ [(.x 0, ⟨[.int .i64], [(3, .one (.h 0))], [], [], [], []⟩)] .nil))) .nil))
def env_l_numberOf : Env := envOf ti [] []
theorem eok_l_numberOf : EnvOk Try.prog env_l_numberOf := envOf_ok tab mix _ _ (by
  intro k hk; cases hk)
theorem v_l_numberOf (x0 : List Int) : (vfun env_l_numberOf Try.f28 J_l_numberOf ann_l_numberOf [] [.one ⟨.sl false 5 (.int .u8), x0⟩] []).run = (G.l_numberOf x0).bind fun y => some (Res.mk [.one ⟨.int .i64, y⟩] [] []) := by kernel_rfl
def k_l_numberOf : Kn := ⟨28, [0], fun args rows => match args, rows with
  | [.one ⟨.sl false 5 (.int .u8), x0⟩], [] => some ⟨_, G.l_numberOf x0, fun y => ⟨[.one ⟨.int .i64, y⟩], [], []⟩⟩
  | _, _ => none, []⟩
theorem s_l_numberOf : KnOk Try.prog k_l_numberOf := by
  intro args rows a h y hy
  simp only [k_l_numberOf] at h
  split at h
  · injection h with h
    subst h
    exact vfun_ok eok_l_numberOf Try.func28 rfl (by rw [v_l_numberOf]; simp only at hy; rw [hy]; rfl)
  · cases h
def J_l_FnBundled : Joins := [(.r, ⟨[.bool], [(4, .one (.h 0))], [], [], [], []⟩)]
def ann_l_FnBundled : Ann := .seq .nil (.seq .nil (.seq .nil (.seq .nil (.seq .nil (.seq (.seq (.reg [(.n, ⟨[.sl false 5 (.int .u8), .int .i64, .int .i64, .sl true 5 (.int .u8), .int .i64, .bool, .int .i64, .str, .sl true 76 (.pair (.int .i64) (.int .i64)), .sl true 93 (.sl true 34 (.pair (.int .i64) (.pair (.int .i64) .str)))], [(1, .one (.h 0)), (5, .pl 5 0), (6, .one (.h 1)), (7, .one (.h 2)), (8, .one (.vw 275456)), (9, .one (.h 4)), (62, .one (.h 5))], [(5, [.h 6, .h 7, .vw 275457, .vw 275458])], [(275456, 3), (275457, 8), (275458, 9)], [], []⟩)]) .nil) (.seq .nil (.seq .nil (.seq (.seq (.reg [(.n, ⟨[.sl false 5 (.int .u8), .int .i64, .int .i64, .sl true 5 (.int .u8), .bool, .int .i64, .str, .sl true 76 (.pair (.int .i64) (.int .i64)), .sl true 93 (.sl true 34 (.pair (.int .i64) (.pair (.int .i64) .str))), .int .i64, .str, .sl true 76 (.pair (.int .i64) (.int .i64)), .sl true 93 (.sl true 34 (.pair (.int .i64) (.pair (.int .i64) .str)))], [(1, .one (.h 0)), (5, .pl 5 0), (6, .one (.h 1)), (7, .one (.h 2)), (8, .one (.vw 275459)), (12, .pl 12 0), (86, .one (.h 4))], [(5, [.h 5, .h 6, .vw 275460, .vw 275461]), (12, [.h 9, .h 10, .vw 275462, .vw 275463])], [(275459, 3), (275460, 7), (275461, 8), (275462, 11), (275463, 12)], [], []⟩)]) .nil) (.seq (.seq .nil (.block [] (.loop ⟨[.sl false 5 (.int .u8), .int .i64, .sl true 5 (.int .u8), .int .i64, .int .i64, .str, .sl true 76 (.pair (.int .i64) (.int .i64)), .sl true 93 (.sl true 34 (.pair (.int .i64) (.pair (.int .i64) .str))), .int .i64, .str, .sl true 76 (.pair (.int .i64) (.int .i64)), .sl true 93 (.sl true 34 (.pair (.int .i64) (.pair (.int .i64) .str)))], [(1, .one (.h 0)), (5, .pl 5 0), (7, .one (.h 1)), (8, .one (.vw 275464)), (12, .pl 12 0), (14, .one (.h 3))], [(5, [.h 4, .h 5, .vw 275465, .vw 275466]), (12, [.h 8, .h 9, .vw 275467, .vw 275468])], [(275464, 2), (275465, 6), (275466, 7), (275467, 10), (275468, 11)], [], []⟩ [(.x 0, ⟨[.sl false 5 (.int .u8), .sl true 5 (.int .u8)], [(1, .one (.h 0)), (8, .one (.vw 275533))], [], [(275533, 1)], [], []⟩), (.r, ⟨[.bool], [(4, .one (.h 0))], [], [], [], []⟩)] (.seq .nil (.seq (.block [] (.seq .nil (.seq .nil (.seq .nil (.seq .nil (.seq (.reg [(.n, ⟨[.sl false 5 (.int .u8), .int .i64, .sl true 5 (.int .u8), .int .i64, .bool, .int .i64, .str, .sl true 76 (.pair (.int .i64) (.int .i64)), .sl true 93 (.sl true 34 (.pair (.int .i64) (.pair (.int .i64) .str))), .int .i64, .str, .sl true 76 (.pair (.int .i64) (.int .i64)), .sl true 93 (.sl true 34 (.pair (.int .i64) (.pair (.int .i64) .str)))], [(1, .one (.h 0)), (5, .pl 5 0), (7, .one (.h 1)), (8, .one (.vw 275528)), (12, .pl 12 0), (14, .one (.h 3)), (141, .one (.h 4))], [(5, [.h 5, .h 6, .vw 275529, .vw 275530]), (12, [.h 9, .h 10, .vw 275531, .vw 275532])], [(275528, 2), (275529, 7), (275530, 8), (275531, 11), (275532, 12)], [], []⟩)]) .nil)))))) .nil))))) .nil)))))))))
def env_l_FnBundled : Env := envOf ti [k_s_DrawExportRange, k_i_ExportRange, k_s_ExportRange, k_i_ReadBundle, k_i_TextAt, k_i_BlameAt, k_l_sameRuns, k_l_numberOf] []
theorem eok_l_FnBundled : EnvOk Try.prog env_l_FnBundled := envOf_ok tab mix _ _ (by
  intro k hk
  simp only [List.mem_cons, List.not_mem_nil, or_false] at hk
  rcases hk with rfl | rfl | rfl | rfl | rfl | rfl | rfl | rfl
  · exact s_s_DrawExportRange
  · exact s_i_ExportRange
  · exact s_s_ExportRange
  · exact s_i_ReadBundle
  · exact s_i_TextAt
  · exact s_i_BlameAt
  · exact s_l_sameRuns
  · exact s_l_numberOf)
theorem v_l_FnBundled (x0 : List Int) (x1 : List Int) : (vfun env_l_FnBundled Try.f5 J_l_FnBundled ann_l_FnBundled [] [.one ⟨.sl false 5 (.int .u8), x0⟩, .one ⟨.sl false 5 (.int .u8), x1⟩] []).run = (G.l_FnBundled x0 x1).bind fun y => some (Res.mk [.one ⟨.bool, y⟩] [] []) := by kernel_rfl
def k_l_FnBundled : Kn := ⟨5, [0, 0], fun args rows => match args, rows with
  | [.one ⟨.sl false 5 (.int .u8), x0⟩, .one ⟨.sl false 5 (.int .u8), x1⟩], [] => some ⟨_, G.l_FnBundled x0 x1, fun y => ⟨[.one ⟨.bool, y⟩], [], []⟩⟩
  | _, _ => none, []⟩
theorem s_l_FnBundled : KnOk Try.prog k_l_FnBundled := by
  intro args rows a h y hy
  simp only [k_l_FnBundled] at h
  split at h
  · injection h with h
    subst h
    exact vfun_ok eok_l_FnBundled Try.func5 rfl (by rw [v_l_FnBundled]; simp only at hy; rw [hy]; rfl)
  · cases h
end
end Go.Proofs.Ythpnmoiohfiggaa
