import Derived.Test.YtijemcbcchnnjaaDoorQTxF
import Derived.Test.YtijemcbcchnnjaaDoorProg
import Derived.KernelRfl
import Derived.Test.YtijemcbcchnnjaaDoorRows
import Derived.WalkKit
import Derived.ProofKit
import Derived.OpenShut
import Derived.ShutString
import Derived.ChangeOld
import Derived.Below
set_option linter.unusedVariables false
set_option maxRecDepth 100000
namespace Go.Proofs.YtijemcbcchnnjaaDoor
open Go.V
def tiL : List TI := [
  .other,
  .other,
  .cell (.int .i64),
  .cell (.int .i64),
  .cell .bool,
  .cell (.int .u8),
  .cell (.int .u8),
  .other,
  .other,
  .cell .str,
  .cell .str,
  .cell .str,
  .cell (.int .u64),
  .other,
  .other,
  .ptr 127,
  .ptr 130,
  .ptr 137,
  .other,
  .other,
  .other,
  .cell (.int .i32),
  .slice 39 [(.int .i64), (.int .i64), .str] 32,
  .other,
  .other,
  .other,
  .slice 42 [(.int .i64), (.int .i64), .str] 32,
  .other,
  .other,
  .other,
  .other,
  .other,
  .other,
  .other,
  .slice 5 [(.int .u8)] 1,
  .other,
  .other,
  .other,
  .struct [(0, 1, false), (1, 1, false), (2, 1, false)] [(.int .i64), (.int .i64), .str] true,
  .struct [(0, 1, false), (1, 1, false), (2, 1, false)] [(.int .i64), (.int .i64), .str] true,
  .other,
  .other,
  .struct [(0, 1, false), (1, 1, false), (2, 1, false)] [(.int .i64), (.int .i64), .str] true,
  .other,
  .other,
  .slice 9 [.str] 16,
  .other,
  .other,
  .other,
  .other,
  .other,
  .other,
  .other,
  .other,
  .other,
  .other,
  .other,
  .other,
  .other,
  .other,
  .other,
  .other,
  .err,
  .other,
  .other,
  .cell (.int .u64),
  .other,
  .other,
  .ptr 70,
  .struct [(0, 1, false), (1, 1, false), (2, 1, false)] [(.sl true 5 (.int .u8)), (.int .i64), (.int .u64)] false,
  .struct [(0, 1, false), (1, 1, false), (2, 1, false)] [(.sl true 5 (.int .u8)), (.int .i64), (.int .u64)] false,
  .other,
  .other,
  .other,
  .other,
  .cell (.int .u64),
  .ptr 78,
  .other,
  .other,
  .other,
  .other,
  .other,
  .other,
  .other,
  .other,
  .other,
  .ptr 5,
  .other,
  .other,
  .other,
  .cell (.int .i64),
  .other,
  .other,
  .ptr 107,
  .other,
  .other,
  .other,
  .other,
  .other,
  .other,
  .other,
  .other,
  .other,
  .other,
  .other,
  .other,
  .other,
  .other,
  .other,
  .other,
  .other,
  .cell (.int .u32),
  .other,
  .other,
  .other,
  .struct [(0, 1, false), (1, 1, false)] [(.int .u8), (.int .u8)] true,
  .struct [(0, 1, false), (1, 1, false)] [(.int .u8), (.int .u8)] true,
  .other,
  .other,
  .other,
  .ptr 122,
  .struct [(0, 1, false)] [.str] true,
  .struct [(0, 1, false)] [.str] true,
  .other,
  .other,
  .other,
  .other,
  .other,
  .other,
  .other,
  .other,
  .cell (.int .u8),
  .cell (.int .u8),
  .other,
  .cell (.int .i32),
  .cell (.int .i32),
  .other,
  .other]
def ti (t : TypeId) : TI := tiL.getD t .other
theorem tab : TabOk Tryd.prog ti := tabOf Tryd.prog tiL (by kernel_rfl)
theorem mix : Tryd.prog.follows .mixedOrders = true := by kernel_rfl
end Go.Proofs.YtijemcbcchnnjaaDoor

set_option maxRecDepth 100000
namespace Go.Proofs.YtijemcbcchnnjaaDoor
open Go.V
theorem own : ownKnob Tryd.prog.godebug = none := by kernel_rfl
theorem laidOut : laidOutB Tryd.prog = true := by kernel_rfl
theorem tab2 : ∀ t, tyOk2 Tryd.prog ti t (ti t) = true := tabOf2 Tryd.prog tiL (by kernel_rfl)
end Go.Proofs.YtijemcbcchnnjaaDoor

set_option linter.unusedVariables false
set_option maxRecDepth 100000
namespace Go.Proofs.YtijemcbcchnnjaaDoor
open Go.V
noncomputable section
def J_s_l1Cur_next_f : Joins := [(.r, ⟨[.int .i64, .sl false 5 (.int .u8), .int .i64, .int .u64], [(2, .one (.h 0))], [(63, [.h 1, .h 2, .h 3])], [], [], []⟩)]
def ann_s_l1Cur_next_f : Ann := .seq .nil (.seq .nil (.seq (.seq .nil (.cond [(.n, ⟨[.int .i64, .sl false 5 (.int .u8), .int .i64, .int .u64], [(0, .pl 63 0), (3, .one (.h 0))], [(63, [.h 1, .h 2, .h 3])], [], [], []⟩)] .nil .nil)) .nil))
def env_s_l1Cur_next_f : Env := envOf ti [] []
theorem eok_s_l1Cur_next_f : EnvOk Tryd.prog env_s_l1Cur_next_f := envOf_ok tab mix _ _ (by
  intro k hk; cases hk)
theorem v_s_l1Cur_next_f (x0 : List Int) (x1 : Int) (x2 : Int) : (vfun env_s_l1Cur_next_f Tryd.f61 J_s_l1Cur_next_f ann_s_l1Cur_next_f [] [.pl 0 0] [[⟨.sl false 5 (.int .u8), x0⟩, ⟨.int .i64, x1⟩, ⟨.int .u64, x2⟩]]).run = (G.s_l1Cur_next_f x0 x1 x2).bind fun y => some (Res.mk [.one ⟨.int .i64, y.1⟩] [[⟨.sl false 5 (.int .u8), y.2.1⟩, ⟨.int .i64, y.2.2.1⟩, ⟨.int .u64, y.2.2.2⟩]] []) := by kernel_rfl
def k_s_l1Cur_next_f : Kn := ⟨61, [0], fun args rows => match args, rows with
  | [.pl 0 0], [[⟨.sl false 5 (.int .u8), x0⟩, ⟨.int .i64, x1⟩, ⟨.int .u64, x2⟩]] => some ⟨_, G.s_l1Cur_next_f x0 x1 x2, fun y => ⟨[.one ⟨.int .i64, y.1⟩], [[⟨.sl false 5 (.int .u8), y.2.1⟩, ⟨.int .i64, y.2.2.1⟩, ⟨.int .u64, y.2.2.2⟩]], []⟩⟩
  | _, _ => none, []⟩
theorem s_s_l1Cur_next_f : KnOk Tryd.prog k_s_l1Cur_next_f := by
  intro args rows a h y hy
  simp only [k_s_l1Cur_next_f] at h
  split at h
  · injection h with h
    subst h
    exact vfun_ok eok_s_l1Cur_next_f Tryd.func61 rfl (by rw [v_s_l1Cur_next_f]; simp only at hy; rw [hy]; rfl)
  · cases h
def J_s_l1Cur_pick_f : Joins := [(.r, ⟨[.int .i64, .sl false 5 (.int .u8), .int .i64, .int .u64], [(4, .one (.h 0))], [(21, [.h 1, .h 2, .h 3])], [], [], []⟩)]
def ann_s_l1Cur_pick_f : Ann := .seq .nil (.seq .nil (.seq .nil (.seq (.seq .nil (.cond [(.n, ⟨[.int .i64, .int .i64, .sl false 5 (.int .u8), .int .i64, .int .u64], [(1, .one (.h 0)), (5, .one (.h 1))], [(21, [.h 2, .h 3, .h 4])], [], [], []⟩)] .nil .nil)) .nil)))
def env_s_l1Cur_pick_f : Env := envOf ti [k_s_l1Cur_next_f] []
theorem eok_s_l1Cur_pick_f : EnvOk Tryd.prog env_s_l1Cur_pick_f := envOf_ok tab mix _ _ (by
  intro k hk
  simp only [List.mem_cons, List.not_mem_nil, or_false] at hk
  rcases hk with rfl
  · exact s_s_l1Cur_next_f)
theorem v_s_l1Cur_pick_f (x0 : Int) (x1 : List Int) (x2 : Int) (x3 : Int) : (vfun env_s_l1Cur_pick_f Tryd.f46 J_s_l1Cur_pick_f ann_s_l1Cur_pick_f [] [.pl 0 0, .one ⟨.int .i64, x0⟩] [[⟨.sl false 5 (.int .u8), x1⟩, ⟨.int .i64, x2⟩, ⟨.int .u64, x3⟩]]).run = (G.s_l1Cur_pick_f x0 x1 x2 x3).bind fun y => some (Res.mk [.one ⟨.int .i64, y.1⟩] [[⟨.sl false 5 (.int .u8), y.2.1⟩, ⟨.int .i64, y.2.2.1⟩, ⟨.int .u64, y.2.2.2⟩]] []) := by kernel_rfl
def k_s_l1Cur_pick_f : Kn := ⟨46, [0, 0], fun args rows => match args, rows with
  | [.pl 0 0, .one ⟨.int .i64, x0⟩], [[⟨.sl false 5 (.int .u8), x1⟩, ⟨.int .i64, x2⟩, ⟨.int .u64, x3⟩]] => some ⟨_, G.s_l1Cur_pick_f x0 x1 x2 x3, fun y => ⟨[.one ⟨.int .i64, y.1⟩], [[⟨.sl false 5 (.int .u8), y.2.1⟩, ⟨.int .i64, y.2.2.1⟩, ⟨.int .u64, y.2.2.2⟩]], []⟩⟩
  | _, _ => none, []⟩
theorem s_s_l1Cur_pick_f : KnOk Tryd.prog k_s_l1Cur_pick_f := by
  intro args rows a h y hy
  simp only [k_s_l1Cur_pick_f] at h
  split at h
  · injection h with h
    subst h
    exact vfun_ok eok_s_l1Cur_pick_f Tryd.func46 rfl (by rw [v_s_l1Cur_pick_f]; simp only at hy; rw [hy]; rfl)
  · cases h
def J_s_l1Cur_one_f : Joins := [(.r, ⟨[.bool, .sl false 5 (.int .u8), .int .i64, .int .u64], [(4, .one (.h 0))], [(10, [.h 1, .h 2, .h 3])], [], [], []⟩)]
def ann_s_l1Cur_one_f : Ann := .nil
def env_s_l1Cur_one_f : Env := envOf ti [k_s_l1Cur_pick_f] []
theorem eok_s_l1Cur_one_f : EnvOk Tryd.prog env_s_l1Cur_one_f := envOf_ok tab mix _ _ (by
  intro k hk
  simp only [List.mem_cons, List.not_mem_nil, or_false] at hk
  rcases hk with rfl
  · exact s_s_l1Cur_pick_f)
theorem v_s_l1Cur_one_f (x0 : Int) (x1 : List Int) (x2 : Int) (x3 : Int) : (vfun env_s_l1Cur_one_f Tryd.f45 J_s_l1Cur_one_f ann_s_l1Cur_one_f [] [.pl 0 0, .one ⟨.int .i64, x0⟩] [[⟨.sl false 5 (.int .u8), x1⟩, ⟨.int .i64, x2⟩, ⟨.int .u64, x3⟩]]).run = (G.s_l1Cur_one_f x0 x1 x2 x3).bind fun y => some (Res.mk [.one ⟨.bool, y.1⟩] [[⟨.sl false 5 (.int .u8), y.2.1⟩, ⟨.int .i64, y.2.2.1⟩, ⟨.int .u64, y.2.2.2⟩]] []) := by kernel_rfl
def k_s_l1Cur_one_f : Kn := ⟨45, [0, 0], fun args rows => match args, rows with
  | [.pl 0 0, .one ⟨.int .i64, x0⟩], [[⟨.sl false 5 (.int .u8), x1⟩, ⟨.int .i64, x2⟩, ⟨.int .u64, x3⟩]] => some ⟨_, G.s_l1Cur_one_f x0 x1 x2 x3, fun y => ⟨[.one ⟨.bool, y.1⟩], [[⟨.sl false 5 (.int .u8), y.2.1⟩, ⟨.int .i64, y.2.2.1⟩, ⟨.int .u64, y.2.2.2⟩]], []⟩⟩
  | _, _ => none, []⟩
theorem s_s_l1Cur_one_f : KnOk Tryd.prog k_s_l1Cur_one_f := by
  intro args rows a h y hy
  simp only [k_s_l1Cur_one_f] at h
  split at h
  · injection h with h
    subst h
    exact vfun_ok eok_s_l1Cur_one_f Tryd.func45 rfl (by rw [v_s_l1Cur_one_f]; simp only at hy; rw [hy]; rfl)
  · cases h
def J_s_l1Cur_wide_f : Joins := [(.r, ⟨[.int .i64, .sl false 5 (.int .u8), .int .i64, .int .u64], [(2, .one (.h 0))], [(16, [.h 1, .h 2, .h 3])], [], [], []⟩)]
def ann_s_l1Cur_wide_f : Ann := .seq .nil (.seq .nil (.seq (.seq .nil (.block [] (.loop ⟨[.int .i64, .int .i64, .sl false 5 (.int .u8), .int .i64, .int .u64], [(0, .pl 16 0), (3, .one (.h 0)), (4, .one (.h 1))], [(16, [.h 2, .h 3, .h 4])], [], [], []⟩ [(.x 0, ⟨[.int .i64, .sl false 5 (.int .u8), .int .i64, .int .u64], [(3, .one (.h 0))], [(16, [.h 1, .h 2, .h 3])], [], [], []⟩)] .nil))) .nil))
def env_s_l1Cur_wide_f : Env := envOf ti [k_s_l1Cur_next_f] []
theorem eok_s_l1Cur_wide_f : EnvOk Tryd.prog env_s_l1Cur_wide_f := envOf_ok tab mix _ _ (by
  intro k hk
  simp only [List.mem_cons, List.not_mem_nil, or_false] at hk
  rcases hk with rfl
  · exact s_s_l1Cur_next_f)
theorem v_s_l1Cur_wide_f (x0 : List Int) (x1 : Int) (x2 : Int) : (vfun env_s_l1Cur_wide_f Tryd.f79 J_s_l1Cur_wide_f ann_s_l1Cur_wide_f [] [.pl 0 0] [[⟨.sl false 5 (.int .u8), x0⟩, ⟨.int .i64, x1⟩, ⟨.int .u64, x2⟩]]).run = (G.s_l1Cur_wide_f x0 x1 x2).bind fun y => some (Res.mk [.one ⟨.int .i64, y.1⟩] [[⟨.sl false 5 (.int .u8), y.2.1⟩, ⟨.int .i64, y.2.2.1⟩, ⟨.int .u64, y.2.2.2⟩]] []) := by kernel_rfl
def k_s_l1Cur_wide_f : Kn := ⟨79, [0], fun args rows => match args, rows with
  | [.pl 0 0], [[⟨.sl false 5 (.int .u8), x0⟩, ⟨.int .i64, x1⟩, ⟨.int .u64, x2⟩]] => some ⟨_, G.s_l1Cur_wide_f x0 x1 x2, fun y => ⟨[.one ⟨.int .i64, y.1⟩], [[⟨.sl false 5 (.int .u8), y.2.1⟩, ⟨.int .i64, y.2.2.1⟩, ⟨.int .u64, y.2.2.2⟩]], []⟩⟩
  | _, _ => none, []⟩
theorem s_s_l1Cur_wide_f : KnOk Tryd.prog k_s_l1Cur_wide_f := by
  intro args rows a h y hy
  simp only [k_s_l1Cur_wide_f] at h
  split at h
  · injection h with h
    subst h
    exact vfun_ok eok_s_l1Cur_wide_f Tryd.func79 rfl (by rw [v_s_l1Cur_wide_f]; simp only at hy; rw [hy]; rfl)
  · cases h
def J_s_l1Cur_sized_f : Joins := [(.r, ⟨[.int .i64, .sl false 5 (.int .u8), .int .i64, .int .u64], [(2, .one (.h 0))], [(39, [.h 1, .h 2, .h 3])], [], [], []⟩)]
def ann_s_l1Cur_sized_f : Ann := .seq .nil (.seq .nil (.seq (.seq .nil (.block [] (.seq .nil (.cond [(.n, ⟨[.int .i64, .sl false 5 (.int .u8), .int .i64, .int .u64], [(0, .pl 39 0), (3, .one (.h 0))], [(39, [.h 1, .h 2, .h 3])], [], [], []⟩)] .nil (.seq .nil (.cond [(.n, ⟨[.int .i64, .sl false 5 (.int .u8), .int .i64, .int .u64], [(0, .pl 39 0), (3, .one (.h 0))], [(39, [.h 1, .h 2, .h 3])], [], [], []⟩)] .nil (.seq .nil (.cond [(.n, ⟨[.int .i64, .sl false 5 (.int .u8), .int .i64, .int .u64], [(0, .pl 39 0), (3, .one (.h 0))], [(39, [.h 1, .h 2, .h 3])], [], [], []⟩)] .nil (.seq .nil (.cond [(.n, ⟨[.int .i64, .sl false 5 (.int .u8), .int .i64, .int .u64], [(0, .pl 39 0), (3, .one (.h 0))], [(39, [.h 1, .h 2, .h 3])], [], [], []⟩)] .nil .nil)))))))))) (.seq (.seq .nil (.cond [(.n, ⟨[.int .i64, .sl false 5 (.int .u8), .int .i64, .int .u64], [(3, .one (.h 0))], [(39, [.h 1, .h 2, .h 3])], [], [], []⟩)] .nil .nil)) .nil)))
def env_s_l1Cur_sized_f : Env := envOf ti [k_s_l1Cur_pick_f, k_s_l1Cur_wide_f, k_s_l1Cur_one_f] []
theorem eok_s_l1Cur_sized_f : EnvOk Tryd.prog env_s_l1Cur_sized_f := envOf_ok tab mix _ _ (by
  intro k hk
  simp only [List.mem_cons, List.not_mem_nil, or_false] at hk
  rcases hk with rfl | rfl | rfl
  · exact s_s_l1Cur_pick_f
  · exact s_s_l1Cur_wide_f
  · exact s_s_l1Cur_one_f)
theorem v_s_l1Cur_sized_f (x0 : List Int) (x1 : Int) (x2 : Int) : (vfun env_s_l1Cur_sized_f Tryd.f62 J_s_l1Cur_sized_f ann_s_l1Cur_sized_f [] [.pl 0 0] [[⟨.sl false 5 (.int .u8), x0⟩, ⟨.int .i64, x1⟩, ⟨.int .u64, x2⟩]]).run = (G.s_l1Cur_sized_f x0 x1 x2).bind fun y => some (Res.mk [.one ⟨.int .i64, y.1⟩] [[⟨.sl false 5 (.int .u8), y.2.1⟩, ⟨.int .i64, y.2.2.1⟩, ⟨.int .u64, y.2.2.2⟩]] []) := by kernel_rfl
def k_s_l1Cur_sized_f : Kn := ⟨62, [0], fun args rows => match args, rows with
  | [.pl 0 0], [[⟨.sl false 5 (.int .u8), x0⟩, ⟨.int .i64, x1⟩, ⟨.int .u64, x2⟩]] => some ⟨_, G.s_l1Cur_sized_f x0 x1 x2, fun y => ⟨[.one ⟨.int .i64, y.1⟩], [[⟨.sl false 5 (.int .u8), y.2.1⟩, ⟨.int .i64, y.2.2.1⟩, ⟨.int .u64, y.2.2.2⟩]], []⟩⟩
  | _, _ => none, []⟩
theorem s_s_l1Cur_sized_f : KnOk Tryd.prog k_s_l1Cur_sized_f := by
  intro args rows a h y hy
  simp only [k_s_l1Cur_sized_f] at h
  split at h
  · injection h with h
    subst h
    exact vfun_ok eok_s_l1Cur_sized_f Tryd.func62 rfl (by rw [v_s_l1Cur_sized_f]; simp only at hy; rw [hy]; rfl)
  · cases h
def J_s_l1Cur_part_f : Joins := [(.r, ⟨[.int .i64, .int .i64, .str, .sl false 5 (.int .u8), .int .i64, .int .u64], [(2, .pl 2 0)], [(2, [.h 0, .h 1, .h 2]), (28, [.h 3, .h 4, .h 5])], [], [], []⟩)]
def ann_s_l1Cur_part_f : Ann := .nil
def env_s_l1Cur_part_f : Env := envOf ti [k_s_l1Cur_pick_f, k_s_l1Cur_sized_f] []
theorem eok_s_l1Cur_part_f : EnvOk Tryd.prog env_s_l1Cur_part_f := envOf_ok tab mix _ _ (by
  intro k hk
  simp only [List.mem_cons, List.not_mem_nil, or_false] at hk
  rcases hk with rfl | rfl
  · exact s_s_l1Cur_pick_f
  · exact s_s_l1Cur_sized_f)
theorem v_s_l1Cur_part_f (x0 : List Int) (x1 : Int) (x2 : Int) : (vfun env_s_l1Cur_part_f Tryd.f47 J_s_l1Cur_part_f ann_s_l1Cur_part_f [] [.pl 0 0] [[⟨.sl false 5 (.int .u8), x0⟩, ⟨.int .i64, x1⟩, ⟨.int .u64, x2⟩]]).run = (G.s_l1Cur_part_f x0 x1 x2).bind fun y => some (Res.mk [.ag [⟨.int .i64, y.1⟩, ⟨.int .i64, y.2.1⟩, ⟨.str, y.2.2.1⟩]] [[⟨.sl false 5 (.int .u8), y.2.2.2.1⟩, ⟨.int .i64, y.2.2.2.2.1⟩, ⟨.int .u64, y.2.2.2.2.2⟩]] []) := by kernel_rfl
def k_s_l1Cur_part_f : Kn := ⟨47, [0], fun args rows => match args, rows with
  | [.pl 0 0], [[⟨.sl false 5 (.int .u8), x0⟩, ⟨.int .i64, x1⟩, ⟨.int .u64, x2⟩]] => some ⟨_, G.s_l1Cur_part_f x0 x1 x2, fun y => ⟨[.ag [⟨.int .i64, y.1⟩, ⟨.int .i64, y.2.1⟩, ⟨.str, y.2.2.1⟩]], [[⟨.sl false 5 (.int .u8), y.2.2.2.1⟩, ⟨.int .i64, y.2.2.2.2.1⟩, ⟨.int .u64, y.2.2.2.2.2⟩]], []⟩⟩
  | _, _ => none, []⟩
theorem s_s_l1Cur_part_f : KnOk Tryd.prog k_s_l1Cur_part_f := by
  intro args rows a h y hy
  simp only [k_s_l1Cur_part_f] at h
  split at h
  · injection h with h
    subst h
    exact vfun_ok eok_s_l1Cur_part_f Tryd.func47 rfl (by rw [v_s_l1Cur_part_f]; simp only at hy; rw [hy]; rfl)
  · cases h
def J_s_l1Cur_size_f : Joins := [(.r, ⟨[.int .i64, .sl false 5 (.int .u8), .int .i64, .int .u64], [(2, .one (.h 0))], [(11, [.h 1, .h 2, .h 3])], [], [], []⟩)]
def ann_s_l1Cur_size_f : Ann := .nil
def env_s_l1Cur_size_f : Env := envOf ti [k_s_l1Cur_one_f, k_s_l1Cur_pick_f] []
theorem eok_s_l1Cur_size_f : EnvOk Tryd.prog env_s_l1Cur_size_f := envOf_ok tab mix _ _ (by
  intro k hk
  simp only [List.mem_cons, List.not_mem_nil, or_false] at hk
  rcases hk with rfl | rfl
  · exact s_s_l1Cur_one_f
  · exact s_s_l1Cur_pick_f)
theorem v_s_l1Cur_size_f (x0 : List Int) (x1 : Int) (x2 : Int) : (vfun env_s_l1Cur_size_f Tryd.f49 J_s_l1Cur_size_f ann_s_l1Cur_size_f [] [.pl 0 0] [[⟨.sl false 5 (.int .u8), x0⟩, ⟨.int .i64, x1⟩, ⟨.int .u64, x2⟩]]).run = (G.s_l1Cur_size_f x0 x1 x2).bind fun y => some (Res.mk [.one ⟨.int .i64, y.1⟩] [[⟨.sl false 5 (.int .u8), y.2.1⟩, ⟨.int .i64, y.2.2.1⟩, ⟨.int .u64, y.2.2.2⟩]] []) := by kernel_rfl
def k_s_l1Cur_size_f : Kn := ⟨49, [0], fun args rows => match args, rows with
  | [.pl 0 0], [[⟨.sl false 5 (.int .u8), x0⟩, ⟨.int .i64, x1⟩, ⟨.int .u64, x2⟩]] => some ⟨_, G.s_l1Cur_size_f x0 x1 x2, fun y => ⟨[.one ⟨.int .i64, y.1⟩], [[⟨.sl false 5 (.int .u8), y.2.1⟩, ⟨.int .i64, y.2.2.1⟩, ⟨.int .u64, y.2.2.2⟩]], []⟩⟩
  | _, _ => none, []⟩
theorem s_s_l1Cur_size_f : KnOk Tryd.prog k_s_l1Cur_size_f := by
  intro args rows a h y hy
  simp only [k_s_l1Cur_size_f] at h
  split at h
  · injection h with h
    subst h
    exact vfun_ok eok_s_l1Cur_size_f Tryd.func49 rfl (by rw [v_s_l1Cur_size_f]; simp only at hy; rw [hy]; rfl)
  · cases h
def J_s_l1Cur_of_f : Joins := [(.r, ⟨[.str, .sl false 5 (.int .u8), .int .i64, .int .u64], [(4, .one (.h 0))], [(13, [.h 1, .h 2, .h 3])], [], [], []⟩)]
def ann_s_l1Cur_of_f : Ann := .nil
def env_s_l1Cur_of_f : Env := envOf ti [k_s_l1Cur_pick_f] []
theorem eok_s_l1Cur_of_f : EnvOk Tryd.prog env_s_l1Cur_of_f := envOf_ok tab mix _ _ (by
  intro k hk
  simp only [List.mem_cons, List.not_mem_nil, or_false] at hk
  rcases hk with rfl
  · exact s_s_l1Cur_pick_f)
theorem v_s_l1Cur_of_f (x0 : List (List UInt8)) (x1 : List Int) (x2 : Int) (x3 : Int) : (vfun env_s_l1Cur_of_f Tryd.f80 J_s_l1Cur_of_f ann_s_l1Cur_of_f [] [.pl 0 0, .one ⟨.sl true 9 .str, x0⟩] [[⟨.sl false 5 (.int .u8), x1⟩, ⟨.int .i64, x2⟩, ⟨.int .u64, x3⟩]]).run = (G.s_l1Cur_of_f x0 x1 x2 x3).bind fun y => some (Res.mk [.one ⟨.str, y.1⟩] [[⟨.sl false 5 (.int .u8), y.2.1⟩, ⟨.int .i64, y.2.2.1⟩, ⟨.int .u64, y.2.2.2⟩]] []) := by kernel_rfl
def k_s_l1Cur_of_f : Kn := ⟨80, [0, 1], fun args rows => match args, rows with
  | [.pl 0 0, .one ⟨.sl true 9 .str, x0⟩], [[⟨.sl false 5 (.int .u8), x1⟩, ⟨.int .i64, x2⟩, ⟨.int .u64, x3⟩]] => some ⟨_, G.s_l1Cur_of_f x0 x1 x2 x3, fun y => ⟨[.one ⟨.str, y.1⟩], [[⟨.sl false 5 (.int .u8), y.2.1⟩, ⟨.int .i64, y.2.2.1⟩, ⟨.int .u64, y.2.2.2⟩]], []⟩⟩
  | _, _ => none, []⟩
theorem s_s_l1Cur_of_f : KnOk Tryd.prog k_s_l1Cur_of_f := by
  intro args rows a h y hy
  simp only [k_s_l1Cur_of_f] at h
  split at h
  · injection h with h
    subst h
    exact vfun_ok eok_s_l1Cur_of_f Tryd.func80 rfl (by rw [v_s_l1Cur_of_f]; simp only at hy; rw [hy]; rfl)
  · cases h
def J_s_l1Cur_put_f : Joins := [(.r, ⟨[.str, .sl false 5 (.int .u8), .int .i64, .int .u64], [(2, .one (.h 0))], [(7, [.h 1, .h 2, .h 3])], [], [], []⟩)]
def ann_s_l1Cur_put_f : Ann := .nil
def env_s_l1Cur_put_f : Env := envOf ti [k_s_l1Cur_of_f] []
theorem eok_s_l1Cur_put_f : EnvOk Tryd.prog env_s_l1Cur_put_f := envOf_ok tab mix _ _ (by
  intro k hk
  simp only [List.mem_cons, List.not_mem_nil, or_false] at hk
  rcases hk with rfl
  · exact s_s_l1Cur_of_f)
theorem v_s_l1Cur_put_f (x0 : List Int) (x1 : Int) (x2 : Int) : (vfun env_s_l1Cur_put_f Tryd.f63 J_s_l1Cur_put_f ann_s_l1Cur_put_f [] [.pl 0 0] [[⟨.sl false 5 (.int .u8), x0⟩, ⟨.int .i64, x1⟩, ⟨.int .u64, x2⟩]]).run = (G.s_l1Cur_put_f x0 x1 x2).bind fun y => some (Res.mk [.one ⟨.str, y.1⟩] [[⟨.sl false 5 (.int .u8), y.2.1⟩, ⟨.int .i64, y.2.2.1⟩, ⟨.int .u64, y.2.2.2⟩]] []) := by kernel_rfl
def k_s_l1Cur_put_f : Kn := ⟨63, [0], fun args rows => match args, rows with
  | [.pl 0 0], [[⟨.sl false 5 (.int .u8), x0⟩, ⟨.int .i64, x1⟩, ⟨.int .u64, x2⟩]] => some ⟨_, G.s_l1Cur_put_f x0 x1 x2, fun y => ⟨[.one ⟨.str, y.1⟩], [[⟨.sl false 5 (.int .u8), y.2.1⟩, ⟨.int .i64, y.2.2.1⟩, ⟨.int .u64, y.2.2.2⟩]], []⟩⟩
  | _, _ => none, []⟩
theorem s_s_l1Cur_put_f : KnOk Tryd.prog k_s_l1Cur_put_f := by
  intro args rows a h y hy
  simp only [k_s_l1Cur_put_f] at h
  split at h
  · injection h with h
    subst h
    exact vfun_ok eok_s_l1Cur_put_f Tryd.func63 rfl (by rw [v_s_l1Cur_put_f]; simp only at hy; rw [hy]; rfl)
  · cases h
def J_s_l1Kind : Joins := [(.r, ⟨[.int .i64], [(2, .one (.h 0))], [], [], [], []⟩)]
def ann_s_l1Kind : Ann := .seq .nil (.seq (.block [] (.seq (.reg [(.n, ⟨[.bool, .int .i64, .int .i64, .str], [(1, .pl 1 0), (3, .one (.h 0))], [(1, [.h 1, .h 2, .h 3])], [], [], []⟩)]) (.cond [] .nil (.seq (.reg [(.n, ⟨[.bool, .int .i64, .int .i64, .str], [(1, .pl 1 0), (17, .one (.h 0))], [(1, [.h 1, .h 2, .h 3])], [], [], []⟩)]) (.cond [] .nil (.seq (.reg [(.n, ⟨[.bool], [(31, .one (.h 0))], [], [], [], []⟩)]) .nil)))))) .nil)
def env_s_l1Kind : Env := envOf ti [] []
theorem eok_s_l1Kind : EnvOk Tryd.prog env_s_l1Kind := envOf_ok tab mix _ _ (by
  intro k hk; cases hk)
theorem v_s_l1Kind (x0 : Int) (x1 : Int) (x2 : List UInt8) : (vfun env_s_l1Kind Tryd.f32 J_s_l1Kind ann_s_l1Kind [] [.ag [⟨.int .i64, x0⟩, ⟨.int .i64, x1⟩, ⟨.str, x2⟩]] []).run = (G.s_l1Kind x0 x1 x2).bind fun y => some (Res.mk [.one ⟨.int .i64, y⟩] [] []) := by kernel_rfl
def k_s_l1Kind : Kn := ⟨32, [0], fun args rows => match args, rows with
  | [.ag [⟨.int .i64, x0⟩, ⟨.int .i64, x1⟩, ⟨.str, x2⟩]], [] => some ⟨_, G.s_l1Kind x0 x1 x2, fun y => ⟨[.one ⟨.int .i64, y⟩], [], []⟩⟩
  | _, _ => none, []⟩
theorem s_s_l1Kind : KnOk Tryd.prog k_s_l1Kind := by
  intro args rows a h y hy
  simp only [k_s_l1Kind] at h
  split at h
  · injection h with h
    subst h
    exact vfun_ok eok_s_l1Kind Tryd.func32 rfl (by rw [v_s_l1Kind]; simp only at hy; rw [hy]; rfl)
  · cases h
def J_s_l1Add : Joins := [(.r, ⟨[.sl true 42 (.pair (.int .i64) (.pair (.int .i64) .str))], [(4, .one (.vw 165889))], [], [(165889, 0)], [], []⟩)]
def ann_s_l1Add : Ann := .seq .nil (.seq .nil (.seq (.seq .nil (.seq (.reg [(.n, ⟨[.sl true 42 (.pair (.int .i64) (.pair (.int .i64) .str)), .int .i64, .bool, .int .i64, .int .i64, .str], [(0, .one (.vw 165888)), (3, .pl 3 0), (5, .one (.h 1)), (24, .one (.h 2))], [(3, [.h 3, .h 4, .h 5])], [(165888, 0)], [], []⟩)]) .nil)) .nil))
def env_s_l1Add : Env := envOf ti [k_s_l1Kind] []
theorem eok_s_l1Add : EnvOk Tryd.prog env_s_l1Add := envOf_ok tab mix _ _ (by
  intro k hk
  simp only [List.mem_cons, List.not_mem_nil, or_false] at hk
  rcases hk with rfl
  · exact s_s_l1Kind)
theorem v_s_l1Add (x0 : List (Int × (Int × List UInt8))) (x1 : Int) (x2 : Int) (x3 : List UInt8) : (vfun env_s_l1Add Tryd.f64 J_s_l1Add ann_s_l1Add [] [.one ⟨.sl true 42 (.pair (.int .i64) (.pair (.int .i64) .str)), x0⟩, .ag [⟨.int .i64, x1⟩, ⟨.int .i64, x2⟩, ⟨.str, x3⟩]] []).run = (G.s_l1Add x0 x1 x2 x3).bind fun y => some (Res.mk [.one ⟨.sl true 42 (.pair (.int .i64) (.pair (.int .i64) .str)), y⟩] [] []) := by kernel_rfl
def k_s_l1Add : Kn := ⟨64, [1, 0], fun args rows => match args, rows with
  | [.one ⟨.sl true 42 (.pair (.int .i64) (.pair (.int .i64) .str)), x0⟩, .ag [⟨.int .i64, x1⟩, ⟨.int .i64, x2⟩, ⟨.str, x3⟩]], [] => some ⟨_, G.s_l1Add x0 x1 x2 x3, fun y => ⟨[.one ⟨.sl true 42 (.pair (.int .i64) (.pair (.int .i64) .str)), y⟩], [], []⟩⟩
  | _, _ => none, []⟩
theorem s_s_l1Add : KnOk Tryd.prog k_s_l1Add := by
  intro args rows a h y hy
  simp only [k_s_l1Add] at h
  split at h
  · injection h with h
    subst h
    exact vfun_ok eok_s_l1Add Tryd.func64 rfl (by rw [v_s_l1Add]; simp only at hy; rw [hy]; rfl)
  · cases h
def J_s_l1Cur_changeOf_f : Joins := [(.r, ⟨[.sl true 42 (.pair (.int .i64) (.pair (.int .i64) .str)), .sl false 5 (.int .u8), .int .i64, .int .u64], [(4, .one (.vw 184393))], [(81, [.h 1, .h 2, .h 3])], [(184393, 0)], [], []⟩)]
def ann_s_l1Cur_changeOf_f : Ann := .seq .nil (.seq .nil (.seq .nil (.seq (.block [] (.loop ⟨[.int .i64, .sl true 42 (.pair (.int .i64) (.pair (.int .i64) .str)), .int .i64, .sl false 5 (.int .u8), .int .i64, .int .u64], [(0, .pl 81 0), (1, .one (.h 0)), (5, .one (.vw 184320)), (6, .one (.h 2))], [(81, [.h 3, .h 4, .h 5])], [(184320, 1)], [], []⟩ [(.x 0, ⟨[.sl true 42 (.pair (.int .i64) (.pair (.int .i64) .str)), .int .i64, .sl false 5 (.int .u8), .int .i64, .int .u64], [(0, .pl 81 0), (5, .one (.vw 184389)), (6, .one (.h 1))], [(81, [.h 2, .h 3, .h 4])], [(184389, 0)], [], []⟩)] (.seq .nil (.block [] (.seq (.seq .nil (.seq (.reg [(.n, ⟨[.int .i64, .sl true 42 (.pair (.int .i64) (.pair (.int .i64) .str)), .int .i64, .str, .bool, .sl false 5 (.int .u8), .int .i64, .int .u64], [(0, .pl 81 0), (1, .one (.h 0)), (5, .one (.vw 184384)), (6, .one (.h 2)), (7, .one (.h 3)), (23, .one (.h 4))], [(81, [.h 5, .h 6, .h 7])], [(184384, 1)], [], []⟩)]) (.cond [(.n, ⟨[.int .i64, .sl true 42 (.pair (.int .i64) (.pair (.int .i64) .str)), .int .i64, .sl false 5 (.int .u8), .int .i64, .int .u64], [(0, .pl 81 0), (1, .one (.h 0)), (5, .one (.vw 184385)), (6, .one (.h 2))], [(81, [.h 3, .h 4, .h 5])], [(184385, 1)], [], []⟩)] .nil .nil))) (.seq .nil (.seq (.seq .nil (.cond [(.n, ⟨[.int .i64, .sl true 42 (.pair (.int .i64) (.pair (.int .i64) .str)), .int .i64, .int .i64, .sl false 5 (.int .u8), .int .i64, .int .u64], [(0, .pl 81 0), (1, .one (.h 0)), (5, .one (.vw 184386)), (6, .one (.h 2)), (8, .one (.h 3))], [(81, [.h 4, .h 5, .h 6])], [(184386, 1)], [], []⟩)] .nil .nil)) (.seq (.seq .nil (.cond [(.n, ⟨[.int .i64, .sl true 42 (.pair (.int .i64) (.pair (.int .i64) .str)), .int .i64, .int .i64, .sl false 5 (.int .u8), .int .i64, .int .u64], [(0, .pl 81 0), (1, .one (.h 0)), (5, .one (.vw 184387)), (6, .one (.h 2)), (8, .one (.h 3))], [(81, [.h 4, .h 5, .h 6])], [(184387, 1)], [], []⟩)] .nil .nil)) (.seq (.seq .nil (.cond [(.n, ⟨[.int .i64, .sl true 42 (.pair (.int .i64) (.pair (.int .i64) .str)), .int .i64, .int .i64, .sl false 5 (.int .u8), .int .i64, .int .u64], [(0, .pl 81 0), (1, .one (.h 0)), (5, .one (.vw 184388)), (6, .one (.h 2)), (8, .one (.h 3))], [(81, [.h 4, .h 5, .h 6])], [(184388, 1)], [], []⟩)] .nil .nil)) .nil))))))))) (.seq (.seq .nil (.seq (.reg [(.n, ⟨[.sl true 42 (.pair (.int .i64) (.pair (.int .i64) .str)), .str, .bool, .sl false 5 (.int .u8), .int .i64, .int .u64], [(0, .pl 81 0), (5, .one (.vw 184390)), (9, .one (.h 1)), (67, .one (.h 2))], [(81, [.h 3, .h 4, .h 5])], [(184390, 0)], [], []⟩)]) (.cond [(.n, ⟨[.sl true 42 (.pair (.int .i64) (.pair (.int .i64) .str)), .sl false 5 (.int .u8), .int .i64, .int .u64], [(0, .pl 81 0), (5, .one (.vw 184391))], [(81, [.h 1, .h 2, .h 3])], [(184391, 0)], [], []⟩)] .nil .nil))) (.seq (.seq .nil (.cond [(.n, ⟨[.sl true 42 (.pair (.int .i64) (.pair (.int .i64) .str)), .sl false 5 (.int .u8), .int .i64, .int .u64], [(5, .one (.vw 184392))], [(81, [.h 1, .h 2, .h 3])], [(184392, 0)], [], []⟩)] .nil .nil)) .nil)))))
def env_s_l1Cur_changeOf_f : Env := envOf ti [k_s_l1Cur_put_f, k_s_l1Cur_one_f, k_s_l1Add, k_s_l1Cur_pick_f, k_s_l1Cur_part_f] []
theorem eok_s_l1Cur_changeOf_f : EnvOk Tryd.prog env_s_l1Cur_changeOf_f := envOf_ok tab mix _ _ (by
  intro k hk
  simp only [List.mem_cons, List.not_mem_nil, or_false] at hk
  rcases hk with rfl | rfl | rfl | rfl | rfl
  · exact s_s_l1Cur_put_f
  · exact s_s_l1Cur_one_f
  · exact s_s_l1Add
  · exact s_s_l1Cur_pick_f
  · exact s_s_l1Cur_part_f)
theorem v_s_l1Cur_changeOf_f (x0 : Int) (x1 : List Int) (x2 : Int) (x3 : Int) : (vfun env_s_l1Cur_changeOf_f Tryd.f48 J_s_l1Cur_changeOf_f ann_s_l1Cur_changeOf_f [] [.pl 0 0, .one ⟨.int .i64, x0⟩] [[⟨.sl false 5 (.int .u8), x1⟩, ⟨.int .i64, x2⟩, ⟨.int .u64, x3⟩]]).run = (G.s_l1Cur_changeOf_f x0 x1 x2 x3).bind fun y => some (Res.mk [.one ⟨.sl true 42 (.pair (.int .i64) (.pair (.int .i64) .str)), y.1⟩] [[⟨.sl false 5 (.int .u8), y.2.1⟩, ⟨.int .i64, y.2.2.1⟩, ⟨.int .u64, y.2.2.2⟩]] []) := by kernel_rfl
def k_s_l1Cur_changeOf_f : Kn := ⟨48, [0, 0], fun args rows => match args, rows with
  | [.pl 0 0, .one ⟨.int .i64, x0⟩], [[⟨.sl false 5 (.int .u8), x1⟩, ⟨.int .i64, x2⟩, ⟨.int .u64, x3⟩]] => some ⟨_, G.s_l1Cur_changeOf_f x0 x1 x2 x3, fun y => ⟨[.one ⟨.sl true 42 (.pair (.int .i64) (.pair (.int .i64) .str)), y.1⟩], [[⟨.sl false 5 (.int .u8), y.2.1⟩, ⟨.int .i64, y.2.2.1⟩, ⟨.int .u64, y.2.2.2⟩]], []⟩⟩
  | _, _ => none, []⟩
theorem s_s_l1Cur_changeOf_f : KnOk Tryd.prog k_s_l1Cur_changeOf_f := by
  intro args rows a h y hy
  simp only [k_s_l1Cur_changeOf_f] at h
  split at h
  · injection h with h
    subst h
    exact vfun_ok eok_s_l1Cur_changeOf_f Tryd.func48 rfl (by rw [v_s_l1Cur_changeOf_f]; simp only at hy; rw [hy]; rfl)
  · cases h
end
end Go.Proofs.YtijemcbcchnnjaaDoor

set_option linter.unusedVariables false
set_option maxRecDepth 100000
namespace Go.Proofs.YtijemcbcchnnjaaDoor
open Go.V
noncomputable section
def J_s_DrawGoodChange : Joins := [(.r, ⟨[.sl true 42 (.pair (.int .i64) (.pair (.int .i64) .str))], [(2, .one (.vw 130113))], [], [(130113, 0)], [], []⟩)]
def ann_s_DrawGoodChange : Ann := .seq .nil (.seq .nil (.seq (.seq .nil (.cond [] (.seq .nil (.seq (.seq .nil (.block [] (.loop ⟨[.sl true 42 (.pair (.int .i64) (.pair (.int .i64) .str)), .int .i64, .sl false 5 (.int .u8), .int .i64, .int .u64], [(3, .pl 8 0), (4, .one (.vw 130048)), (5, .one (.h 1))], [(8, [.h 2, .h 3, .h 4])], [(130048, 0)], [], []⟩ [(.x 0, ⟨[.sl true 42 (.pair (.int .i64) (.pair (.int .i64) .str))], [(4, .one (.vw 130112))], [], [(130112, 0)], [], []⟩)] .nil))) .nil)) .nil)) .nil))
def env_s_DrawGoodChange : Env := envOf ti [k_s_l1Cur_one_f, k_s_l1Cur_pick_f, k_s_l1Cur_part_f, k_s_l1Cur_size_f, k_s_l1Cur_changeOf_f] []
theorem eok_s_DrawGoodChange : EnvOk Tryd.prog env_s_DrawGoodChange := envOf_ok tab mix _ _ (by
  intro k hk
  simp only [List.mem_cons, List.not_mem_nil, or_false] at hk
  rcases hk with rfl | rfl | rfl | rfl | rfl
  · exact s_s_l1Cur_one_f
  · exact s_s_l1Cur_pick_f
  · exact s_s_l1Cur_part_f
  · exact s_s_l1Cur_size_f
  · exact s_s_l1Cur_changeOf_f)
theorem v_s_DrawGoodChange (x0 : List Int) : (vfun env_s_DrawGoodChange Tryd.f31 J_s_DrawGoodChange ann_s_DrawGoodChange [] [.one ⟨.sl false 5 (.int .u8), x0⟩] []).run = (G.s_DrawGoodChange x0).bind fun y => some (Res.mk [.one ⟨.sl true 42 (.pair (.int .i64) (.pair (.int .i64) .str)), y⟩] [] []) := by kernel_rfl
def k_s_DrawGoodChange : Kn := ⟨31, [0], fun args rows => match args, rows with
  | [.one ⟨.sl false 5 (.int .u8), x0⟩], [] => some ⟨_, G.s_DrawGoodChange x0, fun y => ⟨[.one ⟨.sl true 42 (.pair (.int .i64) (.pair (.int .i64) .str)), y⟩], [], []⟩⟩
  | _, _ => none, []⟩
theorem s_s_DrawGoodChange : KnOk Tryd.prog k_s_DrawGoodChange := by
  intro args rows a h y hy
  simp only [k_s_DrawGoodChange] at h
  split at h
  · injection h with h
    subst h
    exact vfun_ok eok_s_DrawGoodChange Tryd.func31 rfl (by rw [v_s_DrawGoodChange]; simp only at hy; rw [hy]; rfl)
  · cases h
def J_s_DrawChangeText : Joins := [(.r, ⟨[.sl true 42 (.pair (.int .i64) (.pair (.int .i64) .str))], [(2, .one (.vw 107520))], [], [(107520, 0)], [], []⟩)]
def ann_s_DrawChangeText : Ann := .nil
def env_s_DrawChangeText : Env := envOf ti [k_s_DrawGoodChange] []
theorem eok_s_DrawChangeText : EnvOk Tryd.prog env_s_DrawChangeText := envOf_ok tab mix _ _ (by
  intro k hk
  simp only [List.mem_cons, List.not_mem_nil, or_false] at hk
  rcases hk with rfl
  · exact s_s_DrawGoodChange)
theorem v_s_DrawChangeText (x0 : List Int) : (vfun env_s_DrawChangeText Tryd.f15 J_s_DrawChangeText ann_s_DrawChangeText [] [.one ⟨.sl false 5 (.int .u8), x0⟩] []).run = (G.s_DrawChangeText x0).bind fun y => some (Res.mk [.one ⟨.sl true 42 (.pair (.int .i64) (.pair (.int .i64) .str)), y⟩] [] []) := by kernel_rfl
def k_s_DrawChangeText : Kn := ⟨15, [0], fun args rows => match args, rows with
  | [.one ⟨.sl false 5 (.int .u8), x0⟩], [] => some ⟨_, G.s_DrawChangeText x0, fun y => ⟨[.one ⟨.sl true 42 (.pair (.int .i64) (.pair (.int .i64) .str)), y⟩], [], []⟩⟩
  | _, _ => none, []⟩
theorem s_s_DrawChangeText : KnOk Tryd.prog k_s_DrawChangeText := by
  intro args rows a h y hy
  simp only [k_s_DrawChangeText] at h
  split at h
  · injection h with h
    subst h
    exact vfun_ok eok_s_DrawChangeText Tryd.func15 rfl (by rw [v_s_DrawChangeText]; simp only at hy; rw [hy]; rfl)
  · cases h
def J_i_Part_kind : Joins := [(.r, ⟨[.int .i64], [(2, .one (.h 0))], [], [], [], []⟩)]
def ann_i_Part_kind : Ann := .seq .nil (.seq (.block [] (.seq (.reg [(.n, ⟨[.bool, .int .i64, .int .i64, .str], [(1, .pl 1 0), (3, .one (.h 0))], [(1, [.h 1, .h 2, .h 3])], [], [], []⟩)]) (.cond [] .nil (.seq (.reg [(.n, ⟨[.bool, .int .i64, .int .i64, .str], [(1, .pl 1 0), (17, .one (.h 0))], [(1, [.h 1, .h 2, .h 3])], [], [], []⟩)]) (.cond [] .nil (.seq (.reg [(.n, ⟨[.bool], [(31, .one (.h 0))], [], [], [], []⟩)]) .nil)))))) .nil)
def env_i_Part_kind : Env := envOf ti [] []
theorem eok_i_Part_kind : EnvOk Tryd.prog env_i_Part_kind := envOf_ok tab mix _ _ (by
  intro k hk; cases hk)
theorem v_i_Part_kind (x0 : Int) (x1 : Int) (x2 : List UInt8) : (vfun env_i_Part_kind Tryd.f35 J_i_Part_kind ann_i_Part_kind [] [.ag [⟨.int .i64, x0⟩, ⟨.int .i64, x1⟩, ⟨.str, x2⟩]] []).run = (G.i_Part_kind x0 x1 x2).bind fun y => some (Res.mk [.one ⟨.int .i64, y⟩] [] []) := by kernel_rfl
def k_i_Part_kind : Kn := ⟨35, [0], fun args rows => match args, rows with
  | [.ag [⟨.int .i64, x0⟩, ⟨.int .i64, x1⟩, ⟨.str, x2⟩]], [] => some ⟨_, G.i_Part_kind x0 x1 x2, fun y => ⟨[.one ⟨.int .i64, y⟩], [], []⟩⟩
  | _, _ => none, []⟩
theorem s_i_Part_kind : KnOk Tryd.prog k_i_Part_kind := by
  intro args rows a h y hy
  simp only [k_i_Part_kind] at h
  split at h
  · injection h with h
    subst h
    exact vfun_ok eok_i_Part_kind Tryd.func35 rfl (by rw [v_i_Part_kind]; simp only at hy; rw [hy]; rfl)
  · cases h
def J_i_lengths : Joins := [(.r, ⟨[.int .i64, .int .i64, .bool], [(2, .one (.h 0)), (3, .one (.h 1)), (4, .one (.h 2))], [], [], [], []⟩)]
def ann_i_lengths : Ann := .seq .nil (.seq .nil (.seq (.seq .nil (.block [] (.loop ⟨[.int .i64, .int .i64, .sl false 42 (.pair (.int .i64) (.pair (.int .i64) .str)), .int .i64, .int .i64], [(5, .one (.h 0)), (6, .one (.h 1)), (9, .one (.h 2)), (10, .one (.h 3)), (11, .one (.h 4))], [], [], [], []⟩ [(.x 0, ⟨[.int .i64, .int .i64], [(5, .one (.h 0)), (6, .one (.h 1))], [], [], [], []⟩), (.r, ⟨[.int .i64, .int .i64, .bool], [(2, .one (.h 0)), (3, .one (.h 1)), (4, .one (.h 2))], [], [], [], []⟩)] (.seq .nil (.seq .nil (.seq (.block [] (.seq .nil (.seq (.seq (.reg [(.n, ⟨[.int .i64, .int .i64, .sl false 42 (.pair (.int .i64) (.pair (.int .i64) .str)), .int .i64, .int .i64, .bool, .int .i64, .int .i64, .str], [(5, .one (.h 0)), (6, .one (.h 1)), (8, .pl 8 0), (9, .one (.h 2)), (10, .one (.h 3)), (11, .one (.h 4)), (22, .one (.h 5))], [(8, [.h 6, .h 7, .h 8])], [], [], []⟩)]) .nil) (.seq .nil (.seq .nil (.seq (.reg [(.n, ⟨[.int .i64, .int .i64, .sl false 42 (.pair (.int .i64) (.pair (.int .i64) .str)), .int .i64, .int .i64, .bool], [(5, .one (.h 0)), (6, .one (.h 1)), (9, .one (.h 2)), (10, .one (.h 3)), (11, .one (.h 4)), (43, .one (.h 5))], [], [], [], []⟩)]) .nil)))))) .nil)))))) .nil))
def env_i_lengths : Env := envOf ti [] []
theorem eok_i_lengths : EnvOk Tryd.prog env_i_lengths := envOf_ok tab mix _ _ (by
  intro k hk; cases hk)
theorem v_i_lengths (x0 : List (Int × (Int × List UInt8))) : (vfun env_i_lengths Tryd.f36 J_i_lengths ann_i_lengths [] [.one ⟨.sl false 42 (.pair (.int .i64) (.pair (.int .i64) .str)), x0⟩] []).run = (G.i_lengths x0).bind fun y => some (Res.mk [.one ⟨.int .i64, y.1⟩, .one ⟨.int .i64, y.2.1⟩, .one ⟨.bool, y.2.2⟩] [] []) := by kernel_rfl
def k_i_lengths : Kn := ⟨36, [0], fun args rows => match args, rows with
  | [.one ⟨.sl false 42 (.pair (.int .i64) (.pair (.int .i64) .str)), x0⟩], [] => some ⟨_, G.i_lengths x0, fun y => ⟨[.one ⟨.int .i64, y.1⟩, .one ⟨.int .i64, y.2.1⟩, .one ⟨.bool, y.2.2⟩], [], []⟩⟩
  | _, _ => none, []⟩
theorem s_i_lengths : KnOk Tryd.prog k_i_lengths := by
  intro args rows a h y hy
  simp only [k_i_lengths] at h
  split at h
  · injection h with h
    subst h
    exact vfun_ok eok_i_lengths Tryd.func36 rfl (by rw [v_i_lengths]; simp only at hy; rw [hy]; rfl)
  · cases h
def J_i_GoodChange : Joins := [(.r, ⟨[.bool], [(2, .one (.h 0))], [], [], [], []⟩)]
def ann_i_GoodChange : Ann := .seq .nil (.seq (.seq .nil (.block [] (.loop ⟨[.sl false 42 (.pair (.int .i64) (.pair (.int .i64) .str)), .sl false 42 (.pair (.int .i64) (.pair (.int .i64) .str)), .int .i64, .int .i64], [(0, .one (.h 0)), (9, .one (.h 1)), (10, .one (.h 2)), (11, .one (.h 3))], [], [], [], []⟩ [(.x 0, ⟨[.sl false 42 (.pair (.int .i64) (.pair (.int .i64) .str))], [(0, .one (.h 0))], [], [], [], []⟩), (.r, ⟨[.bool], [(2, .one (.h 0))], [], [], [], []⟩)] (.seq .nil (.seq .nil (.seq (.block [] (.seq .nil (.seq .nil (.seq (.reg [(.n, ⟨[.sl false 42 (.pair (.int .i64) (.pair (.int .i64) .str)), .sl false 42 (.pair (.int .i64) (.pair (.int .i64) .str)), .int .i64, .int .i64, .bool], [(0, .one (.h 0)), (9, .one (.h 1)), (10, .one (.h 2)), (11, .one (.h 3)), (33, .one (.h 4))], [], [], [], []⟩)]) .nil)))) .nil)))))) .nil)
def env_i_GoodChange : Env := envOf ti [k_i_Part_kind, k_i_lengths] []
theorem eok_i_GoodChange : EnvOk Tryd.prog env_i_GoodChange := envOf_ok tab mix _ _ (by
  intro k hk
  simp only [List.mem_cons, List.not_mem_nil, or_false] at hk
  rcases hk with rfl | rfl
  · exact s_i_Part_kind
  · exact s_i_lengths)
theorem v_i_GoodChange (x0 : List (Int × (Int × List UInt8))) : (vfun env_i_GoodChange Tryd.f21 J_i_GoodChange ann_i_GoodChange [] [.one ⟨.sl false 42 (.pair (.int .i64) (.pair (.int .i64) .str)), x0⟩] []).run = (G.i_GoodChange x0).bind fun y => some (Res.mk [.one ⟨.bool, y⟩] [] []) := by kernel_rfl
def k_i_GoodChange : Kn := ⟨21, [0], fun args rows => match args, rows with
  | [.one ⟨.sl false 42 (.pair (.int .i64) (.pair (.int .i64) .str)), x0⟩], [] => some ⟨_, G.i_GoodChange x0, fun y => ⟨[.one ⟨.bool, y⟩], [], []⟩⟩
  | _, _ => none, []⟩
theorem s_i_GoodChange : KnOk Tryd.prog k_i_GoodChange := by
  intro args rows a h y hy
  simp only [k_i_GoodChange] at h
  split at h
  · injection h with h
    subst h
    exact vfun_ok eok_i_GoodChange Tryd.func21 rfl (by rw [v_i_GoodChange]; simp only at hy; rw [hy]; rfl)
  · cases h
def itoaL_ren : Go.Shelf.Ren := ⟨fun x => match x with | 129 => 95 | 171 => 37 | 243 => 50 | 246 => 65 | 283 => 81 | 284 => 82 | 285 => 83 | 286 => 84 | 317 => 94 | 318 => 96 | 319 => 97 | 320 => 98 | 337 => 101 | 338 => 102 | n => n, fun x => match x with | 0 => 0 | 171 => 98 | 173 => 101 | 2 => 2 | 20 => 20 | 212 => 110 | 213 => 112 | 232 => 124 | 233 => 125 | 3 => 3 | 37 => 34 | 4 => 4 | 46 => 75 | 5 => 5 | 51 => 111 | 53 => 65 | 9 => 9 | n => n, fun x => match x with | 17 => 3 | 18 => 6 | 19 => 7 | n => n⟩
theorem itoaL : Go.Proofs.LaysM.n171 Tryd.prog itoaL_ren where
  mixed := by kernel_rfl
  f129 := Tryd.func95.trans (congrArg some (by kernel_rfl))
  f171 := Tryd.func37.trans (congrArg some (by kernel_rfl))
  f243 := Tryd.func50.trans (congrArg some (by kernel_rfl))
  f246 := Tryd.func65.trans (congrArg some (by kernel_rfl))
  f283 := Tryd.func81.trans (congrArg some (by kernel_rfl))
  f284 := Tryd.func82.trans (congrArg some (by kernel_rfl))
  f285 := Tryd.func83.trans (congrArg some (by kernel_rfl))
  f286 := Tryd.func84.trans (congrArg some (by kernel_rfl))
  f317 := Tryd.func94.trans (congrArg some (by kernel_rfl))
  f318 := Tryd.func96.trans (congrArg some (by kernel_rfl))
  f319 := Tryd.func97.trans (congrArg some (by kernel_rfl))
  f320 := Tryd.func98.trans (congrArg some (by kernel_rfl))
  f337 := Tryd.func101.trans (congrArg some (by kernel_rfl))
  f338 := Tryd.func102.trans (congrArg some (by kernel_rfl))
  t0 := Tryd.underlying0
  a0 := Tryd.isAgg0
  z0 := Tryd.sizeOf0
  v0 := Tryd.zeroValue0
  t2 := Tryd.underlying2
  a2 := Tryd.isAgg2
  z2 := Tryd.sizeOf2
  v2 := Tryd.zeroValue2
  t3 := Tryd.underlying3
  a3 := Tryd.isAgg3
  z3 := Tryd.sizeOf3
  v3 := Tryd.zeroValue3
  t4 := Tryd.underlying4
  a4 := Tryd.isAgg4
  z4 := Tryd.sizeOf4
  v4 := Tryd.zeroValue4
  t5 := Tryd.underlying5
  a5 := Tryd.isAgg5
  z5 := Tryd.sizeOf5
  v5 := Tryd.zeroValue5
  t9 := Tryd.underlying9
  a9 := Tryd.isAgg9
  z9 := Tryd.sizeOf9
  v9 := Tryd.zeroValue9
  t20 := Tryd.underlying20
  a20 := Tryd.isAgg20
  z20 := Tryd.sizeOf20
  v20 := Tryd.zeroValue20
  t37 := Tryd.underlying34
  a37 := Tryd.isAgg34
  z37 := Tryd.sizeOf34
  v37 := Tryd.zeroValue34
  t46 := Tryd.underlying75
  a46 := Tryd.isAgg75
  z46 := Tryd.sizeOf75
  v46 := Tryd.zeroValue75
  t51 := Tryd.underlying111
  a51 := Tryd.isAgg111
  z51 := Tryd.sizeOf111
  v51 := Tryd.zeroValue111
  t53 := Tryd.underlying65
  a53 := Tryd.isAgg65
  z53 := Tryd.sizeOf65
  v53 := Tryd.zeroValue65
  t171 := Tryd.underlying98
  a171 := Tryd.isAgg98
  z171 := Tryd.sizeOf98
  v171 := Tryd.zeroValue98
  t173 := Tryd.underlying101
  a173 := Tryd.isAgg101
  z173 := Tryd.sizeOf101
  v173 := Tryd.zeroValue101
  t212 := Tryd.underlying110
  a212 := Tryd.isAgg110
  z212 := Tryd.sizeOf110
  v212 := Tryd.zeroValue110
  t213 := Tryd.underlying112
  a213 := Tryd.isAgg112
  z213 := Tryd.sizeOf112
  t232 := Tryd.underlying124
  a232 := Tryd.isAgg124
  z232 := Tryd.sizeOf124
  v232 := Tryd.zeroValue124
  t233 := Tryd.underlying125
  a233 := Tryd.isAgg125
  z233 := Tryd.sizeOf125
  v233 := Tryd.zeroValue125
  g17 := by kernel_rfl
  g18 := by kernel_rfl
  g19 := by kernel_rfl
  i0 := by kernel_rfl
  i2 := by kernel_rfl
  i3 := by kernel_rfl
  i4 := by kernel_rfl
  i5 := by kernel_rfl
  i9 := by kernel_rfl
  i20 := by kernel_rfl
  i37 := by kernel_rfl
  i46 := by kernel_rfl
  i51 := by kernel_rfl
  i53 := by kernel_rfl
  i171 := by kernel_rfl
  i173 := by kernel_rfl
  i212 := by kernel_rfl
  i232 := by kernel_rfl
  i233 := by kernel_rfl
  m17 := by kernel_rfl
  m18 := by kernel_rfl
  m19 := by kernel_rfl
theorem decF_eq (u : Nat) : G.decF u = Lib.decDigits u := by
  induction u using Nat.strongRecOn with
  | ind u ih =>
    rw [G.decF, Lib.decDigits]
    split
    · rfl
    · rw [ih (u / 10) (by omega)]
theorem itoaF_eq (n : Int) : G.itoaF n = Lib.itoa n := by
  unfold G.itoaF Lib.itoa
  rw [decF_eq, decF_eq]
theorem pow_named : Tryd.prog.globalNamed "internal/strconv.uint64pow10" = some 3 := by kernel_rfl
theorem tab_of (w : World) (h : GlF w) : Lib.TabIs Tryd.prog w "internal/strconv.uint64pow10" .u64 Lib.pow10Tab := by
  unfold Lib.TabIs World.var?
  rw [pow_named]
  first | exact h | exact h.pow
def k_strconv_Itoa : Kn := ⟨37, [0], fun args rows => match args, rows with
  | [.one ⟨.int .i64, x0⟩], [] => some ⟨_, G.strconv_Itoa x0, fun y => ⟨[.one ⟨.str, y⟩], [], []⟩⟩
  | _, _ => none, []⟩
theorem s_strconv_Itoa : KnOk Tryd.prog k_strconv_Itoa := by
  intro args rows a h y hy
  simp only [k_strconv_Itoa] at h
  split at h
  · injection h with h
    subst h
    simp only [G.strconv_Itoa] at hy
    split at hy
    · rename_i hc
      injection hy with hy
      subst hy
      rw [itoaF_eq]
      exact itoa_sound itoaL tab_of _ hc.1 hc.2
    · cases hy
  · cases h
def J_i_isPlain : Joins := [(.r, ⟨[.bool], [(2, .one (.h 0))], [], [], [], []⟩)]
def ann_i_isPlain : Ann := .seq .nil (.seq (.reg [(.n, ⟨[.bool], [(2, .one (.h 0))], [], [], [], []⟩)]) .nil)
def env_i_isPlain : Env := envOf ti [] []
theorem eok_i_isPlain : EnvOk Tryd.prog env_i_isPlain := envOf_ok tab mix _ _ (by
  intro k hk; cases hk)
theorem v_i_isPlain (x0 : Int) : (vfun env_i_isPlain Tryd.f51 J_i_isPlain ann_i_isPlain [] [.one ⟨.int .u8, x0⟩] []).run = (G.i_isPlain x0).bind fun y => some (Res.mk [.one ⟨.bool, y⟩] [] []) := by kernel_rfl
def k_i_isPlain : Kn := ⟨51, [0], fun args rows => match args, rows with
  | [.one ⟨.int .u8, x0⟩], [] => some ⟨_, G.i_isPlain x0, fun y => ⟨[.one ⟨.bool, y⟩], [], []⟩⟩
  | _, _ => none, []⟩
theorem s_i_isPlain : KnOk Tryd.prog k_i_isPlain := by
  intro args rows a h y hy
  simp only [k_i_isPlain] at h
  split at h
  · injection h with h
    subst h
    exact vfun_ok eok_i_isPlain Tryd.func51 rfl (by rw [v_i_isPlain]; simp only at hy; rw [hy]; rfl)
  · cases h
def J_i_coded : Joins := [(.r, ⟨[.str], [(2, .one (.h 0))], [], [], [], []⟩)]
def ann_i_coded : Ann := .seq .nil (.seq .nil (.seq (.seq .nil (.block [] (.loop ⟨[.str, .str, .int .i64, .int .i64], [(0, .one (.h 0)), (3, .one (.h 1)), (7, .one (.h 2)), (8, .one (.h 3))], [], [], [], []⟩ [(.x 0, ⟨[.str], [(3, .one (.h 0))], [], [], [], []⟩)] (.seq .nil (.seq .nil (.seq (.block [] (.seq .nil (.seq .nil (.seq .nil (.cond [(.n, ⟨[.str, .str, .int .i64, .int .i64], [(0, .one (.h 0)), (3, .one (.h 1)), (7, .one (.h 2)), (8, .one (.h 3))], [], [], [], []⟩)] .nil .nil))))) .nil)))))) .nil))
def env_i_coded : Env := envOf ti [k_i_isPlain] []
theorem eok_i_coded : EnvOk Tryd.prog env_i_coded := envOf_ok tab mix _ _ (by
  intro k hk
  simp only [List.mem_cons, List.not_mem_nil, or_false] at hk
  rcases hk with rfl
  · exact s_i_isPlain)
theorem v_i_coded (x0 : List UInt8) : (vfun env_i_coded Tryd.f38 J_i_coded ann_i_coded [] [.one ⟨.str, x0⟩] []).run = (G.i_coded x0).bind fun y => some (Res.mk [.one ⟨.str, y⟩] [] []) := by kernel_rfl
def k_i_coded : Kn := ⟨38, [0], fun args rows => match args, rows with
  | [.one ⟨.str, x0⟩], [] => some ⟨_, G.i_coded x0, fun y => ⟨[.one ⟨.str, y⟩], [], []⟩⟩
  | _, _ => none, []⟩
theorem s_i_coded : KnOk Tryd.prog k_i_coded := by
  intro args rows a h y hy
  simp only [k_i_coded] at h
  split at h
  · injection h with h
    subst h
    exact vfun_ok eok_i_coded Tryd.func38 rfl (by rw [v_i_coded]; simp only at hy; rw [hy]; rfl)
  · cases h
def joinL_ren : Go.Shelf.Ren := ⟨fun x => match x with | 156 => 39 | 165 => 52 | 166 => 53 | 169 => 54 | 240 => 66 | 241 => 67 | 276 => 85 | 277 => 86 | n => n, fun x => match x with | 0 => 0 | 127 => 86 | 164 => 103 | 20 => 20 | 3 => 3 | 31 => 45 | 37 => 34 | 4 => 4 | 5 => 5 | 70 => 76 | 72 => 78 | 75 => 62 | 76 => 63 | 80 => 80 | 9 => 9 | n => n, fun n => n⟩
theorem joinL : Go.Proofs.Lays.n156 Tryd.prog joinL_ren where
  mixed := by kernel_rfl
  f156 := Tryd.func39.trans (congrArg some (by kernel_rfl))
  f165 := Tryd.func52.trans (congrArg some (by kernel_rfl))
  f166 := Tryd.func53.trans (congrArg some (by kernel_rfl))
  f169 := Tryd.func54.trans (congrArg some (by kernel_rfl))
  f240 := Tryd.func66.trans (congrArg some (by kernel_rfl))
  f241 := Tryd.func67.trans (congrArg some (by kernel_rfl))
  f276 := Tryd.func85.trans (congrArg some (by kernel_rfl))
  f277 := Tryd.func86.trans (congrArg some (by kernel_rfl))
  t0 := Tryd.underlying0
  a0 := Tryd.isAgg0
  z0 := Tryd.sizeOf0
  v0 := Tryd.zeroValue0
  t3 := Tryd.underlying3
  a3 := Tryd.isAgg3
  z3 := Tryd.sizeOf3
  v3 := Tryd.zeroValue3
  t4 := Tryd.underlying4
  a4 := Tryd.isAgg4
  z4 := Tryd.sizeOf4
  v4 := Tryd.zeroValue4
  t9 := Tryd.underlying9
  a9 := Tryd.isAgg9
  z9 := Tryd.sizeOf9
  v9 := Tryd.zeroValue9
  t20 := Tryd.underlying20
  a20 := Tryd.isAgg20
  z20 := Tryd.sizeOf20
  v20 := Tryd.zeroValue20
  t31 := Tryd.underlying45
  a31 := Tryd.isAgg45
  z31 := Tryd.sizeOf45
  v31 := Tryd.zeroValue45
  t37 := Tryd.underlying34
  a37 := Tryd.isAgg34
  z37 := Tryd.sizeOf34
  v37 := Tryd.zeroValue34
  t70 := Tryd.underlying76
  a70 := Tryd.isAgg76
  z70 := Tryd.sizeOf76
  v70 := Tryd.zeroValue76
  t72 := Tryd.underlying78
  a72 := Tryd.isAgg78
  z72 := Tryd.sizeOf78
  v72 := Tryd.zeroValue78
  t75 := Tryd.underlying62
  a75 := Tryd.isAgg62
  z75 := Tryd.sizeOf62
  v75 := Tryd.zeroValue62
  t76 := Tryd.underlying63
  a76 := Tryd.isAgg63
  z76 := Tryd.sizeOf63
  v76 := Tryd.zeroValue63
  t127 := Tryd.underlying86
  a127 := Tryd.isAgg86
  z127 := Tryd.sizeOf86
  v127 := Tryd.zeroValue86
  t164 := Tryd.underlying103
  a164 := Tryd.isAgg103
  z164 := Tryd.sizeOf103
  v164 := Tryd.zeroValue103
theorem joinX : Go.Proofs.Builder.Extra Tryd.prog joinL_ren where
  sizeBuilder := by kernel_rfl
  liesBuilder := by kernel_rfl
  t5 := Tryd.underlying5
  a5 := Tryd.isAgg5
  z5 := Tryd.sizeOf5
  v5 := Tryd.zeroValue5
  infoByte := by kernel_rfl
  cellsByte := by kernel_rfl
  sizeByte := by kernel_rfl
  neB5 := by decide
def k_strings_Join : Kn := ⟨39, [1, 0], fun args rows => match args, rows with
  | [.one ⟨.sl true 9 .str, x0⟩, .one ⟨.str, x1⟩], [] => some ⟨_, G.strings_Join x0 x1, fun y => ⟨[.one ⟨.str, y⟩], [], []⟩⟩
  | _, _ => none, []⟩
theorem s_strings_Join : KnOk Tryd.prog k_strings_Join := by
  intro args rows a h y hy
  simp only [k_strings_Join] at h
  split at h
  · injection h with h
    subst h
    simp only [G.strings_Join] at hy
    split at hy
    · rename_i hc
      injection hy with hy
      subst hy
      exact join_sound joinL joinX _ _ _ hc.1 hc.2
    · cases hy
  · cases h
def J_i_changeText : Joins := [(.r, ⟨[.str], [(2, .one (.h 0))], [], [], [], []⟩)]
def ann_i_changeText : Ann := .seq .nil (.seq .nil (.seq (.seq .nil (.block [] (.loop ⟨[.sl true 9 .str, .sl false 42 (.pair (.int .i64) (.pair (.int .i64) .str)), .int .i64, .int .i64], [(3, .one (.vw 149504)), (7, .one (.h 1)), (8, .one (.h 2)), (9, .one (.h 3))], [], [(149504, 0)], [], []⟩ [(.x 0, ⟨[.sl true 9 .str], [(3, .one (.vw 149570))], [], [(149570, 0)], [], []⟩)] (.seq .nil (.seq .nil (.seq (.block [] (.seq .nil (.seq .nil (.block [] (.seq .nil (.cond [(.n, ⟨[.sl true 9 .str, .sl false 42 (.pair (.int .i64) (.pair (.int .i64) .str)), .int .i64, .int .i64], [(3, .one (.vw 149569)), (7, .one (.h 1)), (8, .one (.h 2)), (9, .one (.h 3))], [], [(149569, 0)], [], []⟩)] .nil (.seq .nil (.cond [(.n, ⟨[.sl true 9 .str, .sl false 42 (.pair (.int .i64) (.pair (.int .i64) .str)), .int .i64, .int .i64], [(3, .one (.vw 149568)), (7, .one (.h 1)), (8, .one (.h 2)), (9, .one (.h 3))], [], [(149568, 0)], [], []⟩)] .nil .nil)))))))) .nil)))))) .nil))
def env_i_changeText : Env := envOf ti [k_i_Part_kind, k_strconv_Itoa, k_i_coded, k_strings_Join] []
theorem eok_i_changeText : EnvOk Tryd.prog env_i_changeText := envOf_ok tab mix _ _ (by
  intro k hk
  simp only [List.mem_cons, List.not_mem_nil, or_false] at hk
  rcases hk with rfl | rfl | rfl | rfl
  · exact s_i_Part_kind
  · exact s_strconv_Itoa
  · exact s_i_coded
  · exact s_strings_Join)
theorem v_i_changeText (x0 : List (Int × (Int × List UInt8))) : (vfun env_i_changeText Tryd.f22 J_i_changeText ann_i_changeText [] [.one ⟨.sl false 42 (.pair (.int .i64) (.pair (.int .i64) .str)), x0⟩] []).run = (G.i_changeText x0).bind fun y => some (Res.mk [.one ⟨.str, y⟩] [] []) := by kernel_rfl
def k_i_changeText : Kn := ⟨22, [0], fun args rows => match args, rows with
  | [.one ⟨.sl false 42 (.pair (.int .i64) (.pair (.int .i64) .str)), x0⟩], [] => some ⟨_, G.i_changeText x0, fun y => ⟨[.one ⟨.str, y⟩], [], []⟩⟩
  | _, _ => none, []⟩
theorem s_i_changeText : KnOk Tryd.prog k_i_changeText := by
  intro args rows a h y hy
  simp only [k_i_changeText] at h
  split at h
  · injection h with h
    subst h
    exact vfun_ok eok_i_changeText Tryd.func22 rfl (by rw [v_i_changeText]; simp only at hy; rw [hy]; rfl)
  · cases h
def J_i_ChangeText : Joins := [(.r, ⟨[.str, .bool], [(2, .one (.h 0)), (3, .one (.h 1))], [], [], [], []⟩)]
def ann_i_ChangeText : Ann := .nil
def env_i_ChangeText : Env := envOf ti [k_i_GoodChange, k_i_changeText] []
theorem eok_i_ChangeText : EnvOk Tryd.prog env_i_ChangeText := envOf_ok tab mix _ _ (by
  intro k hk
  simp only [List.mem_cons, List.not_mem_nil, or_false] at hk
  rcases hk with rfl | rfl
  · exact s_i_GoodChange
  · exact s_i_changeText)
theorem v_i_ChangeText (x0 : List (Int × (Int × List UInt8))) : (vfun env_i_ChangeText Tryd.f9 J_i_ChangeText ann_i_ChangeText [] [.one ⟨.sl false 42 (.pair (.int .i64) (.pair (.int .i64) .str)), x0⟩] []).run = (G.i_ChangeText x0).bind fun y => some (Res.mk [.one ⟨.str, y.1⟩, .one ⟨.bool, y.2⟩] [] []) := by kernel_rfl
def k_i_ChangeText : Kn := ⟨9, [0], fun args rows => match args, rows with
  | [.one ⟨.sl false 42 (.pair (.int .i64) (.pair (.int .i64) .str)), x0⟩], [] => some ⟨_, G.i_ChangeText x0, fun y => ⟨[.one ⟨.str, y.1⟩, .one ⟨.bool, y.2⟩], [], []⟩⟩
  | _, _ => none, []⟩
theorem s_i_ChangeText : KnOk Tryd.prog k_i_ChangeText := by
  intro args rows a h y hy
  simp only [k_i_ChangeText] at h
  split at h
  · injection h with h
    subst h
    exact vfun_ok eok_i_ChangeText Tryd.func9 rfl (by rw [v_i_ChangeText]; simp only at hy; rw [hy]; rfl)
  · cases h
def J_s_GoodChange : Joins := [(.r, ⟨[.bool], [(2, .one (.h 0))], [], [], [], []⟩)]
def ann_s_GoodChange : Ann := .seq .nil (.seq .nil (.seq .nil (.seq (.seq .nil (.block [] (.loop ⟨[.sl false 42 (.pair (.int .i64) (.pair (.int .i64) .str)), .int .i64, .int .i64, .sl false 42 (.pair (.int .i64) (.pair (.int .i64) .str)), .int .i64, .int .i64], [(0, .one (.h 0)), (3, .one (.h 1)), (4, .one (.h 2)), (8, .one (.h 3)), (9, .one (.h 4)), (10, .one (.h 5))], [], [], [], []⟩ [(.x 0, ⟨[], [], [], [], [], []⟩), (.r, ⟨[.bool], [(2, .one (.h 0))], [], [], [], []⟩)] (.seq .nil (.seq .nil (.seq (.block [] (.seq .nil (.seq .nil (.seq (.seq (.reg [(.n, ⟨[.sl false 42 (.pair (.int .i64) (.pair (.int .i64) .str)), .int .i64, .int .i64, .sl false 42 (.pair (.int .i64) (.pair (.int .i64) .str)), .int .i64, .int .i64, .bool, .int .i64, .int .i64, .str], [(0, .one (.h 0)), (3, .one (.h 1)), (4, .one (.h 2)), (6, .pl 6 0), (8, .one (.h 3)), (9, .one (.h 4)), (10, .one (.h 5)), (48, .one (.h 6))], [(6, [.h 7, .h 8, .h 9])], [], [], []⟩)]) .nil) (.seq .nil (.seq .nil (.seq (.reg [(.n, ⟨[.sl false 42 (.pair (.int .i64) (.pair (.int .i64) .str)), .int .i64, .int .i64, .sl false 42 (.pair (.int .i64) (.pair (.int .i64) .str)), .int .i64, .int .i64, .bool], [(0, .one (.h 0)), (3, .one (.h 1)), (4, .one (.h 2)), (8, .one (.h 3)), (9, .one (.h 4)), (10, .one (.h 5)), (69, .one (.h 6))], [], [], [], []⟩)]) .nil))))))) .nil)))))) .nil)))
def env_s_GoodChange : Env := envOf ti [k_s_l1Kind] []
theorem eok_s_GoodChange : EnvOk Tryd.prog env_s_GoodChange := envOf_ok tab mix _ _ (by
  intro k hk
  simp only [List.mem_cons, List.not_mem_nil, or_false] at hk
  rcases hk with rfl
  · exact s_s_l1Kind)
theorem v_s_GoodChange (x0 : List (Int × (Int × List UInt8))) : (vfun env_s_GoodChange Tryd.f18 J_s_GoodChange ann_s_GoodChange [] [.one ⟨.sl false 42 (.pair (.int .i64) (.pair (.int .i64) .str)), x0⟩] []).run = (G.s_GoodChange x0).bind fun y => some (Res.mk [.one ⟨.bool, y⟩] [] []) := by kernel_rfl
def k_s_GoodChange : Kn := ⟨18, [0], fun args rows => match args, rows with
  | [.one ⟨.sl false 42 (.pair (.int .i64) (.pair (.int .i64) .str)), x0⟩], [] => some ⟨_, G.s_GoodChange x0, fun y => ⟨[.one ⟨.bool, y⟩], [], []⟩⟩
  | _, _ => none, []⟩
theorem s_s_GoodChange : KnOk Tryd.prog k_s_GoodChange := by
  intro args rows a h y hy
  simp only [k_s_GoodChange] at h
  split at h
  · injection h with h
    subst h
    exact vfun_ok eok_s_GoodChange Tryd.func18 rfl (by rw [v_s_GoodChange]; simp only at hy; rw [hy]; rfl)
  · cases h
end
end Go.Proofs.YtijemcbcchnnjaaDoor

set_option linter.unusedVariables false
set_option maxRecDepth 100000
namespace Go.Proofs.YtijemcbcchnnjaaDoor
open Go.V
noncomputable section
def J_s_l1Num : Joins := [(.r, ⟨[.str], [(2, .one (.h 0))], [], [], [], []⟩)]
def ann_s_l1Num : Ann := .nil
def kf_s_l1Num (φ : Int → Option (List UInt8)) : Kn := ⟨33, [0], fun args rows => match args, rows with
  | [.one ⟨.int .i64, x0⟩], [] => some ⟨_, φ x0, fun y => ⟨[.one ⟨.str, y⟩], [], []⟩⟩
  | _, _ => none, []⟩
def env_s_l1Num (φ : Int → Option (List UInt8)) : Env := envOf ti [kf_s_l1Num φ] []
theorem v_s_l1Num (φ : Int → Option (List UInt8)) (x0 : Int) : (vfun (env_s_l1Num φ) Tryd.f33 J_s_l1Num ann_s_l1Num [] [.one ⟨.int .i64, x0⟩] []).run = (G.s_l1Num_step φ x0).bind fun y => some (Res.mk [.one ⟨.str, y⟩] [] []) := by kernel_rfl
theorem sk_s_l1Num : ∀ k, KnOk Tryd.prog (kf_s_l1Num (G.s_l1Num_at k)) := by
  intro k
  induction k with
  | zero =>
    intro args rows a h y hy
    simp only [kf_s_l1Num] at h
    split at h
    · injection h with h
      subst h
      cases hy
    · cases h
  | succ k ih =>
    have eok : EnvOk Tryd.prog (env_s_l1Num (G.s_l1Num_at k)) := envOf_ok tab mix _ _ (by
      intro k hk
      simp only [List.mem_cons, List.not_mem_nil, or_false] at hk
      rcases hk with rfl
      · exact ih
)
    intro args rows a h y hy
    simp only [kf_s_l1Num] at h
    split at h
    · injection h with h
      subst h
      exact vfun_ok eok Tryd.func33 rfl (by rw [v_s_l1Num]; replace hy : G.s_l1Num_step (G.s_l1Num_at k) _ = some y := hy; rw [hy]; rfl)
    · cases h
def k_s_l1Num : Kn := kf_s_l1Num G.s_l1Num
theorem s_s_l1Num : KnOk Tryd.prog k_s_l1Num := sk_s_l1Num 64
def J_s_l14Plain : Joins := [(.r, ⟨[.bool], [(2, .one (.h 0))], [], [], [], []⟩)]
def ann_s_l14Plain : Ann := .seq .nil (.seq (.reg [(.n, ⟨[.bool], [(2, .one (.h 0))], [], [], [], []⟩)]) .nil)
def env_s_l14Plain : Env := envOf ti [] []
theorem eok_s_l14Plain : EnvOk Tryd.prog env_s_l14Plain := envOf_ok tab mix _ _ (by
  intro k hk; cases hk)
theorem v_s_l14Plain (x0 : Int) : (vfun env_s_l14Plain Tryd.f40 J_s_l14Plain ann_s_l14Plain [] [.one ⟨.int .u8, x0⟩] []).run = (G.s_l14Plain x0).bind fun y => some (Res.mk [.one ⟨.bool, y⟩] [] []) := by kernel_rfl
def k_s_l14Plain : Kn := ⟨40, [0], fun args rows => match args, rows with
  | [.one ⟨.int .u8, x0⟩], [] => some ⟨_, G.s_l14Plain x0, fun y => ⟨[.one ⟨.bool, y⟩], [], []⟩⟩
  | _, _ => none, []⟩
theorem s_s_l14Plain : KnOk Tryd.prog k_s_l14Plain := by
  intro args rows a h y hy
  simp only [k_s_l14Plain] at h
  split at h
  · injection h with h
    subst h
    exact vfun_ok eok_s_l14Plain Tryd.func40 rfl (by rw [v_s_l14Plain]; simp only at hy; rw [hy]; rfl)
  · cases h
def J_s_l14Told : Joins := [(.r, ⟨[.str], [(2, .one (.h 0))], [], [], [], []⟩)]
def ann_s_l14Told : Ann := .seq .nil (.seq .nil (.seq (.seq .nil (.block [] (.loop ⟨[.str, .str, .int .i64], [(0, .one (.h 0)), (3, .one (.h 1)), (4, .one (.h 2))], [], [], [], []⟩ [(.x 0, ⟨[.str], [(3, .one (.h 0))], [], [], [], []⟩)] (.seq .nil (.seq (.block [(.n, ⟨[.str, .str, .int .i64], [(0, .one (.h 0)), (3, .one (.h 1)), (4, .one (.h 2))], [], [], [], []⟩)] .nil) .nil))))) .nil))
def env_s_l14Told : Env := envOf ti [k_s_l14Plain] []
theorem eok_s_l14Told : EnvOk Tryd.prog env_s_l14Told := envOf_ok tab mix _ _ (by
  intro k hk
  simp only [List.mem_cons, List.not_mem_nil, or_false] at hk
  rcases hk with rfl
  · exact s_s_l14Plain)
theorem v_s_l14Told (x0 : List UInt8) : (vfun env_s_l14Told Tryd.f34 J_s_l14Told ann_s_l14Told [] [.one ⟨.str, x0⟩] []).run = (G.s_l14Told x0).bind fun y => some (Res.mk [.one ⟨.str, y⟩] [] []) := by kernel_rfl
def k_s_l14Told : Kn := ⟨34, [0], fun args rows => match args, rows with
  | [.one ⟨.str, x0⟩], [] => some ⟨_, G.s_l14Told x0, fun y => ⟨[.one ⟨.str, y⟩], [], []⟩⟩
  | _, _ => none, []⟩
theorem s_s_l14Told : KnOk Tryd.prog k_s_l14Told := by
  intro args rows a h y hy
  simp only [k_s_l14Told] at h
  split at h
  · injection h with h
    subst h
    exact vfun_ok eok_s_l14Told Tryd.func34 rfl (by rw [v_s_l14Told]; simp only at hy; rw [hy]; rfl)
  · cases h
def J_s_l14Change : Joins := [(.r, ⟨[.str], [(2, .one (.h 0))], [], [], [], []⟩)]
def ann_s_l14Change : Ann := .seq .nil (.seq .nil (.seq .nil (.seq (.seq .nil (.block [] (.loop ⟨[.str, .sl false 42 (.pair (.int .i64) (.pair (.int .i64) .str)), .int .i64, .int .i64], [(3, .one (.h 0)), (9, .one (.h 1)), (10, .one (.h 2)), (11, .one (.h 3))], [], [], [], []⟩ [(.x 0, ⟨[.str], [(3, .one (.h 0))], [], [], [], []⟩)] (.seq .nil (.seq .nil (.seq (.block [] (.seq .nil (.seq (.seq .nil (.cond [(.n, ⟨[.str, .sl false 42 (.pair (.int .i64) (.pair (.int .i64) .str)), .int .i64, .int .i64, .int .i64, .int .i64, .str], [(3, .one (.h 0)), (5, .pl 5 0), (9, .one (.h 1)), (10, .one (.h 2)), (11, .one (.h 3))], [(5, [.h 4, .h 5, .h 6])], [], [], []⟩)] .nil .nil)) (.block [] (.seq .nil (.cond [(.n, ⟨[.str, .sl false 42 (.pair (.int .i64) (.pair (.int .i64) .str)), .int .i64, .int .i64], [(3, .one (.h 0)), (9, .one (.h 1)), (10, .one (.h 2)), (11, .one (.h 3))], [], [], [], []⟩)] .nil (.seq .nil (.cond [(.n, ⟨[.str, .sl false 42 (.pair (.int .i64) (.pair (.int .i64) .str)), .int .i64, .int .i64], [(3, .one (.h 0)), (9, .one (.h 1)), (10, .one (.h 2)), (11, .one (.h 3))], [], [], [], []⟩)] .nil .nil)))))))) .nil)))))) .nil)))
def env_s_l14Change : Env := envOf ti [k_s_l1Num, k_s_l14Told] []
theorem eok_s_l14Change : EnvOk Tryd.prog env_s_l14Change := envOf_ok tab mix _ _ (by
  intro k hk
  simp only [List.mem_cons, List.not_mem_nil, or_false] at hk
  rcases hk with rfl | rfl
  · exact s_s_l1Num
  · exact s_s_l14Told)
theorem v_s_l14Change (x0 : List (Int × (Int × List UInt8))) : (vfun env_s_l14Change Tryd.f19 J_s_l14Change ann_s_l14Change [] [.one ⟨.sl false 42 (.pair (.int .i64) (.pair (.int .i64) .str)), x0⟩] []).run = (G.s_l14Change x0).bind fun y => some (Res.mk [.one ⟨.str, y⟩] [] []) := by kernel_rfl
def k_s_l14Change : Kn := ⟨19, [0], fun args rows => match args, rows with
  | [.one ⟨.sl false 42 (.pair (.int .i64) (.pair (.int .i64) .str)), x0⟩], [] => some ⟨_, G.s_l14Change x0, fun y => ⟨[.one ⟨.str, y⟩], [], []⟩⟩
  | _, _ => none, []⟩
theorem s_s_l14Change : KnOk Tryd.prog k_s_l14Change := by
  intro args rows a h y hy
  simp only [k_s_l14Change] at h
  split at h
  · injection h with h
    subst h
    exact vfun_ok eok_s_l14Change Tryd.func19 rfl (by rw [v_s_l14Change]; simp only at hy; rw [hy]; rfl)
  · cases h
def J_s_ChangeText : Joins := [(.r, ⟨[.str, .bool], [(2, .one (.h 0)), (3, .one (.h 1))], [], [], [], []⟩)]
def ann_s_ChangeText : Ann := .nil
def env_s_ChangeText : Env := envOf ti [k_s_GoodChange, k_s_l14Change] []
theorem eok_s_ChangeText : EnvOk Tryd.prog env_s_ChangeText := envOf_ok tab mix _ _ (by
  intro k hk
  simp only [List.mem_cons, List.not_mem_nil, or_false] at hk
  rcases hk with rfl | rfl
  · exact s_s_GoodChange
  · exact s_s_l14Change)
theorem v_s_ChangeText (x0 : List (Int × (Int × List UInt8))) : (vfun env_s_ChangeText Tryd.f7 J_s_ChangeText ann_s_ChangeText [] [.one ⟨.sl false 42 (.pair (.int .i64) (.pair (.int .i64) .str)), x0⟩] []).run = (G.s_ChangeText x0).bind fun y => some (Res.mk [.one ⟨.str, y.1⟩, .one ⟨.bool, y.2⟩] [] []) := by kernel_rfl
def k_s_ChangeText : Kn := ⟨7, [0], fun args rows => match args, rows with
  | [.one ⟨.sl false 42 (.pair (.int .i64) (.pair (.int .i64) .str)), x0⟩], [] => some ⟨_, G.s_ChangeText x0, fun y => ⟨[.one ⟨.str, y.1⟩, .one ⟨.bool, y.2⟩], [], []⟩⟩
  | _, _ => none, []⟩
theorem s_s_ChangeText : KnOk Tryd.prog k_s_ChangeText := by
  intro args rows a h y hy
  simp only [k_s_ChangeText] at h
  split at h
  · injection h with h
    subst h
    exact vfun_ok eok_s_ChangeText Tryd.func7 rfl (by rw [v_s_ChangeText]; simp only at hy; rw [hy]; rfl)
  · cases h
def splitL_ren : Go.Shelf.Ren := ⟨fun x => match x with | 138 => 56 | 143 => 57 | 146 => 27 | 195 => 68 | 197 => 69 | 217 => 88 | 218 => 70 | 219 => 71 | 221 => 42 | 224 => 90 | 225 => 89 | 260 => 87 | 266 => 99 | 267 => 91 | 268 => 55 | 314 => 100 | n => n, fun x => match x with | 0 => 0 | 105 => 87 | 119 => 114 | 138 => 116 | 139 => 117 | 146 => 118 | 21 => 21 | 3 => 3 | 31 => 45 | 4 => 4 | 46 => 75 | 5 => 5 | 51 => 111 | 9 => 9 | n => n, fun x => match x with | 1 => 0 | 3 => 4 | 4 => 5 | n => n⟩
theorem splitL : Go.Proofs.Lays.n146 Tryd.prog splitL_ren where
  mixed := by kernel_rfl
  f138 := Tryd.func56.trans (congrArg some (by kernel_rfl))
  f143 := Tryd.func57.trans (congrArg some (by kernel_rfl))
  f146 := Tryd.func27.trans (congrArg some (by kernel_rfl))
  f195 := Tryd.func68.trans (congrArg some (by kernel_rfl))
  f197 := Tryd.func69.trans (congrArg some (by kernel_rfl))
  f217 := Tryd.func88.trans (congrArg some (by kernel_rfl))
  f218 := Tryd.func70.trans (congrArg some (by kernel_rfl))
  f219 := Tryd.func71.trans (congrArg some (by kernel_rfl))
  f221 := Tryd.func42.trans (congrArg some (by kernel_rfl))
  f224 := Tryd.func90.trans (congrArg some (by kernel_rfl))
  f225 := Tryd.func89.trans (congrArg some (by kernel_rfl))
  f260 := Tryd.func87.trans (congrArg some (by kernel_rfl))
  f266 := Tryd.func99.trans (congrArg some (by kernel_rfl))
  f267 := Tryd.func91.trans (congrArg some (by kernel_rfl))
  f268 := Tryd.func55.trans (congrArg some (by kernel_rfl))
  f314 := Tryd.func100.trans (congrArg some (by kernel_rfl))
  t0 := Tryd.underlying0
  a0 := Tryd.isAgg0
  z0 := Tryd.sizeOf0
  v0 := Tryd.zeroValue0
  t3 := Tryd.underlying3
  a3 := Tryd.isAgg3
  z3 := Tryd.sizeOf3
  v3 := Tryd.zeroValue3
  t4 := Tryd.underlying4
  a4 := Tryd.isAgg4
  z4 := Tryd.sizeOf4
  v4 := Tryd.zeroValue4
  t5 := Tryd.underlying5
  a5 := Tryd.isAgg5
  z5 := Tryd.sizeOf5
  v5 := Tryd.zeroValue5
  t9 := Tryd.underlying9
  a9 := Tryd.isAgg9
  z9 := Tryd.sizeOf9
  v9 := Tryd.zeroValue9
  t21 := Tryd.underlying21
  a21 := Tryd.isAgg21
  z21 := Tryd.sizeOf21
  v21 := Tryd.zeroValue21
  t31 := Tryd.underlying45
  a31 := Tryd.isAgg45
  z31 := Tryd.sizeOf45
  v31 := Tryd.zeroValue45
  t46 := Tryd.underlying75
  a46 := Tryd.isAgg75
  z46 := Tryd.sizeOf75
  v46 := Tryd.zeroValue75
  t51 := Tryd.underlying111
  a51 := Tryd.isAgg111
  z51 := Tryd.sizeOf111
  v51 := Tryd.zeroValue111
  t105 := Tryd.underlying87
  a105 := Tryd.isAgg87
  z105 := Tryd.sizeOf87
  v105 := Tryd.zeroValue87
  t119 := Tryd.underlying114
  a119 := Tryd.isAgg114
  z119 := Tryd.sizeOf114
  t138 := Tryd.underlying116
  a138 := Tryd.isAgg116
  z138 := Tryd.sizeOf116
  v138 := Tryd.zeroValue116
  t139 := Tryd.underlying117
  a139 := Tryd.isAgg117
  z139 := Tryd.sizeOf117
  v139 := Tryd.zeroValue117
  t146 := Tryd.underlying118
  a146 := Tryd.isAgg118
  z146 := Tryd.sizeOf118
  v146 := Tryd.zeroValue118
  g1 := by kernel_rfl
  g3 := by kernel_rfl
  g4 := by kernel_rfl
def k_strings_Split : Kn := ⟨27, [0, 0], fun args rows => match args, rows with
  | [.one ⟨.str, x0⟩, .one ⟨.str, x1⟩], [] => some ⟨_, G.strings_Split x0 x1, fun y => ⟨[.one ⟨.sl true 9 .str, y⟩], [], []⟩⟩
  | _, _ => none, []⟩
theorem s_strings_Split : KnOk Tryd.prog k_strings_Split := by
  intro args rows a h y hy
  simp only [k_strings_Split] at h
  split at h
  · injection h with h
    subst h
    simp only [G.strings_Split] at hy
    split at hy
    · split at hy
      · rename_i hc
        injection hy with hy
        subst hy
        exact split_sound splitL (by kernel_rfl) rfl _ _ hc
      · cases hy
    · cases hy
  · cases h
def atoiL_ren : Go.Shelf.Ren := ⟨fun x => match x with | 129 => 95 | 171 => 37 | 172 => 43 | 205 => 93 | 243 => 50 | 244 => 58 | 245 => 59 | 246 => 65 | 247 => 72 | 279 => 73 | 280 => 74 | 281 => 75 | 282 => 76 | 283 => 81 | 284 => 82 | 285 => 83 | 286 => 84 | 287 => 60 | 316 => 92 | 317 => 94 | 318 => 96 | 319 => 97 | 320 => 98 | 321 => 77 | 322 => 78 | 337 => 101 | 338 => 102 | n => n, fun x => match x with | 0 => 0 | 127 => 86 | 143 => 120 | 145 => 122 | 167 => 90 | 168 => 93 | 171 => 98 | 173 => 101 | 175 => 66 | 2 => 2 | 20 => 20 | 21 => 21 | 210 => 107 | 212 => 110 | 213 => 112 | 232 => 124 | 233 => 125 | 3 => 3 | 37 => 34 | 4 => 4 | 46 => 75 | 5 => 5 | 51 => 111 | 53 => 65 | 75 => 62 | 76 => 63 | 80 => 80 | 85 => 91 | 9 => 9 | n => n, fun x => match x with | 15 => 1 | 16 => 2 | 17 => 3 | 18 => 6 | 19 => 7 | n => n⟩
theorem atoiL : Go.Proofs.LaysC.n172 Tryd.prog atoiL_ren where
  mixed := by kernel_rfl
  f129 := Tryd.func95.trans (congrArg some (by kernel_rfl))
  f171 := Tryd.func37.trans (congrArg some (by kernel_rfl))
  f172 := Tryd.func43.trans (congrArg some (by kernel_rfl))
  f205 := Tryd.func93.trans (congrArg some (by kernel_rfl))
  f243 := Tryd.func50.trans (congrArg some (by kernel_rfl))
  f244 := Tryd.func58.trans (congrArg some (by kernel_rfl))
  f245 := Tryd.func59.trans (congrArg some (by kernel_rfl))
  f246 := Tryd.func65.trans (congrArg some (by kernel_rfl))
  f247 := Tryd.func72.trans (congrArg some (by kernel_rfl))
  f279 := Tryd.func73.trans (congrArg some (by kernel_rfl))
  f280 := Tryd.func74.trans (congrArg some (by kernel_rfl))
  f281 := Tryd.func75.trans (congrArg some (by kernel_rfl))
  f282 := Tryd.func76.trans (congrArg some (by kernel_rfl))
  f283 := Tryd.func81.trans (congrArg some (by kernel_rfl))
  f284 := Tryd.func82.trans (congrArg some (by kernel_rfl))
  f285 := Tryd.func83.trans (congrArg some (by kernel_rfl))
  f286 := Tryd.func84.trans (congrArg some (by kernel_rfl))
  f287 := Tryd.func60.trans (congrArg some (by kernel_rfl))
  f316 := Tryd.func92.trans (congrArg some (by kernel_rfl))
  f317 := Tryd.func94.trans (congrArg some (by kernel_rfl))
  f318 := Tryd.func96.trans (congrArg some (by kernel_rfl))
  f319 := Tryd.func97.trans (congrArg some (by kernel_rfl))
  f320 := Tryd.func98.trans (congrArg some (by kernel_rfl))
  f321 := Tryd.func77.trans (congrArg some (by kernel_rfl))
  f322 := Tryd.func78.trans (congrArg some (by kernel_rfl))
  f337 := Tryd.func101.trans (congrArg some (by kernel_rfl))
  f338 := Tryd.func102.trans (congrArg some (by kernel_rfl))
  t0 := Tryd.underlying0
  a0 := Tryd.isAgg0
  z0 := Tryd.sizeOf0
  v0 := Tryd.zeroValue0
  t2 := Tryd.underlying2
  a2 := Tryd.isAgg2
  z2 := Tryd.sizeOf2
  v2 := Tryd.zeroValue2
  t3 := Tryd.underlying3
  a3 := Tryd.isAgg3
  z3 := Tryd.sizeOf3
  v3 := Tryd.zeroValue3
  t4 := Tryd.underlying4
  a4 := Tryd.isAgg4
  z4 := Tryd.sizeOf4
  v4 := Tryd.zeroValue4
  t5 := Tryd.underlying5
  a5 := Tryd.isAgg5
  z5 := Tryd.sizeOf5
  v5 := Tryd.zeroValue5
  t9 := Tryd.underlying9
  a9 := Tryd.isAgg9
  z9 := Tryd.sizeOf9
  v9 := Tryd.zeroValue9
  t20 := Tryd.underlying20
  a20 := Tryd.isAgg20
  z20 := Tryd.sizeOf20
  v20 := Tryd.zeroValue20
  t21 := Tryd.underlying21
  a21 := Tryd.isAgg21
  z21 := Tryd.sizeOf21
  v21 := Tryd.zeroValue21
  t37 := Tryd.underlying34
  a37 := Tryd.isAgg34
  z37 := Tryd.sizeOf34
  v37 := Tryd.zeroValue34
  t46 := Tryd.underlying75
  a46 := Tryd.isAgg75
  z46 := Tryd.sizeOf75
  v46 := Tryd.zeroValue75
  t51 := Tryd.underlying111
  a51 := Tryd.isAgg111
  z51 := Tryd.sizeOf111
  v51 := Tryd.zeroValue111
  t53 := Tryd.underlying65
  a53 := Tryd.isAgg65
  z53 := Tryd.sizeOf65
  v53 := Tryd.zeroValue65
  t75 := Tryd.underlying62
  a75 := Tryd.isAgg62
  z75 := Tryd.sizeOf62
  v75 := Tryd.zeroValue62
  t76 := Tryd.underlying63
  a76 := Tryd.isAgg63
  z76 := Tryd.sizeOf63
  v76 := Tryd.zeroValue63
  t85 := Tryd.underlying91
  a85 := Tryd.isAgg91
  z85 := Tryd.sizeOf91
  v85 := Tryd.zeroValue91
  t127 := Tryd.underlying86
  a127 := Tryd.isAgg86
  z127 := Tryd.sizeOf86
  v127 := Tryd.zeroValue86
  t143 := Tryd.underlying120
  a143 := Tryd.isAgg120
  z143 := Tryd.sizeOf120
  v143 := Tryd.zeroValue120
  t145 := Tryd.underlying122
  a145 := Tryd.isAgg122
  z145 := Tryd.sizeOf122
  v145 := Tryd.zeroValue122
  t167 := Tryd.underlying90
  a167 := Tryd.isAgg90
  z167 := Tryd.sizeOf90
  v167 := Tryd.zeroValue90
  t168 := Tryd.underlying93
  a168 := Tryd.isAgg93
  z168 := Tryd.sizeOf93
  v168 := Tryd.zeroValue93
  t171 := Tryd.underlying98
  a171 := Tryd.isAgg98
  z171 := Tryd.sizeOf98
  v171 := Tryd.zeroValue98
  t173 := Tryd.underlying101
  a173 := Tryd.isAgg101
  z173 := Tryd.sizeOf101
  v173 := Tryd.zeroValue101
  t175 := Tryd.underlying66
  a175 := Tryd.isAgg66
  z175 := Tryd.sizeOf66
  v175 := Tryd.zeroValue66
  t210 := Tryd.underlying107
  a210 := Tryd.isAgg107
  z210 := Tryd.sizeOf107
  v210 := Tryd.zeroValue107
  t212 := Tryd.underlying110
  a212 := Tryd.isAgg110
  z212 := Tryd.sizeOf110
  v212 := Tryd.zeroValue110
  t213 := Tryd.underlying112
  a213 := Tryd.isAgg112
  z213 := Tryd.sizeOf112
  t232 := Tryd.underlying124
  a232 := Tryd.isAgg124
  z232 := Tryd.sizeOf124
  v232 := Tryd.zeroValue124
  t233 := Tryd.underlying125
  a233 := Tryd.isAgg125
  z233 := Tryd.sizeOf125
  v233 := Tryd.zeroValue125
  g15 := by kernel_rfl
  g16 := by kernel_rfl
  g17 := by kernel_rfl
  g18 := by kernel_rfl
  g19 := by kernel_rfl
  t80 := Tryd.underlying80
  a80 := Tryd.isAgg80
  z80 := Tryd.sizeOf80
  v80 := Tryd.zeroValue80
  i0 := by kernel_rfl
  i2 := by kernel_rfl
  i3 := by kernel_rfl
  i4 := by kernel_rfl
  i5 := by kernel_rfl
  i9 := by kernel_rfl
  i20 := by kernel_rfl
  i21 := by kernel_rfl
  i37 := by kernel_rfl
  i46 := by kernel_rfl
  i51 := by kernel_rfl
  i53 := by kernel_rfl
  i75 := by kernel_rfl
  i76 := by kernel_rfl
  i80 := by kernel_rfl
  i85 := by kernel_rfl
  i127 := by kernel_rfl
  i143 := by kernel_rfl
  i145 := by kernel_rfl
  i167 := by kernel_rfl
  i168 := by kernel_rfl
  i171 := by kernel_rfl
  i173 := by kernel_rfl
  i175 := by kernel_rfl
  i210 := by kernel_rfl
  i212 := by kernel_rfl
  i232 := by kernel_rfl
  i233 := by kernel_rfl
  m15 := by kernel_rfl
  m16 := by kernel_rfl
  m17 := by kernel_rfl
  m18 := by kernel_rfl
  m19 := by kernel_rfl
  c0 := by kernel_rfl
  c2 := by kernel_rfl
  c3 := by kernel_rfl
  c4 := by kernel_rfl
  c5 := by kernel_rfl
  c9 := by kernel_rfl
  c20 := by kernel_rfl
  c21 := by kernel_rfl
  c37 := by kernel_rfl
  c46 := by kernel_rfl
  c51 := by kernel_rfl
  c53 := by kernel_rfl
  c75 := by kernel_rfl
  c76 := by kernel_rfl
  c80 := by kernel_rfl
  c85 := by kernel_rfl
  c127 := by kernel_rfl
  c143 := by kernel_rfl
  c145 := by kernel_rfl
  c167 := by kernel_rfl
  c168 := by kernel_rfl
  c171 := by kernel_rfl
  c173 := by kernel_rfl
  c175 := by kernel_rfl
  c210 := by kernel_rfl
  c212 := by kernel_rfl
  c213 := by kernel_rfl
  c232 := by kernel_rfl
  c233 := by kernel_rfl
def k_strconv_Atoi : Kn := ⟨43, [0], fun args rows => match args, rows with
  | [.one ⟨.str, x0⟩], [] => some ⟨_, G.strconv_Atoi x0, fun y => ⟨[.one ⟨.int .i64, y.1⟩, .one ⟨.er, y.2⟩], [], []⟩⟩
  | _, _ => none, []⟩
theorem s_strconv_Atoi : KnOk Tryd.prog k_strconv_Atoi := by
  intro args rows a h y hy
  simp only [k_strconv_Atoi] at h
  split at h
  · injection h with h
    subst h
    simp only [G.strconv_Atoi] at hy
    split at hy
    · rename_i hc
      injection hy with hy
      subst hy
      exact atoi_sound atoiL rfl rfl _ hc
    · cases hy
  · cases h
def J_i_number : Joins := [(.r, ⟨[.int .i64], [(2, .one (.h 0))], [], [], [], []⟩)]
def ann_i_number : Ann := .seq .nil (.seq .nil (.seq (.seq (.reg [(.n, ⟨[.int .i64, .bool], [(3, .one (.h 0)), (26, .one (.h 1))], [], [], [], []⟩)]) .nil) .nil))
def env_i_number : Env := envOf ti [k_strconv_Atoi, k_strconv_Itoa] []
theorem eok_i_number : EnvOk Tryd.prog env_i_number := envOf_ok tab mix _ _ (by
  intro k hk
  simp only [List.mem_cons, List.not_mem_nil, or_false] at hk
  rcases hk with rfl | rfl
  · exact s_strconv_Atoi
  · exact s_strconv_Itoa)
theorem v_i_number (x0 : List UInt8) : (vfun env_i_number Tryd.f28 J_i_number ann_i_number [] [.one ⟨.str, x0⟩] []).run = (G.i_number x0).bind fun y => some (Res.mk [.one ⟨.int .i64, y⟩] [] []) := by kernel_rfl
def k_i_number : Kn := ⟨28, [0], fun args rows => match args, rows with
  | [.one ⟨.str, x0⟩], [] => some ⟨_, G.i_number x0, fun y => ⟨[.one ⟨.int .i64, y⟩], [], []⟩⟩
  | _, _ => none, []⟩
theorem s_i_number : KnOk Tryd.prog k_i_number := by
  intro args rows a h y hy
  simp only [k_i_number] at h
  split at h
  · injection h with h
    subst h
    exact vfun_ok eok_i_number Tryd.func28 rfl (by rw [v_i_number]; simp only at hy; rw [hy]; rfl)
  · cases h
def hexL_ren : Go.Shelf.Ren := ⟨fun x => match x with | 14 => 44 | 16 => 60 | 17 => 59 | 19 => 77 | 20 => 78 | 21 => 73 | 22 => 74 | 23 => 75 | 24 => 76 | 25 => 92 | 26 => 93 | 27 => 37 | 28 => 50 | 29 => 65 | 30 => 81 | 31 => 82 | 32 => 83 | 33 => 84 | 34 => 94 | 35 => 95 | 36 => 96 | 37 => 97 | 38 => 98 | 39 => 101 | 40 => 102 | n => n, fun x => match x with | 0 => 0 | 2 => 2 | 20 => 20 | 21 => 21 | 22 => 65 | 24 => 62 | 25 => 66 | 3 => 3 | 34 => 90 | 36 => 75 | 37 => 34 | 39 => 93 | 4 => 4 | 44 => 107 | 47 => 86 | 48 => 120 | 5 => 5 | 50 => 122 | 52 => 98 | 55 => 101 | 59 => 110 | 60 => 111 | 61 => 112 | 65 => 124 | 66 => 125 | 67 => 80 | 9 => 9 | n => n, fun x => match x with | 0 => 1 | 1 => 2 | 2 => 3 | 3 => 6 | 4 => 7 | n => n⟩
theorem hexL : Go.Proofs.LaysPu.n14 Tryd.prog hexL_ren where
  mixed := by kernel_rfl
  f14 := Tryd.func44.trans (congrArg some (by kernel_rfl))
  f16 := Tryd.func60.trans (congrArg some (by kernel_rfl))
  f17 := Tryd.func59.trans (congrArg some (by kernel_rfl))
  f19 := Tryd.func77.trans (congrArg some (by kernel_rfl))
  f20 := Tryd.func78.trans (congrArg some (by kernel_rfl))
  f21 := Tryd.func73.trans (congrArg some (by kernel_rfl))
  f22 := Tryd.func74.trans (congrArg some (by kernel_rfl))
  f23 := Tryd.func75.trans (congrArg some (by kernel_rfl))
  f24 := Tryd.func76.trans (congrArg some (by kernel_rfl))
  f25 := Tryd.func92.trans (congrArg some (by kernel_rfl))
  f26 := Tryd.func93.trans (congrArg some (by kernel_rfl))
  f27 := Tryd.func37.trans (congrArg some (by kernel_rfl))
  f28 := Tryd.func50.trans (congrArg some (by kernel_rfl))
  f29 := Tryd.func65.trans (congrArg some (by kernel_rfl))
  f30 := Tryd.func81.trans (congrArg some (by kernel_rfl))
  f31 := Tryd.func82.trans (congrArg some (by kernel_rfl))
  f32 := Tryd.func83.trans (congrArg some (by kernel_rfl))
  f33 := Tryd.func84.trans (congrArg some (by kernel_rfl))
  f34 := Tryd.func94.trans (congrArg some (by kernel_rfl))
  f35 := Tryd.func95.trans (congrArg some (by kernel_rfl))
  f36 := Tryd.func96.trans (congrArg some (by kernel_rfl))
  f37 := Tryd.func97.trans (congrArg some (by kernel_rfl))
  f38 := Tryd.func98.trans (congrArg some (by kernel_rfl))
  f39 := Tryd.func101.trans (congrArg some (by kernel_rfl))
  f40 := Tryd.func102.trans (congrArg some (by kernel_rfl))
  t0 := Tryd.underlying0
  a0 := Tryd.isAgg0
  z0 := Tryd.sizeOf0
  v0 := Tryd.zeroValue0
  i0 := by kernel_rfl
  t2 := Tryd.underlying2
  a2 := Tryd.isAgg2
  z2 := Tryd.sizeOf2
  v2 := Tryd.zeroValue2
  i2 := by kernel_rfl
  t3 := Tryd.underlying3
  a3 := Tryd.isAgg3
  z3 := Tryd.sizeOf3
  v3 := Tryd.zeroValue3
  i3 := by kernel_rfl
  t4 := Tryd.underlying4
  a4 := Tryd.isAgg4
  z4 := Tryd.sizeOf4
  v4 := Tryd.zeroValue4
  i4 := by kernel_rfl
  t5 := Tryd.underlying5
  a5 := Tryd.isAgg5
  z5 := Tryd.sizeOf5
  v5 := Tryd.zeroValue5
  i5 := by kernel_rfl
  t9 := Tryd.underlying9
  a9 := Tryd.isAgg9
  z9 := Tryd.sizeOf9
  v9 := Tryd.zeroValue9
  i9 := by kernel_rfl
  t20 := Tryd.underlying20
  a20 := Tryd.isAgg20
  z20 := Tryd.sizeOf20
  v20 := Tryd.zeroValue20
  i20 := by kernel_rfl
  t21 := Tryd.underlying21
  a21 := Tryd.isAgg21
  z21 := Tryd.sizeOf21
  v21 := Tryd.zeroValue21
  i21 := by kernel_rfl
  t22 := Tryd.underlying65
  a22 := Tryd.isAgg65
  z22 := Tryd.sizeOf65
  v22 := Tryd.zeroValue65
  i22 := by kernel_rfl
  t24 := Tryd.underlying62
  a24 := Tryd.isAgg62
  z24 := Tryd.sizeOf62
  v24 := Tryd.zeroValue62
  i24 := by kernel_rfl
  t25 := Tryd.underlying66
  a25 := Tryd.isAgg66
  z25 := Tryd.sizeOf66
  v25 := Tryd.zeroValue66
  i25 := by kernel_rfl
  t34 := Tryd.underlying90
  a34 := Tryd.isAgg90
  z34 := Tryd.sizeOf90
  v34 := Tryd.zeroValue90
  i34 := by kernel_rfl
  c34 := by kernel_rfl
  t36 := Tryd.underlying75
  a36 := Tryd.isAgg75
  z36 := Tryd.sizeOf75
  v36 := Tryd.zeroValue75
  i36 := by kernel_rfl
  t37 := Tryd.underlying34
  a37 := Tryd.isAgg34
  z37 := Tryd.sizeOf34
  v37 := Tryd.zeroValue34
  i37 := by kernel_rfl
  t39 := Tryd.underlying93
  a39 := Tryd.isAgg93
  z39 := Tryd.sizeOf93
  v39 := Tryd.zeroValue93
  i39 := by kernel_rfl
  t44 := Tryd.underlying107
  a44 := Tryd.isAgg107
  z44 := Tryd.sizeOf107
  v44 := Tryd.zeroValue107
  i44 := by kernel_rfl
  t47 := Tryd.underlying86
  a47 := Tryd.isAgg86
  z47 := Tryd.sizeOf86
  v47 := Tryd.zeroValue86
  i47 := by kernel_rfl
  t48 := Tryd.underlying120
  a48 := Tryd.isAgg120
  z48 := Tryd.sizeOf120
  v48 := Tryd.zeroValue120
  i48 := by kernel_rfl
  t50 := Tryd.underlying122
  a50 := Tryd.isAgg122
  z50 := Tryd.sizeOf122
  v50 := Tryd.zeroValue122
  i50 := by kernel_rfl
  t52 := Tryd.underlying98
  a52 := Tryd.isAgg98
  z52 := Tryd.sizeOf98
  v52 := Tryd.zeroValue98
  i52 := by kernel_rfl
  t55 := Tryd.underlying101
  a55 := Tryd.isAgg101
  z55 := Tryd.sizeOf101
  v55 := Tryd.zeroValue101
  i55 := by kernel_rfl
  t59 := Tryd.underlying110
  a59 := Tryd.isAgg110
  z59 := Tryd.sizeOf110
  v59 := Tryd.zeroValue110
  i59 := by kernel_rfl
  t60 := Tryd.underlying111
  a60 := Tryd.isAgg111
  z60 := Tryd.sizeOf111
  v60 := Tryd.zeroValue111
  i60 := by kernel_rfl
  t61 := Tryd.underlying112
  a61 := Tryd.isAgg112
  z61 := Tryd.sizeOf112
  t65 := Tryd.underlying124
  a65 := Tryd.isAgg124
  z65 := Tryd.sizeOf124
  v65 := Tryd.zeroValue124
  i65 := by kernel_rfl
  t66 := Tryd.underlying125
  a66 := Tryd.isAgg125
  z66 := Tryd.sizeOf125
  v66 := Tryd.zeroValue125
  i66 := by kernel_rfl
  t67 := Tryd.underlying80
  a67 := Tryd.isAgg80
  z67 := Tryd.sizeOf80
  v67 := Tryd.zeroValue80
  i67 := by kernel_rfl
  g0 := by kernel_rfl
  m0 := by kernel_rfl
  g1 := by kernel_rfl
  m1 := by kernel_rfl
  g2 := by kernel_rfl
  m2 := by kernel_rfl
  g3 := by kernel_rfl
  m3 := by kernel_rfl
  g4 := by kernel_rfl
  m4 := by kernel_rfl
def k_strconv_ParseUint : Kn := ⟨44, [0, 0, 0], fun args rows => match args, rows with
  | [.one ⟨.str, x0⟩, .one ⟨.int .i64, x1⟩, .one ⟨.int .i64, x2⟩], [] => some ⟨_, G.strconv_ParseUint x0 x1 x2, fun y => ⟨[.one ⟨.int .u64, y.1⟩, .one ⟨.er, y.2⟩], [], []⟩⟩
  | _, _ => none, []⟩
theorem s_strconv_ParseUint : KnOk Tryd.prog k_strconv_ParseUint := by
  intro args rows a h y hy
  simp only [k_strconv_ParseUint] at h
  split at h
  · injection h with h
    subst h
    simp only [G.strconv_ParseUint] at hy
    split at hy
    · rename_i hc
      obtain ⟨h2, rfl, rfl⟩ := hc
      injection hy with hy
      subst hy
      exact parse_sound hexL rfl _ h2
    · cases hy
  · cases h
def J_i_decoded : Joins := [(.r, ⟨[.str, .bool], [(2, .one (.h 0)), (3, .one (.h 1))], [], [], [], []⟩)]
def ann_i_decoded : Ann := .seq .nil (.seq .nil (.seq (.seq .nil (.block [] (.loop ⟨[.str, .sl true 5 (.int .u8), .int .i64], [(0, .one (.h 0)), (4, .one (.vw 159744)), (5, .one (.h 2))], [], [(159744, 1)], [], []⟩ [(.x 0, ⟨[.str, .sl true 5 (.int .u8)], [(0, .one (.h 0)), (4, .one (.vw 159809))], [], [(159809, 1)], [], []⟩), (.r, ⟨[.str, .bool], [(2, .one (.h 0)), (3, .one (.h 1))], [], [], [], []⟩)] (.seq .nil (.seq (.block [(.n, ⟨[.str, .sl true 5 (.int .u8), .int .i64], [(0, .one (.h 0)), (4, .one (.vw 159808)), (5, .one (.h 2))], [], [(159808, 1)], [], []⟩), (.r, ⟨[.str, .bool], [(2, .one (.h 0)), (3, .one (.h 1))], [], [], [], []⟩)] .nil) .nil))))) .nil))
def env_i_decoded : Env := envOf ti [k_strconv_ParseUint, k_i_coded] []
theorem eok_i_decoded : EnvOk Tryd.prog env_i_decoded := envOf_ok tab mix _ _ (by
  intro k hk
  simp only [List.mem_cons, List.not_mem_nil, or_false] at hk
  rcases hk with rfl | rfl
  · exact s_strconv_ParseUint
  · exact s_i_coded)
theorem v_i_decoded (x0 : List UInt8) : (vfun env_i_decoded Tryd.f29 J_i_decoded ann_i_decoded [] [.one ⟨.str, x0⟩] []).run = (G.i_decoded x0).bind fun y => some (Res.mk [.one ⟨.str, y.1⟩, .one ⟨.bool, y.2⟩] [] []) := by kernel_rfl
def k_i_decoded : Kn := ⟨29, [0], fun args rows => match args, rows with
  | [.one ⟨.str, x0⟩], [] => some ⟨_, G.i_decoded x0, fun y => ⟨[.one ⟨.str, y.1⟩, .one ⟨.bool, y.2⟩], [], []⟩⟩
  | _, _ => none, []⟩
theorem s_i_decoded : KnOk Tryd.prog k_i_decoded := by
  intro args rows a h y hy
  simp only [k_i_decoded] at h
  split at h
  · injection h with h
    subst h
    exact vfun_ok eok_i_decoded Tryd.func29 rfl (by rw [v_i_decoded]; simp only at hy; rw [hy]; rfl)
  · cases h
def J_i_ReadChangeText : Joins := [(.r, ⟨[.sl true 42 (.pair (.int .i64) (.pair (.int .i64) .str)), .bool], [(2, .one (.vw 176201)), (3, .one (.h 1))], [], [(176201, 0)], [], []⟩)]
def ann_i_ReadChangeText : Ann := .seq .nil (.seq .nil (.seq .nil (.seq (.seq .nil (.block [] (.loop ⟨[.sl true 42 (.pair (.int .i64) (.pair (.int .i64) .str)), .sl true 9 .str, .int .i64, .int .i64], [(4, .one (.vw 176128)), (17, .one (.vw 176129)), (18, .one (.h 2)), (19, .one (.h 3))], [], [(176128, 0), (176129, 1)], [], []⟩ [(.x 0, ⟨[.sl true 42 (.pair (.int .i64) (.pair (.int .i64) .str))], [(4, .one (.vw 176200))], [], [(176200, 0)], [], []⟩), (.r, ⟨[.bool], [(2, .one (.nil)), (3, .one (.h 0))], [], [], [], []⟩)] (.seq .nil (.seq .nil (.seq (.block [] (.seq .nil (.seq .nil (.seq .nil (.seq .nil (.seq (.block [] (.seq (.reg [(.n, ⟨[.sl true 42 (.pair (.int .i64) (.pair (.int .i64) .str)), .str, .str, .int .i64, .sl true 9 .str, .int .i64, .int .i64, .bool, .int .i64, .int .i64, .str], [(4, .one (.vw 176192)), (6, .one (.h 1)), (7, .one (.h 2)), (8, .pl 8 0), (9, .one (.h 3)), (17, .one (.vw 176193)), (18, .one (.h 5)), (19, .one (.h 6)), (30, .one (.h 7))], [(8, [.h 8, .h 9, .h 10])], [(176192, 0), (176193, 4)], [], []⟩)]) (.cond [(.n, ⟨[.sl true 42 (.pair (.int .i64) (.pair (.int .i64) .str)), .sl true 9 .str, .int .i64, .int .i64, .int .i64, .int .i64, .str], [(4, .one (.vw 176198)), (8, .pl 8 0), (17, .one (.vw 176199)), (18, .one (.h 2)), (19, .one (.h 3))], [(8, [.h 4, .h 5, .h 6])], [(176198, 0), (176199, 1)], [], []⟩), (.r, ⟨[.bool], [(2, .one (.nil)), (3, .one (.h 0))], [], [], [], []⟩)] .nil (.seq (.reg [(.n, ⟨[.sl true 42 (.pair (.int .i64) (.pair (.int .i64) .str)), .str, .str, .int .i64, .sl true 9 .str, .int .i64, .int .i64, .bool, .int .i64, .int .i64, .str], [(4, .one (.vw 176194)), (6, .one (.h 1)), (7, .one (.h 2)), (8, .pl 8 0), (9, .one (.h 3)), (17, .one (.vw 176195)), (18, .one (.h 5)), (19, .one (.h 6)), (40, .one (.h 7))], [(8, [.h 8, .h 9, .h 10])], [(176194, 0), (176195, 4)], [], []⟩)]) (.cond [(.n, ⟨[.sl true 42 (.pair (.int .i64) (.pair (.int .i64) .str)), .sl true 9 .str, .int .i64, .int .i64, .int .i64, .int .i64, .str], [(4, .one (.vw 176196)), (8, .pl 8 0), (17, .one (.vw 176197)), (18, .one (.h 2)), (19, .one (.h 3))], [(8, [.h 4, .h 5, .h 6])], [(176196, 0), (176197, 1)], [], []⟩), (.r, ⟨[.bool], [(2, .one (.nil)), (3, .one (.h 0))], [], [], [], []⟩)] .nil .nil))))) .nil)))))) .nil)))))) .nil)))
def env_i_ReadChangeText : Env := envOf ti [k_strings_Split, k_i_number, k_i_decoded, k_i_GoodChange] []
theorem eok_i_ReadChangeText : EnvOk Tryd.prog env_i_ReadChangeText := envOf_ok tab mix _ _ (by
  intro k hk
  simp only [List.mem_cons, List.not_mem_nil, or_false] at hk
  rcases hk with rfl | rfl | rfl | rfl
  · exact s_strings_Split
  · exact s_i_number
  · exact s_i_decoded
  · exact s_i_GoodChange)
theorem v_i_ReadChangeText (x0 : List UInt8) : (vfun env_i_ReadChangeText Tryd.f12 J_i_ReadChangeText ann_i_ReadChangeText [] [.one ⟨.str, x0⟩] []).run = (G.i_ReadChangeText x0).bind fun y => some (Res.mk [.one ⟨.sl true 42 (.pair (.int .i64) (.pair (.int .i64) .str)), y.1⟩, .one ⟨.bool, y.2⟩] [] []) := by kernel_rfl
def k_i_ReadChangeText : Kn := ⟨12, [0], fun args rows => match args, rows with
  | [.one ⟨.str, x0⟩], [] => some ⟨_, G.i_ReadChangeText x0, fun y => ⟨[.one ⟨.sl true 42 (.pair (.int .i64) (.pair (.int .i64) .str)), y.1⟩, .one ⟨.bool, y.2⟩], [], []⟩⟩
  | _, _ => none, []⟩
theorem s_i_ReadChangeText : KnOk Tryd.prog k_i_ReadChangeText := by
  intro args rows a h y hy
  simp only [k_i_ReadChangeText] at h
  split at h
  · injection h with h
    subst h
    exact vfun_ok eok_i_ReadChangeText Tryd.func12 rfl (by rw [v_i_ReadChangeText]; simp only at hy; rw [hy]; rfl)
  · cases h
def J_l_sameParts : Joins := [(.r, ⟨[.bool], [(4, .one (.h 0))], [], [], [], []⟩)]
def ann_l_sameParts : Ann := .seq .nil (.seq .nil (.seq (.seq .nil (.block [] (.loop ⟨[.sl false 42 (.pair (.int .i64) (.pair (.int .i64) .str)), .sl false 42 (.pair (.int .i64) (.pair (.int .i64) .str)), .int .i64, .int .i64], [(0, .one (.h 0)), (1, .one (.h 1)), (12, .one (.h 2)), (13, .one (.h 3))], [], [], [], []⟩ [(.x 0, ⟨[], [], [], [], [], []⟩), (.r, ⟨[.bool], [(4, .one (.h 0))], [], [], [], []⟩)] .nil))) .nil))
def env_l_sameParts : Env := envOf ti [] []
theorem eok_l_sameParts : EnvOk Tryd.prog env_l_sameParts := envOf_ok tab mix _ _ (by
  intro k hk; cases hk)
theorem v_l_sameParts (x0 : List (Int × (Int × List UInt8))) (x1 : List (Int × (Int × List UInt8))) : (vfun env_l_sameParts Tryd.f16 J_l_sameParts ann_l_sameParts [] [.one ⟨.sl false 42 (.pair (.int .i64) (.pair (.int .i64) .str)), x0⟩, .one ⟨.sl false 42 (.pair (.int .i64) (.pair (.int .i64) .str)), x1⟩] []).run = (G.l_sameParts x0 x1).bind fun y => some (Res.mk [.one ⟨.bool, y⟩] [] []) := by kernel_rfl
def k_l_sameParts : Kn := ⟨16, [0, 0], fun args rows => match args, rows with
  | [.one ⟨.sl false 42 (.pair (.int .i64) (.pair (.int .i64) .str)), x0⟩, .one ⟨.sl false 42 (.pair (.int .i64) (.pair (.int .i64) .str)), x1⟩], [] => some ⟨_, G.l_sameParts x0 x1, fun y => ⟨[.one ⟨.bool, y⟩], [], []⟩⟩
  | _, _ => none, []⟩
theorem s_l_sameParts : KnOk Tryd.prog k_l_sameParts := by
  intro args rows a h y hy
  simp only [k_l_sameParts] at h
  split at h
  · injection h with h
    subst h
    exact vfun_ok eok_l_sameParts Tryd.func16 rfl (by rw [v_l_sameParts]; simp only at hy; rw [hy]; rfl)
  · cases h
end
end Go.Proofs.YtijemcbcchnnjaaDoor

set_option linter.unusedVariables false
set_option maxRecDepth 100000
namespace Go.Proofs.YtijemcbcchnnjaaDoor
open Go.V
noncomputable section
def J_l_FnTexts : Joins := [(.r, ⟨[.bool], [(2, .one (.h 0))], [], [], [], []⟩)]
def ann_l_FnTexts : Ann := .seq .nil (.seq .nil (.seq .nil (.seq .nil (.seq .nil (.seq (.seq (.reg [(.n, ⟨[.sl true 42 (.pair (.int .i64) (.pair (.int .i64) .str)), .str, .bool, .bool], [(3, .one (.vw 151552)), (4, .one (.h 1)), (5, .one (.h 2)), (32, .one (.h 3))], [], [(151552, 0)], [], []⟩)]) .nil) (.seq .nil (.seq .nil (.seq (.reg [(.n, ⟨[.bool], [(2, .one (.h 0))], [], [], [], []⟩)]) .nil))))))))
def env_l_FnTexts : Env := envOf ti [k_s_DrawChangeText, k_i_ChangeText, k_s_ChangeText, k_i_ReadChangeText, k_l_sameParts] []
theorem eok_l_FnTexts : EnvOk Tryd.prog env_l_FnTexts := envOf_ok tab mix _ _ (by
  intro k hk
  simp only [List.mem_cons, List.not_mem_nil, or_false] at hk
  rcases hk with rfl | rfl | rfl | rfl | rfl
  · exact s_s_DrawChangeText
  · exact s_i_ChangeText
  · exact s_s_ChangeText
  · exact s_i_ReadChangeText
  · exact s_l_sameParts)
theorem v_l_FnTexts (x0 : List Int) : (vfun env_l_FnTexts Tryd.f5 J_l_FnTexts ann_l_FnTexts [] [.one ⟨.sl false 5 (.int .u8), x0⟩] []).run = (G.l_FnTexts x0).bind fun y => some (Res.mk [.one ⟨.bool, y⟩] [] []) := by kernel_rfl
def k_l_FnTexts : Kn := ⟨5, [0], fun args rows => match args, rows with
  | [.one ⟨.sl false 5 (.int .u8), x0⟩], [] => some ⟨_, G.l_FnTexts x0, fun y => ⟨[.one ⟨.bool, y⟩], [], []⟩⟩
  | _, _ => none, []⟩
theorem s_l_FnTexts : KnOk Tryd.prog k_l_FnTexts := by
  intro args rows a h y hy
  simp only [k_l_FnTexts] at h
  split at h
  · injection h with h
    subst h
    exact vfun_ok eok_l_FnTexts Tryd.func5 rfl (by rw [v_l_FnTexts]; simp only at hy; rw [hy]; rfl)
  · cases h
end
end Go.Proofs.YtijemcbcchnnjaaDoor
