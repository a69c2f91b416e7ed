import Derived.Test.YthpnmoiohfiggaaQRbE
import Derived.Test.YthpnmoiohfiggaaProg
import Derived.KernelRfl
import Derived.Test.YthpnmoiohfiggaaRows
import Derived.WalkKit
import Derived.ProofKit
import Derived.OpenShut
import Derived.ShutString
import Derived.ChangeOld
import Derived.Below
set_option linter.unusedVariables false
set_option maxRecDepth 100000
namespace Go.Proofs.Ythpnmoiohfiggaa
open Go.V
def tiL : List TI := [
  .other,
  .other,
  .cell (.int .i64),
  .cell (.int .i64),
  .cell .bool,
  .cell (.int .u8),
  .cell (.int .u8),
  .other,
  .other,
  .cell .str,
  .cell .str,
  .cell .str,
  .cell (.int .u64),
  .other,
  .other,
  .ptr 147,
  .ptr 150,
  .ptr 158,
  .other,
  .other,
  .other,
  .cell (.int .i32),
  .slice 5 [(.int .u8)] 1,
  .slice 76 [(.int .i64), (.int .i64)] 16,
  .slice 34 [(.int .i64), (.int .i64), .str] 32,
  .other,
  .other,
  .other,
  .other,
  .other,
  .other,
  .other,
  .other,
  .struct [(0, 1, false), (1, 1, false), (2, 1, false)] [(.int .i64), (.int .i64), .str] true,
  .struct [(0, 1, false), (1, 1, false), (2, 1, false)] [(.int .i64), (.int .i64), .str] true,
  .other,
  .other,
  .other,
  .other,
  .other,
  .slice 93 [(.sl true 34 (.pair (.int .i64) (.pair (.int .i64) .str)))] 24,
  .struct [(0, 1, false), (1, 1, false), (2, 1, false), (3, 1, false)] [(.int .i64), .str, (.sl true 76 (.pair (.int .i64) (.int .i64))), (.sl true 93 (.sl true 34 (.pair (.int .i64) (.pair (.int .i64) .str))))] false,
  .struct [(0, 1, false), (1, 1, false), (2, 1, false), (3, 1, false)] [(.int .i64), .str, (.sl true 76 (.pair (.int .i64) (.int .i64))), (.sl true 93 (.sl true 34 (.pair (.int .i64) (.pair (.int .i64) .str))))] false,
  .other,
  .other,
  .other,
  .other,
  .other,
  .other,
  .other,
  .other,
  .other,
  .other,
  .other,
  .other,
  .other,
  .other,
  .other,
  .other,
  .cell (.int .u64),
  .ptr 63,
  .cell (.int .u64),
  .struct [(0, 1, false), (1, 1, false), (2, 1, false)] [(.sl true 5 (.int .u8)), (.int .i64), (.int .u64)] false,
  .struct [(0, 1, false), (1, 1, false), (2, 1, false)] [(.sl true 5 (.int .u8)), (.int .i64), (.int .u64)] false,
  .other,
  .other,
  .other,
  .other,
  .other,
  .slice 3 [(.int .i64)] 8,
  .other,
  .other,
  .other,
  .other,
  .other,
  .struct [(0, 1, false), (1, 1, false)] [(.int .i64), (.int .i64)] true,
  .struct [(0, 1, false), (1, 1, false)] [(.int .i64), (.int .i64)] true,
  .other,
  .other,
  .other,
  .other,
  .other,
  .other,
  .cell (.int .u32),
  .other,
  .ptr 87,
  .struct [(0, 1, false), (1, 1, false), (2, 1, false)] [(.sl true 5 (.int .u8)), (.int .i64), .bool] false,
  .struct [(0, 1, false), (1, 1, false), (2, 1, false)] [(.sl true 5 (.int .u8)), (.int .i64), .bool] false,
  .other,
  .slice 22 [(.sl true 5 (.int .u8))] 24,
  .other,
  .other,
  .struct [(0, 1, false)] [(.sl true 34 (.pair (.int .i64) (.pair (.int .i64) .str)))] false,
  .struct [(0, 1, false)] [(.sl true 34 (.pair (.int .i64) (.pair (.int .i64) .str)))] false,
  .other,
  .other,
  .ptr 98,
  .struct [(0, 1, false), (1, 1, false)] [(.sl true 5 (.int .u8)), .bool] false,
  .struct [(0, 1, false), (1, 1, false)] [(.sl true 5 (.int .u8)), .bool] false,
  .other,
  .other,
  .other,
  .other,
  .other,
  .other,
  .other,
  .other,
  .other,
  .other,
  .other,
  .other,
  .other,
  .other,
  .other,
  .other,
  .other,
  .other,
  .other,
  .other,
  .other,
  .other,
  .other,
  .other,
  .other,
  .other,
  .other,
  .other,
  .other,
  .other,
  .slice 9 [.str] 16,
  .other,
  .other,
  .other,
  .other,
  .other,
  .other,
  .other,
  .other,
  .other,
  .other,
  .other,
  .slice 4 [.bool] 1,
  .struct [(0, 1, false), (1, 1, false)] [(.sl true 4 .bool), (.sl true 9 .str)] false,
  .struct [(0, 1, false), (1, 1, false)] [(.sl true 4 .bool), (.sl true 9 .str)] false,
  .other,
  .other,
  .other,
  .other,
  .other,
  .other,
  .other,
  .cell (.int .u8),
  .cell (.int .u8),
  .other,
  .ptr 5,
  .cell (.int .i32),
  .cell (.int .i32),
  .other,
  .other,
  .other]
def ti (t : TypeId) : TI := tiL.getD t .other
theorem tab : TabOk Try.prog ti := tabOf Try.prog tiL (by kernel_rfl)
theorem mix : Try.prog.follows .mixedOrders = true := by kernel_rfl
end Go.Proofs.Ythpnmoiohfiggaa

set_option maxRecDepth 100000
namespace Go.Proofs.Ythpnmoiohfiggaa
open Go.V
theorem own : ownKnob Try.prog.godebug = none := by kernel_rfl
theorem laidOut : laidOutB Try.prog = true := by kernel_rfl
theorem tab2 : ∀ t, tyOk2 Try.prog ti t (ti t) = true := tabOf2 Try.prog tiL (by kernel_rfl)
end Go.Proofs.Ythpnmoiohfiggaa

set_option linter.unusedVariables false
set_option maxRecDepth 100000
namespace Go.Proofs.Ythpnmoiohfiggaa
open Go.V
noncomputable section
def J_l_toByteS : Joins := [(.r, ⟨[.sl true 5 (.int .u8)], [(2, .one (.vw 124993))], [], [(124993, 0)], [], []⟩)]
def ann_l_toByteS : Ann := .seq .nil (.seq .nil (.seq (.seq .nil (.block [] (.loop ⟨[.sl false 5 (.int .u8), .sl true 5 (.int .u8), .int .i64], [(0, .one (.h 0)), (3, .one (.vw 124928)), (4, .one (.h 2))], [], [(124928, 1)], [], []⟩ [(.x 0, ⟨[.sl true 5 (.int .u8)], [(3, .one (.vw 124992))], [], [(124992, 0)], [], []⟩)] .nil))) .nil))
def env_l_toByteS : Env := envOf ti [] []
theorem eok_l_toByteS : EnvOk Try.prog env_l_toByteS := envOf_ok tab mix _ _ (by
  intro k hk; cases hk)
theorem v_l_toByteS (x0 : List Int) : (vfun env_l_toByteS Try.f16 J_l_toByteS ann_l_toByteS [] [.one ⟨.sl false 5 (.int .u8), x0⟩] []).run = (G.l_toByteS x0).bind fun y => some (Res.mk [.one ⟨.sl true 5 (.int .u8), y⟩] [] []) := by kernel_rfl
def k_l_toByteS : Kn := ⟨16, [0], fun args rows => match args, rows with
  | [.one ⟨.sl false 5 (.int .u8), x0⟩], [] => some ⟨_, G.l_toByteS x0, fun y => ⟨[.one ⟨.sl true 5 (.int .u8), y⟩], [], []⟩⟩
  | _, _ => none, []⟩
theorem s_l_toByteS : KnOk Try.prog k_l_toByteS := by
  intro args rows a h y hy
  simp only [k_l_toByteS] at h
  split at h
  · injection h with h
    subst h
    exact vfun_ok eok_l_toByteS Try.func16 rfl (by rw [v_l_toByteS]; simp only at hy; rw [hy]; rfl)
  · cases h
def J_s_DigestOf : Joins := [(.r, ⟨[.int .u32], [(2, .one (.h 0))], [], [], [], []⟩)]
def ann_s_DigestOf : Ann := .seq .nil (.seq .nil (.seq (.seq .nil (.block [] (.loop ⟨[.int .u64, .sl false 5 (.int .u8), .int .i64, .int .i64], [(3, .one (.h 0)), (6, .one (.h 1)), (7, .one (.h 2)), (8, .one (.h 3))], [], [], [], []⟩ [(.x 0, ⟨[.int .u64], [(3, .one (.h 0))], [], [], [], []⟩)] .nil))) .nil))
def env_s_DigestOf : Env := envOf ti [] []
theorem eok_s_DigestOf : EnvOk Try.prog env_s_DigestOf := envOf_ok tab mix _ _ (by
  intro k hk; cases hk)
theorem v_s_DigestOf (x0 : List Int) : (vfun env_s_DigestOf Try.f48 J_s_DigestOf ann_s_DigestOf [] [.one ⟨.sl false 5 (.int .u8), x0⟩] []).run = (G.s_DigestOf x0).bind fun y => some (Res.mk [.one ⟨.int .u32, y⟩] [] []) := by kernel_rfl
def k_s_DigestOf : Kn := ⟨48, [0], fun args rows => match args, rows with
  | [.one ⟨.sl false 5 (.int .u8), x0⟩], [] => some ⟨_, G.s_DigestOf x0, fun y => ⟨[.one ⟨.int .u32, y⟩], [], []⟩⟩
  | _, _ => none, []⟩
theorem s_s_DigestOf : KnOk Try.prog k_s_DigestOf := by
  intro args rows a h y hy
  simp only [k_s_DigestOf] at h
  split at h
  · injection h with h
    subst h
    exact vfun_ok eok_s_DigestOf Try.func48 rfl (by rw [v_s_DigestOf]; simp only at hy; rw [hy]; rfl)
  · cases h
def J_s_l13R_take_f : Joins := [(.r, ⟨[.sl false 5 (.int .u8), .sl false 5 (.int .u8), .int .i64, .bool], [(4, .one (.h 0))], [(50, [.h 1, .h 2, .h 3])], [], [], []⟩)]
def ann_s_l13R_take_f : Ann := .seq .nil (.seq (.seq (.reg [(.n, ⟨[.int .i64, .bool, .sl false 5 (.int .u8), .int .i64, .bool], [(0, .pl 50 0), (1, .one (.h 0)), (22, .one (.h 1))], [(50, [.h 2, .h 3, .h 4])], [], [], []⟩)]) .nil) .nil)
def env_s_l13R_take_f : Env := envOf ti [] []
theorem eok_s_l13R_take_f : EnvOk Try.prog env_s_l13R_take_f := envOf_ok tab mix _ _ (by
  intro k hk; cases hk)
theorem v_s_l13R_take_f (x0 : Int) (x1 : List Int) (x2 : Int) (x3 : Bool) : (vfun env_s_l13R_take_f Try.f50 J_s_l13R_take_f ann_s_l13R_take_f [] [.pl 0 0, .one ⟨.int .i64, x0⟩] [[⟨.sl false 5 (.int .u8), x1⟩, ⟨.int .i64, x2⟩, ⟨.bool, x3⟩]]).run = (G.s_l13R_take_f x0 x1 x2 x3).bind fun y => some (Res.mk [.one ⟨.sl false 5 (.int .u8), y.1⟩] [[⟨.sl false 5 (.int .u8), y.2.1⟩, ⟨.int .i64, y.2.2.1⟩, ⟨.bool, y.2.2.2⟩]] []) := by kernel_rfl
def k_s_l13R_take_f : Kn := ⟨50, [0, 0], fun args rows => match args, rows with
  | [.pl 0 0, .one ⟨.int .i64, x0⟩], [[⟨.sl false 5 (.int .u8), x1⟩, ⟨.int .i64, x2⟩, ⟨.bool, x3⟩]] => some ⟨_, G.s_l13R_take_f x0 x1 x2 x3, fun y => ⟨[.one ⟨.sl false 5 (.int .u8), y.1⟩], [[⟨.sl false 5 (.int .u8), y.2.1⟩, ⟨.int .i64, y.2.2.1⟩, ⟨.bool, y.2.2.2⟩]], []⟩⟩
  | _, _ => none, []⟩
theorem s_s_l13R_take_f : KnOk Try.prog k_s_l13R_take_f := by
  intro args rows a h y hy
  simp only [k_s_l13R_take_f] at h
  split at h
  · injection h with h
    subst h
    exact vfun_ok eok_s_l13R_take_f Try.func50 rfl (by rw [v_s_l13R_take_f]; simp only at hy; rw [hy]; rfl)
  · cases h
def J_s_l13R_number_f : Joins := [(.r, ⟨[.int .i64, .sl false 5 (.int .u8), .int .i64, .bool], [(4, .one (.h 0))], [(24, [.h 1, .h 2, .h 3])], [], [], []⟩)]
def ann_s_l13R_number_f : Ann := .seq .nil (.seq .nil (.seq (.seq .nil (.block [] (.loop ⟨[.int .i64, .sl false 5 (.int .u8), .int .i64, .int .i64, .sl false 5 (.int .u8), .int .i64, .bool], [(5, .one (.h 0)), (10, .one (.h 1)), (11, .one (.h 2)), (12, .one (.h 3))], [(24, [.h 4, .h 5, .h 6])], [], [], []⟩ [(.x 0, ⟨[.int .i64, .sl false 5 (.int .u8), .int .i64, .bool], [(5, .one (.h 0))], [(24, [.h 1, .h 2, .h 3])], [], [], []⟩)] .nil))) .nil))
def env_s_l13R_number_f : Env := envOf ti [k_s_l13R_take_f] []
theorem eok_s_l13R_number_f : EnvOk Try.prog env_s_l13R_number_f := envOf_ok tab mix _ _ (by
  intro k hk
  simp only [List.mem_cons, List.not_mem_nil, or_false] at hk
  rcases hk with rfl
  · exact s_s_l13R_take_f)
theorem v_s_l13R_number_f (x0 : Int) (x1 : List Int) (x2 : Int) (x3 : Bool) : (vfun env_s_l13R_number_f Try.f49 J_s_l13R_number_f ann_s_l13R_number_f [] [.pl 0 0, .one ⟨.int .i64, x0⟩] [[⟨.sl false 5 (.int .u8), x1⟩, ⟨.int .i64, x2⟩, ⟨.bool, x3⟩]]).run = (G.s_l13R_number_f x0 x1 x2 x3).bind fun y => some (Res.mk [.one ⟨.int .i64, y.1⟩] [[⟨.sl false 5 (.int .u8), y.2.1⟩, ⟨.int .i64, y.2.2.1⟩, ⟨.bool, y.2.2.2⟩]] []) := by kernel_rfl
def k_s_l13R_number_f : Kn := ⟨49, [0, 0], fun args rows => match args, rows with
  | [.pl 0 0, .one ⟨.int .i64, x0⟩], [[⟨.sl false 5 (.int .u8), x1⟩, ⟨.int .i64, x2⟩, ⟨.bool, x3⟩]] => some ⟨_, G.s_l13R_number_f x0 x1 x2 x3, fun y => ⟨[.one ⟨.int .i64, y.1⟩], [[⟨.sl false 5 (.int .u8), y.2.1⟩, ⟨.int .i64, y.2.2.1⟩, ⟨.bool, y.2.2.2⟩]], []⟩⟩
  | _, _ => none, []⟩
theorem s_s_l13R_number_f : KnOk Try.prog k_s_l13R_number_f := by
  intro args rows a h y hy
  simp only [k_s_l13R_number_f] at h
  split at h
  · injection h with h
    subst h
    exact vfun_ok eok_s_l13R_number_f Try.func49 rfl (by rw [v_s_l13R_number_f]; simp only at hy; rw [hy]; rfl)
  · cases h
def J_s_l1In : Joins := [(.r, ⟨[.bool], [(6, .one (.h 0))], [], [], [], []⟩)]
def ann_s_l1In : Ann := .seq .nil (.seq (.reg [(.n, ⟨[.bool], [(6, .one (.h 0))], [], [], [], []⟩)]) .nil)
def env_s_l1In : Env := envOf ti [] []
theorem eok_s_l1In : EnvOk Try.prog env_s_l1In := envOf_ok tab mix _ _ (by
  intro k hk; cases hk)
theorem v_s_l1In (x0 : Int) (x1 : Int) (x2 : Int) : (vfun env_s_l1In Try.f41 J_s_l1In ann_s_l1In [] [.one ⟨.int .i64, x0⟩, .one ⟨.int .i64, x1⟩, .one ⟨.int .i64, x2⟩] []).run = (G.s_l1In x0 x1 x2).bind fun y => some (Res.mk [.one ⟨.bool, y⟩] [] []) := by kernel_rfl
def k_s_l1In : Kn := ⟨41, [0, 0, 0], fun args rows => match args, rows with
  | [.one ⟨.int .i64, x0⟩, .one ⟨.int .i64, x1⟩, .one ⟨.int .i64, x2⟩], [] => some ⟨_, G.s_l1In x0 x1 x2, fun y => ⟨[.one ⟨.bool, y⟩], [], []⟩⟩
  | _, _ => none, []⟩
theorem s_s_l1In : KnOk Try.prog k_s_l1In := by
  intro args rows a h y hy
  simp only [k_s_l1In] at h
  split at h
  · injection h with h
    subst h
    exact vfun_ok eok_s_l1In Try.func41 rfl (by rw [v_s_l1In]; simp only at hy; rw [hy]; rfl)
  · cases h
def J_s_l9Sum : Joins := [(.r, ⟨[.int .i64], [(2, .one (.h 0))], [], [], [], []⟩)]
def ann_s_l9Sum : Ann := .seq .nil (.seq .nil (.seq (.seq .nil (.block [] (.loop ⟨[.int .i64, .sl false 76 (.pair (.int .i64) (.int .i64)), .int .i64, .int .i64], [(3, .one (.h 0)), (6, .one (.h 1)), (7, .one (.h 2)), (8, .one (.h 3))], [], [], [], []⟩ [(.x 0, ⟨[.int .i64], [(3, .one (.h 0))], [], [], [], []⟩), (.r, ⟨[.int .i64], [(2, .one (.h 0))], [], [], [], []⟩)] .nil))) .nil))
def env_s_l9Sum : Env := envOf ti [k_s_l1In] []
theorem eok_s_l9Sum : EnvOk Try.prog env_s_l9Sum := envOf_ok tab mix _ _ (by
  intro k hk
  simp only [List.mem_cons, List.not_mem_nil, or_false] at hk
  rcases hk with rfl
  · exact s_s_l1In)
theorem v_s_l9Sum (x0 : List (Int × Int)) : (vfun env_s_l9Sum Try.f107 J_s_l9Sum ann_s_l9Sum [] [.one ⟨.sl false 76 (.pair (.int .i64) (.int .i64)), x0⟩] []).run = (G.s_l9Sum x0).bind fun y => some (Res.mk [.one ⟨.int .i64, y⟩] [] []) := by kernel_rfl
def k_s_l9Sum : Kn := ⟨107, [0], fun args rows => match args, rows with
  | [.one ⟨.sl false 76 (.pair (.int .i64) (.int .i64)), x0⟩], [] => some ⟨_, G.s_l9Sum x0, fun y => ⟨[.one ⟨.int .i64, y⟩], [], []⟩⟩
  | _, _ => none, []⟩
theorem s_s_l9Sum : KnOk Try.prog k_s_l9Sum := by
  intro args rows a h y hy
  simp only [k_s_l9Sum] at h
  split at h
  · injection h with h
    subst h
    exact vfun_ok eok_s_l9Sum Try.func107 rfl (by rw [v_s_l9Sum]; simp only at hy; rw [hy]; rfl)
  · cases h
def J_s_GoodRuns : Joins := [(.r, ⟨[.bool], [(6, .one (.h 0))], [], [], [], []⟩)]
def ann_s_GoodRuns : Ann := .seq .nil (.seq (.seq (.reg [(.n, ⟨[.sl false 76 (.pair (.int .i64) (.int .i64)), .int .i64, .int .i64, .bool], [(0, .one (.h 0)), (1, .one (.h 1)), (2, .one (.h 2)), (17, .one (.h 3))], [], [], [], []⟩)]) .nil) (.seq .nil (.seq (.seq .nil (.block [] (.loop ⟨[.sl false 76 (.pair (.int .i64) (.int .i64)), .int .i64, .int .i64, .int .i64, .sl false 76 (.pair (.int .i64) (.int .i64)), .int .i64, .int .i64], [(0, .one (.h 0)), (1, .one (.h 1)), (2, .one (.h 2)), (7, .one (.h 3)), (18, .one (.h 4)), (19, .one (.h 5)), (20, .one (.h 6))], [], [], [], []⟩ [(.x 0, ⟨[.int .i64, .int .i64], [(1, .one (.h 0)), (7, .one (.h 1))], [], [], [], []⟩), (.r, ⟨[.bool], [(6, .one (.h 0))], [], [], [], []⟩)] (.seq .nil (.seq .nil (.seq (.block [] (.seq .nil (.seq (.seq (.reg [(.n, ⟨[.sl false 76 (.pair (.int .i64) (.int .i64)), .int .i64, .int .i64, .int .i64, .sl false 76 (.pair (.int .i64) (.int .i64)), .int .i64, .int .i64, .bool, .int .i64, .int .i64], [(0, .one (.h 0)), (1, .one (.h 1)), (2, .one (.h 2)), (7, .one (.h 3)), (9, .pl 9 0), (18, .one (.h 4)), (19, .one (.h 5)), (20, .one (.h 6)), (53, .one (.h 7))], [(9, [.h 8, .h 9])], [], [], []⟩)]) .nil) .nil))) .nil)))))) .nil)))
def env_s_GoodRuns : Env := envOf ti [k_s_l1In] []
theorem eok_s_GoodRuns : EnvOk Try.prog env_s_GoodRuns := envOf_ok tab mix _ _ (by
  intro k hk
  simp only [List.mem_cons, List.not_mem_nil, or_false] at hk
  rcases hk with rfl
  · exact s_s_l1In)
theorem v_s_GoodRuns (x0 : List (Int × Int)) (x1 : Int) (x2 : Int) : (vfun env_s_GoodRuns Try.f39 J_s_GoodRuns ann_s_GoodRuns [] [.one ⟨.sl false 76 (.pair (.int .i64) (.int .i64)), x0⟩, .one ⟨.int .i64, x1⟩, .one ⟨.int .i64, x2⟩] []).run = (G.s_GoodRuns x0 x1 x2).bind fun y => some (Res.mk [.one ⟨.bool, y⟩] [] []) := by kernel_rfl
def k_s_GoodRuns : Kn := ⟨39, [0, 0, 0], fun args rows => match args, rows with
  | [.one ⟨.sl false 76 (.pair (.int .i64) (.int .i64)), x0⟩, .one ⟨.int .i64, x1⟩, .one ⟨.int .i64, x2⟩], [] => some ⟨_, G.s_GoodRuns x0 x1 x2, fun y => ⟨[.one ⟨.bool, y⟩], [], []⟩⟩
  | _, _ => none, []⟩
theorem s_s_GoodRuns : KnOk Try.prog k_s_GoodRuns := by
  intro args rows a h y hy
  simp only [k_s_GoodRuns] at h
  split at h
  · injection h with h
    subst h
    exact vfun_ok eok_s_GoodRuns Try.func39 rfl (by rw [v_s_GoodRuns]; simp only at hy; rw [hy]; rfl)
  · cases h
def J_s_l9Good : Joins := [(.r, ⟨[.bool], [(2, .one (.h 0))], [], [], [], []⟩)]
def ann_s_l9Good : Ann := .seq .nil (.seq .nil (.seq (.reg [(.n, ⟨[.bool], [(2, .one (.h 0))], [], [], [], []⟩)]) .nil))
def env_s_l9Good : Env := envOf ti [k_s_l9Sum, k_s_GoodRuns] []
theorem eok_s_l9Good : EnvOk Try.prog env_s_l9Good := envOf_ok tab mix _ _ (by
  intro k hk
  simp only [List.mem_cons, List.not_mem_nil, or_false] at hk
  rcases hk with rfl | rfl
  · exact s_s_l9Sum
  · exact s_s_GoodRuns)
theorem v_s_l9Good (x0 : List (Int × Int)) : (vfun env_s_l9Good Try.f87 J_s_l9Good ann_s_l9Good [] [.one ⟨.sl false 76 (.pair (.int .i64) (.int .i64)), x0⟩] []).run = (G.s_l9Good x0).bind fun y => some (Res.mk [.one ⟨.bool, y⟩] [] []) := by kernel_rfl
def k_s_l9Good : Kn := ⟨87, [0], fun args rows => match args, rows with
  | [.one ⟨.sl false 76 (.pair (.int .i64) (.int .i64)), x0⟩], [] => some ⟨_, G.s_l9Good x0, fun y => ⟨[.one ⟨.bool, y⟩], [], []⟩⟩
  | _, _ => none, []⟩
theorem s_s_l9Good : KnOk Try.prog k_s_l9Good := by
  intro args rows a h y hy
  simp only [k_s_l9Good] at h
  split at h
  · injection h with h
    subst h
    exact vfun_ok eok_s_l9Good Try.func87 rfl (by rw [v_s_l9Good]; simp only at hy; rw [hy]; rfl)
  · cases h
def J_s_ReadRuns : Joins := [(.r, ⟨[.sl true 76 (.pair (.int .i64) (.int .i64)), .bool], [(2, .one (.vw 143425)), (3, .one (.h 1))], [], [(143425, 0)], [], []⟩)]
def ann_s_ReadRuns : Ann := .seq .nil (.seq (.seq (.reg [(.n, ⟨[.sl false 5 (.int .u8), .bool], [(0, .one (.h 0)), (14, .one (.h 1))], [], [], [], []⟩)]) .nil) (.seq .nil (.seq (.seq .nil (.block [] (.loop ⟨[.sl false 5 (.int .u8), .sl true 76 (.pair (.int .i64) (.int .i64)), .int .i64], [(0, .one (.h 0)), (4, .one (.vw 143360)), (5, .one (.h 2))], [], [(143360, 1)], [], []⟩ [(.x 0, ⟨[.sl true 76 (.pair (.int .i64) (.int .i64))], [(4, .one (.vw 143424))], [], [(143424, 0)], [], []⟩)] .nil))) .nil)))
def env_s_ReadRuns : Env := envOf ti [k_s_l9Good] []
theorem eok_s_ReadRuns : EnvOk Try.prog env_s_ReadRuns := envOf_ok tab mix _ _ (by
  intro k hk
  simp only [List.mem_cons, List.not_mem_nil, or_false] at hk
  rcases hk with rfl
  · exact s_s_l9Good)
theorem v_s_ReadRuns (x0 : List Int) : (vfun env_s_ReadRuns Try.f51 J_s_ReadRuns ann_s_ReadRuns [] [.one ⟨.sl false 5 (.int .u8), x0⟩] []).run = (G.s_ReadRuns x0).bind fun y => some (Res.mk [.one ⟨.sl true 76 (.pair (.int .i64) (.int .i64)), y.1⟩, .one ⟨.bool, y.2⟩] [] []) := by kernel_rfl
def k_s_ReadRuns : Kn := ⟨51, [0], fun args rows => match args, rows with
  | [.one ⟨.sl false 5 (.int .u8), x0⟩], [] => some ⟨_, G.s_ReadRuns x0, fun y => ⟨[.one ⟨.sl true 76 (.pair (.int .i64) (.int .i64)), y.1⟩, .one ⟨.bool, y.2⟩], [], []⟩⟩
  | _, _ => none, []⟩
theorem s_s_ReadRuns : KnOk Try.prog k_s_ReadRuns := by
  intro args rows a h y hy
  simp only [k_s_ReadRuns] at h
  split at h
  · injection h with h
    subst h
    exact vfun_ok eok_s_ReadRuns Try.func51 rfl (by rw [v_s_ReadRuns]; simp only at hy; rw [hy]; rfl)
  · cases h
def J_s_l1Kind : Joins := [(.r, ⟨[.int .i64], [(2, .one (.h 0))], [], [], [], []⟩)]
def ann_s_l1Kind : Ann := .seq .nil (.seq (.block [] (.seq (.reg [(.n, ⟨[.bool, .int .i64, .int .i64, .str], [(1, .pl 1 0), (3, .one (.h 0))], [(1, [.h 1, .h 2, .h 3])], [], [], []⟩)]) (.cond [] .nil (.seq (.reg [(.n, ⟨[.bool, .int .i64, .int .i64, .str], [(1, .pl 1 0), (17, .one (.h 0))], [(1, [.h 1, .h 2, .h 3])], [], [], []⟩)]) (.cond [] .nil (.seq (.reg [(.n, ⟨[.bool], [(31, .one (.h 0))], [], [], [], []⟩)]) .nil)))))) .nil)
def env_s_l1Kind : Env := envOf ti [] []
theorem eok_s_l1Kind : EnvOk Try.prog env_s_l1Kind := envOf_ok tab mix _ _ (by
  intro k hk; cases hk)
theorem v_s_l1Kind (x0 : Int) (x1 : Int) (x2 : List UInt8) : (vfun env_s_l1Kind Try.f84 J_s_l1Kind ann_s_l1Kind [] [.ag [⟨.int .i64, x0⟩, ⟨.int .i64, x1⟩, ⟨.str, x2⟩]] []).run = (G.s_l1Kind x0 x1 x2).bind fun y => some (Res.mk [.one ⟨.int .i64, y⟩] [] []) := by kernel_rfl
def k_s_l1Kind : Kn := ⟨84, [0], fun args rows => match args, rows with
  | [.ag [⟨.int .i64, x0⟩, ⟨.int .i64, x1⟩, ⟨.str, x2⟩]], [] => some ⟨_, G.s_l1Kind x0 x1 x2, fun y => ⟨[.one ⟨.int .i64, y⟩], [], []⟩⟩
  | _, _ => none, []⟩
theorem s_s_l1Kind : KnOk Try.prog k_s_l1Kind := by
  intro args rows a h y hy
  simp only [k_s_l1Kind] at h
  split at h
  · injection h with h
    subst h
    exact vfun_ok eok_s_l1Kind Try.func84 rfl (by rw [v_s_l1Kind]; simp only at hy; rw [hy]; rfl)
  · cases h
def J_s_GoodChange : Joins := [(.r, ⟨[.bool], [(2, .one (.h 0))], [], [], [], []⟩)]
def ann_s_GoodChange : Ann := .seq .nil (.seq .nil (.seq .nil (.seq (.seq .nil (.block [] (.loop ⟨[.sl false 34 (.pair (.int .i64) (.pair (.int .i64) .str)), .int .i64, .int .i64, .sl false 34 (.pair (.int .i64) (.pair (.int .i64) .str)), .int .i64, .int .i64], [(0, .one (.h 0)), (3, .one (.h 1)), (4, .one (.h 2)), (8, .one (.h 3)), (9, .one (.h 4)), (10, .one (.h 5))], [], [], [], []⟩ [(.x 0, ⟨[], [], [], [], [], []⟩), (.r, ⟨[.bool], [(2, .one (.h 0))], [], [], [], []⟩)] (.seq .nil (.seq .nil (.seq (.block [] (.seq .nil (.seq .nil (.seq (.seq (.reg [(.n, ⟨[.sl false 34 (.pair (.int .i64) (.pair (.int .i64) .str)), .int .i64, .int .i64, .sl false 34 (.pair (.int .i64) (.pair (.int .i64) .str)), .int .i64, .int .i64, .bool, .int .i64, .int .i64, .str], [(0, .one (.h 0)), (3, .one (.h 1)), (4, .one (.h 2)), (6, .pl 6 0), (8, .one (.h 3)), (9, .one (.h 4)), (10, .one (.h 5)), (48, .one (.h 6))], [(6, [.h 7, .h 8, .h 9])], [], [], []⟩)]) .nil) (.seq .nil (.seq .nil (.seq (.reg [(.n, ⟨[.sl false 34 (.pair (.int .i64) (.pair (.int .i64) .str)), .int .i64, .int .i64, .sl false 34 (.pair (.int .i64) (.pair (.int .i64) .str)), .int .i64, .int .i64, .bool], [(0, .one (.h 0)), (3, .one (.h 1)), (4, .one (.h 2)), (8, .one (.h 3)), (9, .one (.h 4)), (10, .one (.h 5)), (69, .one (.h 6))], [], [], [], []⟩)]) .nil))))))) .nil)))))) .nil)))
def env_s_GoodChange : Env := envOf ti [k_s_l1Kind] []
theorem eok_s_GoodChange : EnvOk Try.prog env_s_GoodChange := envOf_ok tab mix _ _ (by
  intro k hk
  simp only [List.mem_cons, List.not_mem_nil, or_false] at hk
  rcases hk with rfl
  · exact s_s_l1Kind)
theorem v_s_GoodChange (x0 : List (Int × (Int × List UInt8))) : (vfun env_s_GoodChange Try.f38 J_s_GoodChange ann_s_GoodChange [] [.one ⟨.sl false 34 (.pair (.int .i64) (.pair (.int .i64) .str)), x0⟩] []).run = (G.s_GoodChange x0).bind fun y => some (Res.mk [.one ⟨.bool, y⟩] [] []) := by kernel_rfl
def k_s_GoodChange : Kn := ⟨38, [0], fun args rows => match args, rows with
  | [.one ⟨.sl false 34 (.pair (.int .i64) (.pair (.int .i64) .str)), x0⟩], [] => some ⟨_, G.s_GoodChange x0, fun y => ⟨[.one ⟨.bool, y⟩], [], []⟩⟩
  | _, _ => none, []⟩
theorem s_s_GoodChange : KnOk Try.prog k_s_GoodChange := by
  intro args rows a h y hy
  simp only [k_s_GoodChange] at h
  split at h
  · injection h with h
    subst h
    exact vfun_ok eok_s_GoodChange Try.func38 rfl (by rw [v_s_GoodChange]; simp only at hy; rw [hy]; rfl)
  · cases h
def J_s_ReadChange : Joins := [(.r, ⟨[.sl true 34 (.pair (.int .i64) (.pair (.int .i64) .str)), .bool], [(2, .one (.vw 178243)), (3, .one (.h 1))], [], [(178243, 0)], [], []⟩)]
def ann_s_ReadChange : Ann := .seq .nil (.seq .nil (.seq (.seq .nil (.block [] (.loop ⟨[.sl false 5 (.int .u8), .sl true 34 (.pair (.int .i64) (.pair (.int .i64) .str)), .int .i64], [(0, .one (.h 0)), (4, .one (.vw 178176)), (5, .one (.h 2))], [], [(178176, 1)], [], []⟩ [(.x 0, ⟨[.sl true 34 (.pair (.int .i64) (.pair (.int .i64) .str))], [(4, .one (.vw 178242))], [], [(178242, 0)], [], []⟩), (.r, ⟨[.bool], [(2, .one (.nil)), (3, .one (.h 0))], [], [], [], []⟩)] (.seq .nil (.block [] (.seq .nil (.seq .nil (.seq (.seq .nil (.block [] (.seq .nil (.cond [(.n, ⟨[.sl false 5 (.int .u8), .sl true 34 (.pair (.int .i64) (.pair (.int .i64) .str)), .int .i64], [(0, .one (.h 0)), (4, .one (.vw 178241)), (5, .one (.h 2))], [], [(178241, 1)], [], []⟩), (.r, ⟨[.bool], [(2, .one (.nil)), (3, .one (.h 0))], [], [], [], []⟩)] .nil (.seq .nil (.cond [(.n, ⟨[.sl false 5 (.int .u8), .sl true 34 (.pair (.int .i64) (.pair (.int .i64) .str)), .int .i64], [(0, .one (.h 0)), (4, .one (.vw 178240)), (5, .one (.h 2))], [], [(178240, 1)], [], []⟩), (.r, ⟨[.bool], [(2, .one (.nil)), (3, .one (.h 0))], [], [], [], []⟩)] .nil .nil)))))) .nil)))))))) .nil))
def env_s_ReadChange : Env := envOf ti [k_s_GoodChange] []
theorem eok_s_ReadChange : EnvOk Try.prog env_s_ReadChange := envOf_ok tab mix _ _ (by
  intro k hk
  simp only [List.mem_cons, List.not_mem_nil, or_false] at hk
  rcases hk with rfl
  · exact s_s_GoodChange)
theorem v_s_ReadChange (x0 : List Int) : (vfun env_s_ReadChange Try.f52 J_s_ReadChange ann_s_ReadChange [] [.one ⟨.sl false 5 (.int .u8), x0⟩] []).run = (G.s_ReadChange x0).bind fun y => some (Res.mk [.one ⟨.sl true 34 (.pair (.int .i64) (.pair (.int .i64) .str)), y.1⟩, .one ⟨.bool, y.2⟩] [] []) := by kernel_rfl
def k_s_ReadChange : Kn := ⟨52, [0], fun args rows => match args, rows with
  | [.one ⟨.sl false 5 (.int .u8), x0⟩], [] => some ⟨_, G.s_ReadChange x0, fun y => ⟨[.one ⟨.sl true 34 (.pair (.int .i64) (.pair (.int .i64) .str)), y.1⟩, .one ⟨.bool, y.2⟩], [], []⟩⟩
  | _, _ => none, []⟩
theorem s_s_ReadChange : KnOk Try.prog k_s_ReadChange := by
  intro args rows a h y hy
  simp only [k_s_ReadChange] at h
  split at h
  · injection h with h
    subst h
    exact vfun_ok eok_s_ReadChange Try.func52 rfl (by rw [v_s_ReadChange]; simp only at hy; rw [hy]; rfl)
  · cases h
end
end Go.Proofs.Ythpnmoiohfiggaa

set_option linter.unusedVariables false
set_option maxRecDepth 100000
namespace Go.Proofs.Ythpnmoiohfiggaa
open Go.V
noncomputable section
def J_s_l1Source : Joins := [(.r, ⟨[.int .i64], [(2, .one (.h 0))], [], [], [], []⟩)]
def ann_s_l1Source : Ann := .seq .nil (.seq .nil (.seq (.seq .nil (.block [] (.loop ⟨[.int .i64, .sl false 34 (.pair (.int .i64) (.pair (.int .i64) .str)), .int .i64, .int .i64], [(3, .one (.h 0)), (6, .one (.h 1)), (7, .one (.h 2)), (8, .one (.h 3))], [], [], [], []⟩ [(.x 0, ⟨[.int .i64], [(3, .one (.h 0))], [], [], [], []⟩)] .nil))) .nil))
def env_s_l1Source : Env := envOf ti [] []
theorem eok_s_l1Source : EnvOk Try.prog env_s_l1Source := envOf_ok tab mix _ _ (by
  intro k hk; cases hk)
theorem v_s_l1Source (x0 : List (Int × (Int × List UInt8))) : (vfun env_s_l1Source Try.f40 J_s_l1Source ann_s_l1Source [] [.one ⟨.sl false 34 (.pair (.int .i64) (.pair (.int .i64) .str)), x0⟩] []).run = (G.s_l1Source x0).bind fun y => some (Res.mk [.one ⟨.int .i64, y⟩] [] []) := by kernel_rfl
def k_s_l1Source : Kn := ⟨40, [0], fun args rows => match args, rows with
  | [.one ⟨.sl false 34 (.pair (.int .i64) (.pair (.int .i64) .str)), x0⟩], [] => some ⟨_, G.s_l1Source x0, fun y => ⟨[.one ⟨.int .i64, y⟩], [], []⟩⟩
  | _, _ => none, []⟩
theorem s_s_l1Source : KnOk Try.prog k_s_l1Source := by
  intro args rows a h y hy
  simp only [k_s_l1Source] at h
  split at h
  · injection h with h
    subst h
    exact vfun_ok eok_s_l1Source Try.func40 rfl (by rw [v_s_l1Source]; simp only at hy; rw [hy]; rfl)
  · cases h
def J_s_l1Target : Joins := [(.r, ⟨[.int .i64], [(2, .one (.h 0))], [], [], [], []⟩)]
def ann_s_l1Target : Ann := .seq .nil (.seq .nil (.seq (.seq .nil (.block [] (.loop ⟨[.int .i64, .sl false 34 (.pair (.int .i64) (.pair (.int .i64) .str)), .int .i64, .int .i64], [(3, .one (.h 0)), (6, .one (.h 1)), (7, .one (.h 2)), (8, .one (.h 3))], [], [], [], []⟩ [(.x 0, ⟨[.int .i64], [(3, .one (.h 0))], [], [], [], []⟩)] .nil))) .nil))
def env_s_l1Target : Env := envOf ti [] []
theorem eok_s_l1Target : EnvOk Try.prog env_s_l1Target := envOf_ok tab mix _ _ (by
  intro k hk; cases hk)
theorem v_s_l1Target (x0 : List (Int × (Int × List UInt8))) : (vfun env_s_l1Target Try.f43 J_s_l1Target ann_s_l1Target [] [.one ⟨.sl false 34 (.pair (.int .i64) (.pair (.int .i64) .str)), x0⟩] []).run = (G.s_l1Target x0).bind fun y => some (Res.mk [.one ⟨.int .i64, y⟩] [] []) := by kernel_rfl
def k_s_l1Target : Kn := ⟨43, [0], fun args rows => match args, rows with
  | [.one ⟨.sl false 34 (.pair (.int .i64) (.pair (.int .i64) .str)), x0⟩], [] => some ⟨_, G.s_l1Target x0, fun y => ⟨[.one ⟨.int .i64, y⟩], [], []⟩⟩
  | _, _ => none, []⟩
theorem s_s_l1Target : KnOk Try.prog k_s_l1Target := by
  intro args rows a h y hy
  simp only [k_s_l1Target] at h
  split at h
  · injection h with h
    subst h
    exact vfun_ok eok_s_l1Target Try.func43 rfl (by rw [v_s_l1Target]; simp only at hy; rw [hy]; rfl)
  · cases h
def J_s_GoodHistory : Joins := [(.r, ⟨[.bool], [(2, .one (.h 0))], [], [], [], []⟩)]
def ann_s_GoodHistory : Ann := .seq .nil (.seq (.seq (.reg [(.n, ⟨[.bool, .int .i64, .str, .sl false 76 (.pair (.int .i64) (.int .i64)), .sl false 93 (.sl false 34 (.pair (.int .i64) (.pair (.int .i64) .str)))], [(1, .pl 1 0), (35, .one (.h 0))], [(1, [.h 1, .h 2, .h 3, .h 4])], [], [], []⟩)]) .nil) (.seq .nil (.seq (.seq .nil (.block [] (.loop ⟨[.int .i64, .sl false 93 (.sl false 34 (.pair (.int .i64) (.pair (.int .i64) .str))), .int .i64, .int .i64], [(3, .one (.h 0)), (40, .one (.h 1)), (41, .one (.h 2)), (42, .one (.h 3))], [], [], [], []⟩ [(.x 0, ⟨[], [], [], [], [], []⟩), (.r, ⟨[.bool], [(2, .one (.h 0))], [], [], [], []⟩)] (.seq .nil (.seq .nil (.seq (.block [] (.seq .nil (.seq (.seq (.reg [(.n, ⟨[.sl false 93 (.sl false 34 (.pair (.int .i64) (.pair (.int .i64) .str))), .int .i64, .int .i64, .bool, .sl false 34 (.pair (.int .i64) (.pair (.int .i64) .str))], [(5, .pl 5 0), (40, .one (.h 0)), (41, .one (.h 1)), (42, .one (.h 2)), (56, .one (.h 3))], [(5, [.h 4])], [], [], []⟩)]) .nil) .nil))) .nil)))))) .nil)))
def env_s_GoodHistory : Env := envOf ti [k_s_l1In, k_s_GoodRuns, k_s_GoodChange, k_s_l1Source, k_s_l1Target] []
theorem eok_s_GoodHistory : EnvOk Try.prog env_s_GoodHistory := envOf_ok tab mix _ _ (by
  intro k hk
  simp only [List.mem_cons, List.not_mem_nil, or_false] at hk
  rcases hk with rfl | rfl | rfl | rfl | rfl
  · exact s_s_l1In
  · exact s_s_GoodRuns
  · exact s_s_GoodChange
  · exact s_s_l1Source
  · exact s_s_l1Target)
theorem v_s_GoodHistory (x0 : Int) (x1 : List UInt8) (x2 : List (Int × Int)) (x3 : List (List (Int × (Int × List UInt8)))) : (vfun env_s_GoodHistory Try.f53 J_s_GoodHistory ann_s_GoodHistory [] [.ag [⟨.int .i64, x0⟩, ⟨.str, x1⟩, ⟨.sl false 76 (.pair (.int .i64) (.int .i64)), x2⟩, ⟨.sl false 93 (.sl false 34 (.pair (.int .i64) (.pair (.int .i64) .str))), x3⟩]] []).run = (G.s_GoodHistory x0 x1 x2 x3).bind fun y => some (Res.mk [.one ⟨.bool, y⟩] [] []) := by kernel_rfl
def k_s_GoodHistory : Kn := ⟨53, [0], fun args rows => match args, rows with
  | [.ag [⟨.int .i64, x0⟩, ⟨.str, x1⟩, ⟨.sl false 76 (.pair (.int .i64) (.int .i64)), x2⟩, ⟨.sl false 93 (.sl false 34 (.pair (.int .i64) (.pair (.int .i64) .str))), x3⟩]], [] => some ⟨_, G.s_GoodHistory x0 x1 x2 x3, fun y => ⟨[.one ⟨.bool, y⟩], [], []⟩⟩
  | _, _ => none, []⟩
theorem s_s_GoodHistory : KnOk Try.prog k_s_GoodHistory := by
  intro args rows a h y hy
  simp only [k_s_GoodHistory] at h
  split at h
  · injection h with h
    subst h
    exact vfun_ok eok_s_GoodHistory Try.func53 rfl (by rw [v_s_GoodHistory]; simp only at hy; rw [hy]; rfl)
  · cases h
def J_s_ReadBundle : Joins := [(.r, ⟨[.int .i64, .int .i64, .str, .sl true 76 (.pair (.int .i64) (.int .i64)), .sl true 93 (.sl true 34 (.pair (.int .i64) (.pair (.int .i64) .str)))], [(2, .pl 2 0), (3, .one (.h 0))], [(2, [.h 1, .h 2, .vw 317580, .vw 317581])], [(317580, 3), (317581, 4)], [], []⟩)]
def ann_s_ReadBundle : Ann := .seq .nil (.seq .nil (.seq .nil (.seq (.seq (.reg [(.n, ⟨[.sl false 5 (.int .u8), .bool, .int .i64, .str], [(0, .one (.h 0)), (2, .pl 2 0), (48, .one (.h 1))], [(2, [.h 2, .h 3, .nil, .nil])], [], [], []⟩)]) .nil) (.seq .nil (.seq .nil (.seq (.seq (.reg [(.n, ⟨[.sl false 5 (.int .u8), .bool, .int .i64, .str], [(2, .pl 2 0), (4, .one (.h 0)), (101, .one (.h 1))], [(2, [.h 2, .h 3, .nil, .nil])], [], [], []⟩)]) .nil) (.seq .nil (.seq .nil (.seq .nil (.seq (.seq (.reg [(.n, ⟨[.sl false 5 (.int .u8), .int .i64, .int .i64, .bool, .int .i64, .str, .sl false 5 (.int .u8), .int .i64, .bool], [(2, .pl 2 0), (4, .one (.h 0)), (6, .pl 105 0), (7, .one (.h 1)), (8, .one (.h 2)), (123, .one (.h 3))], [(2, [.h 4, .h 5, .nil, .nil]), (105, [.h 6, .h 7, .h 8])], [], [], []⟩)]) .nil) (.seq .nil (.seq .nil (.seq .nil (.seq (.seq .nil (.block [] (.loop ⟨[.sl false 5 (.int .u8), .int .i64, .sl false 5 (.int .u8), .sl true 22 (.sl false 5 (.int .u8)), .int .i64, .int .i64, .str, .int .i64, .str, .sl false 5 (.int .u8), .int .i64, .bool], [(2, .pl 2 0), (4, .one (.h 0)), (6, .pl 105 0), (8, .one (.h 1)), (9, .pl 9 0), (10, .one (.h 2)), (11, .one (.vw 317440)), (12, .one (.h 4))], [(2, [.h 5, .h 6, .nil, .nil]), (9, [.h 7, .h 8, .nil, .nil]), (105, [.h 9, .h 10, .h 11])], [(317440, 3)], [], []⟩ [(.x 0, ⟨[.sl false 5 (.int .u8), .sl false 5 (.int .u8), .sl true 22 (.sl false 5 (.int .u8)), .int .i64, .str, .int .i64, .str, .sl false 5 (.int .u8), .int .i64, .bool], [(2, .pl 2 0), (4, .one (.h 0)), (6, .pl 105 0), (9, .pl 9 0), (10, .one (.h 1)), (11, .one (.vw 317505))], [(2, [.h 3, .h 4, .nil, .nil]), (9, [.h 5, .h 6, .nil, .nil]), (105, [.h 7, .h 8, .h 9])], [(317505, 2)], [], []⟩)] (.seq (.seq (.reg [(.n, ⟨[.sl false 5 (.int .u8), .int .i64, .sl false 5 (.int .u8), .sl true 22 (.sl false 5 (.int .u8)), .int .i64, .bool, .int .i64, .str, .int .i64, .str, .sl false 5 (.int .u8), .int .i64, .bool], [(2, .pl 2 0), (4, .one (.h 0)), (6, .pl 105 0), (8, .one (.h 1)), (9, .pl 9 0), (10, .one (.h 2)), (11, .one (.vw 317504)), (12, .one (.h 4)), (146, .one (.h 5))], [(2, [.h 6, .h 7, .nil, .nil]), (9, [.h 8, .h 9, .nil, .nil]), (105, [.h 10, .h 11, .h 12])], [(317504, 3)], [], []⟩)]) .nil) .nil)))) (.seq .nil (.seq .nil (.seq .nil (.seq (.reg [(.n, ⟨[.sl true 22 (.sl false 5 (.int .u8)), .bool, .int .i64, .str, .int .i64, .str, .sl true 76 (.pair (.int .i64) (.int .i64))], [(2, .pl 2 0), (9, .pl 9 0), (11, .one (.vw 317506)), (14, .one (.h 1))], [(2, [.h 2, .h 3, .nil, .nil]), (9, [.h 4, .h 5, .vw 317507, .nil])], [(317506, 0), (317507, 6)], [], []⟩)]) (.seq (.seq .nil (.block [] (.loop ⟨[.bool, .sl true 22 (.sl false 5 (.int .u8)), .int .i64, .int .i64, .int .i64, .str, .int .i64, .str, .sl true 76 (.pair (.int .i64) (.int .i64)), .sl true 93 (.sl true 34 (.pair (.int .i64) (.pair (.int .i64) .str)))], [(2, .pl 2 0), (9, .pl 9 0), (14, .one (.h 0)), (178, .one (.vw 317508)), (179, .one (.h 2)), (180, .one (.h 3))], [(2, [.h 4, .h 5, .nil, .nil]), (9, [.h 6, .h 7, .vw 317509, .vw 317510])], [(317508, 1), (317509, 8), (317510, 9)], [], []⟩ [(.x 2, ⟨[.bool, .int .i64, .str, .int .i64, .str, .sl true 76 (.pair (.int .i64) (.int .i64)), .sl true 93 (.sl true 34 (.pair (.int .i64) (.pair (.int .i64) .str)))], [(2, .pl 2 0), (9, .pl 9 0), (14, .one (.h 0))], [(2, [.h 1, .h 2, .nil, .nil]), (9, [.h 3, .h 4, .vw 317576, .vw 317577])], [(317576, 5), (317577, 6)], [], []⟩)] (.seq .nil (.seq .nil (.seq (.block [] (.seq .nil (.seq .nil (.seq (.reg [(.n, ⟨[.bool, .sl true 34 (.pair (.int .i64) (.pair (.int .i64) .str)), .sl true 22 (.sl false 5 (.int .u8)), .int .i64, .int .i64, .int .i64, .str, .int .i64, .str, .sl true 76 (.pair (.int .i64) (.int .i64)), .sl true 93 (.sl true 34 (.pair (.int .i64) (.pair (.int .i64) .str)))], [(2, .pl 2 0), (9, .pl 9 0), (14, .one (.h 0)), (17, .one (.vw 317572)), (178, .one (.vw 317573)), (179, .one (.h 3)), (180, .one (.h 4))], [(2, [.h 5, .h 6, .nil, .nil]), (9, [.h 7, .h 8, .vw 317574, .vw 317575])], [(317572, 1), (317573, 2), (317574, 9), (317575, 10)], [], []⟩)]) .nil)))) .nil)))))) (.seq (.seq (.reg [(.n, ⟨[.bool, .int .i64, .str, .int .i64, .str, .sl true 76 (.pair (.int .i64) (.int .i64)), .sl true 93 (.sl true 34 (.pair (.int .i64) (.pair (.int .i64) .str)))], [(2, .pl 2 0), (9, .pl 9 0), (207, .one (.h 0))], [(2, [.h 1, .h 2, .nil, .nil]), (9, [.h 3, .h 4, .vw 317578, .vw 317579])], [(317578, 5), (317579, 6)], [], []⟩)]) .nil) .nil))))))))))))))))))))
def env_s_ReadBundle : Env := envOf ti [k_s_DigestOf, k_s_l13R_number_f, k_s_l13R_take_f, k_s_ReadRuns, k_s_ReadChange, k_s_GoodHistory] []
theorem eok_s_ReadBundle : EnvOk Try.prog env_s_ReadBundle := envOf_ok tab mix _ _ (by
  intro k hk
  simp only [List.mem_cons, List.not_mem_nil, or_false] at hk
  rcases hk with rfl | rfl | rfl | rfl | rfl | rfl
  · exact s_s_DigestOf
  · exact s_s_l13R_number_f
  · exact s_s_l13R_take_f
  · exact s_s_ReadRuns
  · exact s_s_ReadChange
  · exact s_s_GoodHistory)
theorem v_s_ReadBundle (x0 : List Int) : (vfun env_s_ReadBundle Try.f15 J_s_ReadBundle ann_s_ReadBundle [] [.one ⟨.sl false 5 (.int .u8), x0⟩] []).run = (G.s_ReadBundle x0).bind fun y => some (Res.mk [.ag [⟨.int .i64, y.2.1⟩, ⟨.str, y.2.2.1⟩, ⟨.sl true 76 (.pair (.int .i64) (.int .i64)), y.2.2.2.1⟩, ⟨.sl true 93 (.sl true 34 (.pair (.int .i64) (.pair (.int .i64) .str))), y.2.2.2.2⟩], .one ⟨.int .i64, y.1⟩] [] []) := by kernel_rfl
def k_s_ReadBundle : Kn := ⟨15, [0], fun args rows => match args, rows with
  | [.one ⟨.sl false 5 (.int .u8), x0⟩], [] => some ⟨_, G.s_ReadBundle x0, fun y => ⟨[.ag [⟨.int .i64, y.2.1⟩, ⟨.str, y.2.2.1⟩, ⟨.sl true 76 (.pair (.int .i64) (.int .i64)), y.2.2.2.1⟩, ⟨.sl true 93 (.sl true 34 (.pair (.int .i64) (.pair (.int .i64) .str))), y.2.2.2.2⟩], .one ⟨.int .i64, y.1⟩], [], []⟩⟩
  | _, _ => none, []⟩
theorem s_s_ReadBundle : KnOk Try.prog k_s_ReadBundle := by
  intro args rows a h y hy
  simp only [k_s_ReadBundle] at h
  split at h
  · injection h with h
    subst h
    exact vfun_ok eok_s_ReadBundle Try.func15 rfl (by rw [v_s_ReadBundle]; simp only at hy; rw [hy]; rfl)
  · cases h
def J_slices_Equal_byte_byte : Joins := [(.r, ⟨[.bool], [(4, .one (.h 0))], [], [], [], []⟩)]
def ann_slices_Equal_byte_byte : Ann := .seq .nil (.seq .nil (.seq (.seq .nil (.block [] (.loop ⟨[.sl false 5 (.int .u8), .sl false 5 (.int .u8), .int .i64, .int .i64], [(0, .one (.h 0)), (1, .one (.h 1)), (12, .one (.h 2)), (13, .one (.h 3))], [], [], [], []⟩ [(.x 0, ⟨[], [], [], [], [], []⟩), (.r, ⟨[.bool], [(4, .one (.h 0))], [], [], [], []⟩)] .nil))) .nil))
def env_slices_Equal_byte_byte : Env := envOf ti [] []
theorem eok_slices_Equal_byte_byte : EnvOk Try.prog env_slices_Equal_byte_byte := envOf_ok tab mix _ _ (by
  intro k hk; cases hk)
theorem v_slices_Equal_byte_byte (x0 : List Int) (x1 : List Int) : (vfun env_slices_Equal_byte_byte Try.f54 J_slices_Equal_byte_byte ann_slices_Equal_byte_byte [] [.one ⟨.sl false 5 (.int .u8), x0⟩, .one ⟨.sl false 5 (.int .u8), x1⟩] []).run = (G.slices_Equal_byte_byte x0 x1).bind fun y => some (Res.mk [.one ⟨.bool, y⟩] [] []) := by kernel_rfl
def k_slices_Equal_byte_byte : Kn := ⟨54, [0, 0], fun args rows => match args, rows with
  | [.one ⟨.sl false 5 (.int .u8), x0⟩, .one ⟨.sl false 5 (.int .u8), x1⟩], [] => some ⟨_, G.slices_Equal_byte_byte x0 x1, fun y => ⟨[.one ⟨.bool, y⟩], [], []⟩⟩
  | _, _ => none, []⟩
theorem s_slices_Equal_byte_byte : KnOk Try.prog k_slices_Equal_byte_byte := by
  intro args rows a h y hy
  simp only [k_slices_Equal_byte_byte] at h
  split at h
  · injection h with h
    subst h
    exact vfun_ok eok_slices_Equal_byte_byte Try.func54 rfl (by rw [v_slices_Equal_byte_byte]; simp only at hy; rw [hy]; rfl)
  · cases h
def J_i_digest : Joins := [(.r, ⟨[.int .u32], [(4, .one (.h 0))], [], [], [], []⟩)]
def ann_i_digest : Ann := .seq .nil (.seq (.seq .nil (.block [] (.loop ⟨[.int .u32, .sl false 5 (.int .u8), .int .i64, .int .i64], [(0, .one (.h 0)), (7, .one (.h 1)), (8, .one (.h 2)), (9, .one (.h 3))], [], [], [], []⟩ [(.x 0, ⟨[.int .u32], [(0, .one (.h 0))], [], [], [], []⟩)] .nil))) .nil)
def env_i_digest : Env := envOf ti [] []
theorem eok_i_digest : EnvOk Try.prog env_i_digest := envOf_ok tab mix _ _ (by
  intro k hk; cases hk)
theorem v_i_digest (x0 : Int) (x1 : List Int) : (vfun env_i_digest Try.f88 J_i_digest ann_i_digest [] [.one ⟨.int .u32, x0⟩, .one ⟨.sl false 5 (.int .u8), x1⟩] []).run = (G.i_digest x0 x1).bind fun y => some (Res.mk [.one ⟨.int .u32, y⟩] [] []) := by kernel_rfl
def k_i_digest : Kn := ⟨88, [0, 0], fun args rows => match args, rows with
  | [.one ⟨.int .u32, x0⟩, .one ⟨.sl false 5 (.int .u8), x1⟩], [] => some ⟨_, G.i_digest x0 x1, fun y => ⟨[.one ⟨.int .u32, y⟩], [], []⟩⟩
  | _, _ => none, []⟩
theorem s_i_digest : KnOk Try.prog k_i_digest := by
  intro args rows a h y hy
  simp only [k_i_digest] at h
  split at h
  · injection h with h
    subst h
    exact vfun_ok eok_i_digest Try.func88 rfl (by rw [v_i_digest]; simp only at hy; rw [hy]; rfl)
  · cases h
def J_i_DigestOf : Joins := [(.r, ⟨[.int .u32], [(2, .one (.h 0))], [], [], [], []⟩)]
def ann_i_DigestOf : Ann := .nil
def env_i_DigestOf : Env := envOf ti [k_i_digest] []
theorem eok_i_DigestOf : EnvOk Try.prog env_i_DigestOf := envOf_ok tab mix _ _ (by
  intro k hk
  simp only [List.mem_cons, List.not_mem_nil, or_false] at hk
  rcases hk with rfl
  · exact s_i_digest)
theorem v_i_DigestOf (x0 : List Int) : (vfun env_i_DigestOf Try.f56 J_i_DigestOf ann_i_DigestOf [] [.one ⟨.sl false 5 (.int .u8), x0⟩] []).run = (G.i_DigestOf x0).bind fun y => some (Res.mk [.one ⟨.int .u32, y⟩] [] []) := by kernel_rfl
def k_i_DigestOf : Kn := ⟨56, [0], fun args rows => match args, rows with
  | [.one ⟨.sl false 5 (.int .u8), x0⟩], [] => some ⟨_, G.i_DigestOf x0, fun y => ⟨[.one ⟨.int .u32, y⟩], [], []⟩⟩
  | _, _ => none, []⟩
theorem s_i_DigestOf : KnOk Try.prog k_i_DigestOf := by
  intro args rows a h y hy
  simp only [k_i_DigestOf] at h
  split at h
  · injection h with h
    subst h
    exact vfun_ok eok_i_DigestOf Try.func56 rfl (by rw [v_i_DigestOf]; simp only at hy; rw [hy]; rfl)
  · cases h
def J_i_four : Joins := [(.r, ⟨[.sl true 5 (.int .u8)], [(2, .one (.vw 117760))], [], [(117760, 0)], [], []⟩)]
def ann_i_four : Ann := .nil
def env_i_four : Env := envOf ti [] []
theorem eok_i_four : EnvOk Try.prog env_i_four := envOf_ok tab mix _ _ (by
  intro k hk; cases hk)
theorem v_i_four (x0 : Int) : (vfun env_i_four Try.f55 J_i_four ann_i_four [] [.one ⟨.int .u32, x0⟩] []).run = (G.i_four x0).bind fun y => some (Res.mk [.one ⟨.sl true 5 (.int .u8), y⟩] [] []) := by kernel_rfl
def k_i_four : Kn := ⟨55, [0], fun args rows => match args, rows with
  | [.one ⟨.int .u32, x0⟩], [] => some ⟨_, G.i_four x0, fun y => ⟨[.one ⟨.sl true 5 (.int .u8), y⟩], [], []⟩⟩
  | _, _ => none, []⟩
theorem s_i_four : KnOk Try.prog k_i_four := by
  intro args rows a h y hy
  simp only [k_i_four] at h
  split at h
  · injection h with h
    subst h
    exact vfun_ok eok_i_four Try.func55 rfl (by rw [v_i_four]; simp only at hy; rw [hy]; rfl)
  · cases h
def J_i_taker_take_f : Joins := [(.r, ⟨[.sl false 5 (.int .u8), .sl false 5 (.int .u8), .bool], [(4, .one (.h 0))], [(33, [.h 1, .h 2])], [], [], []⟩)]
def ann_i_taker_take_f : Ann := .seq .nil (.seq (.seq .nil (.cond [(.n, ⟨[.int .i64, .sl false 5 (.int .u8), .bool], [(0, .pl 33 0), (1, .one (.h 0))], [(33, [.h 1, .h 2])], [], [], []⟩)] .nil .nil)) .nil)
def env_i_taker_take_f : Env := envOf ti [] []
theorem eok_i_taker_take_f : EnvOk Try.prog env_i_taker_take_f := envOf_ok tab mix _ _ (by
  intro k hk; cases hk)
theorem v_i_taker_take_f (x0 : Int) (x1 : List Int) (x2 : Bool) : (vfun env_i_taker_take_f Try.f89 J_i_taker_take_f ann_i_taker_take_f [] [.pl 0 0, .one ⟨.int .i64, x0⟩] [[⟨.sl false 5 (.int .u8), x1⟩, ⟨.bool, x2⟩]]).run = (G.i_taker_take_f x0 x1 x2).bind fun y => some (Res.mk [.one ⟨.sl false 5 (.int .u8), y.1⟩] [[⟨.sl false 5 (.int .u8), y.2.1⟩, ⟨.bool, y.2.2⟩]] []) := by kernel_rfl
def k_i_taker_take_f : Kn := ⟨89, [0, 0], fun args rows => match args, rows with
  | [.pl 0 0, .one ⟨.int .i64, x0⟩], [[⟨.sl false 5 (.int .u8), x1⟩, ⟨.bool, x2⟩]] => some ⟨_, G.i_taker_take_f x0 x1 x2, fun y => ⟨[.one ⟨.sl false 5 (.int .u8), y.1⟩], [[⟨.sl false 5 (.int .u8), y.2.1⟩, ⟨.bool, y.2.2⟩]], []⟩⟩
  | _, _ => none, []⟩
theorem s_i_taker_take_f : KnOk Try.prog k_i_taker_take_f := by
  intro args rows a h y hy
  simp only [k_i_taker_take_f] at h
  split at h
  · injection h with h
    subst h
    exact vfun_ok eok_i_taker_take_f Try.func89 rfl (by rw [v_i_taker_take_f]; simp only at hy; rw [hy]; rfl)
  · cases h
def J_i_taker_sized_f : Joins := [(.r, ⟨[.sl false 5 (.int .u8), .sl false 5 (.int .u8), .bool], [(4, .one (.h 0))], [(26, [.h 1, .h 2])], [], [], []⟩)]
def ann_i_taker_sized_f : Ann := .seq .nil (.seq .nil (.seq (.seq .nil (.block [] (.loop ⟨[.int .i64, .sl false 5 (.int .u8), .int .i64, .int .i64, .sl false 5 (.int .u8), .bool], [(0, .pl 26 0), (5, .one (.h 0)), (10, .one (.h 1)), (11, .one (.h 2)), (12, .one (.h 3))], [(26, [.h 4, .h 5])], [], [], []⟩ [(.x 0, ⟨[.int .i64, .sl false 5 (.int .u8), .bool], [(0, .pl 26 0), (5, .one (.h 0))], [(26, [.h 1, .h 2])], [], [], []⟩)] .nil))) .nil))
def env_i_taker_sized_f : Env := envOf ti [k_i_taker_take_f] []
theorem eok_i_taker_sized_f : EnvOk Try.prog env_i_taker_sized_f := envOf_ok tab mix _ _ (by
  intro k hk
  simp only [List.mem_cons, List.not_mem_nil, or_false] at hk
  rcases hk with rfl
  · exact s_i_taker_take_f)
theorem v_i_taker_sized_f (x0 : Int) (x1 : List Int) (x2 : Bool) : (vfun env_i_taker_sized_f Try.f57 J_i_taker_sized_f ann_i_taker_sized_f [] [.pl 0 0, .one ⟨.int .i64, x0⟩] [[⟨.sl false 5 (.int .u8), x1⟩, ⟨.bool, x2⟩]]).run = (G.i_taker_sized_f x0 x1 x2).bind fun y => some (Res.mk [.one ⟨.sl false 5 (.int .u8), y.1⟩] [[⟨.sl false 5 (.int .u8), y.2.1⟩, ⟨.bool, y.2.2⟩]] []) := by kernel_rfl
def k_i_taker_sized_f : Kn := ⟨57, [0, 0], fun args rows => match args, rows with
  | [.pl 0 0, .one ⟨.int .i64, x0⟩], [[⟨.sl false 5 (.int .u8), x1⟩, ⟨.bool, x2⟩]] => some ⟨_, G.i_taker_sized_f x0 x1 x2, fun y => ⟨[.one ⟨.sl false 5 (.int .u8), y.1⟩], [[⟨.sl false 5 (.int .u8), y.2.1⟩, ⟨.bool, y.2.2⟩]], []⟩⟩
  | _, _ => none, []⟩
theorem s_i_taker_sized_f : KnOk Try.prog k_i_taker_sized_f := by
  intro args rows a h y hy
  simp only [k_i_taker_sized_f] at h
  split at h
  · injection h with h
    subst h
    exact vfun_ok eok_i_taker_sized_f Try.func57 rfl (by rw [v_i_taker_sized_f]; simp only at hy; rw [hy]; rfl)
  · cases h
def J_i_within : Joins := [(.r, ⟨[.bool], [(6, .one (.h 0))], [], [], [], []⟩)]
def ann_i_within : Ann := .seq .nil (.seq (.reg [(.n, ⟨[.bool], [(6, .one (.h 0))], [], [], [], []⟩)]) .nil)
def env_i_within : Env := envOf ti [] []
theorem eok_i_within : EnvOk Try.prog env_i_within := envOf_ok tab mix _ _ (by
  intro k hk; cases hk)
theorem v_i_within (x0 : Int) (x1 : Int) (x2 : Int) : (vfun env_i_within Try.f36 J_i_within ann_i_within [] [.one ⟨.int .i64, x0⟩, .one ⟨.int .i64, x1⟩, .one ⟨.int .i64, x2⟩] []).run = (G.i_within x0 x1 x2).bind fun y => some (Res.mk [.one ⟨.bool, y⟩] [] []) := by kernel_rfl
def k_i_within : Kn := ⟨36, [0, 0, 0], fun args rows => match args, rows with
  | [.one ⟨.int .i64, x0⟩, .one ⟨.int .i64, x1⟩, .one ⟨.int .i64, x2⟩], [] => some ⟨_, G.i_within x0 x1 x2, fun y => ⟨[.one ⟨.bool, y⟩], [], []⟩⟩
  | _, _ => none, []⟩
theorem s_i_within : KnOk Try.prog k_i_within := by
  intro args rows a h y hy
  simp only [k_i_within] at h
  split at h
  · injection h with h
    subst h
    exact vfun_ok eok_i_within Try.func36 rfl (by rw [v_i_within]; simp only at hy; rw [hy]; rfl)
  · cases h
def J_i_GoodRuns : Joins := [(.r, ⟨[.bool], [(6, .one (.h 0))], [], [], [], []⟩)]
def ann_i_GoodRuns : Ann := .seq .nil (.seq (.seq (.reg [(.n, ⟨[.sl false 76 (.pair (.int .i64) (.int .i64)), .int .i64, .int .i64, .bool], [(0, .one (.h 0)), (1, .one (.h 1)), (2, .one (.h 2)), (17, .one (.h 3))], [], [], [], []⟩)]) .nil) (.seq .nil (.seq (.seq .nil (.block [] (.loop ⟨[.sl false 76 (.pair (.int .i64) (.int .i64)), .int .i64, .int .i64, .int .i64, .sl false 76 (.pair (.int .i64) (.int .i64)), .int .i64, .int .i64], [(0, .one (.h 0)), (1, .one (.h 1)), (2, .one (.h 2)), (7, .one (.h 3)), (18, .one (.h 4)), (19, .one (.h 5)), (20, .one (.h 6))], [], [], [], []⟩ [(.x 0, ⟨[.int .i64, .int .i64], [(1, .one (.h 0)), (7, .one (.h 1))], [], [], [], []⟩), (.r, ⟨[.bool], [(6, .one (.h 0))], [], [], [], []⟩)] (.seq .nil (.seq .nil (.seq (.block [] (.seq .nil (.seq (.seq (.reg [(.n, ⟨[.sl false 76 (.pair (.int .i64) (.int .i64)), .int .i64, .int .i64, .int .i64, .sl false 76 (.pair (.int .i64) (.int .i64)), .int .i64, .int .i64, .bool, .int .i64, .int .i64], [(0, .one (.h 0)), (1, .one (.h 1)), (2, .one (.h 2)), (7, .one (.h 3)), (9, .pl 9 0), (18, .one (.h 4)), (19, .one (.h 5)), (20, .one (.h 6)), (50, .one (.h 7))], [(9, [.h 8, .h 9])], [], [], []⟩)]) .nil) .nil))) .nil)))))) .nil)))
def env_i_GoodRuns : Env := envOf ti [k_i_within] []
theorem eok_i_GoodRuns : EnvOk Try.prog env_i_GoodRuns := envOf_ok tab mix _ _ (by
  intro k hk
  simp only [List.mem_cons, List.not_mem_nil, or_false] at hk
  rcases hk with rfl
  · exact s_i_within)
theorem v_i_GoodRuns (x0 : List (Int × Int)) (x1 : Int) (x2 : Int) : (vfun env_i_GoodRuns Try.f11 J_i_GoodRuns ann_i_GoodRuns [] [.one ⟨.sl false 76 (.pair (.int .i64) (.int .i64)), x0⟩, .one ⟨.int .i64, x1⟩, .one ⟨.int .i64, x2⟩] []).run = (G.i_GoodRuns x0 x1 x2).bind fun y => some (Res.mk [.one ⟨.bool, y⟩] [] []) := by kernel_rfl
def k_i_GoodRuns : Kn := ⟨11, [0, 0, 0], fun args rows => match args, rows with
  | [.one ⟨.sl false 76 (.pair (.int .i64) (.int .i64)), x0⟩, .one ⟨.int .i64, x1⟩, .one ⟨.int .i64, x2⟩], [] => some ⟨_, G.i_GoodRuns x0 x1 x2, fun y => ⟨[.one ⟨.bool, y⟩], [], []⟩⟩
  | _, _ => none, []⟩
theorem s_i_GoodRuns : KnOk Try.prog k_i_GoodRuns := by
  intro args rows a h y hy
  simp only [k_i_GoodRuns] at h
  split at h
  · injection h with h
    subst h
    exact vfun_ok eok_i_GoodRuns Try.func11 rfl (by rw [v_i_GoodRuns]; simp only at hy; rw [hy]; rfl)
  · cases h
end
end Go.Proofs.Ythpnmoiohfiggaa

set_option linter.unusedVariables false
set_option maxRecDepth 100000
namespace Go.Proofs.Ythpnmoiohfiggaa
open Go.V
noncomputable section
def J_i_someRuns : Joins := [(.r, ⟨[.bool], [(2, .one (.h 0))], [], [], [], []⟩)]
def ann_i_someRuns : Ann := .seq .nil (.seq .nil (.seq (.seq .nil (.block [] (.loop ⟨[.sl false 76 (.pair (.int .i64) (.int .i64)), .int .i64, .sl false 76 (.pair (.int .i64) (.int .i64)), .int .i64, .int .i64], [(0, .one (.h 0)), (3, .one (.h 1)), (6, .one (.h 2)), (7, .one (.h 3)), (8, .one (.h 4))], [], [], [], []⟩ [(.x 0, ⟨[.sl false 76 (.pair (.int .i64) (.int .i64)), .int .i64], [(0, .one (.h 0)), (3, .one (.h 1))], [], [], [], []⟩), (.r, ⟨[.bool], [(2, .one (.h 0))], [], [], [], []⟩)] (.seq .nil (.seq .nil (.seq (.block [] (.seq .nil (.seq (.seq (.reg [(.n, ⟨[.sl false 76 (.pair (.int .i64) (.int .i64)), .int .i64, .sl false 76 (.pair (.int .i64) (.int .i64)), .int .i64, .int .i64, .bool, .int .i64, .int .i64], [(0, .one (.h 0)), (3, .one (.h 1)), (5, .pl 5 0), (6, .one (.h 2)), (7, .one (.h 3)), (8, .one (.h 4)), (19, .one (.h 5))], [(5, [.h 6, .h 7])], [], [], []⟩)]) .nil) .nil))) .nil)))))) .nil))
def env_i_someRuns : Env := envOf ti [k_i_within, k_i_GoodRuns] []
theorem eok_i_someRuns : EnvOk Try.prog env_i_someRuns := envOf_ok tab mix _ _ (by
  intro k hk
  simp only [List.mem_cons, List.not_mem_nil, or_false] at hk
  rcases hk with rfl | rfl
  · exact s_i_within
  · exact s_i_GoodRuns)
theorem v_i_someRuns (x0 : List (Int × Int)) : (vfun env_i_someRuns Try.f44 J_i_someRuns ann_i_someRuns [] [.one ⟨.sl false 76 (.pair (.int .i64) (.int .i64)), x0⟩] []).run = (G.i_someRuns x0).bind fun y => some (Res.mk [.one ⟨.bool, y⟩] [] []) := by kernel_rfl
def k_i_someRuns : Kn := ⟨44, [0], fun args rows => match args, rows with
  | [.one ⟨.sl false 76 (.pair (.int .i64) (.int .i64)), x0⟩], [] => some ⟨_, G.i_someRuns x0, fun y => ⟨[.one ⟨.bool, y⟩], [], []⟩⟩
  | _, _ => none, []⟩
theorem s_i_someRuns : KnOk Try.prog k_i_someRuns := by
  intro args rows a h y hy
  simp only [k_i_someRuns] at h
  split at h
  · injection h with h
    subst h
    exact vfun_ok eok_i_someRuns Try.func44 rfl (by rw [v_i_someRuns]; simp only at hy; rw [hy]; rfl)
  · cases h
def k_i_ReadRuns : Kn := ⟨14, [0], fun args rows => match args, rows with
  | [.one ⟨.sl false 5 (.int .u8), x0⟩], [] => some ⟨_, G.i_ReadRuns x0, fun y => ⟨[.one ⟨.sl true 76 (.pair (.int .i64) (.int .i64)), y.1⟩, .one ⟨.bool, y.2⟩], [], []⟩⟩
  | _, _ => none, []⟩
theorem s_i_ReadRuns : KnOk Try.prog k_i_ReadRuns := by
  intro args rows a h y hy
  simp only [k_i_ReadRuns] at h
  split at h
  · injection h with h
    subst h
    exact Go.Proofs.rr_known (fun xs b hb => s_i_someRuns [.one ⟨.sl false 76 (.pair (.int .i64) (.int .i64)), xs⟩] [] _ rfl b hb) hy
  · cases h
def J_i_Part_kind : Joins := [(.r, ⟨[.int .i64], [(2, .one (.h 0))], [], [], [], []⟩)]
def ann_i_Part_kind : Ann := .seq .nil (.seq (.block [] (.seq (.reg [(.n, ⟨[.bool, .int .i64, .int .i64, .str], [(1, .pl 1 0), (3, .one (.h 0))], [(1, [.h 1, .h 2, .h 3])], [], [], []⟩)]) (.cond [] .nil (.seq (.reg [(.n, ⟨[.bool, .int .i64, .int .i64, .str], [(1, .pl 1 0), (17, .one (.h 0))], [(1, [.h 1, .h 2, .h 3])], [], [], []⟩)]) (.cond [] .nil (.seq (.reg [(.n, ⟨[.bool], [(31, .one (.h 0))], [], [], [], []⟩)]) .nil)))))) .nil)
def env_i_Part_kind : Env := envOf ti [] []
theorem eok_i_Part_kind : EnvOk Try.prog env_i_Part_kind := envOf_ok tab mix _ _ (by
  intro k hk; cases hk)
theorem v_i_Part_kind (x0 : Int) (x1 : Int) (x2 : List UInt8) : (vfun env_i_Part_kind Try.f106 J_i_Part_kind ann_i_Part_kind [] [.ag [⟨.int .i64, x0⟩, ⟨.int .i64, x1⟩, ⟨.str, x2⟩]] []).run = (G.i_Part_kind x0 x1 x2).bind fun y => some (Res.mk [.one ⟨.int .i64, y⟩] [] []) := by kernel_rfl
def k_i_Part_kind : Kn := ⟨106, [0], fun args rows => match args, rows with
  | [.ag [⟨.int .i64, x0⟩, ⟨.int .i64, x1⟩, ⟨.str, x2⟩]], [] => some ⟨_, G.i_Part_kind x0 x1 x2, fun y => ⟨[.one ⟨.int .i64, y⟩], [], []⟩⟩
  | _, _ => none, []⟩
theorem s_i_Part_kind : KnOk Try.prog k_i_Part_kind := by
  intro args rows a h y hy
  simp only [k_i_Part_kind] at h
  split at h
  · injection h with h
    subst h
    exact vfun_ok eok_i_Part_kind Try.func106 rfl (by rw [v_i_Part_kind]; simp only at hy; rw [hy]; rfl)
  · cases h
def J_i_lengths : Joins := [(.r, ⟨[.int .i64, .int .i64, .bool], [(2, .one (.h 0)), (3, .one (.h 1)), (4, .one (.h 2))], [], [], [], []⟩)]
def ann_i_lengths : Ann := .seq .nil (.seq .nil (.seq (.seq .nil (.block [] (.loop ⟨[.int .i64, .int .i64, .sl false 34 (.pair (.int .i64) (.pair (.int .i64) .str)), .int .i64, .int .i64], [(5, .one (.h 0)), (6, .one (.h 1)), (9, .one (.h 2)), (10, .one (.h 3)), (11, .one (.h 4))], [], [], [], []⟩ [(.x 0, ⟨[.int .i64, .int .i64], [(5, .one (.h 0)), (6, .one (.h 1))], [], [], [], []⟩), (.r, ⟨[.int .i64, .int .i64, .bool], [(2, .one (.h 0)), (3, .one (.h 1)), (4, .one (.h 2))], [], [], [], []⟩)] (.seq .nil (.seq .nil (.seq (.block [] (.seq .nil (.seq (.seq (.reg [(.n, ⟨[.int .i64, .int .i64, .sl false 34 (.pair (.int .i64) (.pair (.int .i64) .str)), .int .i64, .int .i64, .bool, .int .i64, .int .i64, .str], [(5, .one (.h 0)), (6, .one (.h 1)), (8, .pl 8 0), (9, .one (.h 2)), (10, .one (.h 3)), (11, .one (.h 4)), (22, .one (.h 5))], [(8, [.h 6, .h 7, .h 8])], [], [], []⟩)]) .nil) (.seq .nil (.seq .nil (.seq (.reg [(.n, ⟨[.int .i64, .int .i64, .sl false 34 (.pair (.int .i64) (.pair (.int .i64) .str)), .int .i64, .int .i64, .bool], [(5, .one (.h 0)), (6, .one (.h 1)), (9, .one (.h 2)), (10, .one (.h 3)), (11, .one (.h 4)), (43, .one (.h 5))], [], [], [], []⟩)]) .nil)))))) .nil)))))) .nil))
def env_i_lengths : Env := envOf ti [] []
theorem eok_i_lengths : EnvOk Try.prog env_i_lengths := envOf_ok tab mix _ _ (by
  intro k hk; cases hk)
theorem v_i_lengths (x0 : List (Int × (Int × List UInt8))) : (vfun env_i_lengths Try.f82 J_i_lengths ann_i_lengths [] [.one ⟨.sl false 34 (.pair (.int .i64) (.pair (.int .i64) .str)), x0⟩] []).run = (G.i_lengths x0).bind fun y => some (Res.mk [.one ⟨.int .i64, y.1⟩, .one ⟨.int .i64, y.2.1⟩, .one ⟨.bool, y.2.2⟩] [] []) := by kernel_rfl
def k_i_lengths : Kn := ⟨82, [0], fun args rows => match args, rows with
  | [.one ⟨.sl false 34 (.pair (.int .i64) (.pair (.int .i64) .str)), x0⟩], [] => some ⟨_, G.i_lengths x0, fun y => ⟨[.one ⟨.int .i64, y.1⟩, .one ⟨.int .i64, y.2.1⟩, .one ⟨.bool, y.2.2⟩], [], []⟩⟩
  | _, _ => none, []⟩
theorem s_i_lengths : KnOk Try.prog k_i_lengths := by
  intro args rows a h y hy
  simp only [k_i_lengths] at h
  split at h
  · injection h with h
    subst h
    exact vfun_ok eok_i_lengths Try.func82 rfl (by rw [v_i_lengths]; simp only at hy; rw [hy]; rfl)
  · cases h
def J_i_GoodChange : Joins := [(.r, ⟨[.bool], [(2, .one (.h 0))], [], [], [], []⟩)]
def ann_i_GoodChange : Ann := .seq .nil (.seq (.seq .nil (.block [] (.loop ⟨[.sl false 34 (.pair (.int .i64) (.pair (.int .i64) .str)), .sl false 34 (.pair (.int .i64) (.pair (.int .i64) .str)), .int .i64, .int .i64], [(0, .one (.h 0)), (9, .one (.h 1)), (10, .one (.h 2)), (11, .one (.h 3))], [], [], [], []⟩ [(.x 0, ⟨[.sl false 34 (.pair (.int .i64) (.pair (.int .i64) .str))], [(0, .one (.h 0))], [], [], [], []⟩), (.r, ⟨[.bool], [(2, .one (.h 0))], [], [], [], []⟩)] (.seq .nil (.seq .nil (.seq (.block [] (.seq .nil (.seq .nil (.seq (.reg [(.n, ⟨[.sl false 34 (.pair (.int .i64) (.pair (.int .i64) .str)), .sl false 34 (.pair (.int .i64) (.pair (.int .i64) .str)), .int .i64, .int .i64, .bool], [(0, .one (.h 0)), (9, .one (.h 1)), (10, .one (.h 2)), (11, .one (.h 3)), (33, .one (.h 4))], [], [], [], []⟩)]) .nil)))) .nil)))))) .nil)
def env_i_GoodChange : Env := envOf ti [k_i_Part_kind, k_i_lengths] []
theorem eok_i_GoodChange : EnvOk Try.prog env_i_GoodChange := envOf_ok tab mix _ _ (by
  intro k hk
  simp only [List.mem_cons, List.not_mem_nil, or_false] at hk
  rcases hk with rfl | rfl
  · exact s_i_Part_kind
  · exact s_i_lengths)
theorem v_i_GoodChange (x0 : List (Int × (Int × List UInt8))) : (vfun env_i_GoodChange Try.f81 J_i_GoodChange ann_i_GoodChange [] [.one ⟨.sl false 34 (.pair (.int .i64) (.pair (.int .i64) .str)), x0⟩] []).run = (G.i_GoodChange x0).bind fun y => some (Res.mk [.one ⟨.bool, y⟩] [] []) := by kernel_rfl
def k_i_GoodChange : Kn := ⟨81, [0], fun args rows => match args, rows with
  | [.one ⟨.sl false 34 (.pair (.int .i64) (.pair (.int .i64) .str)), x0⟩], [] => some ⟨_, G.i_GoodChange x0, fun y => ⟨[.one ⟨.bool, y⟩], [], []⟩⟩
  | _, _ => none, []⟩
theorem s_i_GoodChange : KnOk Try.prog k_i_GoodChange := by
  intro args rows a h y hy
  simp only [k_i_GoodChange] at h
  split at h
  · injection h with h
    subst h
    exact vfun_ok eok_i_GoodChange Try.func81 rfl (by rw [v_i_GoodChange]; simp only at hy; rw [hy]; rfl)
  · cases h
def J_i_ReadChange : Joins := [(.r, ⟨[.sl true 34 (.pair (.int .i64) (.pair (.int .i64) .str)), .bool], [(2, .one (.vw 166980)), (3, .one (.h 1))], [], [(166980, 0)], [], []⟩)]
def ann_i_ReadChange : Ann := .seq .nil (.seq .nil (.seq (.block [] (.loop ⟨[.sl false 5 (.int .u8), .sl true 34 (.pair (.int .i64) (.pair (.int .i64) .str))], [(0, .one (.h 0)), (4, .one (.vw 166912))], [], [(166912, 1)], [], []⟩ [(.x 0, ⟨[.sl true 34 (.pair (.int .i64) (.pair (.int .i64) .str))], [(4, .one (.vw 166979))], [], [(166979, 0)], [], []⟩), (.r, ⟨[.bool], [(2, .one (.nil)), (3, .one (.h 0))], [], [], [], []⟩)] (.seq .nil (.block [] (.seq .nil (.seq .nil (.seq .nil (.block [] (.seq .nil (.cond [(.n, ⟨[.sl false 5 (.int .u8), .sl true 34 (.pair (.int .i64) (.pair (.int .i64) .str))], [(0, .one (.h 0)), (4, .one (.vw 166978))], [], [(166978, 1)], [], []⟩), (.r, ⟨[.bool], [(2, .one (.nil)), (3, .one (.h 0))], [], [], [], []⟩)] .nil (.seq .nil (.cond [(.n, ⟨[.sl false 5 (.int .u8), .sl true 34 (.pair (.int .i64) (.pair (.int .i64) .str))], [(0, .one (.h 0)), (4, .one (.vw 166977))], [], [(166977, 1)], [], []⟩), (.r, ⟨[.bool], [(2, .one (.nil)), (3, .one (.h 0))], [], [], [], []⟩)] .nil (.seq (.reg [(.n, ⟨[.sl false 5 (.int .u8), .sl true 34 (.pair (.int .i64) (.pair (.int .i64) .str)), .int .i64, .bool], [(0, .one (.h 0)), (4, .one (.vw 166976)), (6, .one (.h 2)), (39, .one (.h 3))], [], [(166976, 1)], [], []⟩)]) .nil))))))))))))) .nil))
def env_i_ReadChange : Env := envOf ti [k_i_GoodChange] []
theorem eok_i_ReadChange : EnvOk Try.prog env_i_ReadChange := envOf_ok tab mix _ _ (by
  intro k hk
  simp only [List.mem_cons, List.not_mem_nil, or_false] at hk
  rcases hk with rfl
  · exact s_i_GoodChange)
theorem v_i_ReadChange (x0 : List Int) : (vfun env_i_ReadChange Try.f58 J_i_ReadChange ann_i_ReadChange [] [.one ⟨.sl false 5 (.int .u8), x0⟩] []).run = (G.i_ReadChange x0).bind fun y => some (Res.mk [.one ⟨.sl true 34 (.pair (.int .i64) (.pair (.int .i64) .str)), y.1⟩, .one ⟨.bool, y.2⟩] [] []) := by kernel_rfl
def k_i_ReadChange : Kn := ⟨58, [0], fun args rows => match args, rows with
  | [.one ⟨.sl false 5 (.int .u8), x0⟩], [] => some ⟨_, G.i_ReadChange x0, fun y => ⟨[.one ⟨.sl true 34 (.pair (.int .i64) (.pair (.int .i64) .str)), y.1⟩, .one ⟨.bool, y.2⟩], [], []⟩⟩
  | _, _ => none, []⟩
theorem s_i_ReadChange : KnOk Try.prog k_i_ReadChange := by
  intro args rows a h y hy
  simp only [k_i_ReadChange] at h
  split at h
  · injection h with h
    subst h
    exact vfun_ok eok_i_ReadChange Try.func58 rfl (by rw [v_i_ReadChange]; simp only at hy; rw [hy]; rfl)
  · cases h
def J_i_LengthsOf : Joins := [(.r, ⟨[.int .i64, .int .i64, .bool], [(2, .one (.h 0)), (3, .one (.h 1)), (4, .one (.h 2))], [], [], [], []⟩)]
def ann_i_LengthsOf : Ann := .nil
def env_i_LengthsOf : Env := envOf ti [k_i_GoodChange, k_i_lengths] []
theorem eok_i_LengthsOf : EnvOk Try.prog env_i_LengthsOf := envOf_ok tab mix _ _ (by
  intro k hk
  simp only [List.mem_cons, List.not_mem_nil, or_false] at hk
  rcases hk with rfl | rfl
  · exact s_i_GoodChange
  · exact s_i_lengths)
theorem v_i_LengthsOf (x0 : List (Int × (Int × List UInt8))) : (vfun env_i_LengthsOf Try.f35 J_i_LengthsOf ann_i_LengthsOf [] [.one ⟨.sl false 34 (.pair (.int .i64) (.pair (.int .i64) .str)), x0⟩] []).run = (G.i_LengthsOf x0).bind fun y => some (Res.mk [.one ⟨.int .i64, y.1⟩, .one ⟨.int .i64, y.2.1⟩, .one ⟨.bool, y.2.2⟩] [] []) := by kernel_rfl
def k_i_LengthsOf : Kn := ⟨35, [0], fun args rows => match args, rows with
  | [.one ⟨.sl false 34 (.pair (.int .i64) (.pair (.int .i64) .str)), x0⟩], [] => some ⟨_, G.i_LengthsOf x0, fun y => ⟨[.one ⟨.int .i64, y.1⟩, .one ⟨.int .i64, y.2.1⟩, .one ⟨.bool, y.2.2⟩], [], []⟩⟩
  | _, _ => none, []⟩
theorem s_i_LengthsOf : KnOk Try.prog k_i_LengthsOf := by
  intro args rows a h y hy
  simp only [k_i_LengthsOf] at h
  split at h
  · injection h with h
    subst h
    exact vfun_ok eok_i_LengthsOf Try.func35 rfl (by rw [v_i_LengthsOf]; simp only at hy; rw [hy]; rfl)
  · cases h
def J_i_chained : Joins := [(.r, ⟨[.bool], [(4, .one (.h 0))], [], [], [], []⟩)]
def ann_i_chained : Ann := .seq .nil (.seq (.seq .nil (.block [] (.loop ⟨[.int .i64, .sl false 93 (.sl false 34 (.pair (.int .i64) (.pair (.int .i64) .str))), .int .i64, .int .i64], [(0, .one (.h 0)), (10, .one (.h 1)), (11, .one (.h 2)), (12, .one (.h 3))], [], [], [], []⟩ [(.x 0, ⟨[], [], [], [], [], []⟩), (.r, ⟨[.bool], [(4, .one (.h 0))], [], [], [], []⟩)] (.seq .nil (.seq .nil (.seq (.block [] (.seq .nil (.seq .nil (.seq (.seq (.reg [(.n, ⟨[.int .i64, .sl false 93 (.sl false 34 (.pair (.int .i64) (.pair (.int .i64) .str))), .int .i64, .int .i64, .bool], [(8, .one (.h 0)), (10, .one (.h 1)), (11, .one (.h 2)), (12, .one (.h 3)), (29, .one (.h 4))], [], [], [], []⟩)]) .nil) .nil)))) .nil)))))) .nil)
def env_i_chained : Env := envOf ti [k_i_LengthsOf] []
theorem eok_i_chained : EnvOk Try.prog env_i_chained := envOf_ok tab mix _ _ (by
  intro k hk
  simp only [List.mem_cons, List.not_mem_nil, or_false] at hk
  rcases hk with rfl
  · exact s_i_LengthsOf)
theorem v_i_chained (x0 : Int) (x1 : List (List (Int × (Int × List UInt8)))) : (vfun env_i_chained Try.f90 J_i_chained ann_i_chained [] [.one ⟨.int .i64, x0⟩, .one ⟨.sl false 93 (.sl false 34 (.pair (.int .i64) (.pair (.int .i64) .str))), x1⟩] []).run = (G.i_chained x0 x1).bind fun y => some (Res.mk [.one ⟨.bool, y⟩] [] []) := by kernel_rfl
def k_i_chained : Kn := ⟨90, [0, 0], fun args rows => match args, rows with
  | [.one ⟨.int .i64, x0⟩, .one ⟨.sl false 93 (.sl false 34 (.pair (.int .i64) (.pair (.int .i64) .str))), x1⟩], [] => some ⟨_, G.i_chained x0 x1, fun y => ⟨[.one ⟨.bool, y⟩], [], []⟩⟩
  | _, _ => none, []⟩
theorem s_i_chained : KnOk Try.prog k_i_chained := by
  intro args rows a h y hy
  simp only [k_i_chained] at h
  split at h
  · injection h with h
    subst h
    exact vfun_ok eok_i_chained Try.func90 rfl (by rw [v_i_chained]; simp only at hy; rw [hy]; rfl)
  · cases h
def J_i_GoodHistory : Joins := [(.r, ⟨[.bool], [(2, .one (.h 0))], [], [], [], []⟩)]
def ann_i_GoodHistory : Ann := .seq .nil (.seq (.reg [(.n, ⟨[.bool], [(2, .one (.h 0))], [], [], [], []⟩)]) .nil)
def env_i_GoodHistory : Env := envOf ti [k_i_within, k_i_GoodRuns, k_i_chained] []
theorem eok_i_GoodHistory : EnvOk Try.prog env_i_GoodHistory := envOf_ok tab mix _ _ (by
  intro k hk
  simp only [List.mem_cons, List.not_mem_nil, or_false] at hk
  rcases hk with rfl | rfl | rfl
  · exact s_i_within
  · exact s_i_GoodRuns
  · exact s_i_chained)
theorem v_i_GoodHistory (x0 : Int) (x1 : List UInt8) (x2 : List (Int × Int)) (x3 : List (List (Int × (Int × List UInt8)))) : (vfun env_i_GoodHistory Try.f59 J_i_GoodHistory ann_i_GoodHistory [] [.ag [⟨.int .i64, x0⟩, ⟨.str, x1⟩, ⟨.sl false 76 (.pair (.int .i64) (.int .i64)), x2⟩, ⟨.sl false 93 (.sl false 34 (.pair (.int .i64) (.pair (.int .i64) .str))), x3⟩]] []).run = (G.i_GoodHistory x0 x1 x2 x3).bind fun y => some (Res.mk [.one ⟨.bool, y⟩] [] []) := by kernel_rfl
def k_i_GoodHistory : Kn := ⟨59, [0], fun args rows => match args, rows with
  | [.ag [⟨.int .i64, x0⟩, ⟨.str, x1⟩, ⟨.sl false 76 (.pair (.int .i64) (.int .i64)), x2⟩, ⟨.sl false 93 (.sl false 34 (.pair (.int .i64) (.pair (.int .i64) .str))), x3⟩]], [] => some ⟨_, G.i_GoodHistory x0 x1 x2 x3, fun y => ⟨[.one ⟨.bool, y⟩], [], []⟩⟩
  | _, _ => none, []⟩
theorem s_i_GoodHistory : KnOk Try.prog k_i_GoodHistory := by
  intro args rows a h y hy
  simp only [k_i_GoodHistory] at h
  split at h
  · injection h with h
    subst h
    exact vfun_ok eok_i_GoodHistory Try.func59 rfl (by rw [v_i_GoodHistory]; simp only at hy; rw [hy]; rfl)
  · cases h
def J_i_ReadBundle : Joins := [(.r, ⟨[.int .i64, .int .i64, .str, .sl true 76 (.pair (.int .i64) (.int .i64)), .sl true 93 (.sl true 34 (.pair (.int .i64) (.pair (.int .i64) .str)))], [(2, .pl 2 0), (3, .one (.h 0))], [(2, [.h 1, .h 2, .vw 247947, .vw 247948])], [(247947, 3), (247948, 4)], [], []⟩)]
def ann_i_ReadBundle : Ann := .seq .nil (.seq .nil (.seq .nil (.seq .nil (.seq (.seq (.reg [(.n, ⟨[.sl false 5 (.int .u8), .int .i64, .int .i64, .int .i64, .bool, .int .i64, .str], [(0, .one (.h 0)), (2, .pl 2 0), (4, .one (.h 1)), (5, .one (.h 2)), (6, .one (.h 3)), (62, .one (.h 4))], [(2, [.h 5, .h 6, .nil, .nil])], [], [], []⟩)]) .nil) (.seq .nil (.seq .nil (.seq .nil (.seq (.seq .nil (.block [] (.loop ⟨[.sl false 5 (.int .u8), .sl true 22 (.sl false 5 (.int .u8)), .int .i64, .int .i64, .int .i64, .str, .int .i64, .str, .sl false 5 (.int .u8), .bool], [(2, .pl 2 0), (7, .pl 69 0), (8, .pl 8 0), (9, .one (.h 0)), (10, .one (.vw 247808)), (80, .one (.h 2)), (81, .one (.h 3))], [(2, [.h 4, .h 5, .nil, .nil]), (8, [.h 6, .h 7, .nil, .nil]), (69, [.h 8, .h 9])], [(247808, 1)], [], []⟩ [(.x 1, ⟨[.sl false 5 (.int .u8), .sl true 22 (.sl false 5 (.int .u8)), .int .i64, .str, .int .i64, .str, .sl false 5 (.int .u8), .bool], [(2, .pl 2 0), (7, .pl 69 0), (8, .pl 8 0), (9, .one (.h 0)), (10, .one (.vw 247872))], [(2, [.h 2, .h 3, .nil, .nil]), (8, [.h 4, .h 5, .nil, .nil]), (69, [.h 6, .h 7])], [(247872, 1)], [], []⟩)] .nil))) (.seq .nil (.seq .nil (.seq .nil (.seq (.reg [(.n, ⟨[.sl true 22 (.sl false 5 (.int .u8)), .bool, .int .i64, .str, .int .i64, .str, .sl true 76 (.pair (.int .i64) (.int .i64))], [(2, .pl 2 0), (8, .pl 8 0), (10, .one (.vw 247873)), (12, .one (.h 1))], [(2, [.h 2, .h 3, .nil, .nil]), (8, [.h 4, .h 5, .vw 247874, .nil])], [(247873, 0), (247874, 6)], [], []⟩)]) (.seq (.seq .nil (.block [] (.loop ⟨[.bool, .sl true 22 (.sl false 5 (.int .u8)), .int .i64, .int .i64, .int .i64, .str, .int .i64, .str, .sl true 76 (.pair (.int .i64) (.int .i64)), .sl true 93 (.sl true 34 (.pair (.int .i64) (.pair (.int .i64) .str)))], [(2, .pl 2 0), (8, .pl 8 0), (12, .one (.h 0)), (110, .one (.vw 247875)), (111, .one (.h 2)), (112, .one (.h 3))], [(2, [.h 4, .h 5, .nil, .nil]), (8, [.h 6, .h 7, .vw 247876, .vw 247877])], [(247875, 1), (247876, 8), (247877, 9)], [], []⟩ [(.x 3, ⟨[.bool, .int .i64, .str, .int .i64, .str, .sl true 76 (.pair (.int .i64) (.int .i64)), .sl true 93 (.sl true 34 (.pair (.int .i64) (.pair (.int .i64) .str)))], [(2, .pl 2 0), (8, .pl 8 0), (12, .one (.h 0))], [(2, [.h 1, .h 2, .nil, .nil]), (8, [.h 3, .h 4, .vw 247943, .vw 247944])], [(247943, 5), (247944, 6)], [], []⟩)] (.seq .nil (.seq .nil (.seq (.block [] (.seq .nil (.seq .nil (.seq (.reg [(.n, ⟨[.bool, .sl true 34 (.pair (.int .i64) (.pair (.int .i64) .str)), .sl true 22 (.sl false 5 (.int .u8)), .int .i64, .int .i64, .int .i64, .str, .int .i64, .str, .sl true 76 (.pair (.int .i64) (.int .i64)), .sl true 93 (.sl true 34 (.pair (.int .i64) (.pair (.int .i64) .str)))], [(2, .pl 2 0), (8, .pl 8 0), (12, .one (.h 0)), (15, .one (.vw 247939)), (110, .one (.vw 247940)), (111, .one (.h 3)), (112, .one (.h 4))], [(2, [.h 5, .h 6, .nil, .nil]), (8, [.h 7, .h 8, .vw 247941, .vw 247942])], [(247939, 1), (247940, 2), (247941, 9), (247942, 10)], [], []⟩)]) .nil)))) .nil)))))) (.seq (.seq (.reg [(.n, ⟨[.bool, .int .i64, .str, .int .i64, .str, .sl true 76 (.pair (.int .i64) (.int .i64)), .sl true 93 (.sl true 34 (.pair (.int .i64) (.pair (.int .i64) .str)))], [(2, .pl 2 0), (8, .pl 8 0), (139, .one (.h 0))], [(2, [.h 1, .h 2, .nil, .nil]), (8, [.h 3, .h 4, .vw 247945, .vw 247946])], [(247945, 5), (247946, 6)], [], []⟩)]) .nil) .nil))))))))))))))
def env_i_ReadBundle : Env := envOf ti [k_slices_Equal_byte_byte, k_i_DigestOf, k_i_four, k_i_taker_sized_f, k_i_ReadRuns, k_i_ReadChange, k_i_GoodHistory] [] [(77, [.sl false 5 (.int .u8)])]
theorem eok_i_ReadBundle : EnvOk Try.prog env_i_ReadBundle := envOf_ok tab mix _ _ (by
  intro k hk
  simp only [List.mem_cons, List.not_mem_nil, or_false] at hk
  rcases hk with rfl | rfl | rfl | rfl | rfl | rfl | rfl
  · exact s_slices_Equal_byte_byte
  · exact s_i_DigestOf
  · exact s_i_four
  · exact s_i_taker_sized_f
  · exact s_i_ReadRuns
  · exact s_i_ReadChange
  · exact s_i_GoodHistory) _
theorem v_i_ReadBundle (x0 : List Int) : (vfun env_i_ReadBundle Try.f17 J_i_ReadBundle ann_i_ReadBundle [] [.one ⟨.sl false 5 (.int .u8), x0⟩] []).run = (G.i_ReadBundle x0).bind fun y => some (Res.mk [.ag [⟨.int .i64, y.2.1⟩, ⟨.str, y.2.2.1⟩, ⟨.sl true 76 (.pair (.int .i64) (.int .i64)), y.2.2.2.1⟩, ⟨.sl true 93 (.sl true 34 (.pair (.int .i64) (.pair (.int .i64) .str))), y.2.2.2.2⟩], .one ⟨.int .i64, y.1⟩] [] []) := by kernel_rfl
def k_i_ReadBundle : Kn := ⟨17, [0], fun args rows => match args, rows with
  | [.one ⟨.sl false 5 (.int .u8), x0⟩], [] => some ⟨_, G.i_ReadBundle x0, fun y => ⟨[.ag [⟨.int .i64, y.2.1⟩, ⟨.str, y.2.2.1⟩, ⟨.sl true 76 (.pair (.int .i64) (.int .i64)), y.2.2.2.1⟩, ⟨.sl true 93 (.sl true 34 (.pair (.int .i64) (.pair (.int .i64) .str))), y.2.2.2.2⟩], .one ⟨.int .i64, y.1⟩], [], []⟩⟩
  | _, _ => none, []⟩
theorem s_i_ReadBundle : KnOk Try.prog k_i_ReadBundle := by
  intro args rows a h y hy
  simp only [k_i_ReadBundle] at h
  split at h
  · injection h with h
    subst h
    exact vfun_ok eok_i_ReadBundle Try.func17 rfl (by rw [v_i_ReadBundle]; simp only at hy; rw [hy]; rfl)
  · cases h
def J_l_eqRun : Joins := [(.r, ⟨[.bool], [(4, .one (.h 0))], [], [], [], []⟩)]
def ann_l_eqRun : Ann := .nil
def env_l_eqRun : Env := envOf ti [] []
theorem eok_l_eqRun : EnvOk Try.prog env_l_eqRun := envOf_ok tab mix _ _ (by
  intro k hk; cases hk)
theorem v_l_eqRun (x0 : Int) (x1 : Int) (x2 : Int) (x3 : Int) : (vfun env_l_eqRun Try.f91 J_l_eqRun ann_l_eqRun [] [.ag [⟨.int .i64, x0⟩, ⟨.int .i64, x1⟩], .ag [⟨.int .i64, x2⟩, ⟨.int .i64, x3⟩]] []).run = (G.l_eqRun x0 x1 x2 x3).bind fun y => some (Res.mk [.one ⟨.bool, y⟩] [] []) := by kernel_rfl
def k_l_eqRun : Kn := ⟨91, [0, 0], fun args rows => match args, rows with
  | [.ag [⟨.int .i64, x0⟩, ⟨.int .i64, x1⟩], .ag [⟨.int .i64, x2⟩, ⟨.int .i64, x3⟩]], [] => some ⟨_, G.l_eqRun x0 x1 x2 x3, fun y => ⟨[.one ⟨.bool, y⟩], [], []⟩⟩
  | _, _ => none, []⟩
theorem s_l_eqRun : KnOk Try.prog k_l_eqRun := by
  intro args rows a h y hy
  simp only [k_l_eqRun] at h
  split at h
  · injection h with h
    subst h
    exact vfun_ok eok_l_eqRun Try.func91 rfl (by rw [v_l_eqRun]; simp only at hy; rw [hy]; rfl)
  · cases h
def J_l_eqRunS : Joins := [(.r, ⟨[.bool], [(4, .one (.h 0))], [], [], [], []⟩)]
def ann_l_eqRunS : Ann := .seq .nil (.seq .nil (.seq (.seq .nil (.block [] (.loop ⟨[.sl false 76 (.pair (.int .i64) (.int .i64)), .sl false 76 (.pair (.int .i64) (.int .i64)), .int .i64], [(0, .one (.h 0)), (1, .one (.h 1)), (5, .one (.h 2))], [], [], [], []⟩ [(.x 0, ⟨[], [], [], [], [], []⟩), (.r, ⟨[.bool], [(4, .one (.h 0))], [], [], [], []⟩)] .nil))) .nil))
def env_l_eqRunS : Env := envOf ti [k_l_eqRun] []
theorem eok_l_eqRunS : EnvOk Try.prog env_l_eqRunS := envOf_ok tab mix _ _ (by
  intro k hk
  simp only [List.mem_cons, List.not_mem_nil, or_false] at hk
  rcases hk with rfl
  · exact s_l_eqRun)
theorem v_l_eqRunS (x0 : List (Int × Int)) (x1 : List (Int × Int)) : (vfun env_l_eqRunS Try.f60 J_l_eqRunS ann_l_eqRunS [] [.one ⟨.sl false 76 (.pair (.int .i64) (.int .i64)), x0⟩, .one ⟨.sl false 76 (.pair (.int .i64) (.int .i64)), x1⟩] []).run = (G.l_eqRunS x0 x1).bind fun y => some (Res.mk [.one ⟨.bool, y⟩] [] []) := by kernel_rfl
def k_l_eqRunS : Kn := ⟨60, [0, 0], fun args rows => match args, rows with
  | [.one ⟨.sl false 76 (.pair (.int .i64) (.int .i64)), x0⟩, .one ⟨.sl false 76 (.pair (.int .i64) (.int .i64)), x1⟩], [] => some ⟨_, G.l_eqRunS x0 x1, fun y => ⟨[.one ⟨.bool, y⟩], [], []⟩⟩
  | _, _ => none, []⟩
theorem s_l_eqRunS : KnOk Try.prog k_l_eqRunS := by
  intro args rows a h y hy
  simp only [k_l_eqRunS] at h
  split at h
  · injection h with h
    subst h
    exact vfun_ok eok_l_eqRunS Try.func60 rfl (by rw [v_l_eqRunS]; simp only at hy; rw [hy]; rfl)
  · cases h
end
end Go.Proofs.Ythpnmoiohfiggaa

set_option linter.unusedVariables false
set_option maxRecDepth 100000
namespace Go.Proofs.Ythpnmoiohfiggaa
open Go.V
noncomputable section
def J_l_eqPart : Joins := [(.r, ⟨[.bool], [(4, .one (.h 0))], [], [], [], []⟩)]
def ann_l_eqPart : Ann := .nil
def env_l_eqPart : Env := envOf ti [] []
theorem eok_l_eqPart : EnvOk Try.prog env_l_eqPart := envOf_ok tab mix _ _ (by
  intro k hk; cases hk)
theorem v_l_eqPart (x0 : Int) (x1 : Int) (x2 : List UInt8) (x3 : Int) (x4 : Int) (x5 : List UInt8) : (vfun env_l_eqPart Try.f115 J_l_eqPart ann_l_eqPart [] [.ag [⟨.int .i64, x0⟩, ⟨.int .i64, x1⟩, ⟨.str, x2⟩], .ag [⟨.int .i64, x3⟩, ⟨.int .i64, x4⟩, ⟨.str, x5⟩]] []).run = (G.l_eqPart x0 x1 x2 x3 x4 x5).bind fun y => some (Res.mk [.one ⟨.bool, y⟩] [] []) := by kernel_rfl
def k_l_eqPart : Kn := ⟨115, [0, 0], fun args rows => match args, rows with
  | [.ag [⟨.int .i64, x0⟩, ⟨.int .i64, x1⟩, ⟨.str, x2⟩], .ag [⟨.int .i64, x3⟩, ⟨.int .i64, x4⟩, ⟨.str, x5⟩]], [] => some ⟨_, G.l_eqPart x0 x1 x2 x3 x4 x5, fun y => ⟨[.one ⟨.bool, y⟩], [], []⟩⟩
  | _, _ => none, []⟩
theorem s_l_eqPart : KnOk Try.prog k_l_eqPart := by
  intro args rows a h y hy
  simp only [k_l_eqPart] at h
  split at h
  · injection h with h
    subst h
    exact vfun_ok eok_l_eqPart Try.func115 rfl (by rw [v_l_eqPart]; simp only at hy; rw [hy]; rfl)
  · cases h
def J_l_eqPartS : Joins := [(.r, ⟨[.bool], [(4, .one (.h 0))], [], [], [], []⟩)]
def ann_l_eqPartS : Ann := .seq .nil (.seq .nil (.seq (.seq .nil (.block [] (.loop ⟨[.sl false 34 (.pair (.int .i64) (.pair (.int .i64) .str)), .sl false 34 (.pair (.int .i64) (.pair (.int .i64) .str)), .int .i64], [(0, .one (.h 0)), (1, .one (.h 1)), (5, .one (.h 2))], [], [], [], []⟩ [(.x 0, ⟨[], [], [], [], [], []⟩), (.r, ⟨[.bool], [(4, .one (.h 0))], [], [], [], []⟩)] .nil))) .nil))
def env_l_eqPartS : Env := envOf ti [k_l_eqPart] []
theorem eok_l_eqPartS : EnvOk Try.prog env_l_eqPartS := envOf_ok tab mix _ _ (by
  intro k hk
  simp only [List.mem_cons, List.not_mem_nil, or_false] at hk
  rcases hk with rfl
  · exact s_l_eqPart)
theorem v_l_eqPartS (x0 : List (Int × (Int × List UInt8))) (x1 : List (Int × (Int × List UInt8))) : (vfun env_l_eqPartS Try.f108 J_l_eqPartS ann_l_eqPartS [] [.one ⟨.sl false 34 (.pair (.int .i64) (.pair (.int .i64) .str)), x0⟩, .one ⟨.sl false 34 (.pair (.int .i64) (.pair (.int .i64) .str)), x1⟩] []).run = (G.l_eqPartS x0 x1).bind fun y => some (Res.mk [.one ⟨.bool, y⟩] [] []) := by kernel_rfl
def k_l_eqPartS : Kn := ⟨108, [0, 0], fun args rows => match args, rows with
  | [.one ⟨.sl false 34 (.pair (.int .i64) (.pair (.int .i64) .str)), x0⟩, .one ⟨.sl false 34 (.pair (.int .i64) (.pair (.int .i64) .str)), x1⟩], [] => some ⟨_, G.l_eqPartS x0 x1, fun y => ⟨[.one ⟨.bool, y⟩], [], []⟩⟩
  | _, _ => none, []⟩
theorem s_l_eqPartS : KnOk Try.prog k_l_eqPartS := by
  intro args rows a h y hy
  simp only [k_l_eqPartS] at h
  split at h
  · injection h with h
    subst h
    exact vfun_ok eok_l_eqPartS Try.func108 rfl (by rw [v_l_eqPartS]; simp only at hy; rw [hy]; rfl)
  · cases h
def J_l_eqChange : Joins := [(.r, ⟨[.bool], [(4, .one (.h 0))], [], [], [], []⟩)]
def ann_l_eqChange : Ann := .nil
def env_l_eqChange : Env := envOf ti [k_l_eqPartS] []
theorem eok_l_eqChange : EnvOk Try.prog env_l_eqChange := envOf_ok tab mix _ _ (by
  intro k hk
  simp only [List.mem_cons, List.not_mem_nil, or_false] at hk
  rcases hk with rfl
  · exact s_l_eqPartS)
theorem v_l_eqChange (x0 : List (Int × (Int × List UInt8))) (x1 : List (Int × (Int × List UInt8))) : (vfun env_l_eqChange Try.f92 J_l_eqChange ann_l_eqChange [] [.ag [⟨.sl false 34 (.pair (.int .i64) (.pair (.int .i64) .str)), x0⟩], .ag [⟨.sl false 34 (.pair (.int .i64) (.pair (.int .i64) .str)), x1⟩]] []).run = (G.l_eqChange x0 x1).bind fun y => some (Res.mk [.one ⟨.bool, y⟩] [] []) := by kernel_rfl
def k_l_eqChange : Kn := ⟨92, [0, 0], fun args rows => match args, rows with
  | [.ag [⟨.sl false 34 (.pair (.int .i64) (.pair (.int .i64) .str)), x0⟩], .ag [⟨.sl false 34 (.pair (.int .i64) (.pair (.int .i64) .str)), x1⟩]], [] => some ⟨_, G.l_eqChange x0 x1, fun y => ⟨[.one ⟨.bool, y⟩], [], []⟩⟩
  | _, _ => none, []⟩
theorem s_l_eqChange : KnOk Try.prog k_l_eqChange := by
  intro args rows a h y hy
  simp only [k_l_eqChange] at h
  split at h
  · injection h with h
    subst h
    exact vfun_ok eok_l_eqChange Try.func92 rfl (by rw [v_l_eqChange]; simp only at hy; rw [hy]; rfl)
  · cases h
def J_l_eqChangeS : Joins := [(.r, ⟨[.bool], [(4, .one (.h 0))], [], [], [], []⟩)]
def ann_l_eqChangeS : Ann := .seq .nil (.seq .nil (.seq (.seq .nil (.block [] (.loop ⟨[.sl false 93 (.sl false 34 (.pair (.int .i64) (.pair (.int .i64) .str))), .sl false 93 (.sl false 34 (.pair (.int .i64) (.pair (.int .i64) .str))), .int .i64], [(0, .one (.h 0)), (1, .one (.h 1)), (5, .one (.h 2))], [], [], [], []⟩ [(.x 0, ⟨[], [], [], [], [], []⟩), (.r, ⟨[.bool], [(4, .one (.h 0))], [], [], [], []⟩)] .nil))) .nil))
def env_l_eqChangeS : Env := envOf ti [k_l_eqChange] []
theorem eok_l_eqChangeS : EnvOk Try.prog env_l_eqChangeS := envOf_ok tab mix _ _ (by
  intro k hk
  simp only [List.mem_cons, List.not_mem_nil, or_false] at hk
  rcases hk with rfl
  · exact s_l_eqChange)
theorem v_l_eqChangeS (x0 : List (List (Int × (Int × List UInt8)))) (x1 : List (List (Int × (Int × List UInt8)))) : (vfun env_l_eqChangeS Try.f61 J_l_eqChangeS ann_l_eqChangeS [] [.one ⟨.sl false 93 (.sl false 34 (.pair (.int .i64) (.pair (.int .i64) .str))), x0⟩, .one ⟨.sl false 93 (.sl false 34 (.pair (.int .i64) (.pair (.int .i64) .str))), x1⟩] []).run = (G.l_eqChangeS x0 x1).bind fun y => some (Res.mk [.one ⟨.bool, y⟩] [] []) := by kernel_rfl
def k_l_eqChangeS : Kn := ⟨61, [0, 0], fun args rows => match args, rows with
  | [.one ⟨.sl false 93 (.sl false 34 (.pair (.int .i64) (.pair (.int .i64) .str))), x0⟩, .one ⟨.sl false 93 (.sl false 34 (.pair (.int .i64) (.pair (.int .i64) .str))), x1⟩], [] => some ⟨_, G.l_eqChangeS x0 x1, fun y => ⟨[.one ⟨.bool, y⟩], [], []⟩⟩
  | _, _ => none, []⟩
theorem s_l_eqChangeS : KnOk Try.prog k_l_eqChangeS := by
  intro args rows a h y hy
  simp only [k_l_eqChangeS] at h
  split at h
  · injection h with h
    subst h
    exact vfun_ok eok_l_eqChangeS Try.func61 rfl (by rw [v_l_eqChangeS]; simp only at hy; rw [hy]; rfl)
  · cases h
def J_l_eqHistory : Joins := [(.r, ⟨[.bool], [(4, .one (.h 0))], [], [], [], []⟩)]
def ann_l_eqHistory : Ann := .nil
def env_l_eqHistory : Env := envOf ti [k_l_eqRunS, k_l_eqChangeS] []
theorem eok_l_eqHistory : EnvOk Try.prog env_l_eqHistory := envOf_ok tab mix _ _ (by
  intro k hk
  simp only [List.mem_cons, List.not_mem_nil, or_false] at hk
  rcases hk with rfl | rfl
  · exact s_l_eqRunS
  · exact s_l_eqChangeS)
theorem v_l_eqHistory (x0 : Int) (x1 : List UInt8) (x2 : List (Int × Int)) (x3 : List (List (Int × (Int × List UInt8)))) (x4 : Int) (x5 : List UInt8) (x6 : List (Int × Int)) (x7 : List (List (Int × (Int × List UInt8)))) : (vfun env_l_eqHistory Try.f18 J_l_eqHistory ann_l_eqHistory [] [.ag [⟨.int .i64, x0⟩, ⟨.str, x1⟩, ⟨.sl false 76 (.pair (.int .i64) (.int .i64)), x2⟩, ⟨.sl false 93 (.sl false 34 (.pair (.int .i64) (.pair (.int .i64) .str))), x3⟩], .ag [⟨.int .i64, x4⟩, ⟨.str, x5⟩, ⟨.sl false 76 (.pair (.int .i64) (.int .i64)), x6⟩, ⟨.sl false 93 (.sl false 34 (.pair (.int .i64) (.pair (.int .i64) .str))), x7⟩]] []).run = (G.l_eqHistory x0 x1 x2 x3 x4 x5 x6 x7).bind fun y => some (Res.mk [.one ⟨.bool, y⟩] [] []) := by kernel_rfl
def k_l_eqHistory : Kn := ⟨18, [0, 0], fun args rows => match args, rows with
  | [.ag [⟨.int .i64, x0⟩, ⟨.str, x1⟩, ⟨.sl false 76 (.pair (.int .i64) (.int .i64)), x2⟩, ⟨.sl false 93 (.sl false 34 (.pair (.int .i64) (.pair (.int .i64) .str))), x3⟩], .ag [⟨.int .i64, x4⟩, ⟨.str, x5⟩, ⟨.sl false 76 (.pair (.int .i64) (.int .i64)), x6⟩, ⟨.sl false 93 (.sl false 34 (.pair (.int .i64) (.pair (.int .i64) .str))), x7⟩]], [] => some ⟨_, G.l_eqHistory x0 x1 x2 x3 x4 x5 x6 x7, fun y => ⟨[.one ⟨.bool, y⟩], [], []⟩⟩
  | _, _ => none, []⟩
theorem s_l_eqHistory : KnOk Try.prog k_l_eqHistory := by
  intro args rows a h y hy
  simp only [k_l_eqHistory] at h
  split at h
  · injection h with h
    subst h
    exact vfun_ok eok_l_eqHistory Try.func18 rfl (by rw [v_l_eqHistory]; simp only at hy; rw [hy]; rfl)
  · cases h
def J_l_eqByteS : Joins := [(.r, ⟨[.bool], [(4, .one (.h 0))], [], [], [], []⟩)]
def ann_l_eqByteS : Ann := .seq .nil (.seq .nil (.seq (.seq .nil (.block [] (.loop ⟨[.sl false 5 (.int .u8), .sl false 5 (.int .u8), .int .i64], [(0, .one (.h 0)), (1, .one (.h 1)), (5, .one (.h 2))], [], [], [], []⟩ [(.x 0, ⟨[], [], [], [], [], []⟩), (.r, ⟨[.bool], [(4, .one (.h 0))], [], [], [], []⟩)] .nil))) .nil))
def env_l_eqByteS : Env := envOf ti [] []
theorem eok_l_eqByteS : EnvOk Try.prog env_l_eqByteS := envOf_ok tab mix _ _ (by
  intro k hk; cases hk)
theorem v_l_eqByteS (x0 : List Int) (x1 : List Int) : (vfun env_l_eqByteS Try.f19 J_l_eqByteS ann_l_eqByteS [] [.one ⟨.sl false 5 (.int .u8), x0⟩, .one ⟨.sl false 5 (.int .u8), x1⟩] []).run = (G.l_eqByteS x0 x1).bind fun y => some (Res.mk [.one ⟨.bool, y⟩] [] []) := by kernel_rfl
def k_l_eqByteS : Kn := ⟨19, [0, 0], fun args rows => match args, rows with
  | [.one ⟨.sl false 5 (.int .u8), x0⟩, .one ⟨.sl false 5 (.int .u8), x1⟩], [] => some ⟨_, G.l_eqByteS x0 x1, fun y => ⟨[.one ⟨.bool, y⟩], [], []⟩⟩
  | _, _ => none, []⟩
theorem s_l_eqByteS : KnOk Try.prog k_l_eqByteS := by
  intro args rows a h y hy
  simp only [k_l_eqByteS] at h
  split at h
  · injection h with h
    subst h
    exact vfun_ok eok_l_eqByteS Try.func19 rfl (by rw [v_l_eqByteS]; simp only at hy; rw [hy]; rfl)
  · cases h
def J_l_markByteS_l : Joins := [(.r, ⟨[.sl true 5 (.int .u8), .int .i64], [(0, .one (.vw 122945)), (4, .one (.h 1))], [], [(122945, 0)], [], []⟩)]
def ann_l_markByteS_l : Ann := .seq .nil (.seq (.seq .nil (.block [] (.loop ⟨[.sl true 5 (.int .u8), .int .i64, .int .i64], [(0, .one (.vw 122880)), (1, .one (.h 1)), (5, .one (.h 2))], [], [(122880, 0)], [], []⟩ [(.x 0, ⟨[.sl true 5 (.int .u8), .int .i64], [(0, .one (.vw 122944)), (1, .one (.h 1))], [], [(122944, 0)], [], []⟩)] .nil))) .nil)
def env_l_markByteS_l : Env := envOf ti [] [0]
theorem eok_l_markByteS_l : EnvOk Try.prog env_l_markByteS_l := envOf_ok tab mix _ _ (by
  intro k hk; cases hk)
theorem v_l_markByteS_l (x0 : List Int) (x1 : Int) : (vfun env_l_markByteS_l Try.f20 J_l_markByteS_l ann_l_markByteS_l [(0, 0)] [.one ⟨.sl true 5 (.int .u8), x0⟩, .one ⟨.int .i64, x1⟩] []).run = (G.l_markByteS_l x0 x1).bind fun y => some (Res.mk [.one ⟨.int .i64, y.2⟩] [] [((0, 0), ⟨.sl true 5 (.int .u8), y.1⟩)]) := by kernel_rfl
def k_l_markByteS_l : Kn := ⟨20, [2, 0], fun args rows => match args, rows with
  | [.one ⟨.sl true 5 (.int .u8), x0⟩, .one ⟨.int .i64, x1⟩], [] => some ⟨_, G.l_markByteS_l x0 x1, fun y => ⟨[.one ⟨.int .i64, y.2⟩], [], [((0, 0), ⟨.sl true 5 (.int .u8), y.1⟩)]⟩⟩
  | _, _ => none, []⟩
theorem s_l_markByteS_l : KnOk Try.prog k_l_markByteS_l := by
  intro args rows a h y hy
  simp only [k_l_markByteS_l] at h
  split at h
  · injection h with h
    subst h
    exact vfun_ok eok_l_markByteS_l Try.func20 rfl (by rw [v_l_markByteS_l]; simp only at hy; rw [hy]; rfl)
  · cases h
def J_l_markRunS_l : Joins := [(.r, ⟨[.sl true 76 (.pair (.int .i64) (.int .i64)), .int .i64], [(0, .one (.vw 130113)), (4, .one (.h 1))], [], [(130113, 0)], [], []⟩)]
def ann_l_markRunS_l : Ann := .seq .nil (.seq (.seq .nil (.block [] (.loop ⟨[.sl true 76 (.pair (.int .i64) (.int .i64)), .int .i64, .int .i64], [(0, .one (.vw 130048)), (1, .one (.h 1)), (5, .one (.h 2))], [], [(130048, 0)], [], []⟩ [(.x 0, ⟨[.sl true 76 (.pair (.int .i64) (.int .i64)), .int .i64], [(0, .one (.vw 130112)), (1, .one (.h 1))], [], [(130112, 0)], [], []⟩)] .nil))) .nil)
def env_l_markRunS_l : Env := envOf ti [] [0]
theorem eok_l_markRunS_l : EnvOk Try.prog env_l_markRunS_l := envOf_ok tab mix _ _ (by
  intro k hk; cases hk)
theorem v_l_markRunS_l (x0 : List (Int × Int)) (x1 : Int) : (vfun env_l_markRunS_l Try.f62 J_l_markRunS_l ann_l_markRunS_l [(0, 0)] [.one ⟨.sl true 76 (.pair (.int .i64) (.int .i64)), x0⟩, .one ⟨.int .i64, x1⟩] []).run = (G.l_markRunS_l x0 x1).bind fun y => some (Res.mk [.one ⟨.int .i64, y.2⟩] [] [((0, 0), ⟨.sl true 76 (.pair (.int .i64) (.int .i64)), y.1⟩)]) := by kernel_rfl
def k_l_markRunS_l : Kn := ⟨62, [2, 0], fun args rows => match args, rows with
  | [.one ⟨.sl true 76 (.pair (.int .i64) (.int .i64)), x0⟩, .one ⟨.int .i64, x1⟩], [] => some ⟨_, G.l_markRunS_l x0 x1, fun y => ⟨[.one ⟨.int .i64, y.2⟩], [], [((0, 0), ⟨.sl true 76 (.pair (.int .i64) (.int .i64)), y.1⟩)]⟩⟩
  | _, _ => none, []⟩
theorem s_l_markRunS_l : KnOk Try.prog k_l_markRunS_l := by
  intro args rows a h y hy
  simp only [k_l_markRunS_l] at h
  split at h
  · injection h with h
    subst h
    exact vfun_ok eok_l_markRunS_l Try.func62 rfl (by rw [v_l_markRunS_l]; simp only at hy; rw [hy]; rfl)
  · cases h
def J_l_markText : Joins := [(.r, ⟨[.str], [(2, .one (.h 0))], [], [], [], []⟩)]
def ann_l_markText : Ann := .seq .nil (.seq .nil (.seq .nil (.seq (.block [] (.loop ⟨[.int .i64, .str], [(0, .one (.h 0)), (3, .one (.h 1))], [], [], [], []⟩ [(.x 0, ⟨[.str], [(3, .one (.h 0))], [], [], [], []⟩)] .nil)) .nil)))
def env_l_markText : Env := envOf ti [] []
theorem eok_l_markText : EnvOk Try.prog env_l_markText := envOf_ok tab mix _ _ (by
  intro k hk; cases hk)
theorem v_l_markText (x0 : Int) : (vfun env_l_markText Try.f109 J_l_markText ann_l_markText [] [.one ⟨.int .i64, x0⟩] []).run = (G.l_markText x0).bind fun y => some (Res.mk [.one ⟨.str, y⟩] [] []) := by kernel_rfl
def k_l_markText : Kn := ⟨109, [0], fun args rows => match args, rows with
  | [.one ⟨.int .i64, x0⟩], [] => some ⟨_, G.l_markText x0, fun y => ⟨[.one ⟨.str, y⟩], [], []⟩⟩
  | _, _ => none, []⟩
theorem s_l_markText : KnOk Try.prog k_l_markText := by
  intro args rows a h y hy
  simp only [k_l_markText] at h
  split at h
  · injection h with h
    subst h
    exact vfun_ok eok_l_markText Try.func109 rfl (by rw [v_l_markText]; simp only at hy; rw [hy]; rfl)
  · cases h
def J_l_markPartS_l : Joins := [(.r, ⟨[.sl true 34 (.pair (.int .i64) (.pair (.int .i64) .str)), .int .i64], [(0, .one (.vw 138305)), (4, .one (.h 1))], [], [(138305, 0)], [], []⟩)]
def ann_l_markPartS_l : Ann := .seq .nil (.seq (.seq .nil (.block [] (.loop ⟨[.sl true 34 (.pair (.int .i64) (.pair (.int .i64) .str)), .int .i64, .int .i64], [(0, .one (.vw 138240)), (1, .one (.h 1)), (5, .one (.h 2))], [], [(138240, 0)], [], []⟩ [(.x 0, ⟨[.sl true 34 (.pair (.int .i64) (.pair (.int .i64) .str)), .int .i64], [(0, .one (.vw 138304)), (1, .one (.h 1))], [], [(138304, 0)], [], []⟩)] .nil))) .nil)
def env_l_markPartS_l : Env := envOf ti [k_l_markText] [0]
theorem eok_l_markPartS_l : EnvOk Try.prog env_l_markPartS_l := envOf_ok tab mix _ _ (by
  intro k hk
  simp only [List.mem_cons, List.not_mem_nil, or_false] at hk
  rcases hk with rfl
  · exact s_l_markText)
theorem v_l_markPartS_l (x0 : List (Int × (Int × List UInt8))) (x1 : Int) : (vfun env_l_markPartS_l Try.f93 J_l_markPartS_l ann_l_markPartS_l [(0, 0)] [.one ⟨.sl true 34 (.pair (.int .i64) (.pair (.int .i64) .str)), x0⟩, .one ⟨.int .i64, x1⟩] []).run = (G.l_markPartS_l x0 x1).bind fun y => some (Res.mk [.one ⟨.int .i64, y.2⟩] [] [((0, 0), ⟨.sl true 34 (.pair (.int .i64) (.pair (.int .i64) .str)), y.1⟩)]) := by kernel_rfl
def k_l_markPartS_l : Kn := ⟨93, [2, 0], fun args rows => match args, rows with
  | [.one ⟨.sl true 34 (.pair (.int .i64) (.pair (.int .i64) .str)), x0⟩, .one ⟨.int .i64, x1⟩], [] => some ⟨_, G.l_markPartS_l x0 x1, fun y => ⟨[.one ⟨.int .i64, y.2⟩], [], [((0, 0), ⟨.sl true 34 (.pair (.int .i64) (.pair (.int .i64) .str)), y.1⟩)]⟩⟩
  | _, _ => none, []⟩
theorem s_l_markPartS_l : KnOk Try.prog k_l_markPartS_l := by
  intro args rows a h y hy
  simp only [k_l_markPartS_l] at h
  split at h
  · injection h with h
    subst h
    exact vfun_ok eok_l_markPartS_l Try.func93 rfl (by rw [v_l_markPartS_l]; simp only at hy; rw [hy]; rfl)
  · cases h
def J_l_markChangeS_l : Joins := [(.r, ⟨[.sl true 93 (.sl true 34 (.pair (.int .i64) (.pair (.int .i64) .str))), .int .i64], [(0, .one (.vw 122945)), (4, .one (.h 1))], [], [(122945, 0)], [], []⟩)]
def ann_l_markChangeS_l : Ann := .seq .nil (.seq (.seq .nil (.block [] (.loop ⟨[.sl true 93 (.sl true 34 (.pair (.int .i64) (.pair (.int .i64) .str))), .int .i64, .int .i64], [(0, .one (.vw 122880)), (1, .one (.h 1)), (5, .one (.h 2))], [], [(122880, 0)], [], []⟩ [(.x 0, ⟨[.sl true 93 (.sl true 34 (.pair (.int .i64) (.pair (.int .i64) .str))), .int .i64], [(0, .one (.vw 122944)), (1, .one (.h 1))], [], [(122944, 0)], [], []⟩)] .nil))) .nil)
def env_l_markChangeS_l : Env := envOf ti [k_l_markPartS_l] [0]
theorem eok_l_markChangeS_l : EnvOk Try.prog env_l_markChangeS_l := envOf_ok tab mix _ _ (by
  intro k hk
  simp only [List.mem_cons, List.not_mem_nil, or_false] at hk
  rcases hk with rfl
  · exact s_l_markPartS_l)
theorem v_l_markChangeS_l (x0 : List (List (Int × (Int × List UInt8)))) (x1 : Int) : (vfun env_l_markChangeS_l Try.f63 J_l_markChangeS_l ann_l_markChangeS_l [(0, 0)] [.one ⟨.sl true 93 (.sl true 34 (.pair (.int .i64) (.pair (.int .i64) .str))), x0⟩, .one ⟨.int .i64, x1⟩] []).run = (G.l_markChangeS_l x0 x1).bind fun y => some (Res.mk [.one ⟨.int .i64, y.2⟩] [] [((0, 0), ⟨.sl true 93 (.sl true 34 (.pair (.int .i64) (.pair (.int .i64) .str))), y.1⟩)]) := by kernel_rfl
def k_l_markChangeS_l : Kn := ⟨63, [2, 0], fun args rows => match args, rows with
  | [.one ⟨.sl true 93 (.sl true 34 (.pair (.int .i64) (.pair (.int .i64) .str))), x0⟩, .one ⟨.int .i64, x1⟩], [] => some ⟨_, G.l_markChangeS_l x0 x1, fun y => ⟨[.one ⟨.int .i64, y.2⟩], [], [((0, 0), ⟨.sl true 93 (.sl true 34 (.pair (.int .i64) (.pair (.int .i64) .str))), y.1⟩)]⟩⟩
  | _, _ => none, []⟩
theorem s_l_markChangeS_l : KnOk Try.prog k_l_markChangeS_l := by
  intro args rows a h y hy
  simp only [k_l_markChangeS_l] at h
  split at h
  · injection h with h
    subst h
    exact vfun_ok eok_l_markChangeS_l Try.func63 rfl (by rw [v_l_markChangeS_l]; simp only at hy; rw [hy]; rfl)
  · cases h
def J_l_markHistory_l : Joins := [(.r, ⟨[.int .i64, .str, .sl true 76 (.pair (.int .i64) (.int .i64)), .sl true 93 (.sl true 34 (.pair (.int .i64) (.pair (.int .i64) .str))), .int .i64], [(0, .ag [.h 0, .h 1, .vw 116736, .vw 116737]), (4, .one (.h 4))], [], [(116736, 2), (116737, 3)], [], []⟩)]
def ann_l_markHistory_l : Ann := .nil
def env_l_markHistory_l : Env := envOf ti [k_l_markRunS_l, k_l_markChangeS_l] [0]
theorem eok_l_markHistory_l : EnvOk Try.prog env_l_markHistory_l := envOf_ok tab mix _ _ (by
  intro k hk
  simp only [List.mem_cons, List.not_mem_nil, or_false] at hk
  rcases hk with rfl | rfl
  · exact s_l_markRunS_l
  · exact s_l_markChangeS_l)
theorem v_l_markHistory_l (x0 : Int) (x1 : List UInt8) (x2 : List (Int × Int)) (x3 : List (List (Int × (Int × List UInt8)))) (x4 : Int) : (vfun env_l_markHistory_l Try.f21 J_l_markHistory_l ann_l_markHistory_l [(0, 2), (0, 3)] [.ag [⟨.int .i64, x0⟩, ⟨.str, x1⟩, ⟨.sl true 76 (.pair (.int .i64) (.int .i64)), x2⟩, ⟨.sl true 93 (.sl true 34 (.pair (.int .i64) (.pair (.int .i64) .str))), x3⟩], .one ⟨.int .i64, x4⟩] []).run = (G.l_markHistory_l x0 x1 x2 x3 x4).bind fun y => some (Res.mk [.one ⟨.int .i64, y.2.2.2.2⟩] [] [((0, 2), ⟨.sl true 76 (.pair (.int .i64) (.int .i64)), y.2.2.1⟩), ((0, 3), ⟨.sl true 93 (.sl true 34 (.pair (.int .i64) (.pair (.int .i64) .str))), y.2.2.2.1⟩)]) := by kernel_rfl
def k_l_markHistory_l : Kn := ⟨21, [2, 0], fun args rows => match args, rows with
  | [.ag [⟨.int .i64, x0⟩, ⟨.str, x1⟩, ⟨.sl true 76 (.pair (.int .i64) (.int .i64)), x2⟩, ⟨.sl true 93 (.sl true 34 (.pair (.int .i64) (.pair (.int .i64) .str))), x3⟩], .one ⟨.int .i64, x4⟩], [] => some ⟨_, G.l_markHistory_l x0 x1 x2 x3 x4, fun y => ⟨[.one ⟨.int .i64, y.2.2.2.2⟩], [], [((0, 2), ⟨.sl true 76 (.pair (.int .i64) (.int .i64)), y.2.2.1⟩), ((0, 3), ⟨.sl true 93 (.sl true 34 (.pair (.int .i64) (.pair (.int .i64) .str))), y.2.2.2.1⟩)]⟩⟩
  | _, _ => none, []⟩
theorem s_l_markHistory_l : KnOk Try.prog k_l_markHistory_l := by
  intro args rows a h y hy
  simp only [k_l_markHistory_l] at h
  split at h
  · injection h with h
    subst h
    exact vfun_ok eok_l_markHistory_l Try.func21 rfl (by rw [v_l_markHistory_l]; simp only at hy; rw [hy]; rfl)
  · cases h
end
end Go.Proofs.Ythpnmoiohfiggaa

set_option linter.unusedVariables false
set_option maxRecDepth 100000
namespace Go.Proofs.Ythpnmoiohfiggaa
open Go.V
noncomputable section
def J_l_heldRunS : Joins := [(.r, ⟨[.int .i64], [(4, .one (.h 0))], [], [], [], []⟩)]
def ann_l_heldRunS : Ann := .seq .nil (.seq (.seq .nil (.block [] (.loop ⟨[.sl false 76 (.pair (.int .i64) (.int .i64)), .int .i64, .int .i64], [(0, .one (.h 0)), (1, .one (.h 1)), (5, .one (.h 2))], [], [], [], []⟩ [(.x 0, ⟨[.int .i64], [(1, .one (.h 0))], [], [], [], []⟩), (.r, ⟨[.int .i64], [(4, .one (.h 0))], [], [], [], []⟩)] .nil))) .nil)
def env_l_heldRunS : Env := envOf ti [] []
theorem eok_l_heldRunS : EnvOk Try.prog env_l_heldRunS := envOf_ok tab mix _ _ (by
  intro k hk; cases hk)
theorem v_l_heldRunS (x0 : List (Int × Int)) (x1 : Int) : (vfun env_l_heldRunS Try.f64 J_l_heldRunS ann_l_heldRunS [] [.one ⟨.sl false 76 (.pair (.int .i64) (.int .i64)), x0⟩, .one ⟨.int .i64, x1⟩] []).run = (G.l_heldRunS x0 x1).bind fun y => some (Res.mk [.one ⟨.int .i64, y⟩] [] []) := by kernel_rfl
def k_l_heldRunS : Kn := ⟨64, [0, 0], fun args rows => match args, rows with
  | [.one ⟨.sl false 76 (.pair (.int .i64) (.int .i64)), x0⟩, .one ⟨.int .i64, x1⟩], [] => some ⟨_, G.l_heldRunS x0 x1, fun y => ⟨[.one ⟨.int .i64, y⟩], [], []⟩⟩
  | _, _ => none, []⟩
theorem s_l_heldRunS : KnOk Try.prog k_l_heldRunS := by
  intro args rows a h y hy
  simp only [k_l_heldRunS] at h
  split at h
  · injection h with h
    subst h
    exact vfun_ok eok_l_heldRunS Try.func64 rfl (by rw [v_l_heldRunS]; simp only at hy; rw [hy]; rfl)
  · cases h
def J_l_heldPartS : Joins := [(.r, ⟨[.int .i64], [(4, .one (.h 0))], [], [], [], []⟩)]
def ann_l_heldPartS : Ann := .seq .nil (.seq (.seq .nil (.block [] (.loop ⟨[.sl false 34 (.pair (.int .i64) (.pair (.int .i64) .str)), .int .i64, .int .i64], [(0, .one (.h 0)), (1, .one (.h 1)), (5, .one (.h 2))], [], [], [], []⟩ [(.x 0, ⟨[.int .i64], [(1, .one (.h 0))], [], [], [], []⟩), (.r, ⟨[.int .i64], [(4, .one (.h 0))], [], [], [], []⟩)] .nil))) .nil)
def env_l_heldPartS : Env := envOf ti [k_l_markText] []
theorem eok_l_heldPartS : EnvOk Try.prog env_l_heldPartS := envOf_ok tab mix _ _ (by
  intro k hk
  simp only [List.mem_cons, List.not_mem_nil, or_false] at hk
  rcases hk with rfl
  · exact s_l_markText)
theorem v_l_heldPartS (x0 : List (Int × (Int × List UInt8))) (x1 : Int) : (vfun env_l_heldPartS Try.f94 J_l_heldPartS ann_l_heldPartS [] [.one ⟨.sl false 34 (.pair (.int .i64) (.pair (.int .i64) .str)), x0⟩, .one ⟨.int .i64, x1⟩] []).run = (G.l_heldPartS x0 x1).bind fun y => some (Res.mk [.one ⟨.int .i64, y⟩] [] []) := by kernel_rfl
def k_l_heldPartS : Kn := ⟨94, [0, 0], fun args rows => match args, rows with
  | [.one ⟨.sl false 34 (.pair (.int .i64) (.pair (.int .i64) .str)), x0⟩, .one ⟨.int .i64, x1⟩], [] => some ⟨_, G.l_heldPartS x0 x1, fun y => ⟨[.one ⟨.int .i64, y⟩], [], []⟩⟩
  | _, _ => none, []⟩
theorem s_l_heldPartS : KnOk Try.prog k_l_heldPartS := by
  intro args rows a h y hy
  simp only [k_l_heldPartS] at h
  split at h
  · injection h with h
    subst h
    exact vfun_ok eok_l_heldPartS Try.func94 rfl (by rw [v_l_heldPartS]; simp only at hy; rw [hy]; rfl)
  · cases h
def J_l_heldChangeS : Joins := [(.r, ⟨[.int .i64], [(4, .one (.h 0))], [], [], [], []⟩)]
def ann_l_heldChangeS : Ann := .seq .nil (.seq (.seq .nil (.block [] (.loop ⟨[.sl false 93 (.sl false 34 (.pair (.int .i64) (.pair (.int .i64) .str))), .int .i64, .int .i64], [(0, .one (.h 0)), (1, .one (.h 1)), (5, .one (.h 2))], [], [], [], []⟩ [(.x 0, ⟨[.int .i64], [(1, .one (.h 0))], [], [], [], []⟩), (.r, ⟨[.int .i64], [(4, .one (.h 0))], [], [], [], []⟩)] .nil))) .nil)
def env_l_heldChangeS : Env := envOf ti [k_l_heldPartS] []
theorem eok_l_heldChangeS : EnvOk Try.prog env_l_heldChangeS := envOf_ok tab mix _ _ (by
  intro k hk
  simp only [List.mem_cons, List.not_mem_nil, or_false] at hk
  rcases hk with rfl
  · exact s_l_heldPartS)
theorem v_l_heldChangeS (x0 : List (List (Int × (Int × List UInt8)))) (x1 : Int) : (vfun env_l_heldChangeS Try.f65 J_l_heldChangeS ann_l_heldChangeS [] [.one ⟨.sl false 93 (.sl false 34 (.pair (.int .i64) (.pair (.int .i64) .str))), x0⟩, .one ⟨.int .i64, x1⟩] []).run = (G.l_heldChangeS x0 x1).bind fun y => some (Res.mk [.one ⟨.int .i64, y⟩] [] []) := by kernel_rfl
def k_l_heldChangeS : Kn := ⟨65, [0, 0], fun args rows => match args, rows with
  | [.one ⟨.sl false 93 (.sl false 34 (.pair (.int .i64) (.pair (.int .i64) .str))), x0⟩, .one ⟨.int .i64, x1⟩], [] => some ⟨_, G.l_heldChangeS x0 x1, fun y => ⟨[.one ⟨.int .i64, y⟩], [], []⟩⟩
  | _, _ => none, []⟩
theorem s_l_heldChangeS : KnOk Try.prog k_l_heldChangeS := by
  intro args rows a h y hy
  simp only [k_l_heldChangeS] at h
  split at h
  · injection h with h
    subst h
    exact vfun_ok eok_l_heldChangeS Try.func65 rfl (by rw [v_l_heldChangeS]; simp only at hy; rw [hy]; rfl)
  · cases h
def J_l_heldHistory : Joins := [(.r, ⟨[.int .i64], [(4, .one (.h 0))], [], [], [], []⟩)]
def ann_l_heldHistory : Ann := .nil
def env_l_heldHistory : Env := envOf ti [k_l_heldRunS, k_l_heldChangeS] []
theorem eok_l_heldHistory : EnvOk Try.prog env_l_heldHistory := envOf_ok tab mix _ _ (by
  intro k hk
  simp only [List.mem_cons, List.not_mem_nil, or_false] at hk
  rcases hk with rfl | rfl
  · exact s_l_heldRunS
  · exact s_l_heldChangeS)
theorem v_l_heldHistory (x0 : Int) (x1 : List UInt8) (x2 : List (Int × Int)) (x3 : List (List (Int × (Int × List UInt8)))) (x4 : Int) : (vfun env_l_heldHistory Try.f22 J_l_heldHistory ann_l_heldHistory [] [.ag [⟨.int .i64, x0⟩, ⟨.str, x1⟩, ⟨.sl false 76 (.pair (.int .i64) (.int .i64)), x2⟩, ⟨.sl false 93 (.sl false 34 (.pair (.int .i64) (.pair (.int .i64) .str))), x3⟩], .one ⟨.int .i64, x4⟩] []).run = (G.l_heldHistory x0 x1 x2 x3 x4).bind fun y => some (Res.mk [.one ⟨.int .i64, y⟩] [] []) := by kernel_rfl
def k_l_heldHistory : Kn := ⟨22, [0, 0], fun args rows => match args, rows with
  | [.ag [⟨.int .i64, x0⟩, ⟨.str, x1⟩, ⟨.sl false 76 (.pair (.int .i64) (.int .i64)), x2⟩, ⟨.sl false 93 (.sl false 34 (.pair (.int .i64) (.pair (.int .i64) .str))), x3⟩], .one ⟨.int .i64, x4⟩], [] => some ⟨_, G.l_heldHistory x0 x1 x2 x3 x4, fun y => ⟨[.one ⟨.int .i64, y⟩], [], []⟩⟩
  | _, _ => none, []⟩
theorem s_l_heldHistory : KnOk Try.prog k_l_heldHistory := by
  intro args rows a h y hy
  simp only [k_l_heldHistory] at h
  split at h
  · injection h with h
    subst h
    exact vfun_ok eok_l_heldHistory Try.func22 rfl (by rw [v_l_heldHistory]; simp only at hy; rw [hy]; rfl)
  · cases h
def J_l_FnExactReadBundle : Joins := [(.r, ⟨[.bool], [(2, .one (.h 0))], [], [], [], []⟩)]
def ann_l_FnExactReadBundle : Ann := .seq .nil (.seq .nil (.seq .nil (.seq .nil (.seq .nil (.seq (.seq (.reg [(.n, ⟨[.sl false 5 (.int .u8), .int .i64, .sl true 5 (.int .u8), .int .i64, .bool, .int .i64, .str, .sl true 76 (.pair (.int .i64) (.int .i64)), .sl true 93 (.sl true 34 (.pair (.int .i64) (.pair (.int .i64) .str))), .int .i64, .str, .sl true 76 (.pair (.int .i64) (.int .i64)), .sl true 93 (.sl true 34 (.pair (.int .i64) (.pair (.int .i64) .str)))], [(0, .one (.h 0)), (3, .pl 3 0), (4, .one (.h 1)), (5, .one (.vw 197632)), (6, .pl 6 0), (7, .one (.h 3)), (37, .one (.h 4))], [(3, [.h 5, .h 6, .vw 197633, .vw 197634]), (6, [.h 9, .h 10, .vw 197635, .vw 197636])], [(197632, 2), (197633, 7), (197634, 8), (197635, 11), (197636, 12)], [], []⟩)]) .nil) (.seq .nil (.seq .nil (.seq .nil (.seq (.seq (.reg [(.n, ⟨[.sl false 5 (.int .u8), .int .i64, .bool, .int .i64, .str, .sl true 76 (.pair (.int .i64) (.int .i64)), .sl true 93 (.sl true 34 (.pair (.int .i64) (.pair (.int .i64) .str))), .int .i64, .str, .sl true 76 (.pair (.int .i64) (.int .i64)), .sl true 93 (.sl true 34 (.pair (.int .i64) (.pair (.int .i64) .str)))], [(0, .one (.h 0)), (3, .pl 3 0), (4, .one (.h 1)), (6, .pl 6 0), (58, .one (.h 2))], [(3, [.h 3, .h 4, .vw 197637, .vw 197638]), (6, [.h 7, .h 8, .vw 197639, .vw 197640])], [(197637, 5), (197638, 6), (197639, 9), (197640, 10)], [], []⟩)]) .nil) (.seq .nil (.seq .nil (.seq .nil (.seq .nil (.seq .nil (.seq .nil (.seq .nil (.seq (.seq (.reg [(.n, ⟨[.int .i64, .bool, .int .i64, .str, .sl true 76 (.pair (.int .i64) (.int .i64)), .sl true 93 (.sl true 34 (.pair (.int .i64) (.pair (.int .i64) .str)))], [(6, .pl 6 0), (9, .one (.h 0)), (84, .one (.h 1))], [(6, [.h 2, .h 3, .vw 197641, .vw 197642])], [(197641, 4), (197642, 5)], [], []⟩)]) .nil) .nil)))))))))))))))))
def env_l_FnExactReadBundle : Env := envOf ti [k_l_toByteS, k_s_ReadBundle, k_i_ReadBundle, k_l_eqHistory, k_l_eqByteS, k_l_markByteS_l, k_l_markHistory_l, k_l_heldHistory] []
theorem eok_l_FnExactReadBundle : EnvOk Try.prog env_l_FnExactReadBundle := envOf_ok tab mix _ _ (by
  intro k hk
  simp only [List.mem_cons, List.not_mem_nil, or_false] at hk
  rcases hk with rfl | rfl | rfl | rfl | rfl | rfl | rfl | rfl
  · exact s_l_toByteS
  · exact s_s_ReadBundle
  · exact s_i_ReadBundle
  · exact s_l_eqHistory
  · exact s_l_eqByteS
  · exact s_l_markByteS_l
  · exact s_l_markHistory_l
  · exact s_l_heldHistory)
theorem v_l_FnExactReadBundle (x0 : List Int) : (vfun env_l_FnExactReadBundle Try.f4 J_l_FnExactReadBundle ann_l_FnExactReadBundle [] [.one ⟨.sl false 5 (.int .u8), x0⟩] []).run = (G.l_FnExactReadBundle x0).bind fun y => some (Res.mk [.one ⟨.bool, y⟩] [] []) := by kernel_rfl
def k_l_FnExactReadBundle : Kn := ⟨4, [0], fun args rows => match args, rows with
  | [.one ⟨.sl false 5 (.int .u8), x0⟩], [] => some ⟨_, G.l_FnExactReadBundle x0, fun y => ⟨[.one ⟨.bool, y⟩], [], []⟩⟩
  | _, _ => none, []⟩
theorem s_l_FnExactReadBundle : KnOk Try.prog k_l_FnExactReadBundle := by
  intro args rows a h y hy
  simp only [k_l_FnExactReadBundle] at h
  split at h
  · injection h with h
    subst h
    exact vfun_ok eok_l_FnExactReadBundle Try.func4 rfl (by rw [v_l_FnExactReadBundle]; simp only at hy; rw [hy]; rfl)
  · cases h
end
end Go.Proofs.Ythpnmoiohfiggaa
