import Derived.Test.YtijemcbcchnnjaaDoorQRtF
import Derived.Test.YtijemcbcchnnjaaDoorProg
import Derived.KernelRfl
import Derived.Test.YtijemcbcchnnjaaDoorRows
import Derived.WalkKit
import Derived.ProofKit
import Derived.OpenShut
import Derived.ShutString
import Derived.ChangeOld
import Derived.Below
set_option linter.unusedVariables false
set_option maxRecDepth 100000
namespace Go.Proofs.YtijemcbcchnnjaaDoor
open Go.V
def tiL : List TI := [
  .other,
  .other,
  .cell (.int .i64),
  .cell (.int .i64),
  .cell .bool,
  .cell (.int .u8),
  .cell (.int .u8),
  .other,
  .other,
  .cell .str,
  .cell .str,
  .cell .str,
  .cell (.int .u64),
  .other,
  .other,
  .ptr 127,
  .ptr 130,
  .ptr 137,
  .other,
  .other,
  .other,
  .cell (.int .i32),
  .slice 39 [(.int .i64), (.int .i64), .str] 32,
  .other,
  .other,
  .other,
  .slice 42 [(.int .i64), (.int .i64), .str] 32,
  .other,
  .other,
  .other,
  .other,
  .other,
  .other,
  .other,
  .slice 5 [(.int .u8)] 1,
  .other,
  .other,
  .other,
  .struct [(0, 1, false), (1, 1, false), (2, 1, false)] [(.int .i64), (.int .i64), .str] true,
  .struct [(0, 1, false), (1, 1, false), (2, 1, false)] [(.int .i64), (.int .i64), .str] true,
  .other,
  .other,
  .struct [(0, 1, false), (1, 1, false), (2, 1, false)] [(.int .i64), (.int .i64), .str] true,
  .other,
  .other,
  .slice 9 [.str] 16,
  .other,
  .other,
  .other,
  .other,
  .other,
  .other,
  .other,
  .other,
  .other,
  .other,
  .other,
  .other,
  .other,
  .other,
  .other,
  .other,
  .err,
  .other,
  .other,
  .cell (.int .u64),
  .other,
  .other,
  .ptr 70,
  .struct [(0, 1, false), (1, 1, false), (2, 1, false)] [(.sl true 5 (.int .u8)), (.int .i64), (.int .u64)] false,
  .struct [(0, 1, false), (1, 1, false), (2, 1, false)] [(.sl true 5 (.int .u8)), (.int .i64), (.int .u64)] false,
  .other,
  .other,
  .other,
  .other,
  .cell (.int .u64),
  .ptr 78,
  .other,
  .other,
  .other,
  .other,
  .other,
  .other,
  .other,
  .other,
  .other,
  .ptr 5,
  .other,
  .other,
  .other,
  .cell (.int .i64),
  .other,
  .other,
  .ptr 107,
  .other,
  .other,
  .other,
  .other,
  .other,
  .other,
  .other,
  .other,
  .other,
  .other,
  .other,
  .other,
  .other,
  .other,
  .other,
  .other,
  .other,
  .cell (.int .u32),
  .other,
  .other,
  .other,
  .struct [(0, 1, false), (1, 1, false)] [(.int .u8), (.int .u8)] true,
  .struct [(0, 1, false), (1, 1, false)] [(.int .u8), (.int .u8)] true,
  .other,
  .other,
  .other,
  .ptr 122,
  .struct [(0, 1, false)] [.str] true,
  .struct [(0, 1, false)] [.str] true,
  .other,
  .other,
  .other,
  .other,
  .other,
  .other,
  .other,
  .other,
  .cell (.int .u8),
  .cell (.int .u8),
  .other,
  .cell (.int .i32),
  .cell (.int .i32),
  .other,
  .other]
def ti (t : TypeId) : TI := tiL.getD t .other
theorem tab : TabOk Tryd.prog ti := tabOf Tryd.prog tiL (by kernel_rfl)
theorem mix : Tryd.prog.follows .mixedOrders = true := by kernel_rfl
end Go.Proofs.YtijemcbcchnnjaaDoor

set_option maxRecDepth 100000
namespace Go.Proofs.YtijemcbcchnnjaaDoor
open Go.V
theorem own : ownKnob Tryd.prog.godebug = none := by kernel_rfl
theorem laidOut : laidOutB Tryd.prog = true := by kernel_rfl
theorem tab2 : ∀ t, tyOk2 Tryd.prog ti t (ti t) = true := tabOf2 Tryd.prog tiL (by kernel_rfl)
end Go.Proofs.YtijemcbcchnnjaaDoor

set_option linter.unusedVariables false
set_option maxRecDepth 100000
namespace Go.Proofs.YtijemcbcchnnjaaDoor
open Go.V
noncomputable section
def J_s_l14Split : Joins := [(.r, ⟨[.sl true 9 .str], [(4, .one (.vw 138307))], [], [(138307, 0)], [], []⟩)]
def ann_s_l14Split : Ann := .seq .nil (.seq .nil (.seq .nil (.seq (.seq .nil (.block [] (.loop ⟨[.str, .int .u8, .sl true 9 .str, .int .i64, .int .i64], [(0, .one (.h 0)), (1, .one (.h 1)), (5, .one (.vw 138240)), (6, .one (.h 3)), (7, .one (.h 4))], [], [(138240, 2)], [], []⟩ [(.x 0, ⟨[.sl true 9 .str], [(5, .one (.vw 138306))], [], [(138306, 0)], [], []⟩)] (.seq .nil (.seq (.block [] (.seq (.reg [(.n, ⟨[.str, .int .u8, .sl true 9 .str, .int .i64, .int .i64, .bool], [(0, .one (.h 0)), (1, .one (.h 1)), (5, .one (.vw 138304)), (6, .one (.h 3)), (7, .one (.h 4)), (24, .one (.h 5))], [], [(138304, 2)], [], []⟩)]) (.cond [(.n, ⟨[.str, .int .u8, .sl true 9 .str, .int .i64, .int .i64], [(0, .one (.h 0)), (1, .one (.h 1)), (5, .one (.vw 138305)), (6, .one (.h 3)), (7, .one (.h 4))], [], [(138305, 2)], [], []⟩)] .nil .nil))) .nil))))) .nil)))
def env_s_l14Split : Env := envOf ti [] []
theorem eok_s_l14Split : EnvOk Tryd.prog env_s_l14Split := envOf_ok tab mix _ _ (by
  intro k hk; cases hk)
theorem v_s_l14Split (x0 : List UInt8) (x1 : Int) : (vfun env_s_l14Split Tryd.f24 J_s_l14Split ann_s_l14Split [] [.one ⟨.str, x0⟩, .one ⟨.int .u8, x1⟩] []).run = (G.s_l14Split x0 x1).bind fun y => some (Res.mk [.one ⟨.sl true 9 .str, y⟩] [] []) := by kernel_rfl
def k_s_l14Split : Kn := ⟨24, [0, 0], fun args rows => match args, rows with
  | [.one ⟨.str, x0⟩, .one ⟨.int .u8, x1⟩], [] => some ⟨_, G.s_l14Split x0 x1, fun y => ⟨[.one ⟨.sl true 9 .str, y⟩], [], []⟩⟩
  | _, _ => none, []⟩
theorem s_s_l14Split : KnOk Tryd.prog k_s_l14Split := by
  intro args rows a h y hy
  simp only [k_s_l14Split] at h
  split at h
  · injection h with h
    subst h
    exact vfun_ok eok_s_l14Split Tryd.func24 rfl (by rw [v_s_l14Split]; simp only at hy; rw [hy]; rfl)
  · cases h
def J_s_l14Number : Joins := [(.r, ⟨[.int .i64], [(4, .one (.h 0))], [], [], [], []⟩)]
def ann_s_l14Number : Ann := .seq .nil (.seq (.seq (.reg [(.n, ⟨[.str, .bool], [(0, .one (.h 0)), (25, .one (.h 1))], [], [], [], []⟩)]) .nil) (.seq .nil (.seq (.seq .nil (.block [] (.loop ⟨[.str, .int .i64, .int .i64], [(0, .one (.h 0)), (5, .one (.h 1)), (6, .one (.h 2))], [], [], [], []⟩ [(.x 0, ⟨[.int .i64], [(5, .one (.h 0))], [], [], [], []⟩), (.r, ⟨[.int .i64], [(4, .one (.h 0))], [], [], [], []⟩)] (.seq .nil (.seq (.block [] (.seq (.seq (.reg [(.n, ⟨[.str, .int .i64, .int .i64, .bool], [(0, .one (.h 0)), (5, .one (.h 1)), (6, .one (.h 2)), (41, .one (.h 3))], [], [], [], []⟩)]) .nil) .nil)) .nil))))) .nil)))
def env_s_l14Number : Env := envOf ti [] []
theorem eok_s_l14Number : EnvOk Tryd.prog env_s_l14Number := envOf_ok tab mix _ _ (by
  intro k hk; cases hk)
theorem v_s_l14Number (x0 : List UInt8) (x1 : Int) : (vfun env_s_l14Number Tryd.f25 J_s_l14Number ann_s_l14Number [] [.one ⟨.str, x0⟩, .one ⟨.int .i64, x1⟩] []).run = (G.s_l14Number x0 x1).bind fun y => some (Res.mk [.one ⟨.int .i64, y⟩] [] []) := by kernel_rfl
def k_s_l14Number : Kn := ⟨25, [0, 0], fun args rows => match args, rows with
  | [.one ⟨.str, x0⟩, .one ⟨.int .i64, x1⟩], [] => some ⟨_, G.s_l14Number x0 x1, fun y => ⟨[.one ⟨.int .i64, y⟩], [], []⟩⟩
  | _, _ => none, []⟩
theorem s_s_l14Number : KnOk Tryd.prog k_s_l14Number := by
  intro args rows a h y hy
  simp only [k_s_l14Number] at h
  split at h
  · injection h with h
    subst h
    exact vfun_ok eok_s_l14Number Tryd.func25 rfl (by rw [v_s_l14Number]; simp only at hy; rw [hy]; rfl)
  · cases h
def J_s_l14Plain : Joins := [(.r, ⟨[.bool], [(2, .one (.h 0))], [], [], [], []⟩)]
def ann_s_l14Plain : Ann := .seq .nil (.seq (.reg [(.n, ⟨[.bool], [(2, .one (.h 0))], [], [], [], []⟩)]) .nil)
def env_s_l14Plain : Env := envOf ti [] []
theorem eok_s_l14Plain : EnvOk Tryd.prog env_s_l14Plain := envOf_ok tab mix _ _ (by
  intro k hk; cases hk)
theorem v_s_l14Plain (x0 : Int) : (vfun env_s_l14Plain Tryd.f40 J_s_l14Plain ann_s_l14Plain [] [.one ⟨.int .u8, x0⟩] []).run = (G.s_l14Plain x0).bind fun y => some (Res.mk [.one ⟨.bool, y⟩] [] []) := by kernel_rfl
def k_s_l14Plain : Kn := ⟨40, [0], fun args rows => match args, rows with
  | [.one ⟨.int .u8, x0⟩], [] => some ⟨_, G.s_l14Plain x0, fun y => ⟨[.one ⟨.bool, y⟩], [], []⟩⟩
  | _, _ => none, []⟩
theorem s_s_l14Plain : KnOk Tryd.prog k_s_l14Plain := by
  intro args rows a h y hy
  simp only [k_s_l14Plain] at h
  split at h
  · injection h with h
    subst h
    exact vfun_ok eok_s_l14Plain Tryd.func40 rfl (by rw [v_s_l14Plain]; simp only at hy; rw [hy]; rfl)
  · cases h
def J_s_l14Hex : Joins := [(.r, ⟨[.int .i64], [(2, .one (.h 0))], [], [], [], []⟩)]
def ann_s_l14Hex : Ann := .seq .nil (.seq (.block [] (.seq (.reg [(.n, ⟨[.int .u8, .bool], [(0, .one (.h 0)), (3, .one (.h 1))], [], [], [], []⟩)]) (.cond [] .nil (.seq (.reg [(.n, ⟨[.int .u8, .bool], [(0, .one (.h 0)), (13, .one (.h 1))], [], [], [], []⟩)]) .nil)))) .nil)
def env_s_l14Hex : Env := envOf ti [] []
theorem eok_s_l14Hex : EnvOk Tryd.prog env_s_l14Hex := envOf_ok tab mix _ _ (by
  intro k hk; cases hk)
theorem v_s_l14Hex (x0 : Int) : (vfun env_s_l14Hex Tryd.f41 J_s_l14Hex ann_s_l14Hex [] [.one ⟨.int .u8, x0⟩] []).run = (G.s_l14Hex x0).bind fun y => some (Res.mk [.one ⟨.int .i64, y⟩] [] []) := by kernel_rfl
def k_s_l14Hex : Kn := ⟨41, [0], fun args rows => match args, rows with
  | [.one ⟨.int .u8, x0⟩], [] => some ⟨_, G.s_l14Hex x0, fun y => ⟨[.one ⟨.int .i64, y⟩], [], []⟩⟩
  | _, _ => none, []⟩
theorem s_s_l14Hex : KnOk Tryd.prog k_s_l14Hex := by
  intro args rows a h y hy
  simp only [k_s_l14Hex] at h
  split at h
  · injection h with h
    subst h
    exact vfun_ok eok_s_l14Hex Tryd.func41 rfl (by rw [v_s_l14Hex]; simp only at hy; rw [hy]; rfl)
  · cases h
def J_s_l14Untold : Joins := [(.r, ⟨[.str, .bool], [(2, .one (.h 0)), (3, .one (.h 1))], [], [], [], []⟩)]
def ann_s_l14Untold : Ann := .seq .nil (.seq .nil (.seq (.seq .nil (.block [] (.loop ⟨[.str, .sl true 5 (.int .u8), .int .i64], [(0, .one (.h 0)), (4, .one (.vw 177152)), (5, .one (.h 2))], [], [(177152, 1)], [], []⟩ [(.x 0, ⟨[.sl true 5 (.int .u8)], [(4, .one (.vw 177218))], [], [(177218, 0)], [], []⟩), (.r, ⟨[.str, .bool], [(2, .one (.h 0)), (3, .one (.h 1))], [], [], [], []⟩)] (.seq .nil (.seq (.block [(.n, ⟨[.str, .sl true 5 (.int .u8), .int .i64], [(0, .one (.h 0)), (4, .one (.vw 177217)), (5, .one (.h 2))], [], [(177217, 1)], [], []⟩), (.r, ⟨[.str, .bool], [(2, .one (.h 0)), (3, .one (.h 1))], [], [], [], []⟩)] (.seq .nil (.seq (.seq (.reg [(.n, ⟨[.str, .sl true 5 (.int .u8), .int .i64, .bool], [(0, .one (.h 0)), (4, .one (.vw 177216)), (5, .one (.h 2)), (49, .one (.h 3))], [], [(177216, 1)], [], []⟩)]) .nil) .nil))) .nil))))) .nil))
def env_s_l14Untold : Env := envOf ti [k_s_l14Plain, k_s_l14Hex] []
theorem eok_s_l14Untold : EnvOk Tryd.prog env_s_l14Untold := envOf_ok tab mix _ _ (by
  intro k hk
  simp only [List.mem_cons, List.not_mem_nil, or_false] at hk
  rcases hk with rfl | rfl
  · exact s_s_l14Plain
  · exact s_s_l14Hex)
theorem v_s_l14Untold (x0 : List UInt8) : (vfun env_s_l14Untold Tryd.f26 J_s_l14Untold ann_s_l14Untold [] [.one ⟨.str, x0⟩] []).run = (G.s_l14Untold x0).bind fun y => some (Res.mk [.one ⟨.str, y.1⟩, .one ⟨.bool, y.2⟩] [] []) := by kernel_rfl
def k_s_l14Untold : Kn := ⟨26, [0], fun args rows => match args, rows with
  | [.one ⟨.str, x0⟩], [] => some ⟨_, G.s_l14Untold x0, fun y => ⟨[.one ⟨.str, y.1⟩, .one ⟨.bool, y.2⟩], [], []⟩⟩
  | _, _ => none, []⟩
theorem s_s_l14Untold : KnOk Tryd.prog k_s_l14Untold := by
  intro args rows a h y hy
  simp only [k_s_l14Untold] at h
  split at h
  · injection h with h
    subst h
    exact vfun_ok eok_s_l14Untold Tryd.func26 rfl (by rw [v_s_l14Untold]; simp only at hy; rw [hy]; rfl)
  · cases h
def J_s_l1Kind : Joins := [(.r, ⟨[.int .i64], [(2, .one (.h 0))], [], [], [], []⟩)]
def ann_s_l1Kind : Ann := .seq .nil (.seq (.block [] (.seq (.reg [(.n, ⟨[.bool, .int .i64, .int .i64, .str], [(1, .pl 1 0), (3, .one (.h 0))], [(1, [.h 1, .h 2, .h 3])], [], [], []⟩)]) (.cond [] .nil (.seq (.reg [(.n, ⟨[.bool, .int .i64, .int .i64, .str], [(1, .pl 1 0), (17, .one (.h 0))], [(1, [.h 1, .h 2, .h 3])], [], [], []⟩)]) (.cond [] .nil (.seq (.reg [(.n, ⟨[.bool], [(31, .one (.h 0))], [], [], [], []⟩)]) .nil)))))) .nil)
def env_s_l1Kind : Env := envOf ti [] []
theorem eok_s_l1Kind : EnvOk Tryd.prog env_s_l1Kind := envOf_ok tab mix _ _ (by
  intro k hk; cases hk)
theorem v_s_l1Kind (x0 : Int) (x1 : Int) (x2 : List UInt8) : (vfun env_s_l1Kind Tryd.f32 J_s_l1Kind ann_s_l1Kind [] [.ag [⟨.int .i64, x0⟩, ⟨.int .i64, x1⟩, ⟨.str, x2⟩]] []).run = (G.s_l1Kind x0 x1 x2).bind fun y => some (Res.mk [.one ⟨.int .i64, y⟩] [] []) := by kernel_rfl
def k_s_l1Kind : Kn := ⟨32, [0], fun args rows => match args, rows with
  | [.ag [⟨.int .i64, x0⟩, ⟨.int .i64, x1⟩, ⟨.str, x2⟩]], [] => some ⟨_, G.s_l1Kind x0 x1 x2, fun y => ⟨[.one ⟨.int .i64, y⟩], [], []⟩⟩
  | _, _ => none, []⟩
theorem s_s_l1Kind : KnOk Tryd.prog k_s_l1Kind := by
  intro args rows a h y hy
  simp only [k_s_l1Kind] at h
  split at h
  · injection h with h
    subst h
    exact vfun_ok eok_s_l1Kind Tryd.func32 rfl (by rw [v_s_l1Kind]; simp only at hy; rw [hy]; rfl)
  · cases h
def J_s_GoodChange : Joins := [(.r, ⟨[.bool], [(2, .one (.h 0))], [], [], [], []⟩)]
def ann_s_GoodChange : Ann := .seq .nil (.seq .nil (.seq .nil (.seq (.seq .nil (.block [] (.loop ⟨[.sl false 42 (.pair (.int .i64) (.pair (.int .i64) .str)), .int .i64, .int .i64, .sl false 42 (.pair (.int .i64) (.pair (.int .i64) .str)), .int .i64, .int .i64], [(0, .one (.h 0)), (3, .one (.h 1)), (4, .one (.h 2)), (8, .one (.h 3)), (9, .one (.h 4)), (10, .one (.h 5))], [], [], [], []⟩ [(.x 0, ⟨[], [], [], [], [], []⟩), (.r, ⟨[.bool], [(2, .one (.h 0))], [], [], [], []⟩)] (.seq .nil (.seq .nil (.seq (.block [] (.seq .nil (.seq .nil (.seq (.seq (.reg [(.n, ⟨[.sl false 42 (.pair (.int .i64) (.pair (.int .i64) .str)), .int .i64, .int .i64, .sl false 42 (.pair (.int .i64) (.pair (.int .i64) .str)), .int .i64, .int .i64, .bool, .int .i64, .int .i64, .str], [(0, .one (.h 0)), (3, .one (.h 1)), (4, .one (.h 2)), (6, .pl 6 0), (8, .one (.h 3)), (9, .one (.h 4)), (10, .one (.h 5)), (48, .one (.h 6))], [(6, [.h 7, .h 8, .h 9])], [], [], []⟩)]) .nil) (.seq .nil (.seq .nil (.seq (.reg [(.n, ⟨[.sl false 42 (.pair (.int .i64) (.pair (.int .i64) .str)), .int .i64, .int .i64, .sl false 42 (.pair (.int .i64) (.pair (.int .i64) .str)), .int .i64, .int .i64, .bool], [(0, .one (.h 0)), (3, .one (.h 1)), (4, .one (.h 2)), (8, .one (.h 3)), (9, .one (.h 4)), (10, .one (.h 5)), (69, .one (.h 6))], [], [], [], []⟩)]) .nil))))))) .nil)))))) .nil)))
def env_s_GoodChange : Env := envOf ti [k_s_l1Kind] []
theorem eok_s_GoodChange : EnvOk Tryd.prog env_s_GoodChange := envOf_ok tab mix _ _ (by
  intro k hk
  simp only [List.mem_cons, List.not_mem_nil, or_false] at hk
  rcases hk with rfl
  · exact s_s_l1Kind)
theorem v_s_GoodChange (x0 : List (Int × (Int × List UInt8))) : (vfun env_s_GoodChange Tryd.f18 J_s_GoodChange ann_s_GoodChange [] [.one ⟨.sl false 42 (.pair (.int .i64) (.pair (.int .i64) .str)), x0⟩] []).run = (G.s_GoodChange x0).bind fun y => some (Res.mk [.one ⟨.bool, y⟩] [] []) := by kernel_rfl
def k_s_GoodChange : Kn := ⟨18, [0], fun args rows => match args, rows with
  | [.one ⟨.sl false 42 (.pair (.int .i64) (.pair (.int .i64) .str)), x0⟩], [] => some ⟨_, G.s_GoodChange x0, fun y => ⟨[.one ⟨.bool, y⟩], [], []⟩⟩
  | _, _ => none, []⟩
theorem s_s_GoodChange : KnOk Tryd.prog k_s_GoodChange := by
  intro args rows a h y hy
  simp only [k_s_GoodChange] at h
  split at h
  · injection h with h
    subst h
    exact vfun_ok eok_s_GoodChange Tryd.func18 rfl (by rw [v_s_GoodChange]; simp only at hy; rw [hy]; rfl)
  · cases h
def J_s_ReadChangeText : Joins := [(.r, ⟨[.sl true 42 (.pair (.int .i64) (.pair (.int .i64) .str)), .bool], [(2, .one (.vw 161861)), (3, .one (.h 1))], [], [(161861, 0)], [], []⟩)]
def ann_s_ReadChangeText : Ann := .seq .nil (.seq .nil (.seq .nil (.seq (.seq .nil (.block [] (.loop ⟨[.sl true 42 (.pair (.int .i64) (.pair (.int .i64) .str)), .sl true 9 .str, .int .i64, .int .i64], [(4, .one (.vw 161792)), (13, .one (.vw 161793)), (14, .one (.h 2)), (15, .one (.h 3))], [], [(161792, 0), (161793, 1)], [], []⟩ [(.x 0, ⟨[.sl true 42 (.pair (.int .i64) (.pair (.int .i64) .str))], [(4, .one (.vw 161860))], [], [(161860, 0)], [], []⟩), (.r, ⟨[.bool], [(2, .one (.nil)), (3, .one (.h 0))], [], [], [], []⟩)] (.seq .nil (.seq .nil (.seq (.block [] (.seq .nil (.seq .nil (.seq .nil (.seq (.seq .nil (.block [] (.seq .nil (.cond [(.n, ⟨[.sl true 42 (.pair (.int .i64) (.pair (.int .i64) .str)), .sl true 9 .str, .int .i64, .int .i64, .int .i64, .int .i64, .str], [(4, .one (.vw 161858)), (7, .pl 7 0), (13, .one (.vw 161859)), (14, .one (.h 2)), (15, .one (.h 3))], [(7, [.h 4, .h 5, .h 6])], [(161858, 0), (161859, 1)], [], []⟩), (.r, ⟨[.bool], [(2, .one (.nil)), (3, .one (.h 0))], [], [], [], []⟩)] .nil (.seq .nil (.cond [(.n, ⟨[.sl true 42 (.pair (.int .i64) (.pair (.int .i64) .str)), .sl true 9 .str, .int .i64, .int .i64, .int .i64, .int .i64, .str], [(4, .one (.vw 161856)), (7, .pl 7 0), (13, .one (.vw 161857)), (14, .one (.h 2)), (15, .one (.h 3))], [(7, [.h 4, .h 5, .h 6])], [(161856, 0), (161857, 1)], [], []⟩), (.r, ⟨[.bool], [(2, .one (.nil)), (3, .one (.h 0))], [], [], [], []⟩)] .nil .nil)))))) .nil))))) .nil)))))) .nil)))
def env_s_ReadChangeText : Env := envOf ti [k_s_l14Split, k_s_l14Number, k_s_l14Untold, k_s_GoodChange] []
theorem eok_s_ReadChangeText : EnvOk Tryd.prog env_s_ReadChangeText := envOf_ok tab mix _ _ (by
  intro k hk
  simp only [List.mem_cons, List.not_mem_nil, or_false] at hk
  rcases hk with rfl | rfl | rfl | rfl
  · exact s_s_l14Split
  · exact s_s_l14Number
  · exact s_s_l14Untold
  · exact s_s_GoodChange)
theorem v_s_ReadChangeText (x0 : List UInt8) : (vfun env_s_ReadChangeText Tryd.f11 J_s_ReadChangeText ann_s_ReadChangeText [] [.one ⟨.str, x0⟩] []).run = (G.s_ReadChangeText x0).bind fun y => some (Res.mk [.one ⟨.sl true 42 (.pair (.int .i64) (.pair (.int .i64) .str)), y.1⟩, .one ⟨.bool, y.2⟩] [] []) := by kernel_rfl
def k_s_ReadChangeText : Kn := ⟨11, [0], fun args rows => match args, rows with
  | [.one ⟨.str, x0⟩], [] => some ⟨_, G.s_ReadChangeText x0, fun y => ⟨[.one ⟨.sl true 42 (.pair (.int .i64) (.pair (.int .i64) .str)), y.1⟩, .one ⟨.bool, y.2⟩], [], []⟩⟩
  | _, _ => none, []⟩
theorem s_s_ReadChangeText : KnOk Tryd.prog k_s_ReadChangeText := by
  intro args rows a h y hy
  simp only [k_s_ReadChangeText] at h
  split at h
  · injection h with h
    subst h
    exact vfun_ok eok_s_ReadChangeText Tryd.func11 rfl (by rw [v_s_ReadChangeText]; simp only at hy; rw [hy]; rfl)
  · cases h
def splitL_ren : Go.Shelf.Ren := ⟨fun x => match x with | 138 => 56 | 143 => 57 | 146 => 27 | 195 => 68 | 197 => 69 | 217 => 88 | 218 => 70 | 219 => 71 | 221 => 42 | 224 => 90 | 225 => 89 | 260 => 87 | 266 => 99 | 267 => 91 | 268 => 55 | 314 => 100 | n => n, fun x => match x with | 0 => 0 | 105 => 87 | 119 => 114 | 138 => 116 | 139 => 117 | 146 => 118 | 21 => 21 | 3 => 3 | 31 => 45 | 4 => 4 | 46 => 75 | 5 => 5 | 51 => 111 | 9 => 9 | n => n, fun x => match x with | 1 => 0 | 3 => 4 | 4 => 5 | n => n⟩
theorem splitL : Go.Proofs.Lays.n146 Tryd.prog splitL_ren where
  mixed := by kernel_rfl
  f138 := Tryd.func56.trans (congrArg some (by kernel_rfl))
  f143 := Tryd.func57.trans (congrArg some (by kernel_rfl))
  f146 := Tryd.func27.trans (congrArg some (by kernel_rfl))
  f195 := Tryd.func68.trans (congrArg some (by kernel_rfl))
  f197 := Tryd.func69.trans (congrArg some (by kernel_rfl))
  f217 := Tryd.func88.trans (congrArg some (by kernel_rfl))
  f218 := Tryd.func70.trans (congrArg some (by kernel_rfl))
  f219 := Tryd.func71.trans (congrArg some (by kernel_rfl))
  f221 := Tryd.func42.trans (congrArg some (by kernel_rfl))
  f224 := Tryd.func90.trans (congrArg some (by kernel_rfl))
  f225 := Tryd.func89.trans (congrArg some (by kernel_rfl))
  f260 := Tryd.func87.trans (congrArg some (by kernel_rfl))
  f266 := Tryd.func99.trans (congrArg some (by kernel_rfl))
  f267 := Tryd.func91.trans (congrArg some (by kernel_rfl))
  f268 := Tryd.func55.trans (congrArg some (by kernel_rfl))
  f314 := Tryd.func100.trans (congrArg some (by kernel_rfl))
  t0 := Tryd.underlying0
  a0 := Tryd.isAgg0
  z0 := Tryd.sizeOf0
  v0 := Tryd.zeroValue0
  t3 := Tryd.underlying3
  a3 := Tryd.isAgg3
  z3 := Tryd.sizeOf3
  v3 := Tryd.zeroValue3
  t4 := Tryd.underlying4
  a4 := Tryd.isAgg4
  z4 := Tryd.sizeOf4
  v4 := Tryd.zeroValue4
  t5 := Tryd.underlying5
  a5 := Tryd.isAgg5
  z5 := Tryd.sizeOf5
  v5 := Tryd.zeroValue5
  t9 := Tryd.underlying9
  a9 := Tryd.isAgg9
  z9 := Tryd.sizeOf9
  v9 := Tryd.zeroValue9
  t21 := Tryd.underlying21
  a21 := Tryd.isAgg21
  z21 := Tryd.sizeOf21
  v21 := Tryd.zeroValue21
  t31 := Tryd.underlying45
  a31 := Tryd.isAgg45
  z31 := Tryd.sizeOf45
  v31 := Tryd.zeroValue45
  t46 := Tryd.underlying75
  a46 := Tryd.isAgg75
  z46 := Tryd.sizeOf75
  v46 := Tryd.zeroValue75
  t51 := Tryd.underlying111
  a51 := Tryd.isAgg111
  z51 := Tryd.sizeOf111
  v51 := Tryd.zeroValue111
  t105 := Tryd.underlying87
  a105 := Tryd.isAgg87
  z105 := Tryd.sizeOf87
  v105 := Tryd.zeroValue87
  t119 := Tryd.underlying114
  a119 := Tryd.isAgg114
  z119 := Tryd.sizeOf114
  t138 := Tryd.underlying116
  a138 := Tryd.isAgg116
  z138 := Tryd.sizeOf116
  v138 := Tryd.zeroValue116
  t139 := Tryd.underlying117
  a139 := Tryd.isAgg117
  z139 := Tryd.sizeOf117
  v139 := Tryd.zeroValue117
  t146 := Tryd.underlying118
  a146 := Tryd.isAgg118
  z146 := Tryd.sizeOf118
  v146 := Tryd.zeroValue118
  g1 := by kernel_rfl
  g3 := by kernel_rfl
  g4 := by kernel_rfl
def k_strings_Split : Kn := ⟨27, [0, 0], fun args rows => match args, rows with
  | [.one ⟨.str, x0⟩, .one ⟨.str, x1⟩], [] => some ⟨_, G.strings_Split x0 x1, fun y => ⟨[.one ⟨.sl true 9 .str, y⟩], [], []⟩⟩
  | _, _ => none, []⟩
theorem s_strings_Split : KnOk Tryd.prog k_strings_Split := by
  intro args rows a h y hy
  simp only [k_strings_Split] at h
  split at h
  · injection h with h
    subst h
    simp only [G.strings_Split] at hy
    split at hy
    · split at hy
      · rename_i hc
        injection hy with hy
        subst hy
        exact split_sound splitL (by kernel_rfl) rfl _ _ hc
      · cases hy
    · cases hy
  · cases h
def atoiL_ren : Go.Shelf.Ren := ⟨fun x => match x with | 129 => 95 | 171 => 37 | 172 => 43 | 205 => 93 | 243 => 50 | 244 => 58 | 245 => 59 | 246 => 65 | 247 => 72 | 279 => 73 | 280 => 74 | 281 => 75 | 282 => 76 | 283 => 81 | 284 => 82 | 285 => 83 | 286 => 84 | 287 => 60 | 316 => 92 | 317 => 94 | 318 => 96 | 319 => 97 | 320 => 98 | 321 => 77 | 322 => 78 | 337 => 101 | 338 => 102 | n => n, fun x => match x with | 0 => 0 | 127 => 86 | 143 => 120 | 145 => 122 | 167 => 90 | 168 => 93 | 171 => 98 | 173 => 101 | 175 => 66 | 2 => 2 | 20 => 20 | 21 => 21 | 210 => 107 | 212 => 110 | 213 => 112 | 232 => 124 | 233 => 125 | 3 => 3 | 37 => 34 | 4 => 4 | 46 => 75 | 5 => 5 | 51 => 111 | 53 => 65 | 75 => 62 | 76 => 63 | 80 => 80 | 85 => 91 | 9 => 9 | n => n, fun x => match x with | 15 => 1 | 16 => 2 | 17 => 3 | 18 => 6 | 19 => 7 | n => n⟩
theorem atoiL : Go.Proofs.LaysC.n172 Tryd.prog atoiL_ren where
  mixed := by kernel_rfl
  f129 := Tryd.func95.trans (congrArg some (by kernel_rfl))
  f171 := Tryd.func37.trans (congrArg some (by kernel_rfl))
  f172 := Tryd.func43.trans (congrArg some (by kernel_rfl))
  f205 := Tryd.func93.trans (congrArg some (by kernel_rfl))
  f243 := Tryd.func50.trans (congrArg some (by kernel_rfl))
  f244 := Tryd.func58.trans (congrArg some (by kernel_rfl))
  f245 := Tryd.func59.trans (congrArg some (by kernel_rfl))
  f246 := Tryd.func65.trans (congrArg some (by kernel_rfl))
  f247 := Tryd.func72.trans (congrArg some (by kernel_rfl))
  f279 := Tryd.func73.trans (congrArg some (by kernel_rfl))
  f280 := Tryd.func74.trans (congrArg some (by kernel_rfl))
  f281 := Tryd.func75.trans (congrArg some (by kernel_rfl))
  f282 := Tryd.func76.trans (congrArg some (by kernel_rfl))
  f283 := Tryd.func81.trans (congrArg some (by kernel_rfl))
  f284 := Tryd.func82.trans (congrArg some (by kernel_rfl))
  f285 := Tryd.func83.trans (congrArg some (by kernel_rfl))
  f286 := Tryd.func84.trans (congrArg some (by kernel_rfl))
  f287 := Tryd.func60.trans (congrArg some (by kernel_rfl))
  f316 := Tryd.func92.trans (congrArg some (by kernel_rfl))
  f317 := Tryd.func94.trans (congrArg some (by kernel_rfl))
  f318 := Tryd.func96.trans (congrArg some (by kernel_rfl))
  f319 := Tryd.func97.trans (congrArg some (by kernel_rfl))
  f320 := Tryd.func98.trans (congrArg some (by kernel_rfl))
  f321 := Tryd.func77.trans (congrArg some (by kernel_rfl))
  f322 := Tryd.func78.trans (congrArg some (by kernel_rfl))
  f337 := Tryd.func101.trans (congrArg some (by kernel_rfl))
  f338 := Tryd.func102.trans (congrArg some (by kernel_rfl))
  t0 := Tryd.underlying0
  a0 := Tryd.isAgg0
  z0 := Tryd.sizeOf0
  v0 := Tryd.zeroValue0
  t2 := Tryd.underlying2
  a2 := Tryd.isAgg2
  z2 := Tryd.sizeOf2
  v2 := Tryd.zeroValue2
  t3 := Tryd.underlying3
  a3 := Tryd.isAgg3
  z3 := Tryd.sizeOf3
  v3 := Tryd.zeroValue3
  t4 := Tryd.underlying4
  a4 := Tryd.isAgg4
  z4 := Tryd.sizeOf4
  v4 := Tryd.zeroValue4
  t5 := Tryd.underlying5
  a5 := Tryd.isAgg5
  z5 := Tryd.sizeOf5
  v5 := Tryd.zeroValue5
  t9 := Tryd.underlying9
  a9 := Tryd.isAgg9
  z9 := Tryd.sizeOf9
  v9 := Tryd.zeroValue9
  t20 := Tryd.underlying20
  a20 := Tryd.isAgg20
  z20 := Tryd.sizeOf20
  v20 := Tryd.zeroValue20
  t21 := Tryd.underlying21
  a21 := Tryd.isAgg21
  z21 := Tryd.sizeOf21
  v21 := Tryd.zeroValue21
  t37 := Tryd.underlying34
  a37 := Tryd.isAgg34
  z37 := Tryd.sizeOf34
  v37 := Tryd.zeroValue34
  t46 := Tryd.underlying75
  a46 := Tryd.isAgg75
  z46 := Tryd.sizeOf75
  v46 := Tryd.zeroValue75
  t51 := Tryd.underlying111
  a51 := Tryd.isAgg111
  z51 := Tryd.sizeOf111
  v51 := Tryd.zeroValue111
  t53 := Tryd.underlying65
  a53 := Tryd.isAgg65
  z53 := Tryd.sizeOf65
  v53 := Tryd.zeroValue65
  t75 := Tryd.underlying62
  a75 := Tryd.isAgg62
  z75 := Tryd.sizeOf62
  v75 := Tryd.zeroValue62
  t76 := Tryd.underlying63
  a76 := Tryd.isAgg63
  z76 := Tryd.sizeOf63
  v76 := Tryd.zeroValue63
  t85 := Tryd.underlying91
  a85 := Tryd.isAgg91
  z85 := Tryd.sizeOf91
  v85 := Tryd.zeroValue91
  t127 := Tryd.underlying86
  a127 := Tryd.isAgg86
  z127 := Tryd.sizeOf86
  v127 := Tryd.zeroValue86
  t143 := Tryd.underlying120
  a143 := Tryd.isAgg120
  z143 := Tryd.sizeOf120
  v143 := Tryd.zeroValue120
  t145 := Tryd.underlying122
  a145 := Tryd.isAgg122
  z145 := Tryd.sizeOf122
  v145 := Tryd.zeroValue122
  t167 := Tryd.underlying90
  a167 := Tryd.isAgg90
  z167 := Tryd.sizeOf90
  v167 := Tryd.zeroValue90
  t168 := Tryd.underlying93
  a168 := Tryd.isAgg93
  z168 := Tryd.sizeOf93
  v168 := Tryd.zeroValue93
  t171 := Tryd.underlying98
  a171 := Tryd.isAgg98
  z171 := Tryd.sizeOf98
  v171 := Tryd.zeroValue98
  t173 := Tryd.underlying101
  a173 := Tryd.isAgg101
  z173 := Tryd.sizeOf101
  v173 := Tryd.zeroValue101
  t175 := Tryd.underlying66
  a175 := Tryd.isAgg66
  z175 := Tryd.sizeOf66
  v175 := Tryd.zeroValue66
  t210 := Tryd.underlying107
  a210 := Tryd.isAgg107
  z210 := Tryd.sizeOf107
  v210 := Tryd.zeroValue107
  t212 := Tryd.underlying110
  a212 := Tryd.isAgg110
  z212 := Tryd.sizeOf110
  v212 := Tryd.zeroValue110
  t213 := Tryd.underlying112
  a213 := Tryd.isAgg112
  z213 := Tryd.sizeOf112
  t232 := Tryd.underlying124
  a232 := Tryd.isAgg124
  z232 := Tryd.sizeOf124
  v232 := Tryd.zeroValue124
  t233 := Tryd.underlying125
  a233 := Tryd.isAgg125
  z233 := Tryd.sizeOf125
  v233 := Tryd.zeroValue125
  g15 := by kernel_rfl
  g16 := by kernel_rfl
  g17 := by kernel_rfl
  g18 := by kernel_rfl
  g19 := by kernel_rfl
  t80 := Tryd.underlying80
  a80 := Tryd.isAgg80
  z80 := Tryd.sizeOf80
  v80 := Tryd.zeroValue80
  i0 := by kernel_rfl
  i2 := by kernel_rfl
  i3 := by kernel_rfl
  i4 := by kernel_rfl
  i5 := by kernel_rfl
  i9 := by kernel_rfl
  i20 := by kernel_rfl
  i21 := by kernel_rfl
  i37 := by kernel_rfl
  i46 := by kernel_rfl
  i51 := by kernel_rfl
  i53 := by kernel_rfl
  i75 := by kernel_rfl
  i76 := by kernel_rfl
  i80 := by kernel_rfl
  i85 := by kernel_rfl
  i127 := by kernel_rfl
  i143 := by kernel_rfl
  i145 := by kernel_rfl
  i167 := by kernel_rfl
  i168 := by kernel_rfl
  i171 := by kernel_rfl
  i173 := by kernel_rfl
  i175 := by kernel_rfl
  i210 := by kernel_rfl
  i212 := by kernel_rfl
  i232 := by kernel_rfl
  i233 := by kernel_rfl
  m15 := by kernel_rfl
  m16 := by kernel_rfl
  m17 := by kernel_rfl
  m18 := by kernel_rfl
  m19 := by kernel_rfl
  c0 := by kernel_rfl
  c2 := by kernel_rfl
  c3 := by kernel_rfl
  c4 := by kernel_rfl
  c5 := by kernel_rfl
  c9 := by kernel_rfl
  c20 := by kernel_rfl
  c21 := by kernel_rfl
  c37 := by kernel_rfl
  c46 := by kernel_rfl
  c51 := by kernel_rfl
  c53 := by kernel_rfl
  c75 := by kernel_rfl
  c76 := by kernel_rfl
  c80 := by kernel_rfl
  c85 := by kernel_rfl
  c127 := by kernel_rfl
  c143 := by kernel_rfl
  c145 := by kernel_rfl
  c167 := by kernel_rfl
  c168 := by kernel_rfl
  c171 := by kernel_rfl
  c173 := by kernel_rfl
  c175 := by kernel_rfl
  c210 := by kernel_rfl
  c212 := by kernel_rfl
  c213 := by kernel_rfl
  c232 := by kernel_rfl
  c233 := by kernel_rfl
def k_strconv_Atoi : Kn := ⟨43, [0], fun args rows => match args, rows with
  | [.one ⟨.str, x0⟩], [] => some ⟨_, G.strconv_Atoi x0, fun y => ⟨[.one ⟨.int .i64, y.1⟩, .one ⟨.er, y.2⟩], [], []⟩⟩
  | _, _ => none, []⟩
theorem s_strconv_Atoi : KnOk Tryd.prog k_strconv_Atoi := by
  intro args rows a h y hy
  simp only [k_strconv_Atoi] at h
  split at h
  · injection h with h
    subst h
    simp only [G.strconv_Atoi] at hy
    split at hy
    · rename_i hc
      injection hy with hy
      subst hy
      exact atoi_sound atoiL rfl rfl _ hc
    · cases hy
  · cases h
def itoaL_ren : Go.Shelf.Ren := ⟨fun x => match x with | 129 => 95 | 171 => 37 | 243 => 50 | 246 => 65 | 283 => 81 | 284 => 82 | 285 => 83 | 286 => 84 | 317 => 94 | 318 => 96 | 319 => 97 | 320 => 98 | 337 => 101 | 338 => 102 | n => n, fun x => match x with | 0 => 0 | 171 => 98 | 173 => 101 | 2 => 2 | 20 => 20 | 212 => 110 | 213 => 112 | 232 => 124 | 233 => 125 | 3 => 3 | 37 => 34 | 4 => 4 | 46 => 75 | 5 => 5 | 51 => 111 | 53 => 65 | 9 => 9 | n => n, fun x => match x with | 17 => 3 | 18 => 6 | 19 => 7 | n => n⟩
theorem itoaL : Go.Proofs.LaysM.n171 Tryd.prog itoaL_ren where
  mixed := by kernel_rfl
  f129 := Tryd.func95.trans (congrArg some (by kernel_rfl))
  f171 := Tryd.func37.trans (congrArg some (by kernel_rfl))
  f243 := Tryd.func50.trans (congrArg some (by kernel_rfl))
  f246 := Tryd.func65.trans (congrArg some (by kernel_rfl))
  f283 := Tryd.func81.trans (congrArg some (by kernel_rfl))
  f284 := Tryd.func82.trans (congrArg some (by kernel_rfl))
  f285 := Tryd.func83.trans (congrArg some (by kernel_rfl))
  f286 := Tryd.func84.trans (congrArg some (by kernel_rfl))
  f317 := Tryd.func94.trans (congrArg some (by kernel_rfl))
  f318 := Tryd.func96.trans (congrArg some (by kernel_rfl))
  f319 := Tryd.func97.trans (congrArg some (by kernel_rfl))
  f320 := Tryd.func98.trans (congrArg some (by kernel_rfl))
  f337 := Tryd.func101.trans (congrArg some (by kernel_rfl))
  f338 := Tryd.func102.trans (congrArg some (by kernel_rfl))
  t0 := Tryd.underlying0
  a0 := Tryd.isAgg0
  z0 := Tryd.sizeOf0
  v0 := Tryd.zeroValue0
  t2 := Tryd.underlying2
  a2 := Tryd.isAgg2
  z2 := Tryd.sizeOf2
  v2 := Tryd.zeroValue2
  t3 := Tryd.underlying3
  a3 := Tryd.isAgg3
  z3 := Tryd.sizeOf3
  v3 := Tryd.zeroValue3
  t4 := Tryd.underlying4
  a4 := Tryd.isAgg4
  z4 := Tryd.sizeOf4
  v4 := Tryd.zeroValue4
  t5 := Tryd.underlying5
  a5 := Tryd.isAgg5
  z5 := Tryd.sizeOf5
  v5 := Tryd.zeroValue5
  t9 := Tryd.underlying9
  a9 := Tryd.isAgg9
  z9 := Tryd.sizeOf9
  v9 := Tryd.zeroValue9
  t20 := Tryd.underlying20
  a20 := Tryd.isAgg20
  z20 := Tryd.sizeOf20
  v20 := Tryd.zeroValue20
  t37 := Tryd.underlying34
  a37 := Tryd.isAgg34
  z37 := Tryd.sizeOf34
  v37 := Tryd.zeroValue34
  t46 := Tryd.underlying75
  a46 := Tryd.isAgg75
  z46 := Tryd.sizeOf75
  v46 := Tryd.zeroValue75
  t51 := Tryd.underlying111
  a51 := Tryd.isAgg111
  z51 := Tryd.sizeOf111
  v51 := Tryd.zeroValue111
  t53 := Tryd.underlying65
  a53 := Tryd.isAgg65
  z53 := Tryd.sizeOf65
  v53 := Tryd.zeroValue65
  t171 := Tryd.underlying98
  a171 := Tryd.isAgg98
  z171 := Tryd.sizeOf98
  v171 := Tryd.zeroValue98
  t173 := Tryd.underlying101
  a173 := Tryd.isAgg101
  z173 := Tryd.sizeOf101
  v173 := Tryd.zeroValue101
  t212 := Tryd.underlying110
  a212 := Tryd.isAgg110
  z212 := Tryd.sizeOf110
  v212 := Tryd.zeroValue110
  t213 := Tryd.underlying112
  a213 := Tryd.isAgg112
  z213 := Tryd.sizeOf112
  t232 := Tryd.underlying124
  a232 := Tryd.isAgg124
  z232 := Tryd.sizeOf124
  v232 := Tryd.zeroValue124
  t233 := Tryd.underlying125
  a233 := Tryd.isAgg125
  z233 := Tryd.sizeOf125
  v233 := Tryd.zeroValue125
  g17 := by kernel_rfl
  g18 := by kernel_rfl
  g19 := by kernel_rfl
  i0 := by kernel_rfl
  i2 := by kernel_rfl
  i3 := by kernel_rfl
  i4 := by kernel_rfl
  i5 := by kernel_rfl
  i9 := by kernel_rfl
  i20 := by kernel_rfl
  i37 := by kernel_rfl
  i46 := by kernel_rfl
  i51 := by kernel_rfl
  i53 := by kernel_rfl
  i171 := by kernel_rfl
  i173 := by kernel_rfl
  i212 := by kernel_rfl
  i232 := by kernel_rfl
  i233 := by kernel_rfl
  m17 := by kernel_rfl
  m18 := by kernel_rfl
  m19 := by kernel_rfl
theorem decF_eq (u : Nat) : G.decF u = Lib.decDigits u := by
  induction u using Nat.strongRecOn with
  | ind u ih =>
    rw [G.decF, Lib.decDigits]
    split
    · rfl
    · rw [ih (u / 10) (by omega)]
theorem itoaF_eq (n : Int) : G.itoaF n = Lib.itoa n := by
  unfold G.itoaF Lib.itoa
  rw [decF_eq, decF_eq]
theorem pow_named : Tryd.prog.globalNamed "internal/strconv.uint64pow10" = some 3 := by kernel_rfl
theorem tab_of (w : World) (h : GlF w) : Lib.TabIs Tryd.prog w "internal/strconv.uint64pow10" .u64 Lib.pow10Tab := by
  unfold Lib.TabIs World.var?
  rw [pow_named]
  first | exact h | exact h.pow
def k_strconv_Itoa : Kn := ⟨37, [0], fun args rows => match args, rows with
  | [.one ⟨.int .i64, x0⟩], [] => some ⟨_, G.strconv_Itoa x0, fun y => ⟨[.one ⟨.str, y⟩], [], []⟩⟩
  | _, _ => none, []⟩
theorem s_strconv_Itoa : KnOk Tryd.prog k_strconv_Itoa := by
  intro args rows a h y hy
  simp only [k_strconv_Itoa] at h
  split at h
  · injection h with h
    subst h
    simp only [G.strconv_Itoa] at hy
    split at hy
    · rename_i hc
      injection hy with hy
      subst hy
      rw [itoaF_eq]
      exact itoa_sound itoaL tab_of _ hc.1 hc.2
    · cases hy
  · cases h
def J_i_number : Joins := [(.r, ⟨[.int .i64], [(2, .one (.h 0))], [], [], [], []⟩)]
def ann_i_number : Ann := .seq .nil (.seq .nil (.seq (.seq (.reg [(.n, ⟨[.int .i64, .bool], [(3, .one (.h 0)), (26, .one (.h 1))], [], [], [], []⟩)]) .nil) .nil))
def env_i_number : Env := envOf ti [k_strconv_Atoi, k_strconv_Itoa] []
theorem eok_i_number : EnvOk Tryd.prog env_i_number := envOf_ok tab mix _ _ (by
  intro k hk
  simp only [List.mem_cons, List.not_mem_nil, or_false] at hk
  rcases hk with rfl | rfl
  · exact s_strconv_Atoi
  · exact s_strconv_Itoa)
theorem v_i_number (x0 : List UInt8) : (vfun env_i_number Tryd.f28 J_i_number ann_i_number [] [.one ⟨.str, x0⟩] []).run = (G.i_number x0).bind fun y => some (Res.mk [.one ⟨.int .i64, y⟩] [] []) := by kernel_rfl
def k_i_number : Kn := ⟨28, [0], fun args rows => match args, rows with
  | [.one ⟨.str, x0⟩], [] => some ⟨_, G.i_number x0, fun y => ⟨[.one ⟨.int .i64, y⟩], [], []⟩⟩
  | _, _ => none, []⟩
theorem s_i_number : KnOk Tryd.prog k_i_number := by
  intro args rows a h y hy
  simp only [k_i_number] at h
  split at h
  · injection h with h
    subst h
    exact vfun_ok eok_i_number Tryd.func28 rfl (by rw [v_i_number]; simp only at hy; rw [hy]; rfl)
  · cases h
end
end Go.Proofs.YtijemcbcchnnjaaDoor

set_option linter.unusedVariables false
set_option maxRecDepth 100000
namespace Go.Proofs.YtijemcbcchnnjaaDoor
open Go.V
noncomputable section
def hexL_ren : Go.Shelf.Ren := ⟨fun x => match x with | 14 => 44 | 16 => 60 | 17 => 59 | 19 => 77 | 20 => 78 | 21 => 73 | 22 => 74 | 23 => 75 | 24 => 76 | 25 => 92 | 26 => 93 | 27 => 37 | 28 => 50 | 29 => 65 | 30 => 81 | 31 => 82 | 32 => 83 | 33 => 84 | 34 => 94 | 35 => 95 | 36 => 96 | 37 => 97 | 38 => 98 | 39 => 101 | 40 => 102 | n => n, fun x => match x with | 0 => 0 | 2 => 2 | 20 => 20 | 21 => 21 | 22 => 65 | 24 => 62 | 25 => 66 | 3 => 3 | 34 => 90 | 36 => 75 | 37 => 34 | 39 => 93 | 4 => 4 | 44 => 107 | 47 => 86 | 48 => 120 | 5 => 5 | 50 => 122 | 52 => 98 | 55 => 101 | 59 => 110 | 60 => 111 | 61 => 112 | 65 => 124 | 66 => 125 | 67 => 80 | 9 => 9 | n => n, fun x => match x with | 0 => 1 | 1 => 2 | 2 => 3 | 3 => 6 | 4 => 7 | n => n⟩
theorem hexL : Go.Proofs.LaysPu.n14 Tryd.prog hexL_ren where
  mixed := by kernel_rfl
  f14 := Tryd.func44.trans (congrArg some (by kernel_rfl))
  f16 := Tryd.func60.trans (congrArg some (by kernel_rfl))
  f17 := Tryd.func59.trans (congrArg some (by kernel_rfl))
  f19 := Tryd.func77.trans (congrArg some (by kernel_rfl))
  f20 := Tryd.func78.trans (congrArg some (by kernel_rfl))
  f21 := Tryd.func73.trans (congrArg some (by kernel_rfl))
  f22 := Tryd.func74.trans (congrArg some (by kernel_rfl))
  f23 := Tryd.func75.trans (congrArg some (by kernel_rfl))
  f24 := Tryd.func76.trans (congrArg some (by kernel_rfl))
  f25 := Tryd.func92.trans (congrArg some (by kernel_rfl))
  f26 := Tryd.func93.trans (congrArg some (by kernel_rfl))
  f27 := Tryd.func37.trans (congrArg some (by kernel_rfl))
  f28 := Tryd.func50.trans (congrArg some (by kernel_rfl))
  f29 := Tryd.func65.trans (congrArg some (by kernel_rfl))
  f30 := Tryd.func81.trans (congrArg some (by kernel_rfl))
  f31 := Tryd.func82.trans (congrArg some (by kernel_rfl))
  f32 := Tryd.func83.trans (congrArg some (by kernel_rfl))
  f33 := Tryd.func84.trans (congrArg some (by kernel_rfl))
  f34 := Tryd.func94.trans (congrArg some (by kernel_rfl))
  f35 := Tryd.func95.trans (congrArg some (by kernel_rfl))
  f36 := Tryd.func96.trans (congrArg some (by kernel_rfl))
  f37 := Tryd.func97.trans (congrArg some (by kernel_rfl))
  f38 := Tryd.func98.trans (congrArg some (by kernel_rfl))
  f39 := Tryd.func101.trans (congrArg some (by kernel_rfl))
  f40 := Tryd.func102.trans (congrArg some (by kernel_rfl))
  t0 := Tryd.underlying0
  a0 := Tryd.isAgg0
  z0 := Tryd.sizeOf0
  v0 := Tryd.zeroValue0
  i0 := by kernel_rfl
  t2 := Tryd.underlying2
  a2 := Tryd.isAgg2
  z2 := Tryd.sizeOf2
  v2 := Tryd.zeroValue2
  i2 := by kernel_rfl
  t3 := Tryd.underlying3
  a3 := Tryd.isAgg3
  z3 := Tryd.sizeOf3
  v3 := Tryd.zeroValue3
  i3 := by kernel_rfl
  t4 := Tryd.underlying4
  a4 := Tryd.isAgg4
  z4 := Tryd.sizeOf4
  v4 := Tryd.zeroValue4
  i4 := by kernel_rfl
  t5 := Tryd.underlying5
  a5 := Tryd.isAgg5
  z5 := Tryd.sizeOf5
  v5 := Tryd.zeroValue5
  i5 := by kernel_rfl
  t9 := Tryd.underlying9
  a9 := Tryd.isAgg9
  z9 := Tryd.sizeOf9
  v9 := Tryd.zeroValue9
  i9 := by kernel_rfl
  t20 := Tryd.underlying20
  a20 := Tryd.isAgg20
  z20 := Tryd.sizeOf20
  v20 := Tryd.zeroValue20
  i20 := by kernel_rfl
  t21 := Tryd.underlying21
  a21 := Tryd.isAgg21
  z21 := Tryd.sizeOf21
  v21 := Tryd.zeroValue21
  i21 := by kernel_rfl
  t22 := Tryd.underlying65
  a22 := Tryd.isAgg65
  z22 := Tryd.sizeOf65
  v22 := Tryd.zeroValue65
  i22 := by kernel_rfl
  t24 := Tryd.underlying62
  a24 := Tryd.isAgg62
  z24 := Tryd.sizeOf62
  v24 := Tryd.zeroValue62
  i24 := by kernel_rfl
  t25 := Tryd.underlying66
  a25 := Tryd.isAgg66
  z25 := Tryd.sizeOf66
  v25 := Tryd.zeroValue66
  i25 := by kernel_rfl
  t34 := Tryd.underlying90
  a34 := Tryd.isAgg90
  z34 := Tryd.sizeOf90
  v34 := Tryd.zeroValue90
  i34 := by kernel_rfl
  c34 := by kernel_rfl
  t36 := Tryd.underlying75
  a36 := Tryd.isAgg75
  z36 := Tryd.sizeOf75
  v36 := Tryd.zeroValue75
  i36 := by kernel_rfl
  t37 := Tryd.underlying34
  a37 := Tryd.isAgg34
  z37 := Tryd.sizeOf34
  v37 := Tryd.zeroValue34
  i37 := by kernel_rfl
  t39 := Tryd.underlying93
  a39 := Tryd.isAgg93
  z39 := Tryd.sizeOf93
  v39 := Tryd.zeroValue93
  i39 := by kernel_rfl
  t44 := Tryd.underlying107
  a44 := Tryd.isAgg107
  z44 := Tryd.sizeOf107
  v44 := Tryd.zeroValue107
  i44 := by kernel_rfl
  t47 := Tryd.underlying86
  a47 := Tryd.isAgg86
  z47 := Tryd.sizeOf86
  v47 := Tryd.zeroValue86
  i47 := by kernel_rfl
  t48 := Tryd.underlying120
  a48 := Tryd.isAgg120
  z48 := Tryd.sizeOf120
  v48 := Tryd.zeroValue120
  i48 := by kernel_rfl
  t50 := Tryd.underlying122
  a50 := Tryd.isAgg122
  z50 := Tryd.sizeOf122
  v50 := Tryd.zeroValue122
  i50 := by kernel_rfl
  t52 := Tryd.underlying98
  a52 := Tryd.isAgg98
  z52 := Tryd.sizeOf98
  v52 := Tryd.zeroValue98
  i52 := by kernel_rfl
  t55 := Tryd.underlying101
  a55 := Tryd.isAgg101
  z55 := Tryd.sizeOf101
  v55 := Tryd.zeroValue101
  i55 := by kernel_rfl
  t59 := Tryd.underlying110
  a59 := Tryd.isAgg110
  z59 := Tryd.sizeOf110
  v59 := Tryd.zeroValue110
  i59 := by kernel_rfl
  t60 := Tryd.underlying111
  a60 := Tryd.isAgg111
  z60 := Tryd.sizeOf111
  v60 := Tryd.zeroValue111
  i60 := by kernel_rfl
  t61 := Tryd.underlying112
  a61 := Tryd.isAgg112
  z61 := Tryd.sizeOf112
  t65 := Tryd.underlying124
  a65 := Tryd.isAgg124
  z65 := Tryd.sizeOf124
  v65 := Tryd.zeroValue124
  i65 := by kernel_rfl
  t66 := Tryd.underlying125
  a66 := Tryd.isAgg125
  z66 := Tryd.sizeOf125
  v66 := Tryd.zeroValue125
  i66 := by kernel_rfl
  t67 := Tryd.underlying80
  a67 := Tryd.isAgg80
  z67 := Tryd.sizeOf80
  v67 := Tryd.zeroValue80
  i67 := by kernel_rfl
  g0 := by kernel_rfl
  m0 := by kernel_rfl
  g1 := by kernel_rfl
  m1 := by kernel_rfl
  g2 := by kernel_rfl
  m2 := by kernel_rfl
  g3 := by kernel_rfl
  m3 := by kernel_rfl
  g4 := by kernel_rfl
  m4 := by kernel_rfl
def k_strconv_ParseUint : Kn := ⟨44, [0, 0, 0], fun args rows => match args, rows with
  | [.one ⟨.str, x0⟩, .one ⟨.int .i64, x1⟩, .one ⟨.int .i64, x2⟩], [] => some ⟨_, G.strconv_ParseUint x0 x1 x2, fun y => ⟨[.one ⟨.int .u64, y.1⟩, .one ⟨.er, y.2⟩], [], []⟩⟩
  | _, _ => none, []⟩
theorem s_strconv_ParseUint : KnOk Tryd.prog k_strconv_ParseUint := by
  intro args rows a h y hy
  simp only [k_strconv_ParseUint] at h
  split at h
  · injection h with h
    subst h
    simp only [G.strconv_ParseUint] at hy
    split at hy
    · rename_i hc
      obtain ⟨h2, rfl, rfl⟩ := hc
      injection hy with hy
      subst hy
      exact parse_sound hexL rfl _ h2
    · cases hy
  · cases h
def J_i_isPlain : Joins := [(.r, ⟨[.bool], [(2, .one (.h 0))], [], [], [], []⟩)]
def ann_i_isPlain : Ann := .seq .nil (.seq (.reg [(.n, ⟨[.bool], [(2, .one (.h 0))], [], [], [], []⟩)]) .nil)
def env_i_isPlain : Env := envOf ti [] []
theorem eok_i_isPlain : EnvOk Tryd.prog env_i_isPlain := envOf_ok tab mix _ _ (by
  intro k hk; cases hk)
theorem v_i_isPlain (x0 : Int) : (vfun env_i_isPlain Tryd.f51 J_i_isPlain ann_i_isPlain [] [.one ⟨.int .u8, x0⟩] []).run = (G.i_isPlain x0).bind fun y => some (Res.mk [.one ⟨.bool, y⟩] [] []) := by kernel_rfl
def k_i_isPlain : Kn := ⟨51, [0], fun args rows => match args, rows with
  | [.one ⟨.int .u8, x0⟩], [] => some ⟨_, G.i_isPlain x0, fun y => ⟨[.one ⟨.bool, y⟩], [], []⟩⟩
  | _, _ => none, []⟩
theorem s_i_isPlain : KnOk Tryd.prog k_i_isPlain := by
  intro args rows a h y hy
  simp only [k_i_isPlain] at h
  split at h
  · injection h with h
    subst h
    exact vfun_ok eok_i_isPlain Tryd.func51 rfl (by rw [v_i_isPlain]; simp only at hy; rw [hy]; rfl)
  · cases h
def J_i_coded : Joins := [(.r, ⟨[.str], [(2, .one (.h 0))], [], [], [], []⟩)]
def ann_i_coded : Ann := .seq .nil (.seq .nil (.seq (.seq .nil (.block [] (.loop ⟨[.str, .str, .int .i64, .int .i64], [(0, .one (.h 0)), (3, .one (.h 1)), (7, .one (.h 2)), (8, .one (.h 3))], [], [], [], []⟩ [(.x 0, ⟨[.str], [(3, .one (.h 0))], [], [], [], []⟩)] (.seq .nil (.seq .nil (.seq (.block [] (.seq .nil (.seq .nil (.seq .nil (.cond [(.n, ⟨[.str, .str, .int .i64, .int .i64], [(0, .one (.h 0)), (3, .one (.h 1)), (7, .one (.h 2)), (8, .one (.h 3))], [], [], [], []⟩)] .nil .nil))))) .nil)))))) .nil))
def env_i_coded : Env := envOf ti [k_i_isPlain] []
theorem eok_i_coded : EnvOk Tryd.prog env_i_coded := envOf_ok tab mix _ _ (by
  intro k hk
  simp only [List.mem_cons, List.not_mem_nil, or_false] at hk
  rcases hk with rfl
  · exact s_i_isPlain)
theorem v_i_coded (x0 : List UInt8) : (vfun env_i_coded Tryd.f38 J_i_coded ann_i_coded [] [.one ⟨.str, x0⟩] []).run = (G.i_coded x0).bind fun y => some (Res.mk [.one ⟨.str, y⟩] [] []) := by kernel_rfl
def k_i_coded : Kn := ⟨38, [0], fun args rows => match args, rows with
  | [.one ⟨.str, x0⟩], [] => some ⟨_, G.i_coded x0, fun y => ⟨[.one ⟨.str, y⟩], [], []⟩⟩
  | _, _ => none, []⟩
theorem s_i_coded : KnOk Tryd.prog k_i_coded := by
  intro args rows a h y hy
  simp only [k_i_coded] at h
  split at h
  · injection h with h
    subst h
    exact vfun_ok eok_i_coded Tryd.func38 rfl (by rw [v_i_coded]; simp only at hy; rw [hy]; rfl)
  · cases h
def J_i_decoded : Joins := [(.r, ⟨[.str, .bool], [(2, .one (.h 0)), (3, .one (.h 1))], [], [], [], []⟩)]
def ann_i_decoded : Ann := .seq .nil (.seq .nil (.seq (.seq .nil (.block [] (.loop ⟨[.str, .sl true 5 (.int .u8), .int .i64], [(0, .one (.h 0)), (4, .one (.vw 159744)), (5, .one (.h 2))], [], [(159744, 1)], [], []⟩ [(.x 0, ⟨[.str, .sl true 5 (.int .u8)], [(0, .one (.h 0)), (4, .one (.vw 159809))], [], [(159809, 1)], [], []⟩), (.r, ⟨[.str, .bool], [(2, .one (.h 0)), (3, .one (.h 1))], [], [], [], []⟩)] (.seq .nil (.seq (.block [(.n, ⟨[.str, .sl true 5 (.int .u8), .int .i64], [(0, .one (.h 0)), (4, .one (.vw 159808)), (5, .one (.h 2))], [], [(159808, 1)], [], []⟩), (.r, ⟨[.str, .bool], [(2, .one (.h 0)), (3, .one (.h 1))], [], [], [], []⟩)] .nil) .nil))))) .nil))
def env_i_decoded : Env := envOf ti [k_strconv_ParseUint, k_i_coded] []
theorem eok_i_decoded : EnvOk Tryd.prog env_i_decoded := envOf_ok tab mix _ _ (by
  intro k hk
  simp only [List.mem_cons, List.not_mem_nil, or_false] at hk
  rcases hk with rfl | rfl
  · exact s_strconv_ParseUint
  · exact s_i_coded)
theorem v_i_decoded (x0 : List UInt8) : (vfun env_i_decoded Tryd.f29 J_i_decoded ann_i_decoded [] [.one ⟨.str, x0⟩] []).run = (G.i_decoded x0).bind fun y => some (Res.mk [.one ⟨.str, y.1⟩, .one ⟨.bool, y.2⟩] [] []) := by kernel_rfl
def k_i_decoded : Kn := ⟨29, [0], fun args rows => match args, rows with
  | [.one ⟨.str, x0⟩], [] => some ⟨_, G.i_decoded x0, fun y => ⟨[.one ⟨.str, y.1⟩, .one ⟨.bool, y.2⟩], [], []⟩⟩
  | _, _ => none, []⟩
theorem s_i_decoded : KnOk Tryd.prog k_i_decoded := by
  intro args rows a h y hy
  simp only [k_i_decoded] at h
  split at h
  · injection h with h
    subst h
    exact vfun_ok eok_i_decoded Tryd.func29 rfl (by rw [v_i_decoded]; simp only at hy; rw [hy]; rfl)
  · cases h
def J_i_Part_kind : Joins := [(.r, ⟨[.int .i64], [(2, .one (.h 0))], [], [], [], []⟩)]
def ann_i_Part_kind : Ann := .seq .nil (.seq (.block [] (.seq (.reg [(.n, ⟨[.bool, .int .i64, .int .i64, .str], [(1, .pl 1 0), (3, .one (.h 0))], [(1, [.h 1, .h 2, .h 3])], [], [], []⟩)]) (.cond [] .nil (.seq (.reg [(.n, ⟨[.bool, .int .i64, .int .i64, .str], [(1, .pl 1 0), (17, .one (.h 0))], [(1, [.h 1, .h 2, .h 3])], [], [], []⟩)]) (.cond [] .nil (.seq (.reg [(.n, ⟨[.bool], [(31, .one (.h 0))], [], [], [], []⟩)]) .nil)))))) .nil)
def env_i_Part_kind : Env := envOf ti [] []
theorem eok_i_Part_kind : EnvOk Tryd.prog env_i_Part_kind := envOf_ok tab mix _ _ (by
  intro k hk; cases hk)
theorem v_i_Part_kind (x0 : Int) (x1 : Int) (x2 : List UInt8) : (vfun env_i_Part_kind Tryd.f35 J_i_Part_kind ann_i_Part_kind [] [.ag [⟨.int .i64, x0⟩, ⟨.int .i64, x1⟩, ⟨.str, x2⟩]] []).run = (G.i_Part_kind x0 x1 x2).bind fun y => some (Res.mk [.one ⟨.int .i64, y⟩] [] []) := by kernel_rfl
def k_i_Part_kind : Kn := ⟨35, [0], fun args rows => match args, rows with
  | [.ag [⟨.int .i64, x0⟩, ⟨.int .i64, x1⟩, ⟨.str, x2⟩]], [] => some ⟨_, G.i_Part_kind x0 x1 x2, fun y => ⟨[.one ⟨.int .i64, y⟩], [], []⟩⟩
  | _, _ => none, []⟩
theorem s_i_Part_kind : KnOk Tryd.prog k_i_Part_kind := by
  intro args rows a h y hy
  simp only [k_i_Part_kind] at h
  split at h
  · injection h with h
    subst h
    exact vfun_ok eok_i_Part_kind Tryd.func35 rfl (by rw [v_i_Part_kind]; simp only at hy; rw [hy]; rfl)
  · cases h
def J_i_lengths : Joins := [(.r, ⟨[.int .i64, .int .i64, .bool], [(2, .one (.h 0)), (3, .one (.h 1)), (4, .one (.h 2))], [], [], [], []⟩)]
def ann_i_lengths : Ann := .seq .nil (.seq .nil (.seq (.seq .nil (.block [] (.loop ⟨[.int .i64, .int .i64, .sl false 42 (.pair (.int .i64) (.pair (.int .i64) .str)), .int .i64, .int .i64], [(5, .one (.h 0)), (6, .one (.h 1)), (9, .one (.h 2)), (10, .one (.h 3)), (11, .one (.h 4))], [], [], [], []⟩ [(.x 0, ⟨[.int .i64, .int .i64], [(5, .one (.h 0)), (6, .one (.h 1))], [], [], [], []⟩), (.r, ⟨[.int .i64, .int .i64, .bool], [(2, .one (.h 0)), (3, .one (.h 1)), (4, .one (.h 2))], [], [], [], []⟩)] (.seq .nil (.seq .nil (.seq (.block [] (.seq .nil (.seq (.seq (.reg [(.n, ⟨[.int .i64, .int .i64, .sl false 42 (.pair (.int .i64) (.pair (.int .i64) .str)), .int .i64, .int .i64, .bool, .int .i64, .int .i64, .str], [(5, .one (.h 0)), (6, .one (.h 1)), (8, .pl 8 0), (9, .one (.h 2)), (10, .one (.h 3)), (11, .one (.h 4)), (22, .one (.h 5))], [(8, [.h 6, .h 7, .h 8])], [], [], []⟩)]) .nil) (.seq .nil (.seq .nil (.seq (.reg [(.n, ⟨[.int .i64, .int .i64, .sl false 42 (.pair (.int .i64) (.pair (.int .i64) .str)), .int .i64, .int .i64, .bool], [(5, .one (.h 0)), (6, .one (.h 1)), (9, .one (.h 2)), (10, .one (.h 3)), (11, .one (.h 4)), (43, .one (.h 5))], [], [], [], []⟩)]) .nil)))))) .nil)))))) .nil))
def env_i_lengths : Env := envOf ti [] []
theorem eok_i_lengths : EnvOk Tryd.prog env_i_lengths := envOf_ok tab mix _ _ (by
  intro k hk; cases hk)
theorem v_i_lengths (x0 : List (Int × (Int × List UInt8))) : (vfun env_i_lengths Tryd.f36 J_i_lengths ann_i_lengths [] [.one ⟨.sl false 42 (.pair (.int .i64) (.pair (.int .i64) .str)), x0⟩] []).run = (G.i_lengths x0).bind fun y => some (Res.mk [.one ⟨.int .i64, y.1⟩, .one ⟨.int .i64, y.2.1⟩, .one ⟨.bool, y.2.2⟩] [] []) := by kernel_rfl
def k_i_lengths : Kn := ⟨36, [0], fun args rows => match args, rows with
  | [.one ⟨.sl false 42 (.pair (.int .i64) (.pair (.int .i64) .str)), x0⟩], [] => some ⟨_, G.i_lengths x0, fun y => ⟨[.one ⟨.int .i64, y.1⟩, .one ⟨.int .i64, y.2.1⟩, .one ⟨.bool, y.2.2⟩], [], []⟩⟩
  | _, _ => none, []⟩
theorem s_i_lengths : KnOk Tryd.prog k_i_lengths := by
  intro args rows a h y hy
  simp only [k_i_lengths] at h
  split at h
  · injection h with h
    subst h
    exact vfun_ok eok_i_lengths Tryd.func36 rfl (by rw [v_i_lengths]; simp only at hy; rw [hy]; rfl)
  · cases h
def J_i_GoodChange : Joins := [(.r, ⟨[.bool], [(2, .one (.h 0))], [], [], [], []⟩)]
def ann_i_GoodChange : Ann := .seq .nil (.seq (.seq .nil (.block [] (.loop ⟨[.sl false 42 (.pair (.int .i64) (.pair (.int .i64) .str)), .sl false 42 (.pair (.int .i64) (.pair (.int .i64) .str)), .int .i64, .int .i64], [(0, .one (.h 0)), (9, .one (.h 1)), (10, .one (.h 2)), (11, .one (.h 3))], [], [], [], []⟩ [(.x 0, ⟨[.sl false 42 (.pair (.int .i64) (.pair (.int .i64) .str))], [(0, .one (.h 0))], [], [], [], []⟩), (.r, ⟨[.bool], [(2, .one (.h 0))], [], [], [], []⟩)] (.seq .nil (.seq .nil (.seq (.block [] (.seq .nil (.seq .nil (.seq (.reg [(.n, ⟨[.sl false 42 (.pair (.int .i64) (.pair (.int .i64) .str)), .sl false 42 (.pair (.int .i64) (.pair (.int .i64) .str)), .int .i64, .int .i64, .bool], [(0, .one (.h 0)), (9, .one (.h 1)), (10, .one (.h 2)), (11, .one (.h 3)), (33, .one (.h 4))], [], [], [], []⟩)]) .nil)))) .nil)))))) .nil)
def env_i_GoodChange : Env := envOf ti [k_i_Part_kind, k_i_lengths] []
theorem eok_i_GoodChange : EnvOk Tryd.prog env_i_GoodChange := envOf_ok tab mix _ _ (by
  intro k hk
  simp only [List.mem_cons, List.not_mem_nil, or_false] at hk
  rcases hk with rfl | rfl
  · exact s_i_Part_kind
  · exact s_i_lengths)
theorem v_i_GoodChange (x0 : List (Int × (Int × List UInt8))) : (vfun env_i_GoodChange Tryd.f21 J_i_GoodChange ann_i_GoodChange [] [.one ⟨.sl false 42 (.pair (.int .i64) (.pair (.int .i64) .str)), x0⟩] []).run = (G.i_GoodChange x0).bind fun y => some (Res.mk [.one ⟨.bool, y⟩] [] []) := by kernel_rfl
def k_i_GoodChange : Kn := ⟨21, [0], fun args rows => match args, rows with
  | [.one ⟨.sl false 42 (.pair (.int .i64) (.pair (.int .i64) .str)), x0⟩], [] => some ⟨_, G.i_GoodChange x0, fun y => ⟨[.one ⟨.bool, y⟩], [], []⟩⟩
  | _, _ => none, []⟩
theorem s_i_GoodChange : KnOk Tryd.prog k_i_GoodChange := by
  intro args rows a h y hy
  simp only [k_i_GoodChange] at h
  split at h
  · injection h with h
    subst h
    exact vfun_ok eok_i_GoodChange Tryd.func21 rfl (by rw [v_i_GoodChange]; simp only at hy; rw [hy]; rfl)
  · cases h
def J_i_ReadChangeText : Joins := [(.r, ⟨[.sl true 42 (.pair (.int .i64) (.pair (.int .i64) .str)), .bool], [(2, .one (.vw 176201)), (3, .one (.h 1))], [], [(176201, 0)], [], []⟩)]
def ann_i_ReadChangeText : Ann := .seq .nil (.seq .nil (.seq .nil (.seq (.seq .nil (.block [] (.loop ⟨[.sl true 42 (.pair (.int .i64) (.pair (.int .i64) .str)), .sl true 9 .str, .int .i64, .int .i64], [(4, .one (.vw 176128)), (17, .one (.vw 176129)), (18, .one (.h 2)), (19, .one (.h 3))], [], [(176128, 0), (176129, 1)], [], []⟩ [(.x 0, ⟨[.sl true 42 (.pair (.int .i64) (.pair (.int .i64) .str))], [(4, .one (.vw 176200))], [], [(176200, 0)], [], []⟩), (.r, ⟨[.bool], [(2, .one (.nil)), (3, .one (.h 0))], [], [], [], []⟩)] (.seq .nil (.seq .nil (.seq (.block [] (.seq .nil (.seq .nil (.seq .nil (.seq .nil (.seq (.block [] (.seq (.reg [(.n, ⟨[.sl true 42 (.pair (.int .i64) (.pair (.int .i64) .str)), .str, .str, .int .i64, .sl true 9 .str, .int .i64, .int .i64, .bool, .int .i64, .int .i64, .str], [(4, .one (.vw 176192)), (6, .one (.h 1)), (7, .one (.h 2)), (8, .pl 8 0), (9, .one (.h 3)), (17, .one (.vw 176193)), (18, .one (.h 5)), (19, .one (.h 6)), (30, .one (.h 7))], [(8, [.h 8, .h 9, .h 10])], [(176192, 0), (176193, 4)], [], []⟩)]) (.cond [(.n, ⟨[.sl true 42 (.pair (.int .i64) (.pair (.int .i64) .str)), .sl true 9 .str, .int .i64, .int .i64, .int .i64, .int .i64, .str], [(4, .one (.vw 176198)), (8, .pl 8 0), (17, .one (.vw 176199)), (18, .one (.h 2)), (19, .one (.h 3))], [(8, [.h 4, .h 5, .h 6])], [(176198, 0), (176199, 1)], [], []⟩), (.r, ⟨[.bool], [(2, .one (.nil)), (3, .one (.h 0))], [], [], [], []⟩)] .nil (.seq (.reg [(.n, ⟨[.sl true 42 (.pair (.int .i64) (.pair (.int .i64) .str)), .str, .str, .int .i64, .sl true 9 .str, .int .i64, .int .i64, .bool, .int .i64, .int .i64, .str], [(4, .one (.vw 176194)), (6, .one (.h 1)), (7, .one (.h 2)), (8, .pl 8 0), (9, .one (.h 3)), (17, .one (.vw 176195)), (18, .one (.h 5)), (19, .one (.h 6)), (40, .one (.h 7))], [(8, [.h 8, .h 9, .h 10])], [(176194, 0), (176195, 4)], [], []⟩)]) (.cond [(.n, ⟨[.sl true 42 (.pair (.int .i64) (.pair (.int .i64) .str)), .sl true 9 .str, .int .i64, .int .i64, .int .i64, .int .i64, .str], [(4, .one (.vw 176196)), (8, .pl 8 0), (17, .one (.vw 176197)), (18, .one (.h 2)), (19, .one (.h 3))], [(8, [.h 4, .h 5, .h 6])], [(176196, 0), (176197, 1)], [], []⟩), (.r, ⟨[.bool], [(2, .one (.nil)), (3, .one (.h 0))], [], [], [], []⟩)] .nil .nil))))) .nil)))))) .nil)))))) .nil)))
def env_i_ReadChangeText : Env := envOf ti [k_strings_Split, k_i_number, k_i_decoded, k_i_GoodChange] []
theorem eok_i_ReadChangeText : EnvOk Tryd.prog env_i_ReadChangeText := envOf_ok tab mix _ _ (by
  intro k hk
  simp only [List.mem_cons, List.not_mem_nil, or_false] at hk
  rcases hk with rfl | rfl | rfl | rfl
  · exact s_strings_Split
  · exact s_i_number
  · exact s_i_decoded
  · exact s_i_GoodChange)
theorem v_i_ReadChangeText (x0 : List UInt8) : (vfun env_i_ReadChangeText Tryd.f12 J_i_ReadChangeText ann_i_ReadChangeText [] [.one ⟨.str, x0⟩] []).run = (G.i_ReadChangeText x0).bind fun y => some (Res.mk [.one ⟨.sl true 42 (.pair (.int .i64) (.pair (.int .i64) .str)), y.1⟩, .one ⟨.bool, y.2⟩] [] []) := by kernel_rfl
def k_i_ReadChangeText : Kn := ⟨12, [0], fun args rows => match args, rows with
  | [.one ⟨.str, x0⟩], [] => some ⟨_, G.i_ReadChangeText x0, fun y => ⟨[.one ⟨.sl true 42 (.pair (.int .i64) (.pair (.int .i64) .str)), y.1⟩, .one ⟨.bool, y.2⟩], [], []⟩⟩
  | _, _ => none, []⟩
theorem s_i_ReadChangeText : KnOk Tryd.prog k_i_ReadChangeText := by
  intro args rows a h y hy
  simp only [k_i_ReadChangeText] at h
  split at h
  · injection h with h
    subst h
    exact vfun_ok eok_i_ReadChangeText Tryd.func12 rfl (by rw [v_i_ReadChangeText]; simp only at hy; rw [hy]; rfl)
  · cases h
def J_l_eqPart : Joins := [(.r, ⟨[.bool], [(4, .one (.h 0))], [], [], [], []⟩)]
def ann_l_eqPart : Ann := .nil
def env_l_eqPart : Env := envOf ti [] []
theorem eok_l_eqPart : EnvOk Tryd.prog env_l_eqPart := envOf_ok tab mix _ _ (by
  intro k hk; cases hk)
theorem v_l_eqPart (x0 : Int) (x1 : Int) (x2 : List UInt8) (x3 : Int) (x4 : Int) (x5 : List UInt8) : (vfun env_l_eqPart Tryd.f23 J_l_eqPart ann_l_eqPart [] [.ag [⟨.int .i64, x0⟩, ⟨.int .i64, x1⟩, ⟨.str, x2⟩], .ag [⟨.int .i64, x3⟩, ⟨.int .i64, x4⟩, ⟨.str, x5⟩]] []).run = (G.l_eqPart x0 x1 x2 x3 x4 x5).bind fun y => some (Res.mk [.one ⟨.bool, y⟩] [] []) := by kernel_rfl
def k_l_eqPart : Kn := ⟨23, [0, 0], fun args rows => match args, rows with
  | [.ag [⟨.int .i64, x0⟩, ⟨.int .i64, x1⟩, ⟨.str, x2⟩], .ag [⟨.int .i64, x3⟩, ⟨.int .i64, x4⟩, ⟨.str, x5⟩]], [] => some ⟨_, G.l_eqPart x0 x1 x2 x3 x4 x5, fun y => ⟨[.one ⟨.bool, y⟩], [], []⟩⟩
  | _, _ => none, []⟩
theorem s_l_eqPart : KnOk Tryd.prog k_l_eqPart := by
  intro args rows a h y hy
  simp only [k_l_eqPart] at h
  split at h
  · injection h with h
    subst h
    exact vfun_ok eok_l_eqPart Tryd.func23 rfl (by rw [v_l_eqPart]; simp only at hy; rw [hy]; rfl)
  · cases h
def J_l_eqPartS : Joins := [(.r, ⟨[.bool], [(4, .one (.h 0))], [], [], [], []⟩)]
def ann_l_eqPartS : Ann := .seq .nil (.seq .nil (.seq (.seq .nil (.block [] (.loop ⟨[.sl false 42 (.pair (.int .i64) (.pair (.int .i64) .str)), .sl false 42 (.pair (.int .i64) (.pair (.int .i64) .str)), .int .i64], [(0, .one (.h 0)), (1, .one (.h 1)), (5, .one (.h 2))], [], [], [], []⟩ [(.x 0, ⟨[], [], [], [], [], []⟩), (.r, ⟨[.bool], [(4, .one (.h 0))], [], [], [], []⟩)] .nil))) .nil))
def env_l_eqPartS : Env := envOf ti [k_l_eqPart] []
theorem eok_l_eqPartS : EnvOk Tryd.prog env_l_eqPartS := envOf_ok tab mix _ _ (by
  intro k hk
  simp only [List.mem_cons, List.not_mem_nil, or_false] at hk
  rcases hk with rfl
  · exact s_l_eqPart)
theorem v_l_eqPartS (x0 : List (Int × (Int × List UInt8))) (x1 : List (Int × (Int × List UInt8))) : (vfun env_l_eqPartS Tryd.f10 J_l_eqPartS ann_l_eqPartS [] [.one ⟨.sl false 42 (.pair (.int .i64) (.pair (.int .i64) .str)), x0⟩, .one ⟨.sl false 42 (.pair (.int .i64) (.pair (.int .i64) .str)), x1⟩] []).run = (G.l_eqPartS x0 x1).bind fun y => some (Res.mk [.one ⟨.bool, y⟩] [] []) := by kernel_rfl
def k_l_eqPartS : Kn := ⟨10, [0, 0], fun args rows => match args, rows with
  | [.one ⟨.sl false 42 (.pair (.int .i64) (.pair (.int .i64) .str)), x0⟩, .one ⟨.sl false 42 (.pair (.int .i64) (.pair (.int .i64) .str)), x1⟩], [] => some ⟨_, G.l_eqPartS x0 x1, fun y => ⟨[.one ⟨.bool, y⟩], [], []⟩⟩
  | _, _ => none, []⟩
theorem s_l_eqPartS : KnOk Tryd.prog k_l_eqPartS := by
  intro args rows a h y hy
  simp only [k_l_eqPartS] at h
  split at h
  · injection h with h
    subst h
    exact vfun_ok eok_l_eqPartS Tryd.func10 rfl (by rw [v_l_eqPartS]; simp only at hy; rw [hy]; rfl)
  · cases h
def J_l_markText : Joins := [(.r, ⟨[.str], [(2, .one (.h 0))], [], [], [], []⟩)]
def ann_l_markText : Ann := .seq .nil (.seq .nil (.seq .nil (.seq (.block [] (.loop ⟨[.int .i64, .str], [(0, .one (.h 0)), (3, .one (.h 1))], [], [], [], []⟩ [(.x 0, ⟨[.str], [(3, .one (.h 0))], [], [], [], []⟩)] .nil)) .nil)))
def env_l_markText : Env := envOf ti [] []
theorem eok_l_markText : EnvOk Tryd.prog env_l_markText := envOf_ok tab mix _ _ (by
  intro k hk; cases hk)
theorem v_l_markText (x0 : Int) : (vfun env_l_markText Tryd.f30 J_l_markText ann_l_markText [] [.one ⟨.int .i64, x0⟩] []).run = (G.l_markText x0).bind fun y => some (Res.mk [.one ⟨.str, y⟩] [] []) := by kernel_rfl
def k_l_markText : Kn := ⟨30, [0], fun args rows => match args, rows with
  | [.one ⟨.int .i64, x0⟩], [] => some ⟨_, G.l_markText x0, fun y => ⟨[.one ⟨.str, y⟩], [], []⟩⟩
  | _, _ => none, []⟩
theorem s_l_markText : KnOk Tryd.prog k_l_markText := by
  intro args rows a h y hy
  simp only [k_l_markText] at h
  split at h
  · injection h with h
    subst h
    exact vfun_ok eok_l_markText Tryd.func30 rfl (by rw [v_l_markText]; simp only at hy; rw [hy]; rfl)
  · cases h
def J_l_markPartS_l : Joins := [(.r, ⟨[.sl true 42 (.pair (.int .i64) (.pair (.int .i64) .str)), .int .i64], [(0, .one (.vw 138305)), (4, .one (.h 1))], [], [(138305, 0)], [], []⟩)]
def ann_l_markPartS_l : Ann := .seq .nil (.seq (.seq .nil (.block [] (.loop ⟨[.sl true 42 (.pair (.int .i64) (.pair (.int .i64) .str)), .int .i64, .int .i64], [(0, .one (.vw 138240)), (1, .one (.h 1)), (5, .one (.h 2))], [], [(138240, 0)], [], []⟩ [(.x 0, ⟨[.sl true 42 (.pair (.int .i64) (.pair (.int .i64) .str)), .int .i64], [(0, .one (.vw 138304)), (1, .one (.h 1))], [], [(138304, 0)], [], []⟩)] .nil))) .nil)
def env_l_markPartS_l : Env := envOf ti [k_l_markText] [0]
theorem eok_l_markPartS_l : EnvOk Tryd.prog env_l_markPartS_l := envOf_ok tab mix _ _ (by
  intro k hk
  simp only [List.mem_cons, List.not_mem_nil, or_false] at hk
  rcases hk with rfl
  · exact s_l_markText)
theorem v_l_markPartS_l (x0 : List (Int × (Int × List UInt8))) (x1 : Int) : (vfun env_l_markPartS_l Tryd.f13 J_l_markPartS_l ann_l_markPartS_l [(0, 0)] [.one ⟨.sl true 42 (.pair (.int .i64) (.pair (.int .i64) .str)), x0⟩, .one ⟨.int .i64, x1⟩] []).run = (G.l_markPartS_l x0 x1).bind fun y => some (Res.mk [.one ⟨.int .i64, y.2⟩] [] [((0, 0), ⟨.sl true 42 (.pair (.int .i64) (.pair (.int .i64) .str)), y.1⟩)]) := by kernel_rfl
def k_l_markPartS_l : Kn := ⟨13, [2, 0], fun args rows => match args, rows with
  | [.one ⟨.sl true 42 (.pair (.int .i64) (.pair (.int .i64) .str)), x0⟩, .one ⟨.int .i64, x1⟩], [] => some ⟨_, G.l_markPartS_l x0 x1, fun y => ⟨[.one ⟨.int .i64, y.2⟩], [], [((0, 0), ⟨.sl true 42 (.pair (.int .i64) (.pair (.int .i64) .str)), y.1⟩)]⟩⟩
  | _, _ => none, []⟩
theorem s_l_markPartS_l : KnOk Tryd.prog k_l_markPartS_l := by
  intro args rows a h y hy
  simp only [k_l_markPartS_l] at h
  split at h
  · injection h with h
    subst h
    exact vfun_ok eok_l_markPartS_l Tryd.func13 rfl (by rw [v_l_markPartS_l]; simp only at hy; rw [hy]; rfl)
  · cases h
end
end Go.Proofs.YtijemcbcchnnjaaDoor

set_option linter.unusedVariables false
set_option maxRecDepth 100000
namespace Go.Proofs.YtijemcbcchnnjaaDoor
open Go.V
noncomputable section
def J_l_heldPartS : Joins := [(.r, ⟨[.int .i64], [(4, .one (.h 0))], [], [], [], []⟩)]
def ann_l_heldPartS : Ann := .seq .nil (.seq (.seq .nil (.block [] (.loop ⟨[.sl false 42 (.pair (.int .i64) (.pair (.int .i64) .str)), .int .i64, .int .i64], [(0, .one (.h 0)), (1, .one (.h 1)), (5, .one (.h 2))], [], [], [], []⟩ [(.x 0, ⟨[.int .i64], [(1, .one (.h 0))], [], [], [], []⟩), (.r, ⟨[.int .i64], [(4, .one (.h 0))], [], [], [], []⟩)] .nil))) .nil)
def env_l_heldPartS : Env := envOf ti [k_l_markText] []
theorem eok_l_heldPartS : EnvOk Tryd.prog env_l_heldPartS := envOf_ok tab mix _ _ (by
  intro k hk
  simp only [List.mem_cons, List.not_mem_nil, or_false] at hk
  rcases hk with rfl
  · exact s_l_markText)
theorem v_l_heldPartS (x0 : List (Int × (Int × List UInt8))) (x1 : Int) : (vfun env_l_heldPartS Tryd.f14 J_l_heldPartS ann_l_heldPartS [] [.one ⟨.sl false 42 (.pair (.int .i64) (.pair (.int .i64) .str)), x0⟩, .one ⟨.int .i64, x1⟩] []).run = (G.l_heldPartS x0 x1).bind fun y => some (Res.mk [.one ⟨.int .i64, y⟩] [] []) := by kernel_rfl
def k_l_heldPartS : Kn := ⟨14, [0, 0], fun args rows => match args, rows with
  | [.one ⟨.sl false 42 (.pair (.int .i64) (.pair (.int .i64) .str)), x0⟩, .one ⟨.int .i64, x1⟩], [] => some ⟨_, G.l_heldPartS x0 x1, fun y => ⟨[.one ⟨.int .i64, y⟩], [], []⟩⟩
  | _, _ => none, []⟩
theorem s_l_heldPartS : KnOk Tryd.prog k_l_heldPartS := by
  intro args rows a h y hy
  simp only [k_l_heldPartS] at h
  split at h
  · injection h with h
    subst h
    exact vfun_ok eok_l_heldPartS Tryd.func14 rfl (by rw [v_l_heldPartS]; simp only at hy; rw [hy]; rfl)
  · cases h
def J_l_FnExactReadChangeText : Joins := [(.r, ⟨[.bool], [(2, .one (.h 0))], [], [], [], []⟩)]
def ann_l_FnExactReadChangeText : Ann := .seq .nil (.seq .nil (.seq .nil (.seq .nil (.seq (.seq (.reg [(.n, ⟨[.str, .sl true 42 (.pair (.int .i64) (.pair (.int .i64) .str)), .bool, .sl true 42 (.pair (.int .i64) (.pair (.int .i64) .str)), .bool], [(0, .one (.h 0)), (3, .one (.vw 169984)), (4, .one (.h 2)), (5, .one (.vw 169985)), (32, .one (.h 4))], [], [(169984, 1), (169985, 3)], [], []⟩)]) .nil) (.seq .nil (.seq .nil (.seq .nil (.seq .nil (.seq .nil (.seq .nil (.seq .nil (.seq (.seq (.reg [(.n, ⟨[.sl true 42 (.pair (.int .i64) (.pair (.int .i64) .str)), .int .i64, .bool], [(5, .one (.vw 169986)), (7, .one (.h 1)), (57, .one (.h 2))], [], [(169986, 0)], [], []⟩)]) .nil) .nil))))))))))))
def env_l_FnExactReadChangeText : Env := envOf ti [k_s_ReadChangeText, k_i_ReadChangeText, k_l_eqPartS, k_l_markPartS_l, k_l_heldPartS] []
theorem eok_l_FnExactReadChangeText : EnvOk Tryd.prog env_l_FnExactReadChangeText := envOf_ok tab mix _ _ (by
  intro k hk
  simp only [List.mem_cons, List.not_mem_nil, or_false] at hk
  rcases hk with rfl | rfl | rfl | rfl | rfl
  · exact s_s_ReadChangeText
  · exact s_i_ReadChangeText
  · exact s_l_eqPartS
  · exact s_l_markPartS_l
  · exact s_l_heldPartS)
theorem v_l_FnExactReadChangeText (x0 : List UInt8) : (vfun env_l_FnExactReadChangeText Tryd.f4 J_l_FnExactReadChangeText ann_l_FnExactReadChangeText [] [.one ⟨.str, x0⟩] []).run = (G.l_FnExactReadChangeText x0).bind fun y => some (Res.mk [.one ⟨.bool, y⟩] [] []) := by kernel_rfl
def k_l_FnExactReadChangeText : Kn := ⟨4, [0], fun args rows => match args, rows with
  | [.one ⟨.str, x0⟩], [] => some ⟨_, G.l_FnExactReadChangeText x0, fun y => ⟨[.one ⟨.bool, y⟩], [], []⟩⟩
  | _, _ => none, []⟩
theorem s_l_FnExactReadChangeText : KnOk Tryd.prog k_l_FnExactReadChangeText := by
  intro args rows a h y hy
  simp only [k_l_FnExactReadChangeText] at h
  split at h
  · injection h with h
    subst h
    exact vfun_ok eok_l_FnExactReadChangeText Tryd.func4 rfl (by rw [v_l_FnExactReadChangeText]; simp only at hy; rw [hy]; rfl)
  · cases h
end
end Go.Proofs.YtijemcbcchnnjaaDoor
