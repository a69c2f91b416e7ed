import Derived.Test.YtijemcbcchnnjaaDoorQCtD
import Derived.Test.YtijemcbcchnnjaaDoorProg
import Derived.KernelRfl
import Derived.Test.YtijemcbcchnnjaaDoorRows
import Derived.WalkKit
import Derived.ProofKit
import Derived.OpenShut
import Derived.ShutString
import Derived.ChangeOld
import Derived.Below
set_option linter.unusedVariables false
set_option maxRecDepth 100000
namespace Go.Proofs.YtijemcbcchnnjaaDoor
open Go.V
def tiL : List TI := [
  .other,
  .other,
  .cell (.int .i64),
  .cell (.int .i64),
  .cell .bool,
  .cell (.int .u8),
  .cell (.int .u8),
  .other,
  .other,
  .cell .str,
  .cell .str,
  .cell .str,
  .cell (.int .u64),
  .other,
  .other,
  .ptr 127,
  .ptr 130,
  .ptr 137,
  .other,
  .other,
  .other,
  .cell (.int .i32),
  .slice 39 [(.int .i64), (.int .i64), .str] 32,
  .other,
  .other,
  .other,
  .slice 42 [(.int .i64), (.int .i64), .str] 32,
  .other,
  .other,
  .other,
  .other,
  .other,
  .other,
  .other,
  .slice 5 [(.int .u8)] 1,
  .other,
  .other,
  .other,
  .struct [(0, 1, false), (1, 1, false), (2, 1, false)] [(.int .i64), (.int .i64), .str] true,
  .struct [(0, 1, false), (1, 1, false), (2, 1, false)] [(.int .i64), (.int .i64), .str] true,
  .other,
  .other,
  .struct [(0, 1, false), (1, 1, false), (2, 1, false)] [(.int .i64), (.int .i64), .str] true,
  .other,
  .other,
  .slice 9 [.str] 16,
  .other,
  .other,
  .other,
  .other,
  .other,
  .other,
  .other,
  .other,
  .other,
  .other,
  .other,
  .other,
  .other,
  .other,
  .other,
  .other,
  .other,
  .other,
  .other,
  .cell (.int .u64),
  .other,
  .other,
  .ptr 70,
  .struct [(0, 1, false), (1, 1, false), (2, 1, false)] [(.sl true 5 (.int .u8)), (.int .i64), (.int .u64)] false,
  .struct [(0, 1, false), (1, 1, false), (2, 1, false)] [(.sl true 5 (.int .u8)), (.int .i64), (.int .u64)] false,
  .other,
  .other,
  .other,
  .other,
  .cell (.int .u64),
  .ptr 78,
  .other,
  .other,
  .other,
  .other,
  .other,
  .other,
  .other,
  .other,
  .other,
  .ptr 5,
  .other,
  .other,
  .other,
  .cell (.int .i64),
  .other,
  .other,
  .ptr 107,
  .other,
  .other,
  .other,
  .other,
  .other,
  .other,
  .other,
  .other,
  .other,
  .other,
  .other,
  .other,
  .other,
  .other,
  .other,
  .other,
  .other,
  .cell (.int .u32),
  .other,
  .other,
  .other,
  .struct [(0, 1, false), (1, 1, false)] [(.int .u8), (.int .u8)] true,
  .struct [(0, 1, false), (1, 1, false)] [(.int .u8), (.int .u8)] true,
  .other,
  .other,
  .other,
  .ptr 122,
  .struct [(0, 1, false)] [.str] true,
  .struct [(0, 1, false)] [.str] true,
  .other,
  .other,
  .other,
  .other,
  .other,
  .other,
  .other,
  .other,
  .cell (.int .u8),
  .cell (.int .u8),
  .other,
  .cell (.int .i32),
  .cell (.int .i32),
  .other,
  .other]
def ti (t : TypeId) : TI := tiL.getD t .other
theorem tab : TabOk Tryd.prog ti := tabOf Tryd.prog tiL (by kernel_rfl)
theorem mix : Tryd.prog.follows .mixedOrders = true := by kernel_rfl
end Go.Proofs.YtijemcbcchnnjaaDoor

set_option maxRecDepth 100000
namespace Go.Proofs.YtijemcbcchnnjaaDoor
open Go.V
theorem own : ownKnob Tryd.prog.godebug = none := by kernel_rfl
theorem laidOut : laidOutB Tryd.prog = true := by kernel_rfl
theorem tab2 : ∀ t, tyOk2 Tryd.prog ti t (ti t) = true := tabOf2 Tryd.prog tiL (by kernel_rfl)
end Go.Proofs.YtijemcbcchnnjaaDoor

set_option linter.unusedVariables false
set_option maxRecDepth 100000
namespace Go.Proofs.YtijemcbcchnnjaaDoor
open Go.V
noncomputable section
def J_l_szPart : Joins := [(.r, ⟨[.int .i64], [(4, .one (.h 0))], [], [], [], []⟩)]
def ann_l_szPart : Ann := .nil
def env_l_szPart : Env := envOf ti [] []
theorem eok_l_szPart : EnvOk Tryd.prog env_l_szPart := envOf_ok tab mix _ _ (by
  intro k hk; cases hk)
theorem v_l_szPart (x0 : Int) (x1 : Int) (x2 : List UInt8) (x3 : Int) : (vfun env_l_szPart Tryd.f17 J_l_szPart ann_l_szPart [] [.ag [⟨.int .i64, x0⟩, ⟨.int .i64, x1⟩, ⟨.str, x2⟩], .one ⟨.int .i64, x3⟩] []).run = (G.l_szPart x0 x1 x2 x3).bind fun y => some (Res.mk [.one ⟨.int .i64, y⟩] [] []) := by kernel_rfl
def k_l_szPart : Kn := ⟨17, [0, 0], fun args rows => match args, rows with
  | [.ag [⟨.int .i64, x0⟩, ⟨.int .i64, x1⟩, ⟨.str, x2⟩], .one ⟨.int .i64, x3⟩], [] => some ⟨_, G.l_szPart x0 x1 x2 x3, fun y => ⟨[.one ⟨.int .i64, y⟩], [], []⟩⟩
  | _, _ => none, []⟩
theorem s_l_szPart : KnOk Tryd.prog k_l_szPart := by
  intro args rows a h y hy
  simp only [k_l_szPart] at h
  split at h
  · injection h with h
    subst h
    exact vfun_ok eok_l_szPart Tryd.func17 rfl (by rw [v_l_szPart]; simp only at hy; rw [hy]; rfl)
  · cases h
def J_l_szPartS : Joins := [(.r, ⟨[.int .i64], [(4, .one (.h 0))], [], [], [], []⟩)]
def ann_l_szPartS : Ann := .seq .nil (.seq .nil (.seq .nil (.seq (.seq .nil (.block [] (.loop ⟨[.sl false 39 (.pair (.int .i64) (.pair (.int .i64) .str)), .int .i64, .int .i64], [(0, .one (.h 0)), (1, .one (.h 1)), (5, .one (.h 2))], [], [], [], []⟩ [(.x 0, ⟨[.int .i64], [(1, .one (.h 0))], [], [], [], []⟩), (.r, ⟨[.int .i64], [(4, .one (.h 0))], [], [], [], []⟩)] .nil))) .nil)))
def env_l_szPartS : Env := envOf ti [k_l_szPart] []
theorem eok_l_szPartS : EnvOk Tryd.prog env_l_szPartS := envOf_ok tab mix _ _ (by
  intro k hk
  simp only [List.mem_cons, List.not_mem_nil, or_false] at hk
  rcases hk with rfl
  · exact s_l_szPart)
theorem v_l_szPartS (x0 : List (Int × (Int × List UInt8))) (x1 : Int) : (vfun env_l_szPartS Tryd.f6 J_l_szPartS ann_l_szPartS [] [.one ⟨.sl false 39 (.pair (.int .i64) (.pair (.int .i64) .str)), x0⟩, .one ⟨.int .i64, x1⟩] []).run = (G.l_szPartS x0 x1).bind fun y => some (Res.mk [.one ⟨.int .i64, y⟩] [] []) := by kernel_rfl
def k_l_szPartS : Kn := ⟨6, [0, 0], fun args rows => match args, rows with
  | [.one ⟨.sl false 39 (.pair (.int .i64) (.pair (.int .i64) .str)), x0⟩, .one ⟨.int .i64, x1⟩], [] => some ⟨_, G.l_szPartS x0 x1, fun y => ⟨[.one ⟨.int .i64, y⟩], [], []⟩⟩
  | _, _ => none, []⟩
theorem s_l_szPartS : KnOk Tryd.prog k_l_szPartS := by
  intro args rows a h y hy
  simp only [k_l_szPartS] at h
  split at h
  · injection h with h
    subst h
    exact vfun_ok eok_l_szPartS Tryd.func6 rfl (by rw [v_l_szPartS]; simp only at hy; rw [hy]; rfl)
  · cases h
def J_l_toPart : Joins := [(.r, ⟨[.int .i64, .int .i64, .str], [(2, .pl 2 0)], [(2, [.h 0, .h 1, .h 2])], [], [], []⟩)]
def ann_l_toPart : Ann := .nil
def env_l_toPart : Env := envOf ti [] []
theorem eok_l_toPart : EnvOk Tryd.prog env_l_toPart := envOf_ok tab mix _ _ (by
  intro k hk; cases hk)
theorem v_l_toPart (x0 : Int) (x1 : Int) (x2 : List UInt8) : (vfun env_l_toPart Tryd.f20 J_l_toPart ann_l_toPart [] [.ag [⟨.int .i64, x0⟩, ⟨.int .i64, x1⟩, ⟨.str, x2⟩]] []).run = (G.l_toPart x0 x1 x2).bind fun y => some (Res.mk [.ag [⟨.int .i64, y.1⟩, ⟨.int .i64, y.2.1⟩, ⟨.str, y.2.2⟩]] [] []) := by kernel_rfl
def k_l_toPart : Kn := ⟨20, [0], fun args rows => match args, rows with
  | [.ag [⟨.int .i64, x0⟩, ⟨.int .i64, x1⟩, ⟨.str, x2⟩]], [] => some ⟨_, G.l_toPart x0 x1 x2, fun y => ⟨[.ag [⟨.int .i64, y.1⟩, ⟨.int .i64, y.2.1⟩, ⟨.str, y.2.2⟩]], [], []⟩⟩
  | _, _ => none, []⟩
theorem s_l_toPart : KnOk Tryd.prog k_l_toPart := by
  intro args rows a h y hy
  simp only [k_l_toPart] at h
  split at h
  · injection h with h
    subst h
    exact vfun_ok eok_l_toPart Tryd.func20 rfl (by rw [v_l_toPart]; simp only at hy; rw [hy]; rfl)
  · cases h
def J_l_toPartS : Joins := [(.r, ⟨[.sl true 42 (.pair (.int .i64) (.pair (.int .i64) .str))], [(2, .one (.vw 126017))], [], [(126017, 0)], [], []⟩)]
def ann_l_toPartS : Ann := .seq .nil (.seq .nil (.seq (.seq .nil (.block [] (.loop ⟨[.sl false 39 (.pair (.int .i64) (.pair (.int .i64) .str)), .sl true 42 (.pair (.int .i64) (.pair (.int .i64) .str)), .int .i64], [(0, .one (.h 0)), (3, .one (.vw 125952)), (4, .one (.h 2))], [], [(125952, 1)], [], []⟩ [(.x 0, ⟨[.sl true 42 (.pair (.int .i64) (.pair (.int .i64) .str))], [(3, .one (.vw 126016))], [], [(126016, 0)], [], []⟩)] .nil))) .nil))
def env_l_toPartS : Env := envOf ti [k_l_toPart] []
theorem eok_l_toPartS : EnvOk Tryd.prog env_l_toPartS := envOf_ok tab mix _ _ (by
  intro k hk
  simp only [List.mem_cons, List.not_mem_nil, or_false] at hk
  rcases hk with rfl
  · exact s_l_toPart)
theorem v_l_toPartS (x0 : List (Int × (Int × List UInt8))) : (vfun env_l_toPartS Tryd.f8 J_l_toPartS ann_l_toPartS [] [.one ⟨.sl false 39 (.pair (.int .i64) (.pair (.int .i64) .str)), x0⟩] []).run = (G.l_toPartS x0).bind fun y => some (Res.mk [.one ⟨.sl true 42 (.pair (.int .i64) (.pair (.int .i64) .str)), y⟩] [] []) := by kernel_rfl
def k_l_toPartS : Kn := ⟨8, [0], fun args rows => match args, rows with
  | [.one ⟨.sl false 39 (.pair (.int .i64) (.pair (.int .i64) .str)), x0⟩], [] => some ⟨_, G.l_toPartS x0, fun y => ⟨[.one ⟨.sl true 42 (.pair (.int .i64) (.pair (.int .i64) .str)), y⟩], [], []⟩⟩
  | _, _ => none, []⟩
theorem s_l_toPartS : KnOk Tryd.prog k_l_toPartS := by
  intro args rows a h y hy
  simp only [k_l_toPartS] at h
  split at h
  · injection h with h
    subst h
    exact vfun_ok eok_l_toPartS Tryd.func8 rfl (by rw [v_l_toPartS]; simp only at hy; rw [hy]; rfl)
  · cases h
def J_s_l1Kind : Joins := [(.r, ⟨[.int .i64], [(2, .one (.h 0))], [], [], [], []⟩)]
def ann_s_l1Kind : Ann := .seq .nil (.seq (.block [] (.seq (.reg [(.n, ⟨[.bool, .int .i64, .int .i64, .str], [(1, .pl 1 0), (3, .one (.h 0))], [(1, [.h 1, .h 2, .h 3])], [], [], []⟩)]) (.cond [] .nil (.seq (.reg [(.n, ⟨[.bool, .int .i64, .int .i64, .str], [(1, .pl 1 0), (17, .one (.h 0))], [(1, [.h 1, .h 2, .h 3])], [], [], []⟩)]) (.cond [] .nil (.seq (.reg [(.n, ⟨[.bool], [(31, .one (.h 0))], [], [], [], []⟩)]) .nil)))))) .nil)
def env_s_l1Kind : Env := envOf ti [] []
theorem eok_s_l1Kind : EnvOk Tryd.prog env_s_l1Kind := envOf_ok tab mix _ _ (by
  intro k hk; cases hk)
theorem v_s_l1Kind (x0 : Int) (x1 : Int) (x2 : List UInt8) : (vfun env_s_l1Kind Tryd.f32 J_s_l1Kind ann_s_l1Kind [] [.ag [⟨.int .i64, x0⟩, ⟨.int .i64, x1⟩, ⟨.str, x2⟩]] []).run = (G.s_l1Kind x0 x1 x2).bind fun y => some (Res.mk [.one ⟨.int .i64, y⟩] [] []) := by kernel_rfl
def k_s_l1Kind : Kn := ⟨32, [0], fun args rows => match args, rows with
  | [.ag [⟨.int .i64, x0⟩, ⟨.int .i64, x1⟩, ⟨.str, x2⟩]], [] => some ⟨_, G.s_l1Kind x0 x1 x2, fun y => ⟨[.one ⟨.int .i64, y⟩], [], []⟩⟩
  | _, _ => none, []⟩
theorem s_s_l1Kind : KnOk Tryd.prog k_s_l1Kind := by
  intro args rows a h y hy
  simp only [k_s_l1Kind] at h
  split at h
  · injection h with h
    subst h
    exact vfun_ok eok_s_l1Kind Tryd.func32 rfl (by rw [v_s_l1Kind]; simp only at hy; rw [hy]; rfl)
  · cases h
def J_s_GoodChange : Joins := [(.r, ⟨[.bool], [(2, .one (.h 0))], [], [], [], []⟩)]
def ann_s_GoodChange : Ann := .seq .nil (.seq .nil (.seq .nil (.seq (.seq .nil (.block [] (.loop ⟨[.sl false 42 (.pair (.int .i64) (.pair (.int .i64) .str)), .int .i64, .int .i64, .sl false 42 (.pair (.int .i64) (.pair (.int .i64) .str)), .int .i64, .int .i64], [(0, .one (.h 0)), (3, .one (.h 1)), (4, .one (.h 2)), (8, .one (.h 3)), (9, .one (.h 4)), (10, .one (.h 5))], [], [], [], []⟩ [(.x 0, ⟨[], [], [], [], [], []⟩), (.r, ⟨[.bool], [(2, .one (.h 0))], [], [], [], []⟩)] (.seq .nil (.seq .nil (.seq (.block [] (.seq .nil (.seq .nil (.seq (.seq (.reg [(.n, ⟨[.sl false 42 (.pair (.int .i64) (.pair (.int .i64) .str)), .int .i64, .int .i64, .sl false 42 (.pair (.int .i64) (.pair (.int .i64) .str)), .int .i64, .int .i64, .bool, .int .i64, .int .i64, .str], [(0, .one (.h 0)), (3, .one (.h 1)), (4, .one (.h 2)), (6, .pl 6 0), (8, .one (.h 3)), (9, .one (.h 4)), (10, .one (.h 5)), (48, .one (.h 6))], [(6, [.h 7, .h 8, .h 9])], [], [], []⟩)]) .nil) (.seq .nil (.seq .nil (.seq (.reg [(.n, ⟨[.sl false 42 (.pair (.int .i64) (.pair (.int .i64) .str)), .int .i64, .int .i64, .sl false 42 (.pair (.int .i64) (.pair (.int .i64) .str)), .int .i64, .int .i64, .bool], [(0, .one (.h 0)), (3, .one (.h 1)), (4, .one (.h 2)), (8, .one (.h 3)), (9, .one (.h 4)), (10, .one (.h 5)), (69, .one (.h 6))], [], [], [], []⟩)]) .nil))))))) .nil)))))) .nil)))
def env_s_GoodChange : Env := envOf ti [k_s_l1Kind] []
theorem eok_s_GoodChange : EnvOk Tryd.prog env_s_GoodChange := envOf_ok tab mix _ _ (by
  intro k hk
  simp only [List.mem_cons, List.not_mem_nil, or_false] at hk
  rcases hk with rfl
  · exact s_s_l1Kind)
theorem v_s_GoodChange (x0 : List (Int × (Int × List UInt8))) : (vfun env_s_GoodChange Tryd.f18 J_s_GoodChange ann_s_GoodChange [] [.one ⟨.sl false 42 (.pair (.int .i64) (.pair (.int .i64) .str)), x0⟩] []).run = (G.s_GoodChange x0).bind fun y => some (Res.mk [.one ⟨.bool, y⟩] [] []) := by kernel_rfl
def k_s_GoodChange : Kn := ⟨18, [0], fun args rows => match args, rows with
  | [.one ⟨.sl false 42 (.pair (.int .i64) (.pair (.int .i64) .str)), x0⟩], [] => some ⟨_, G.s_GoodChange x0, fun y => ⟨[.one ⟨.bool, y⟩], [], []⟩⟩
  | _, _ => none, []⟩
theorem s_s_GoodChange : KnOk Tryd.prog k_s_GoodChange := by
  intro args rows a h y hy
  simp only [k_s_GoodChange] at h
  split at h
  · injection h with h
    subst h
    exact vfun_ok eok_s_GoodChange Tryd.func18 rfl (by rw [v_s_GoodChange]; simp only at hy; rw [hy]; rfl)
  · cases h
def J_s_l1Num : Joins := [(.r, ⟨[.str], [(2, .one (.h 0))], [], [], [], []⟩)]
def ann_s_l1Num : Ann := .nil
def kf_s_l1Num (φ : Int → Option (List UInt8)) : Kn := ⟨33, [0], fun args rows => match args, rows with
  | [.one ⟨.int .i64, x0⟩], [] => some ⟨_, φ x0, fun y => ⟨[.one ⟨.str, y⟩], [], []⟩⟩
  | _, _ => none, []⟩
def env_s_l1Num (φ : Int → Option (List UInt8)) : Env := envOf ti [kf_s_l1Num φ] []
theorem v_s_l1Num (φ : Int → Option (List UInt8)) (x0 : Int) : (vfun (env_s_l1Num φ) Tryd.f33 J_s_l1Num ann_s_l1Num [] [.one ⟨.int .i64, x0⟩] []).run = (G.s_l1Num_step φ x0).bind fun y => some (Res.mk [.one ⟨.str, y⟩] [] []) := by kernel_rfl
theorem sk_s_l1Num : ∀ k, KnOk Tryd.prog (kf_s_l1Num (G.s_l1Num_at k)) := by
  intro k
  induction k with
  | zero =>
    intro args rows a h y hy
    simp only [kf_s_l1Num] at h
    split at h
    · injection h with h
      subst h
      cases hy
    · cases h
  | succ k ih =>
    have eok : EnvOk Tryd.prog (env_s_l1Num (G.s_l1Num_at k)) := envOf_ok tab mix _ _ (by
      intro k hk
      simp only [List.mem_cons, List.not_mem_nil, or_false] at hk
      rcases hk with rfl
      · exact ih
)
    intro args rows a h y hy
    simp only [kf_s_l1Num] at h
    split at h
    · injection h with h
      subst h
      exact vfun_ok eok Tryd.func33 rfl (by rw [v_s_l1Num]; replace hy : G.s_l1Num_step (G.s_l1Num_at k) _ = some y := hy; rw [hy]; rfl)
    · cases h
def k_s_l1Num : Kn := kf_s_l1Num G.s_l1Num
theorem s_s_l1Num : KnOk Tryd.prog k_s_l1Num := sk_s_l1Num 64
def J_s_l14Plain : Joins := [(.r, ⟨[.bool], [(2, .one (.h 0))], [], [], [], []⟩)]
def ann_s_l14Plain : Ann := .seq .nil (.seq (.reg [(.n, ⟨[.bool], [(2, .one (.h 0))], [], [], [], []⟩)]) .nil)
def env_s_l14Plain : Env := envOf ti [] []
theorem eok_s_l14Plain : EnvOk Tryd.prog env_s_l14Plain := envOf_ok tab mix _ _ (by
  intro k hk; cases hk)
theorem v_s_l14Plain (x0 : Int) : (vfun env_s_l14Plain Tryd.f40 J_s_l14Plain ann_s_l14Plain [] [.one ⟨.int .u8, x0⟩] []).run = (G.s_l14Plain x0).bind fun y => some (Res.mk [.one ⟨.bool, y⟩] [] []) := by kernel_rfl
def k_s_l14Plain : Kn := ⟨40, [0], fun args rows => match args, rows with
  | [.one ⟨.int .u8, x0⟩], [] => some ⟨_, G.s_l14Plain x0, fun y => ⟨[.one ⟨.bool, y⟩], [], []⟩⟩
  | _, _ => none, []⟩
theorem s_s_l14Plain : KnOk Tryd.prog k_s_l14Plain := by
  intro args rows a h y hy
  simp only [k_s_l14Plain] at h
  split at h
  · injection h with h
    subst h
    exact vfun_ok eok_s_l14Plain Tryd.func40 rfl (by rw [v_s_l14Plain]; simp only at hy; rw [hy]; rfl)
  · cases h
def J_s_l14Told : Joins := [(.r, ⟨[.str], [(2, .one (.h 0))], [], [], [], []⟩)]
def ann_s_l14Told : Ann := .seq .nil (.seq .nil (.seq (.seq .nil (.block [] (.loop ⟨[.str, .str, .int .i64], [(0, .one (.h 0)), (3, .one (.h 1)), (4, .one (.h 2))], [], [], [], []⟩ [(.x 0, ⟨[.str], [(3, .one (.h 0))], [], [], [], []⟩)] (.seq .nil (.seq (.block [(.n, ⟨[.str, .str, .int .i64], [(0, .one (.h 0)), (3, .one (.h 1)), (4, .one (.h 2))], [], [], [], []⟩)] .nil) .nil))))) .nil))
def env_s_l14Told : Env := envOf ti [k_s_l14Plain] []
theorem eok_s_l14Told : EnvOk Tryd.prog env_s_l14Told := envOf_ok tab mix _ _ (by
  intro k hk
  simp only [List.mem_cons, List.not_mem_nil, or_false] at hk
  rcases hk with rfl
  · exact s_s_l14Plain)
theorem v_s_l14Told (x0 : List UInt8) : (vfun env_s_l14Told Tryd.f34 J_s_l14Told ann_s_l14Told [] [.one ⟨.str, x0⟩] []).run = (G.s_l14Told x0).bind fun y => some (Res.mk [.one ⟨.str, y⟩] [] []) := by kernel_rfl
def k_s_l14Told : Kn := ⟨34, [0], fun args rows => match args, rows with
  | [.one ⟨.str, x0⟩], [] => some ⟨_, G.s_l14Told x0, fun y => ⟨[.one ⟨.str, y⟩], [], []⟩⟩
  | _, _ => none, []⟩
theorem s_s_l14Told : KnOk Tryd.prog k_s_l14Told := by
  intro args rows a h y hy
  simp only [k_s_l14Told] at h
  split at h
  · injection h with h
    subst h
    exact vfun_ok eok_s_l14Told Tryd.func34 rfl (by rw [v_s_l14Told]; simp only at hy; rw [hy]; rfl)
  · cases h
def J_s_l14Change : Joins := [(.r, ⟨[.str], [(2, .one (.h 0))], [], [], [], []⟩)]
def ann_s_l14Change : Ann := .seq .nil (.seq .nil (.seq .nil (.seq (.seq .nil (.block [] (.loop ⟨[.str, .sl false 42 (.pair (.int .i64) (.pair (.int .i64) .str)), .int .i64, .int .i64], [(3, .one (.h 0)), (9, .one (.h 1)), (10, .one (.h 2)), (11, .one (.h 3))], [], [], [], []⟩ [(.x 0, ⟨[.str], [(3, .one (.h 0))], [], [], [], []⟩)] (.seq .nil (.seq .nil (.seq (.block [] (.seq .nil (.seq (.seq .nil (.cond [(.n, ⟨[.str, .sl false 42 (.pair (.int .i64) (.pair (.int .i64) .str)), .int .i64, .int .i64, .int .i64, .int .i64, .str], [(3, .one (.h 0)), (5, .pl 5 0), (9, .one (.h 1)), (10, .one (.h 2)), (11, .one (.h 3))], [(5, [.h 4, .h 5, .h 6])], [], [], []⟩)] .nil .nil)) (.block [] (.seq .nil (.cond [(.n, ⟨[.str, .sl false 42 (.pair (.int .i64) (.pair (.int .i64) .str)), .int .i64, .int .i64], [(3, .one (.h 0)), (9, .one (.h 1)), (10, .one (.h 2)), (11, .one (.h 3))], [], [], [], []⟩)] .nil (.seq .nil (.cond [(.n, ⟨[.str, .sl false 42 (.pair (.int .i64) (.pair (.int .i64) .str)), .int .i64, .int .i64], [(3, .one (.h 0)), (9, .one (.h 1)), (10, .one (.h 2)), (11, .one (.h 3))], [], [], [], []⟩)] .nil .nil)))))))) .nil)))))) .nil)))
def env_s_l14Change : Env := envOf ti [k_s_l1Num, k_s_l14Told] []
theorem eok_s_l14Change : EnvOk Tryd.prog env_s_l14Change := envOf_ok tab mix _ _ (by
  intro k hk
  simp only [List.mem_cons, List.not_mem_nil, or_false] at hk
  rcases hk with rfl | rfl
  · exact s_s_l1Num
  · exact s_s_l14Told)
theorem v_s_l14Change (x0 : List (Int × (Int × List UInt8))) : (vfun env_s_l14Change Tryd.f19 J_s_l14Change ann_s_l14Change [] [.one ⟨.sl false 42 (.pair (.int .i64) (.pair (.int .i64) .str)), x0⟩] []).run = (G.s_l14Change x0).bind fun y => some (Res.mk [.one ⟨.str, y⟩] [] []) := by kernel_rfl
def k_s_l14Change : Kn := ⟨19, [0], fun args rows => match args, rows with
  | [.one ⟨.sl false 42 (.pair (.int .i64) (.pair (.int .i64) .str)), x0⟩], [] => some ⟨_, G.s_l14Change x0, fun y => ⟨[.one ⟨.str, y⟩], [], []⟩⟩
  | _, _ => none, []⟩
theorem s_s_l14Change : KnOk Tryd.prog k_s_l14Change := by
  intro args rows a h y hy
  simp only [k_s_l14Change] at h
  split at h
  · injection h with h
    subst h
    exact vfun_ok eok_s_l14Change Tryd.func19 rfl (by rw [v_s_l14Change]; simp only at hy; rw [hy]; rfl)
  · cases h
def J_s_ChangeText : Joins := [(.r, ⟨[.str, .bool], [(2, .one (.h 0)), (3, .one (.h 1))], [], [], [], []⟩)]
def ann_s_ChangeText : Ann := .nil
def env_s_ChangeText : Env := envOf ti [k_s_GoodChange, k_s_l14Change] []
theorem eok_s_ChangeText : EnvOk Tryd.prog env_s_ChangeText := envOf_ok tab mix _ _ (by
  intro k hk
  simp only [List.mem_cons, List.not_mem_nil, or_false] at hk
  rcases hk with rfl | rfl
  · exact s_s_GoodChange
  · exact s_s_l14Change)
theorem v_s_ChangeText (x0 : List (Int × (Int × List UInt8))) : (vfun env_s_ChangeText Tryd.f7 J_s_ChangeText ann_s_ChangeText [] [.one ⟨.sl false 42 (.pair (.int .i64) (.pair (.int .i64) .str)), x0⟩] []).run = (G.s_ChangeText x0).bind fun y => some (Res.mk [.one ⟨.str, y.1⟩, .one ⟨.bool, y.2⟩] [] []) := by kernel_rfl
def k_s_ChangeText : Kn := ⟨7, [0], fun args rows => match args, rows with
  | [.one ⟨.sl false 42 (.pair (.int .i64) (.pair (.int .i64) .str)), x0⟩], [] => some ⟨_, G.s_ChangeText x0, fun y => ⟨[.one ⟨.str, y.1⟩, .one ⟨.bool, y.2⟩], [], []⟩⟩
  | _, _ => none, []⟩
theorem s_s_ChangeText : KnOk Tryd.prog k_s_ChangeText := by
  intro args rows a h y hy
  simp only [k_s_ChangeText] at h
  split at h
  · injection h with h
    subst h
    exact vfun_ok eok_s_ChangeText Tryd.func7 rfl (by rw [v_s_ChangeText]; simp only at hy; rw [hy]; rfl)
  · cases h
def J_i_Part_kind : Joins := [(.r, ⟨[.int .i64], [(2, .one (.h 0))], [], [], [], []⟩)]
def ann_i_Part_kind : Ann := .seq .nil (.seq (.block [] (.seq (.reg [(.n, ⟨[.bool, .int .i64, .int .i64, .str], [(1, .pl 1 0), (3, .one (.h 0))], [(1, [.h 1, .h 2, .h 3])], [], [], []⟩)]) (.cond [] .nil (.seq (.reg [(.n, ⟨[.bool, .int .i64, .int .i64, .str], [(1, .pl 1 0), (17, .one (.h 0))], [(1, [.h 1, .h 2, .h 3])], [], [], []⟩)]) (.cond [] .nil (.seq (.reg [(.n, ⟨[.bool], [(31, .one (.h 0))], [], [], [], []⟩)]) .nil)))))) .nil)
def env_i_Part_kind : Env := envOf ti [] []
theorem eok_i_Part_kind : EnvOk Tryd.prog env_i_Part_kind := envOf_ok tab mix _ _ (by
  intro k hk; cases hk)
theorem v_i_Part_kind (x0 : Int) (x1 : Int) (x2 : List UInt8) : (vfun env_i_Part_kind Tryd.f35 J_i_Part_kind ann_i_Part_kind [] [.ag [⟨.int .i64, x0⟩, ⟨.int .i64, x1⟩, ⟨.str, x2⟩]] []).run = (G.i_Part_kind x0 x1 x2).bind fun y => some (Res.mk [.one ⟨.int .i64, y⟩] [] []) := by kernel_rfl
def k_i_Part_kind : Kn := ⟨35, [0], fun args rows => match args, rows with
  | [.ag [⟨.int .i64, x0⟩, ⟨.int .i64, x1⟩, ⟨.str, x2⟩]], [] => some ⟨_, G.i_Part_kind x0 x1 x2, fun y => ⟨[.one ⟨.int .i64, y⟩], [], []⟩⟩
  | _, _ => none, []⟩
theorem s_i_Part_kind : KnOk Tryd.prog k_i_Part_kind := by
  intro args rows a h y hy
  simp only [k_i_Part_kind] at h
  split at h
  · injection h with h
    subst h
    exact vfun_ok eok_i_Part_kind Tryd.func35 rfl (by rw [v_i_Part_kind]; simp only at hy; rw [hy]; rfl)
  · cases h
end
end Go.Proofs.YtijemcbcchnnjaaDoor

set_option linter.unusedVariables false
set_option maxRecDepth 100000
namespace Go.Proofs.YtijemcbcchnnjaaDoor
open Go.V
noncomputable section
def J_i_lengths : Joins := [(.r, ⟨[.int .i64, .int .i64, .bool], [(2, .one (.h 0)), (3, .one (.h 1)), (4, .one (.h 2))], [], [], [], []⟩)]
def ann_i_lengths : Ann := .seq .nil (.seq .nil (.seq (.seq .nil (.block [] (.loop ⟨[.int .i64, .int .i64, .sl false 42 (.pair (.int .i64) (.pair (.int .i64) .str)), .int .i64, .int .i64], [(5, .one (.h 0)), (6, .one (.h 1)), (9, .one (.h 2)), (10, .one (.h 3)), (11, .one (.h 4))], [], [], [], []⟩ [(.x 0, ⟨[.int .i64, .int .i64], [(5, .one (.h 0)), (6, .one (.h 1))], [], [], [], []⟩), (.r, ⟨[.int .i64, .int .i64, .bool], [(2, .one (.h 0)), (3, .one (.h 1)), (4, .one (.h 2))], [], [], [], []⟩)] (.seq .nil (.seq .nil (.seq (.block [] (.seq .nil (.seq (.seq (.reg [(.n, ⟨[.int .i64, .int .i64, .sl false 42 (.pair (.int .i64) (.pair (.int .i64) .str)), .int .i64, .int .i64, .bool, .int .i64, .int .i64, .str], [(5, .one (.h 0)), (6, .one (.h 1)), (8, .pl 8 0), (9, .one (.h 2)), (10, .one (.h 3)), (11, .one (.h 4)), (22, .one (.h 5))], [(8, [.h 6, .h 7, .h 8])], [], [], []⟩)]) .nil) (.seq .nil (.seq .nil (.seq (.reg [(.n, ⟨[.int .i64, .int .i64, .sl false 42 (.pair (.int .i64) (.pair (.int .i64) .str)), .int .i64, .int .i64, .bool], [(5, .one (.h 0)), (6, .one (.h 1)), (9, .one (.h 2)), (10, .one (.h 3)), (11, .one (.h 4)), (43, .one (.h 5))], [], [], [], []⟩)]) .nil)))))) .nil)))))) .nil))
def env_i_lengths : Env := envOf ti [] []
theorem eok_i_lengths : EnvOk Tryd.prog env_i_lengths := envOf_ok tab mix _ _ (by
  intro k hk; cases hk)
theorem v_i_lengths (x0 : List (Int × (Int × List UInt8))) : (vfun env_i_lengths Tryd.f36 J_i_lengths ann_i_lengths [] [.one ⟨.sl false 42 (.pair (.int .i64) (.pair (.int .i64) .str)), x0⟩] []).run = (G.i_lengths x0).bind fun y => some (Res.mk [.one ⟨.int .i64, y.1⟩, .one ⟨.int .i64, y.2.1⟩, .one ⟨.bool, y.2.2⟩] [] []) := by kernel_rfl
def k_i_lengths : Kn := ⟨36, [0], fun args rows => match args, rows with
  | [.one ⟨.sl false 42 (.pair (.int .i64) (.pair (.int .i64) .str)), x0⟩], [] => some ⟨_, G.i_lengths x0, fun y => ⟨[.one ⟨.int .i64, y.1⟩, .one ⟨.int .i64, y.2.1⟩, .one ⟨.bool, y.2.2⟩], [], []⟩⟩
  | _, _ => none, []⟩
theorem s_i_lengths : KnOk Tryd.prog k_i_lengths := by
  intro args rows a h y hy
  simp only [k_i_lengths] at h
  split at h
  · injection h with h
    subst h
    exact vfun_ok eok_i_lengths Tryd.func36 rfl (by rw [v_i_lengths]; simp only at hy; rw [hy]; rfl)
  · cases h
def J_i_GoodChange : Joins := [(.r, ⟨[.bool], [(2, .one (.h 0))], [], [], [], []⟩)]
def ann_i_GoodChange : Ann := .seq .nil (.seq (.seq .nil (.block [] (.loop ⟨[.sl false 42 (.pair (.int .i64) (.pair (.int .i64) .str)), .sl false 42 (.pair (.int .i64) (.pair (.int .i64) .str)), .int .i64, .int .i64], [(0, .one (.h 0)), (9, .one (.h 1)), (10, .one (.h 2)), (11, .one (.h 3))], [], [], [], []⟩ [(.x 0, ⟨[.sl false 42 (.pair (.int .i64) (.pair (.int .i64) .str))], [(0, .one (.h 0))], [], [], [], []⟩), (.r, ⟨[.bool], [(2, .one (.h 0))], [], [], [], []⟩)] (.seq .nil (.seq .nil (.seq (.block [] (.seq .nil (.seq .nil (.seq (.reg [(.n, ⟨[.sl false 42 (.pair (.int .i64) (.pair (.int .i64) .str)), .sl false 42 (.pair (.int .i64) (.pair (.int .i64) .str)), .int .i64, .int .i64, .bool], [(0, .one (.h 0)), (9, .one (.h 1)), (10, .one (.h 2)), (11, .one (.h 3)), (33, .one (.h 4))], [], [], [], []⟩)]) .nil)))) .nil)))))) .nil)
def env_i_GoodChange : Env := envOf ti [k_i_Part_kind, k_i_lengths] []
theorem eok_i_GoodChange : EnvOk Tryd.prog env_i_GoodChange := envOf_ok tab mix _ _ (by
  intro k hk
  simp only [List.mem_cons, List.not_mem_nil, or_false] at hk
  rcases hk with rfl | rfl
  · exact s_i_Part_kind
  · exact s_i_lengths)
theorem v_i_GoodChange (x0 : List (Int × (Int × List UInt8))) : (vfun env_i_GoodChange Tryd.f21 J_i_GoodChange ann_i_GoodChange [] [.one ⟨.sl false 42 (.pair (.int .i64) (.pair (.int .i64) .str)), x0⟩] []).run = (G.i_GoodChange x0).bind fun y => some (Res.mk [.one ⟨.bool, y⟩] [] []) := by kernel_rfl
def k_i_GoodChange : Kn := ⟨21, [0], fun args rows => match args, rows with
  | [.one ⟨.sl false 42 (.pair (.int .i64) (.pair (.int .i64) .str)), x0⟩], [] => some ⟨_, G.i_GoodChange x0, fun y => ⟨[.one ⟨.bool, y⟩], [], []⟩⟩
  | _, _ => none, []⟩
theorem s_i_GoodChange : KnOk Tryd.prog k_i_GoodChange := by
  intro args rows a h y hy
  simp only [k_i_GoodChange] at h
  split at h
  · injection h with h
    subst h
    exact vfun_ok eok_i_GoodChange Tryd.func21 rfl (by rw [v_i_GoodChange]; simp only at hy; rw [hy]; rfl)
  · cases h
def itoaL_ren : Go.Shelf.Ren := ⟨fun x => match x with | 129 => 95 | 171 => 37 | 243 => 50 | 246 => 65 | 283 => 81 | 284 => 82 | 285 => 83 | 286 => 84 | 317 => 94 | 318 => 96 | 319 => 97 | 320 => 98 | 337 => 101 | 338 => 102 | n => n, fun x => match x with | 0 => 0 | 171 => 98 | 173 => 101 | 2 => 2 | 20 => 20 | 212 => 110 | 213 => 112 | 232 => 124 | 233 => 125 | 3 => 3 | 37 => 34 | 4 => 4 | 46 => 75 | 5 => 5 | 51 => 111 | 53 => 65 | 9 => 9 | n => n, fun x => match x with | 17 => 3 | 18 => 6 | 19 => 7 | n => n⟩
theorem itoaL : Go.Proofs.LaysM.n171 Tryd.prog itoaL_ren where
  mixed := by kernel_rfl
  f129 := Tryd.func95.trans (congrArg some (by kernel_rfl))
  f171 := Tryd.func37.trans (congrArg some (by kernel_rfl))
  f243 := Tryd.func50.trans (congrArg some (by kernel_rfl))
  f246 := Tryd.func65.trans (congrArg some (by kernel_rfl))
  f283 := Tryd.func81.trans (congrArg some (by kernel_rfl))
  f284 := Tryd.func82.trans (congrArg some (by kernel_rfl))
  f285 := Tryd.func83.trans (congrArg some (by kernel_rfl))
  f286 := Tryd.func84.trans (congrArg some (by kernel_rfl))
  f317 := Tryd.func94.trans (congrArg some (by kernel_rfl))
  f318 := Tryd.func96.trans (congrArg some (by kernel_rfl))
  f319 := Tryd.func97.trans (congrArg some (by kernel_rfl))
  f320 := Tryd.func98.trans (congrArg some (by kernel_rfl))
  f337 := Tryd.func101.trans (congrArg some (by kernel_rfl))
  f338 := Tryd.func102.trans (congrArg some (by kernel_rfl))
  t0 := Tryd.underlying0
  a0 := Tryd.isAgg0
  z0 := Tryd.sizeOf0
  v0 := Tryd.zeroValue0
  t2 := Tryd.underlying2
  a2 := Tryd.isAgg2
  z2 := Tryd.sizeOf2
  v2 := Tryd.zeroValue2
  t3 := Tryd.underlying3
  a3 := Tryd.isAgg3
  z3 := Tryd.sizeOf3
  v3 := Tryd.zeroValue3
  t4 := Tryd.underlying4
  a4 := Tryd.isAgg4
  z4 := Tryd.sizeOf4
  v4 := Tryd.zeroValue4
  t5 := Tryd.underlying5
  a5 := Tryd.isAgg5
  z5 := Tryd.sizeOf5
  v5 := Tryd.zeroValue5
  t9 := Tryd.underlying9
  a9 := Tryd.isAgg9
  z9 := Tryd.sizeOf9
  v9 := Tryd.zeroValue9
  t20 := Tryd.underlying20
  a20 := Tryd.isAgg20
  z20 := Tryd.sizeOf20
  v20 := Tryd.zeroValue20
  t37 := Tryd.underlying34
  a37 := Tryd.isAgg34
  z37 := Tryd.sizeOf34
  v37 := Tryd.zeroValue34
  t46 := Tryd.underlying75
  a46 := Tryd.isAgg75
  z46 := Tryd.sizeOf75
  v46 := Tryd.zeroValue75
  t51 := Tryd.underlying111
  a51 := Tryd.isAgg111
  z51 := Tryd.sizeOf111
  v51 := Tryd.zeroValue111
  t53 := Tryd.underlying65
  a53 := Tryd.isAgg65
  z53 := Tryd.sizeOf65
  v53 := Tryd.zeroValue65
  t171 := Tryd.underlying98
  a171 := Tryd.isAgg98
  z171 := Tryd.sizeOf98
  v171 := Tryd.zeroValue98
  t173 := Tryd.underlying101
  a173 := Tryd.isAgg101
  z173 := Tryd.sizeOf101
  v173 := Tryd.zeroValue101
  t212 := Tryd.underlying110
  a212 := Tryd.isAgg110
  z212 := Tryd.sizeOf110
  v212 := Tryd.zeroValue110
  t213 := Tryd.underlying112
  a213 := Tryd.isAgg112
  z213 := Tryd.sizeOf112
  t232 := Tryd.underlying124
  a232 := Tryd.isAgg124
  z232 := Tryd.sizeOf124
  v232 := Tryd.zeroValue124
  t233 := Tryd.underlying125
  a233 := Tryd.isAgg125
  z233 := Tryd.sizeOf125
  v233 := Tryd.zeroValue125
  g17 := by kernel_rfl
  g18 := by kernel_rfl
  g19 := by kernel_rfl
  i0 := by kernel_rfl
  i2 := by kernel_rfl
  i3 := by kernel_rfl
  i4 := by kernel_rfl
  i5 := by kernel_rfl
  i9 := by kernel_rfl
  i20 := by kernel_rfl
  i37 := by kernel_rfl
  i46 := by kernel_rfl
  i51 := by kernel_rfl
  i53 := by kernel_rfl
  i171 := by kernel_rfl
  i173 := by kernel_rfl
  i212 := by kernel_rfl
  i232 := by kernel_rfl
  i233 := by kernel_rfl
  m17 := by kernel_rfl
  m18 := by kernel_rfl
  m19 := by kernel_rfl
theorem decF_eq (u : Nat) : G.decF u = Lib.decDigits u := by
  induction u using Nat.strongRecOn with
  | ind u ih =>
    rw [G.decF, Lib.decDigits]
    split
    · rfl
    · rw [ih (u / 10) (by omega)]
theorem itoaF_eq (n : Int) : G.itoaF n = Lib.itoa n := by
  unfold G.itoaF Lib.itoa
  rw [decF_eq, decF_eq]
theorem pow_named : Tryd.prog.globalNamed "internal/strconv.uint64pow10" = some 3 := by kernel_rfl
theorem tab_of (w : World) (h : GlF w) : Lib.TabIs Tryd.prog w "internal/strconv.uint64pow10" .u64 Lib.pow10Tab := by
  unfold Lib.TabIs World.var?
  rw [pow_named]
  exact h
def k_strconv_Itoa : Kn := ⟨37, [0], fun args rows => match args, rows with
  | [.one ⟨.int .i64, x0⟩], [] => some ⟨_, G.strconv_Itoa x0, fun y => ⟨[.one ⟨.str, y⟩], [], []⟩⟩
  | _, _ => none, []⟩
theorem s_strconv_Itoa : KnOk Tryd.prog k_strconv_Itoa := by
  intro args rows a h y hy
  simp only [k_strconv_Itoa] at h
  split at h
  · injection h with h
    subst h
    simp only [G.strconv_Itoa] at hy
    split at hy
    · rename_i hc
      injection hy with hy
      subst hy
      rw [itoaF_eq]
      exact itoa_sound itoaL tab_of _ hc.1 hc.2
    · cases hy
  · cases h
def J_i_isPlain : Joins := [(.r, ⟨[.bool], [(2, .one (.h 0))], [], [], [], []⟩)]
def ann_i_isPlain : Ann := .seq .nil (.seq (.reg [(.n, ⟨[.bool], [(2, .one (.h 0))], [], [], [], []⟩)]) .nil)
def env_i_isPlain : Env := envOf ti [] []
theorem eok_i_isPlain : EnvOk Tryd.prog env_i_isPlain := envOf_ok tab mix _ _ (by
  intro k hk; cases hk)
theorem v_i_isPlain (x0 : Int) : (vfun env_i_isPlain Tryd.f51 J_i_isPlain ann_i_isPlain [] [.one ⟨.int .u8, x0⟩] []).run = (G.i_isPlain x0).bind fun y => some (Res.mk [.one ⟨.bool, y⟩] [] []) := by kernel_rfl
def k_i_isPlain : Kn := ⟨51, [0], fun args rows => match args, rows with
  | [.one ⟨.int .u8, x0⟩], [] => some ⟨_, G.i_isPlain x0, fun y => ⟨[.one ⟨.bool, y⟩], [], []⟩⟩
  | _, _ => none, []⟩
theorem s_i_isPlain : KnOk Tryd.prog k_i_isPlain := by
  intro args rows a h y hy
  simp only [k_i_isPlain] at h
  split at h
  · injection h with h
    subst h
    exact vfun_ok eok_i_isPlain Tryd.func51 rfl (by rw [v_i_isPlain]; simp only at hy; rw [hy]; rfl)
  · cases h
def J_i_coded : Joins := [(.r, ⟨[.str], [(2, .one (.h 0))], [], [], [], []⟩)]
def ann_i_coded : Ann := .seq .nil (.seq .nil (.seq (.seq .nil (.block [] (.loop ⟨[.str, .str, .int .i64, .int .i64], [(0, .one (.h 0)), (3, .one (.h 1)), (7, .one (.h 2)), (8, .one (.h 3))], [], [], [], []⟩ [(.x 0, ⟨[.str], [(3, .one (.h 0))], [], [], [], []⟩)] (.seq .nil (.seq .nil (.seq (.block [] (.seq .nil (.seq .nil (.seq .nil (.cond [(.n, ⟨[.str, .str, .int .i64, .int .i64], [(0, .one (.h 0)), (3, .one (.h 1)), (7, .one (.h 2)), (8, .one (.h 3))], [], [], [], []⟩)] .nil .nil))))) .nil)))))) .nil))
def env_i_coded : Env := envOf ti [k_i_isPlain] []
theorem eok_i_coded : EnvOk Tryd.prog env_i_coded := envOf_ok tab mix _ _ (by
  intro k hk
  simp only [List.mem_cons, List.not_mem_nil, or_false] at hk
  rcases hk with rfl
  · exact s_i_isPlain)
theorem v_i_coded (x0 : List UInt8) : (vfun env_i_coded Tryd.f38 J_i_coded ann_i_coded [] [.one ⟨.str, x0⟩] []).run = (G.i_coded x0).bind fun y => some (Res.mk [.one ⟨.str, y⟩] [] []) := by kernel_rfl
def k_i_coded : Kn := ⟨38, [0], fun args rows => match args, rows with
  | [.one ⟨.str, x0⟩], [] => some ⟨_, G.i_coded x0, fun y => ⟨[.one ⟨.str, y⟩], [], []⟩⟩
  | _, _ => none, []⟩
theorem s_i_coded : KnOk Tryd.prog k_i_coded := by
  intro args rows a h y hy
  simp only [k_i_coded] at h
  split at h
  · injection h with h
    subst h
    exact vfun_ok eok_i_coded Tryd.func38 rfl (by rw [v_i_coded]; simp only at hy; rw [hy]; rfl)
  · cases h
def joinL_ren : Go.Shelf.Ren := ⟨fun x => match x with | 156 => 39 | 165 => 52 | 166 => 53 | 169 => 54 | 240 => 66 | 241 => 67 | 276 => 85 | 277 => 86 | n => n, fun x => match x with | 0 => 0 | 127 => 86 | 164 => 103 | 20 => 20 | 3 => 3 | 31 => 45 | 37 => 34 | 4 => 4 | 5 => 5 | 70 => 76 | 72 => 78 | 75 => 62 | 76 => 63 | 80 => 80 | 9 => 9 | n => n, fun n => n⟩
theorem joinL : Go.Proofs.Lays.n156 Tryd.prog joinL_ren where
  mixed := by kernel_rfl
  f156 := Tryd.func39.trans (congrArg some (by kernel_rfl))
  f165 := Tryd.func52.trans (congrArg some (by kernel_rfl))
  f166 := Tryd.func53.trans (congrArg some (by kernel_rfl))
  f169 := Tryd.func54.trans (congrArg some (by kernel_rfl))
  f240 := Tryd.func66.trans (congrArg some (by kernel_rfl))
  f241 := Tryd.func67.trans (congrArg some (by kernel_rfl))
  f276 := Tryd.func85.trans (congrArg some (by kernel_rfl))
  f277 := Tryd.func86.trans (congrArg some (by kernel_rfl))
  t0 := Tryd.underlying0
  a0 := Tryd.isAgg0
  z0 := Tryd.sizeOf0
  v0 := Tryd.zeroValue0
  t3 := Tryd.underlying3
  a3 := Tryd.isAgg3
  z3 := Tryd.sizeOf3
  v3 := Tryd.zeroValue3
  t4 := Tryd.underlying4
  a4 := Tryd.isAgg4
  z4 := Tryd.sizeOf4
  v4 := Tryd.zeroValue4
  t9 := Tryd.underlying9
  a9 := Tryd.isAgg9
  z9 := Tryd.sizeOf9
  v9 := Tryd.zeroValue9
  t20 := Tryd.underlying20
  a20 := Tryd.isAgg20
  z20 := Tryd.sizeOf20
  v20 := Tryd.zeroValue20
  t31 := Tryd.underlying45
  a31 := Tryd.isAgg45
  z31 := Tryd.sizeOf45
  v31 := Tryd.zeroValue45
  t37 := Tryd.underlying34
  a37 := Tryd.isAgg34
  z37 := Tryd.sizeOf34
  v37 := Tryd.zeroValue34
  t70 := Tryd.underlying76
  a70 := Tryd.isAgg76
  z70 := Tryd.sizeOf76
  v70 := Tryd.zeroValue76
  t72 := Tryd.underlying78
  a72 := Tryd.isAgg78
  z72 := Tryd.sizeOf78
  v72 := Tryd.zeroValue78
  t75 := Tryd.underlying62
  a75 := Tryd.isAgg62
  z75 := Tryd.sizeOf62
  v75 := Tryd.zeroValue62
  t76 := Tryd.underlying63
  a76 := Tryd.isAgg63
  z76 := Tryd.sizeOf63
  v76 := Tryd.zeroValue63
  t127 := Tryd.underlying86
  a127 := Tryd.isAgg86
  z127 := Tryd.sizeOf86
  v127 := Tryd.zeroValue86
  t164 := Tryd.underlying103
  a164 := Tryd.isAgg103
  z164 := Tryd.sizeOf103
  v164 := Tryd.zeroValue103
theorem joinX : Go.Proofs.Builder.Extra Tryd.prog joinL_ren where
  sizeBuilder := by kernel_rfl
  liesBuilder := by kernel_rfl
  t5 := Tryd.underlying5
  a5 := Tryd.isAgg5
  z5 := Tryd.sizeOf5
  v5 := Tryd.zeroValue5
  infoByte := by kernel_rfl
  cellsByte := by kernel_rfl
  sizeByte := by kernel_rfl
  neB5 := by decide
def k_strings_Join : Kn := ⟨39, [1, 0], fun args rows => match args, rows with
  | [.one ⟨.sl true 9 .str, x0⟩, .one ⟨.str, x1⟩], [] => some ⟨_, G.strings_Join x0 x1, fun y => ⟨[.one ⟨.str, y⟩], [], []⟩⟩
  | _, _ => none, []⟩
theorem s_strings_Join : KnOk Tryd.prog k_strings_Join := by
  intro args rows a h y hy
  simp only [k_strings_Join] at h
  split at h
  · injection h with h
    subst h
    simp only [G.strings_Join] at hy
    split at hy
    · rename_i hc
      injection hy with hy
      subst hy
      exact join_sound joinL joinX _ _ _ hc.1 hc.2
    · cases hy
  · cases h
def J_i_changeText : Joins := [(.r, ⟨[.str], [(2, .one (.h 0))], [], [], [], []⟩)]
def ann_i_changeText : Ann := .seq .nil (.seq .nil (.seq (.seq .nil (.block [] (.loop ⟨[.sl true 9 .str, .sl false 42 (.pair (.int .i64) (.pair (.int .i64) .str)), .int .i64, .int .i64], [(3, .one (.vw 149504)), (7, .one (.h 1)), (8, .one (.h 2)), (9, .one (.h 3))], [], [(149504, 0)], [], []⟩ [(.x 0, ⟨[.sl true 9 .str], [(3, .one (.vw 149570))], [], [(149570, 0)], [], []⟩)] (.seq .nil (.seq .nil (.seq (.block [] (.seq .nil (.seq .nil (.block [] (.seq .nil (.cond [(.n, ⟨[.sl true 9 .str, .sl false 42 (.pair (.int .i64) (.pair (.int .i64) .str)), .int .i64, .int .i64], [(3, .one (.vw 149569)), (7, .one (.h 1)), (8, .one (.h 2)), (9, .one (.h 3))], [], [(149569, 0)], [], []⟩)] .nil (.seq .nil (.cond [(.n, ⟨[.sl true 9 .str, .sl false 42 (.pair (.int .i64) (.pair (.int .i64) .str)), .int .i64, .int .i64], [(3, .one (.vw 149568)), (7, .one (.h 1)), (8, .one (.h 2)), (9, .one (.h 3))], [], [(149568, 0)], [], []⟩)] .nil .nil)))))))) .nil)))))) .nil))
def env_i_changeText : Env := envOf ti [k_i_Part_kind, k_strconv_Itoa, k_i_coded, k_strings_Join] []
theorem eok_i_changeText : EnvOk Tryd.prog env_i_changeText := envOf_ok tab mix _ _ (by
  intro k hk
  simp only [List.mem_cons, List.not_mem_nil, or_false] at hk
  rcases hk with rfl | rfl | rfl | rfl
  · exact s_i_Part_kind
  · exact s_strconv_Itoa
  · exact s_i_coded
  · exact s_strings_Join)
theorem v_i_changeText (x0 : List (Int × (Int × List UInt8))) : (vfun env_i_changeText Tryd.f22 J_i_changeText ann_i_changeText [] [.one ⟨.sl false 42 (.pair (.int .i64) (.pair (.int .i64) .str)), x0⟩] []).run = (G.i_changeText x0).bind fun y => some (Res.mk [.one ⟨.str, y⟩] [] []) := by kernel_rfl
def k_i_changeText : Kn := ⟨22, [0], fun args rows => match args, rows with
  | [.one ⟨.sl false 42 (.pair (.int .i64) (.pair (.int .i64) .str)), x0⟩], [] => some ⟨_, G.i_changeText x0, fun y => ⟨[.one ⟨.str, y⟩], [], []⟩⟩
  | _, _ => none, []⟩
theorem s_i_changeText : KnOk Tryd.prog k_i_changeText := by
  intro args rows a h y hy
  simp only [k_i_changeText] at h
  split at h
  · injection h with h
    subst h
    exact vfun_ok eok_i_changeText Tryd.func22 rfl (by rw [v_i_changeText]; simp only at hy; rw [hy]; rfl)
  · cases h
def J_i_ChangeText : Joins := [(.r, ⟨[.str, .bool], [(2, .one (.h 0)), (3, .one (.h 1))], [], [], [], []⟩)]
def ann_i_ChangeText : Ann := .nil
def env_i_ChangeText : Env := envOf ti [k_i_GoodChange, k_i_changeText] []
theorem eok_i_ChangeText : EnvOk Tryd.prog env_i_ChangeText := envOf_ok tab mix _ _ (by
  intro k hk
  simp only [List.mem_cons, List.not_mem_nil, or_false] at hk
  rcases hk with rfl | rfl
  · exact s_i_GoodChange
  · exact s_i_changeText)
theorem v_i_ChangeText (x0 : List (Int × (Int × List UInt8))) : (vfun env_i_ChangeText Tryd.f9 J_i_ChangeText ann_i_ChangeText [] [.one ⟨.sl false 42 (.pair (.int .i64) (.pair (.int .i64) .str)), x0⟩] []).run = (G.i_ChangeText x0).bind fun y => some (Res.mk [.one ⟨.str, y.1⟩, .one ⟨.bool, y.2⟩] [] []) := by kernel_rfl
def k_i_ChangeText : Kn := ⟨9, [0], fun args rows => match args, rows with
  | [.one ⟨.sl false 42 (.pair (.int .i64) (.pair (.int .i64) .str)), x0⟩], [] => some ⟨_, G.i_ChangeText x0, fun y => ⟨[.one ⟨.str, y.1⟩, .one ⟨.bool, y.2⟩], [], []⟩⟩
  | _, _ => none, []⟩
theorem s_i_ChangeText : KnOk Tryd.prog k_i_ChangeText := by
  intro args rows a h y hy
  simp only [k_i_ChangeText] at h
  split at h
  · injection h with h
    subst h
    exact vfun_ok eok_i_ChangeText Tryd.func9 rfl (by rw [v_i_ChangeText]; simp only at hy; rw [hy]; rfl)
  · cases h
def J_l_eqPart : Joins := [(.r, ⟨[.bool], [(4, .one (.h 0))], [], [], [], []⟩)]
def ann_l_eqPart : Ann := .nil
def env_l_eqPart : Env := envOf ti [] []
theorem eok_l_eqPart : EnvOk Tryd.prog env_l_eqPart := envOf_ok tab mix _ _ (by
  intro k hk; cases hk)
theorem v_l_eqPart (x0 : Int) (x1 : Int) (x2 : List UInt8) (x3 : Int) (x4 : Int) (x5 : List UInt8) : (vfun env_l_eqPart Tryd.f23 J_l_eqPart ann_l_eqPart [] [.ag [⟨.int .i64, x0⟩, ⟨.int .i64, x1⟩, ⟨.str, x2⟩], .ag [⟨.int .i64, x3⟩, ⟨.int .i64, x4⟩, ⟨.str, x5⟩]] []).run = (G.l_eqPart x0 x1 x2 x3 x4 x5).bind fun y => some (Res.mk [.one ⟨.bool, y⟩] [] []) := by kernel_rfl
def k_l_eqPart : Kn := ⟨23, [0, 0], fun args rows => match args, rows with
  | [.ag [⟨.int .i64, x0⟩, ⟨.int .i64, x1⟩, ⟨.str, x2⟩], .ag [⟨.int .i64, x3⟩, ⟨.int .i64, x4⟩, ⟨.str, x5⟩]], [] => some ⟨_, G.l_eqPart x0 x1 x2 x3 x4 x5, fun y => ⟨[.one ⟨.bool, y⟩], [], []⟩⟩
  | _, _ => none, []⟩
theorem s_l_eqPart : KnOk Tryd.prog k_l_eqPart := by
  intro args rows a h y hy
  simp only [k_l_eqPart] at h
  split at h
  · injection h with h
    subst h
    exact vfun_ok eok_l_eqPart Tryd.func23 rfl (by rw [v_l_eqPart]; simp only at hy; rw [hy]; rfl)
  · cases h
def J_l_eqPartS : Joins := [(.r, ⟨[.bool], [(4, .one (.h 0))], [], [], [], []⟩)]
def ann_l_eqPartS : Ann := .seq .nil (.seq .nil (.seq (.seq .nil (.block [] (.loop ⟨[.sl false 42 (.pair (.int .i64) (.pair (.int .i64) .str)), .sl false 42 (.pair (.int .i64) (.pair (.int .i64) .str)), .int .i64], [(0, .one (.h 0)), (1, .one (.h 1)), (5, .one (.h 2))], [], [], [], []⟩ [(.x 0, ⟨[], [], [], [], [], []⟩), (.r, ⟨[.bool], [(4, .one (.h 0))], [], [], [], []⟩)] .nil))) .nil))
def env_l_eqPartS : Env := envOf ti [k_l_eqPart] []
theorem eok_l_eqPartS : EnvOk Tryd.prog env_l_eqPartS := envOf_ok tab mix _ _ (by
  intro k hk
  simp only [List.mem_cons, List.not_mem_nil, or_false] at hk
  rcases hk with rfl
  · exact s_l_eqPart)
theorem v_l_eqPartS (x0 : List (Int × (Int × List UInt8))) (x1 : List (Int × (Int × List UInt8))) : (vfun env_l_eqPartS Tryd.f10 J_l_eqPartS ann_l_eqPartS [] [.one ⟨.sl false 42 (.pair (.int .i64) (.pair (.int .i64) .str)), x0⟩, .one ⟨.sl false 42 (.pair (.int .i64) (.pair (.int .i64) .str)), x1⟩] []).run = (G.l_eqPartS x0 x1).bind fun y => some (Res.mk [.one ⟨.bool, y⟩] [] []) := by kernel_rfl
def k_l_eqPartS : Kn := ⟨10, [0, 0], fun args rows => match args, rows with
  | [.one ⟨.sl false 42 (.pair (.int .i64) (.pair (.int .i64) .str)), x0⟩, .one ⟨.sl false 42 (.pair (.int .i64) (.pair (.int .i64) .str)), x1⟩], [] => some ⟨_, G.l_eqPartS x0 x1, fun y => ⟨[.one ⟨.bool, y⟩], [], []⟩⟩
  | _, _ => none, []⟩
theorem s_l_eqPartS : KnOk Tryd.prog k_l_eqPartS := by
  intro args rows a h y hy
  simp only [k_l_eqPartS] at h
  split at h
  · injection h with h
    subst h
    exact vfun_ok eok_l_eqPartS Tryd.func10 rfl (by rw [v_l_eqPartS]; simp only at hy; rw [hy]; rfl)
  · cases h
def J_l_FnExactChangeText : Joins := [(.r, ⟨[.bool], [(2, .one (.h 0))], [], [], [], []⟩)]
def ann_l_FnExactChangeText : Ann := .seq .nil (.seq .nil (.seq .nil (.seq .nil (.seq .nil (.seq .nil (.seq .nil (.seq (.seq (.reg [(.n, ⟨[.sl false 39 (.pair (.int .i64) (.pair (.int .i64) .str)), .sl true 42 (.pair (.int .i64) (.pair (.int .i64) .str)), .bool], [(0, .one (.h 0)), (6, .one (.vw 143360)), (34, .one (.h 2))], [], [(143360, 1)], [], []⟩)]) .nil) .nil)))))))
def env_l_FnExactChangeText : Env := envOf ti [k_l_szPartS, k_l_toPartS, k_s_ChangeText, k_i_ChangeText, k_l_eqPartS] []
theorem eok_l_FnExactChangeText : EnvOk Tryd.prog env_l_FnExactChangeText := envOf_ok tab mix _ _ (by
  intro k hk
  simp only [List.mem_cons, List.not_mem_nil, or_false] at hk
  rcases hk with rfl | rfl | rfl | rfl | rfl
  · exact s_l_szPartS
  · exact s_l_toPartS
  · exact s_s_ChangeText
  · exact s_i_ChangeText
  · exact s_l_eqPartS)
theorem v_l_FnExactChangeText (x0 : List (Int × (Int × List UInt8))) : (vfun env_l_FnExactChangeText Tryd.f3 J_l_FnExactChangeText ann_l_FnExactChangeText [] [.one ⟨.sl false 39 (.pair (.int .i64) (.pair (.int .i64) .str)), x0⟩] []).run = (G.l_FnExactChangeText x0).bind fun y => some (Res.mk [.one ⟨.bool, y⟩] [] []) := by kernel_rfl
def k_l_FnExactChangeText : Kn := ⟨3, [0], fun args rows => match args, rows with
  | [.one ⟨.sl false 39 (.pair (.int .i64) (.pair (.int .i64) .str)), x0⟩], [] => some ⟨_, G.l_FnExactChangeText x0, fun y => ⟨[.one ⟨.bool, y⟩], [], []⟩⟩
  | _, _ => none, []⟩
theorem s_l_FnExactChangeText : KnOk Tryd.prog k_l_FnExactChangeText := by
  intro args rows a h y hy
  simp only [k_l_FnExactChangeText] at h
  split at h
  · injection h with h
    subst h
    exact vfun_ok eok_l_FnExactChangeText Tryd.func3 rfl (by rw [v_l_FnExactChangeText]; simp only at hy; rw [hy]; rfl)
  · cases h
end
end Go.Proofs.YtijemcbcchnnjaaDoor
