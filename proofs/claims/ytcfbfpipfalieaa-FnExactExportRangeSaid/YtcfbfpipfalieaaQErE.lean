import Derived.Test.YtcfbfpipfalieaaQErD
import Derived.Test.YtcfbfpipfalieaaProg
import Derived.KernelRfl
import Derived.Test.YtcfbfpipfalieaaRows
import Derived.WalkKit
import Derived.ProofKit
import Derived.OpenShut
import Derived.ShutString
import Derived.ChangeOld
import Derived.Below
set_option linter.unusedVariables false
set_option maxRecDepth 100000
namespace Go.Proofs.Ytcfbfpipfalieaa
open Go.V
def tiL : List TI := [
  .other,
  .other,
  .cell (.int .i64),
  .cell (.int .i64),
  .cell .bool,
  .cell (.int .u8),
  .cell (.int .u8),
  .other,
  .other,
  .cell .str,
  .cell .str,
  .cell .str,
  .cell (.int .u64),
  .other,
  .other,
  .ptr 247,
  .ptr 250,
  .ptr 258,
  .other,
  .other,
  .other,
  .cell (.int .i32),
  .slice 196 [(.int .i64), (.sl true 5 (.int .u8)), .bool, (.int .i64), (.int .i64)] 56,
  .struct [(0, 1, false), (1, 1, false), (2, 1, false)] [(.int .i64), (.int .i64), (.sl true 196 (.pair (.int .i64) (.pair (.sl true 5 (.int .u8)) (.pair .bool (.pair (.int .i64) (.int .i64))))))] false,
  .struct [(0, 1, false), (1, 1, false), (2, 1, false)] [(.int .i64), (.int .i64), (.sl true 196 (.pair (.int .i64) (.pair (.sl true 5 (.int .u8)) (.pair .bool (.pair (.int .i64) (.int .i64))))))] false,
  .slice 43 [(.sl true 5 (.int .u8))] 24,
  .struct [(0, 1, false), (1, 1, false), (2, 1, false), (3, 1, false)] [(.sl true 43 (.sl true 5 (.int .u8))), (.int .i64), .bool, (.int .i64)] false,
  .struct [(0, 1, false), (1, 1, false), (2, 1, false), (3, 1, false)] [(.sl true 43 (.sl true 5 (.int .u8))), (.int .i64), .bool, (.int .i64)] false,
  .other,
  .other,
  .slice 120 [(.int .i64), (.sl true 5 (.int .u8)), .bool, (.int .i64), (.int .i64)] 56,
  .struct [(0, 1, false), (1, 1, false), (2, 1, false)] [(.int .i64), (.int .i64), (.sl true 120 (.pair (.int .i64) (.pair (.sl true 5 (.int .u8)) (.pair .bool (.pair (.int .i64) (.int .i64))))))] false,
  .struct [(0, 1, false), (1, 1, false), (2, 1, false)] [(.int .i64), (.int .i64), (.sl true 120 (.pair (.int .i64) (.pair (.sl true 5 (.int .u8)) (.pair .bool (.pair (.int .i64) (.int .i64))))))] false,
  .other,
  .other,
  .other,
  .struct [(0, 1, false), (1, 1, false), (2, 1, false), (3, 1, false)] [(.sl true 43 (.sl true 5 (.int .u8))), (.int .i64), .bool, (.int .i64)] false,
  .other,
  .other,
  .other,
  .other,
  .other,
  .other,
  .slice 5 [(.int .u8)] 1,
  .slice 144 [(.int .i64), (.int .i64)] 16,
  .slice 55 [(.int .i64), (.int .i64), .str] 32,
  .other,
  .other,
  .other,
  .other,
  .other,
  .other,
  .other,
  .other,
  .struct [(0, 1, false), (1, 1, false), (2, 1, false)] [(.int .i64), (.int .i64), .str] true,
  .struct [(0, 1, false), (1, 1, false), (2, 1, false)] [(.int .i64), (.int .i64), .str] true,
  .other,
  .other,
  .other,
  .other,
  .other,
  .slice 215 [(.int .i64), (.int .i64)] 16,
  .slice 213 [(.sl true 179 (.pair (.int .i64) (.pair (.int .i64) .str)))] 24,
  .struct [(0, 1, false), (1, 1, false), (2, 1, false), (3, 1, false)] [(.int .i64), .str, (.sl true 215 (.pair (.int .i64) (.int .i64))), (.sl true 213 (.sl true 179 (.pair (.int .i64) (.pair (.int .i64) .str))))] false,
  .struct [(0, 1, false), (1, 1, false), (2, 1, false), (3, 1, false)] [(.int .i64), .str, (.sl true 215 (.pair (.int .i64) (.int .i64))), (.sl true 213 (.sl true 179 (.pair (.int .i64) (.pair (.int .i64) .str))))] false,
  .other,
  .other,
  .other,
  .slice 93 [(.sl true 55 (.pair (.int .i64) (.pair (.int .i64) .str)))] 24,
  .struct [(0, 1, false), (1, 1, false), (2, 1, false), (3, 1, false)] [(.int .i64), .str, (.sl true 144 (.pair (.int .i64) (.int .i64))), (.sl true 93 (.sl true 55 (.pair (.int .i64) (.pair (.int .i64) .str))))] false,
  .struct [(0, 1, false), (1, 1, false), (2, 1, false), (3, 1, false)] [(.int .i64), .str, (.sl true 144 (.pair (.int .i64) (.int .i64))), (.sl true 93 (.sl true 55 (.pair (.int .i64) (.pair (.int .i64) .str))))] false,
  .other,
  .other,
  .other,
  .other,
  .other,
  .other,
  .other,
  .other,
  .other,
  .other,
  .other,
  .other,
  .other,
  .other,
  .other,
  .other,
  .other,
  .other,
  .other,
  .other,
  .other,
  .struct [(0, 1, false)] [(.sl true 55 (.pair (.int .i64) (.pair (.int .i64) .str)))] false,
  .struct [(0, 1, false)] [(.sl true 55 (.pair (.int .i64) (.pair (.int .i64) .str)))] false,
  .other,
  .other,
  .slice 179 [(.int .i64), (.int .i64), .str] 32,
  .other,
  .other,
  .other,
  .other,
  .other,
  .other,
  .other,
  .other,
  .other,
  .other,
  .other,
  .other,
  .other,
  .other,
  .other,
  .other,
  .cell (.int .u64),
  .other,
  .other,
  .other,
  .other,
  .other,
  .struct [(0, 1, false), (1, 1, false), (2, 1, false), (3, 1, false), (4, 1, false)] [(.int .i64), (.sl true 5 (.int .u8)), .bool, (.int .i64), (.int .i64)] false,
  .struct [(0, 1, false), (1, 1, false), (2, 1, false), (3, 1, false), (4, 1, false)] [(.int .i64), (.sl true 5 (.int .u8)), .bool, (.int .i64), (.int .i64)] false,
  .other,
  .other,
  .other,
  .other,
  .other,
  .other,
  .other,
  .other,
  .other,
  .ptr 133,
  .cell (.int .u64),
  .struct [(0, 1, false), (1, 1, false), (2, 1, false)] [(.sl true 5 (.int .u8)), (.int .i64), (.int .u64)] false,
  .struct [(0, 1, false), (1, 1, false), (2, 1, false)] [(.sl true 5 (.int .u8)), (.int .i64), (.int .u64)] false,
  .other,
  .other,
  .other,
  .other,
  .slice 3 [(.int .i64)] 8,
  .other,
  .other,
  .other,
  .other,
  .struct [(0, 1, false), (1, 1, false)] [(.int .i64), (.int .i64)] true,
  .struct [(0, 1, false), (1, 1, false)] [(.int .i64), (.int .i64)] true,
  .other,
  .other,
  .other,
  .other,
  .other,
  .other,
  .other,
  .other,
  .other,
  .other,
  .other,
  .other,
  .other,
  .other,
  .other,
  .other,
  .other,
  .other,
  .other,
  .other,
  .other,
  .other,
  .other,
  .other,
  .other,
  .other,
  .other,
  .cell (.int .u32),
  .other,
  .other,
  .other,
  .other,
  .other,
  .other,
  .struct [(0, 1, false), (1, 1, false), (2, 1, false)] [(.int .i64), (.int .i64), .str] true,
  .other,
  .other,
  .other,
  .other,
  .other,
  .other,
  .ptr 188,
  .struct [(0, 1, false), (1, 1, false), (2, 1, false)] [(.sl true 5 (.int .u8)), (.int .i64), .bool] false,
  .struct [(0, 1, false), (1, 1, false), (2, 1, false)] [(.sl true 5 (.int .u8)), (.int .i64), .bool] false,
  .other,
  .other,
  .other,
  .ptr 194,
  .struct [(0, 1, false), (1, 1, false)] [(.sl true 5 (.int .u8)), .bool] false,
  .struct [(0, 1, false), (1, 1, false)] [(.sl true 5 (.int .u8)), .bool] false,
  .other,
  .struct [(0, 1, false), (1, 1, false), (2, 1, false), (3, 1, false), (4, 1, false)] [(.int .i64), (.sl true 5 (.int .u8)), .bool, (.int .i64), (.int .i64)] false,
  .other,
  .other,
  .other,
  .other,
  .ptr 32,
  .other,
  .other,
  .other,
  .other,
  .other,
  .other,
  .other,
  .other,
  .other,
  .other,
  .struct [(0, 1, false)] [(.sl true 179 (.pair (.int .i64) (.pair (.int .i64) .str)))] false,
  .struct [(0, 1, false)] [(.sl true 179 (.pair (.int .i64) (.pair (.int .i64) .str)))] false,
  .other,
  .struct [(0, 1, false), (1, 1, false)] [(.int .i64), (.int .i64)] true,
  .other,
  .other,
  .other,
  .slice 4 [.bool] 1,
  .slice 9 [.str] 16,
  .struct [(0, 1, false), (1, 1, false)] [(.sl true 4 .bool), (.sl true 9 .str)] false,
  .struct [(0, 1, false), (1, 1, false)] [(.sl true 4 .bool), (.sl true 9 .str)] false,
  .other,
  .struct [(0, 1, false), (1, 1, false)] [(.sl true 4 .bool), (.sl true 9 .str)] false,
  .struct [(0, 1, false), (1, 1, false)] [(.sl true 4 .bool), (.sl true 9 .str)] false,
  .other,
  .other,
  .other,
  .other,
  .struct [(0, 1, false)] [(.sl true 55 (.pair (.int .i64) (.pair (.int .i64) .str)))] false,
  .struct [(0, 1, false)] [(.sl true 55 (.pair (.int .i64) (.pair (.int .i64) .str)))] false,
  .other,
  .other,
  .other,
  .other,
  .other,
  .other,
  .other,
  .other,
  .other,
  .ptr 231,
  .ptr 55,
  .other,
  .other,
  .other,
  .other,
  .other,
  .other,
  .other,
  .other,
  .cell (.int .u8),
  .cell (.int .u8),
  .other,
  .ptr 5,
  .cell (.int .i32),
  .cell (.int .i32),
  .other,
  .other,
  .other]
def ti (t : TypeId) : TI := tiL.getD t .other
theorem tab : TabOk Try.prog ti := tabOf Try.prog tiL (by kernel_rfl)
theorem mix : Try.prog.follows .mixedOrders = true := by kernel_rfl
end Go.Proofs.Ytcfbfpipfalieaa

set_option maxRecDepth 100000
namespace Go.Proofs.Ytcfbfpipfalieaa
open Go.V
theorem own : ownKnob Try.prog.godebug = none := by kernel_rfl
theorem laidOut : laidOutB Try.prog = true := by kernel_rfl
theorem tab2 : ∀ t, tyOk2 Try.prog ti t (ti t) = true := tabOf2 Try.prog tiL (by kernel_rfl)
end Go.Proofs.Ytcfbfpipfalieaa

set_option linter.unusedVariables false
set_option maxRecDepth 100000
namespace Go.Proofs.Ytcfbfpipfalieaa
open Go.V
noncomputable section
def J_l_szRunS : Joins := [(.r, ⟨[.int .i64], [(4, .one (.h 0))], [], [], [], []⟩)]
def ann_l_szRunS : Ann := .nil
def env_l_szRunS : Env := envOf ti [] []
theorem eok_l_szRunS : EnvOk Try.prog env_l_szRunS := envOf_ok tab mix _ _ (by
  intro k hk; cases hk)
theorem v_l_szRunS (x0 : List (Int × Int)) (x1 : Int) : (vfun env_l_szRunS Try.f119 J_l_szRunS ann_l_szRunS [] [.one ⟨.sl false 215 (.pair (.int .i64) (.int .i64)), x0⟩, .one ⟨.int .i64, x1⟩] []).run = (G.l_szRunS x0 x1).bind fun y => some (Res.mk [.one ⟨.int .i64, y⟩] [] []) := by kernel_rfl
def k_l_szRunS : Kn := ⟨119, [0, 0], fun args rows => match args, rows with
  | [.one ⟨.sl false 215 (.pair (.int .i64) (.int .i64)), x0⟩, .one ⟨.int .i64, x1⟩], [] => some ⟨_, G.l_szRunS x0 x1, fun y => ⟨[.one ⟨.int .i64, y⟩], [], []⟩⟩
  | _, _ => none, []⟩
theorem s_l_szRunS : KnOk Try.prog k_l_szRunS := by
  intro args rows a h y hy
  simp only [k_l_szRunS] at h
  split at h
  · injection h with h
    subst h
    exact vfun_ok eok_l_szRunS Try.func119 rfl (by rw [v_l_szRunS]; simp only at hy; rw [hy]; rfl)
  · cases h
def J_l_szPart : Joins := [(.r, ⟨[.int .i64], [(4, .one (.h 0))], [], [], [], []⟩)]
def ann_l_szPart : Ann := .nil
def env_l_szPart : Env := envOf ti [] []
theorem eok_l_szPart : EnvOk Try.prog env_l_szPart := envOf_ok tab mix _ _ (by
  intro k hk; cases hk)
theorem v_l_szPart (x0 : Int) (x1 : Int) (x2 : List UInt8) (x3 : Int) : (vfun env_l_szPart Try.f154 J_l_szPart ann_l_szPart [] [.ag [⟨.int .i64, x0⟩, ⟨.int .i64, x1⟩, ⟨.str, x2⟩], .one ⟨.int .i64, x3⟩] []).run = (G.l_szPart x0 x1 x2 x3).bind fun y => some (Res.mk [.one ⟨.int .i64, y⟩] [] []) := by kernel_rfl
def k_l_szPart : Kn := ⟨154, [0, 0], fun args rows => match args, rows with
  | [.ag [⟨.int .i64, x0⟩, ⟨.int .i64, x1⟩, ⟨.str, x2⟩], .one ⟨.int .i64, x3⟩], [] => some ⟨_, G.l_szPart x0 x1 x2 x3, fun y => ⟨[.one ⟨.int .i64, y⟩], [], []⟩⟩
  | _, _ => none, []⟩
theorem s_l_szPart : KnOk Try.prog k_l_szPart := by
  intro args rows a h y hy
  simp only [k_l_szPart] at h
  split at h
  · injection h with h
    subst h
    exact vfun_ok eok_l_szPart Try.func154 rfl (by rw [v_l_szPart]; simp only at hy; rw [hy]; rfl)
  · cases h
def J_l_szPartS : Joins := [(.r, ⟨[.int .i64], [(4, .one (.h 0))], [], [], [], []⟩)]
def ann_l_szPartS : Ann := .seq .nil (.seq .nil (.seq .nil (.seq (.seq .nil (.block [] (.loop ⟨[.sl false 179 (.pair (.int .i64) (.pair (.int .i64) .str)), .int .i64, .int .i64], [(0, .one (.h 0)), (1, .one (.h 1)), (5, .one (.h 2))], [], [], [], []⟩ [(.x 0, ⟨[.int .i64], [(1, .one (.h 0))], [], [], [], []⟩), (.r, ⟨[.int .i64], [(4, .one (.h 0))], [], [], [], []⟩)] .nil))) .nil)))
def env_l_szPartS : Env := envOf ti [k_l_szPart] []
theorem eok_l_szPartS : EnvOk Try.prog env_l_szPartS := envOf_ok tab mix _ _ (by
  intro k hk
  simp only [List.mem_cons, List.not_mem_nil, or_false] at hk
  rcases hk with rfl
  · exact s_l_szPart)
theorem v_l_szPartS (x0 : List (Int × (Int × List UInt8))) (x1 : Int) : (vfun env_l_szPartS Try.f67 J_l_szPartS ann_l_szPartS [] [.one ⟨.sl false 179 (.pair (.int .i64) (.pair (.int .i64) .str)), x0⟩, .one ⟨.int .i64, x1⟩] []).run = (G.l_szPartS x0 x1).bind fun y => some (Res.mk [.one ⟨.int .i64, y⟩] [] []) := by kernel_rfl
def k_l_szPartS : Kn := ⟨67, [0, 0], fun args rows => match args, rows with
  | [.one ⟨.sl false 179 (.pair (.int .i64) (.pair (.int .i64) .str)), x0⟩, .one ⟨.int .i64, x1⟩], [] => some ⟨_, G.l_szPartS x0 x1, fun y => ⟨[.one ⟨.int .i64, y⟩], [], []⟩⟩
  | _, _ => none, []⟩
theorem s_l_szPartS : KnOk Try.prog k_l_szPartS := by
  intro args rows a h y hy
  simp only [k_l_szPartS] at h
  split at h
  · injection h with h
    subst h
    exact vfun_ok eok_l_szPartS Try.func67 rfl (by rw [v_l_szPartS]; simp only at hy; rw [hy]; rfl)
  · cases h
def J_l_szChange : Joins := [(.r, ⟨[.int .i64], [(4, .one (.h 0))], [], [], [], []⟩)]
def ann_l_szChange : Ann := .nil
def env_l_szChange : Env := envOf ti [k_l_szPartS] []
theorem eok_l_szChange : EnvOk Try.prog env_l_szChange := envOf_ok tab mix _ _ (by
  intro k hk
  simp only [List.mem_cons, List.not_mem_nil, or_false] at hk
  rcases hk with rfl
  · exact s_l_szPartS)
theorem v_l_szChange (x0 : List (Int × (Int × List UInt8))) (x1 : Int) : (vfun env_l_szChange Try.f197 J_l_szChange ann_l_szChange [] [.ag [⟨.sl false 179 (.pair (.int .i64) (.pair (.int .i64) .str)), x0⟩], .one ⟨.int .i64, x1⟩] []).run = (G.l_szChange x0 x1).bind fun y => some (Res.mk [.one ⟨.int .i64, y⟩] [] []) := by kernel_rfl
def k_l_szChange : Kn := ⟨197, [0, 0], fun args rows => match args, rows with
  | [.ag [⟨.sl false 179 (.pair (.int .i64) (.pair (.int .i64) .str)), x0⟩], .one ⟨.int .i64, x1⟩], [] => some ⟨_, G.l_szChange x0 x1, fun y => ⟨[.one ⟨.int .i64, y⟩], [], []⟩⟩
  | _, _ => none, []⟩
theorem s_l_szChange : KnOk Try.prog k_l_szChange := by
  intro args rows a h y hy
  simp only [k_l_szChange] at h
  split at h
  · injection h with h
    subst h
    exact vfun_ok eok_l_szChange Try.func197 rfl (by rw [v_l_szChange]; simp only at hy; rw [hy]; rfl)
  · cases h
def J_l_szChangeS : Joins := [(.r, ⟨[.int .i64], [(4, .one (.h 0))], [], [], [], []⟩)]
def ann_l_szChangeS : Ann := .seq .nil (.seq .nil (.seq .nil (.seq (.seq .nil (.block [] (.loop ⟨[.sl false 213 (.sl false 179 (.pair (.int .i64) (.pair (.int .i64) .str))), .int .i64, .int .i64], [(0, .one (.h 0)), (1, .one (.h 1)), (5, .one (.h 2))], [], [], [], []⟩ [(.x 0, ⟨[.int .i64], [(1, .one (.h 0))], [], [], [], []⟩), (.r, ⟨[.int .i64], [(4, .one (.h 0))], [], [], [], []⟩)] .nil))) .nil)))
def env_l_szChangeS : Env := envOf ti [k_l_szChange] []
theorem eok_l_szChangeS : EnvOk Try.prog env_l_szChangeS := envOf_ok tab mix _ _ (by
  intro k hk
  simp only [List.mem_cons, List.not_mem_nil, or_false] at hk
  rcases hk with rfl
  · exact s_l_szChange)
theorem v_l_szChangeS (x0 : List (List (Int × (Int × List UInt8)))) (x1 : Int) : (vfun env_l_szChangeS Try.f120 J_l_szChangeS ann_l_szChangeS [] [.one ⟨.sl false 213 (.sl false 179 (.pair (.int .i64) (.pair (.int .i64) .str))), x0⟩, .one ⟨.int .i64, x1⟩] []).run = (G.l_szChangeS x0 x1).bind fun y => some (Res.mk [.one ⟨.int .i64, y⟩] [] []) := by kernel_rfl
def k_l_szChangeS : Kn := ⟨120, [0, 0], fun args rows => match args, rows with
  | [.one ⟨.sl false 213 (.sl false 179 (.pair (.int .i64) (.pair (.int .i64) .str))), x0⟩, .one ⟨.int .i64, x1⟩], [] => some ⟨_, G.l_szChangeS x0 x1, fun y => ⟨[.one ⟨.int .i64, y⟩], [], []⟩⟩
  | _, _ => none, []⟩
theorem s_l_szChangeS : KnOk Try.prog k_l_szChangeS := by
  intro args rows a h y hy
  simp only [k_l_szChangeS] at h
  split at h
  · injection h with h
    subst h
    exact vfun_ok eok_l_szChangeS Try.func120 rfl (by rw [v_l_szChangeS]; simp only at hy; rw [hy]; rfl)
  · cases h
def J_l_szHistory : Joins := [(.r, ⟨[.int .i64], [(4, .one (.h 0))], [], [], [], []⟩)]
def ann_l_szHistory : Ann := .nil
def env_l_szHistory : Env := envOf ti [k_l_szRunS, k_l_szChangeS] []
theorem eok_l_szHistory : EnvOk Try.prog env_l_szHistory := envOf_ok tab mix _ _ (by
  intro k hk
  simp only [List.mem_cons, List.not_mem_nil, or_false] at hk
  rcases hk with rfl | rfl
  · exact s_l_szRunS
  · exact s_l_szChangeS)
theorem v_l_szHistory (x0 : Int) (x1 : List UInt8) (x2 : List (Int × Int)) (x3 : List (List (Int × (Int × List UInt8)))) (x4 : Int) : (vfun env_l_szHistory Try.f38 J_l_szHistory ann_l_szHistory [] [.ag [⟨.int .i64, x0⟩, ⟨.str, x1⟩, ⟨.sl false 215 (.pair (.int .i64) (.int .i64)), x2⟩, ⟨.sl false 213 (.sl false 179 (.pair (.int .i64) (.pair (.int .i64) .str))), x3⟩], .one ⟨.int .i64, x4⟩] []).run = (G.l_szHistory x0 x1 x2 x3 x4).bind fun y => some (Res.mk [.one ⟨.int .i64, y⟩] [] []) := by kernel_rfl
def k_l_szHistory : Kn := ⟨38, [0, 0], fun args rows => match args, rows with
  | [.ag [⟨.int .i64, x0⟩, ⟨.str, x1⟩, ⟨.sl false 215 (.pair (.int .i64) (.int .i64)), x2⟩, ⟨.sl false 213 (.sl false 179 (.pair (.int .i64) (.pair (.int .i64) .str))), x3⟩], .one ⟨.int .i64, x4⟩], [] => some ⟨_, G.l_szHistory x0 x1 x2 x3 x4, fun y => ⟨[.one ⟨.int .i64, y⟩], [], []⟩⟩
  | _, _ => none, []⟩
theorem s_l_szHistory : KnOk Try.prog k_l_szHistory := by
  intro args rows a h y hy
  simp only [k_l_szHistory] at h
  split at h
  · injection h with h
    subst h
    exact vfun_ok eok_l_szHistory Try.func38 rfl (by rw [v_l_szHistory]; simp only at hy; rw [hy]; rfl)
  · cases h
def J_l_toRun : Joins := [(.r, ⟨[.int .i64, .int .i64], [(2, .pl 2 0)], [(2, [.h 0, .h 1])], [], [], []⟩)]
def ann_l_toRun : Ann := .nil
def env_l_toRun : Env := envOf ti [] []
theorem eok_l_toRun : EnvOk Try.prog env_l_toRun := envOf_ok tab mix _ _ (by
  intro k hk; cases hk)
theorem v_l_toRun (x0 : Int) (x1 : Int) : (vfun env_l_toRun Try.f198 J_l_toRun ann_l_toRun [] [.ag [⟨.int .i64, x0⟩, ⟨.int .i64, x1⟩]] []).run = (G.l_toRun x0 x1).bind fun y => some (Res.mk [.ag [⟨.int .i64, y.1⟩, ⟨.int .i64, y.2⟩]] [] []) := by kernel_rfl
def k_l_toRun : Kn := ⟨198, [0], fun args rows => match args, rows with
  | [.ag [⟨.int .i64, x0⟩, ⟨.int .i64, x1⟩]], [] => some ⟨_, G.l_toRun x0 x1, fun y => ⟨[.ag [⟨.int .i64, y.1⟩, ⟨.int .i64, y.2⟩]], [], []⟩⟩
  | _, _ => none, []⟩
theorem s_l_toRun : KnOk Try.prog k_l_toRun := by
  intro args rows a h y hy
  simp only [k_l_toRun] at h
  split at h
  · injection h with h
    subst h
    exact vfun_ok eok_l_toRun Try.func198 rfl (by rw [v_l_toRun]; simp only at hy; rw [hy]; rfl)
  · cases h
def J_l_toRunS : Joins := [(.r, ⟨[.sl true 144 (.pair (.int .i64) (.int .i64))], [(2, .one (.vw 126017))], [], [(126017, 0)], [], []⟩)]
def ann_l_toRunS : Ann := .seq .nil (.seq .nil (.seq (.seq .nil (.block [] (.loop ⟨[.sl false 215 (.pair (.int .i64) (.int .i64)), .sl true 144 (.pair (.int .i64) (.int .i64)), .int .i64], [(0, .one (.h 0)), (3, .one (.vw 125952)), (4, .one (.h 2))], [], [(125952, 1)], [], []⟩ [(.x 0, ⟨[.sl true 144 (.pair (.int .i64) (.int .i64))], [(3, .one (.vw 126016))], [], [(126016, 0)], [], []⟩)] .nil))) .nil))
def env_l_toRunS : Env := envOf ti [k_l_toRun] []
theorem eok_l_toRunS : EnvOk Try.prog env_l_toRunS := envOf_ok tab mix _ _ (by
  intro k hk
  simp only [List.mem_cons, List.not_mem_nil, or_false] at hk
  rcases hk with rfl
  · exact s_l_toRun)
theorem v_l_toRunS (x0 : List (Int × Int)) : (vfun env_l_toRunS Try.f123 J_l_toRunS ann_l_toRunS [] [.one ⟨.sl false 215 (.pair (.int .i64) (.int .i64)), x0⟩] []).run = (G.l_toRunS x0).bind fun y => some (Res.mk [.one ⟨.sl true 144 (.pair (.int .i64) (.int .i64)), y⟩] [] []) := by kernel_rfl
def k_l_toRunS : Kn := ⟨123, [0], fun args rows => match args, rows with
  | [.one ⟨.sl false 215 (.pair (.int .i64) (.int .i64)), x0⟩], [] => some ⟨_, G.l_toRunS x0, fun y => ⟨[.one ⟨.sl true 144 (.pair (.int .i64) (.int .i64)), y⟩], [], []⟩⟩
  | _, _ => none, []⟩
theorem s_l_toRunS : KnOk Try.prog k_l_toRunS := by
  intro args rows a h y hy
  simp only [k_l_toRunS] at h
  split at h
  · injection h with h
    subst h
    exact vfun_ok eok_l_toRunS Try.func123 rfl (by rw [v_l_toRunS]; simp only at hy; rw [hy]; rfl)
  · cases h
def J_l_toPart : Joins := [(.r, ⟨[.int .i64, .int .i64, .str], [(2, .pl 2 0)], [(2, [.h 0, .h 1, .h 2])], [], [], []⟩)]
def ann_l_toPart : Ann := .nil
def env_l_toPart : Env := envOf ti [] []
theorem eok_l_toPart : EnvOk Try.prog env_l_toPart := envOf_ok tab mix _ _ (by
  intro k hk; cases hk)
theorem v_l_toPart (x0 : Int) (x1 : Int) (x2 : List UInt8) : (vfun env_l_toPart Try.f155 J_l_toPart ann_l_toPart [] [.ag [⟨.int .i64, x0⟩, ⟨.int .i64, x1⟩, ⟨.str, x2⟩]] []).run = (G.l_toPart x0 x1 x2).bind fun y => some (Res.mk [.ag [⟨.int .i64, y.1⟩, ⟨.int .i64, y.2.1⟩, ⟨.str, y.2.2⟩]] [] []) := by kernel_rfl
def k_l_toPart : Kn := ⟨155, [0], fun args rows => match args, rows with
  | [.ag [⟨.int .i64, x0⟩, ⟨.int .i64, x1⟩, ⟨.str, x2⟩]], [] => some ⟨_, G.l_toPart x0 x1 x2, fun y => ⟨[.ag [⟨.int .i64, y.1⟩, ⟨.int .i64, y.2.1⟩, ⟨.str, y.2.2⟩]], [], []⟩⟩
  | _, _ => none, []⟩
theorem s_l_toPart : KnOk Try.prog k_l_toPart := by
  intro args rows a h y hy
  simp only [k_l_toPart] at h
  split at h
  · injection h with h
    subst h
    exact vfun_ok eok_l_toPart Try.func155 rfl (by rw [v_l_toPart]; simp only at hy; rw [hy]; rfl)
  · cases h
def J_l_toPartS : Joins := [(.r, ⟨[.sl true 55 (.pair (.int .i64) (.pair (.int .i64) .str))], [(2, .one (.vw 126017))], [], [(126017, 0)], [], []⟩)]
def ann_l_toPartS : Ann := .seq .nil (.seq .nil (.seq (.seq .nil (.block [] (.loop ⟨[.sl false 179 (.pair (.int .i64) (.pair (.int .i64) .str)), .sl true 55 (.pair (.int .i64) (.pair (.int .i64) .str)), .int .i64], [(0, .one (.h 0)), (3, .one (.vw 125952)), (4, .one (.h 2))], [], [(125952, 1)], [], []⟩ [(.x 0, ⟨[.sl true 55 (.pair (.int .i64) (.pair (.int .i64) .str))], [(3, .one (.vw 126016))], [], [(126016, 0)], [], []⟩)] .nil))) .nil))
def env_l_toPartS : Env := envOf ti [k_l_toPart] []
theorem eok_l_toPartS : EnvOk Try.prog env_l_toPartS := envOf_ok tab mix _ _ (by
  intro k hk
  simp only [List.mem_cons, List.not_mem_nil, or_false] at hk
  rcases hk with rfl
  · exact s_l_toPart)
theorem v_l_toPartS (x0 : List (Int × (Int × List UInt8))) : (vfun env_l_toPartS Try.f68 J_l_toPartS ann_l_toPartS [] [.one ⟨.sl false 179 (.pair (.int .i64) (.pair (.int .i64) .str)), x0⟩] []).run = (G.l_toPartS x0).bind fun y => some (Res.mk [.one ⟨.sl true 55 (.pair (.int .i64) (.pair (.int .i64) .str)), y⟩] [] []) := by kernel_rfl
def k_l_toPartS : Kn := ⟨68, [0], fun args rows => match args, rows with
  | [.one ⟨.sl false 179 (.pair (.int .i64) (.pair (.int .i64) .str)), x0⟩], [] => some ⟨_, G.l_toPartS x0, fun y => ⟨[.one ⟨.sl true 55 (.pair (.int .i64) (.pair (.int .i64) .str)), y⟩], [], []⟩⟩
  | _, _ => none, []⟩
theorem s_l_toPartS : KnOk Try.prog k_l_toPartS := by
  intro args rows a h y hy
  simp only [k_l_toPartS] at h
  split at h
  · injection h with h
    subst h
    exact vfun_ok eok_l_toPartS Try.func68 rfl (by rw [v_l_toPartS]; simp only at hy; rw [hy]; rfl)
  · cases h
def J_l_toChange : Joins := [(.r, ⟨[.sl true 55 (.pair (.int .i64) (.pair (.int .i64) .str))], [(2, .pl 2 0)], [(2, [.vw 111616])], [(111616, 0)], [], []⟩)]
def ann_l_toChange : Ann := .nil
def env_l_toChange : Env := envOf ti [k_l_toPartS] []
theorem eok_l_toChange : EnvOk Try.prog env_l_toChange := envOf_ok tab mix _ _ (by
  intro k hk
  simp only [List.mem_cons, List.not_mem_nil, or_false] at hk
  rcases hk with rfl
  · exact s_l_toPartS)
theorem v_l_toChange (x0 : List (Int × (Int × List UInt8))) : (vfun env_l_toChange Try.f199 J_l_toChange ann_l_toChange [] [.ag [⟨.sl false 179 (.pair (.int .i64) (.pair (.int .i64) .str)), x0⟩]] []).run = (G.l_toChange x0).bind fun y => some (Res.mk [.ag [⟨.sl true 55 (.pair (.int .i64) (.pair (.int .i64) .str)), y⟩]] [] []) := by kernel_rfl
def k_l_toChange : Kn := ⟨199, [0], fun args rows => match args, rows with
  | [.ag [⟨.sl false 179 (.pair (.int .i64) (.pair (.int .i64) .str)), x0⟩]], [] => some ⟨_, G.l_toChange x0, fun y => ⟨[.ag [⟨.sl true 55 (.pair (.int .i64) (.pair (.int .i64) .str)), y⟩]], [], []⟩⟩
  | _, _ => none, []⟩
theorem s_l_toChange : KnOk Try.prog k_l_toChange := by
  intro args rows a h y hy
  simp only [k_l_toChange] at h
  split at h
  · injection h with h
    subst h
    exact vfun_ok eok_l_toChange Try.func199 rfl (by rw [v_l_toChange]; simp only at hy; rw [hy]; rfl)
  · cases h
def J_l_toChangeS : Joins := [(.r, ⟨[.sl true 93 (.sl true 55 (.pair (.int .i64) (.pair (.int .i64) .str)))], [(2, .one (.vw 126017))], [], [(126017, 0)], [], []⟩)]
def ann_l_toChangeS : Ann := .seq .nil (.seq .nil (.seq (.seq .nil (.block [] (.loop ⟨[.sl false 213 (.sl false 179 (.pair (.int .i64) (.pair (.int .i64) .str))), .sl true 93 (.sl true 55 (.pair (.int .i64) (.pair (.int .i64) .str))), .int .i64], [(0, .one (.h 0)), (3, .one (.vw 125952)), (4, .one (.h 2))], [], [(125952, 1)], [], []⟩ [(.x 0, ⟨[.sl true 93 (.sl true 55 (.pair (.int .i64) (.pair (.int .i64) .str)))], [(3, .one (.vw 126016))], [], [(126016, 0)], [], []⟩)] .nil))) .nil))
def env_l_toChangeS : Env := envOf ti [k_l_toChange] []
theorem eok_l_toChangeS : EnvOk Try.prog env_l_toChangeS := envOf_ok tab mix _ _ (by
  intro k hk
  simp only [List.mem_cons, List.not_mem_nil, or_false] at hk
  rcases hk with rfl
  · exact s_l_toChange)
theorem v_l_toChangeS (x0 : List (List (Int × (Int × List UInt8)))) : (vfun env_l_toChangeS Try.f124 J_l_toChangeS ann_l_toChangeS [] [.one ⟨.sl false 213 (.sl false 179 (.pair (.int .i64) (.pair (.int .i64) .str))), x0⟩] []).run = (G.l_toChangeS x0).bind fun y => some (Res.mk [.one ⟨.sl true 93 (.sl true 55 (.pair (.int .i64) (.pair (.int .i64) .str))), y⟩] [] []) := by kernel_rfl
def k_l_toChangeS : Kn := ⟨124, [0], fun args rows => match args, rows with
  | [.one ⟨.sl false 213 (.sl false 179 (.pair (.int .i64) (.pair (.int .i64) .str))), x0⟩], [] => some ⟨_, G.l_toChangeS x0, fun y => ⟨[.one ⟨.sl true 93 (.sl true 55 (.pair (.int .i64) (.pair (.int .i64) .str))), y⟩], [], []⟩⟩
  | _, _ => none, []⟩
theorem s_l_toChangeS : KnOk Try.prog k_l_toChangeS := by
  intro args rows a h y hy
  simp only [k_l_toChangeS] at h
  split at h
  · injection h with h
    subst h
    exact vfun_ok eok_l_toChangeS Try.func124 rfl (by rw [v_l_toChangeS]; simp only at hy; rw [hy]; rfl)
  · cases h
end
end Go.Proofs.Ytcfbfpipfalieaa

set_option linter.unusedVariables false
set_option maxRecDepth 100000
namespace Go.Proofs.Ytcfbfpipfalieaa
open Go.V
noncomputable section
def J_l_toHistory : Joins := [(.r, ⟨[.int .i64, .str, .sl true 144 (.pair (.int .i64) (.int .i64)), .sl true 93 (.sl true 55 (.pair (.int .i64) (.pair (.int .i64) .str)))], [(2, .pl 2 0)], [(2, [.h 0, .h 1, .vw 121856, .vw 121857])], [(121856, 2), (121857, 3)], [], []⟩)]
def ann_l_toHistory : Ann := .nil
def env_l_toHistory : Env := envOf ti [k_l_toRunS, k_l_toChangeS] []
theorem eok_l_toHistory : EnvOk Try.prog env_l_toHistory := envOf_ok tab mix _ _ (by
  intro k hk
  simp only [List.mem_cons, List.not_mem_nil, or_false] at hk
  rcases hk with rfl | rfl
  · exact s_l_toRunS
  · exact s_l_toChangeS)
theorem v_l_toHistory (x0 : Int) (x1 : List UInt8) (x2 : List (Int × Int)) (x3 : List (List (Int × (Int × List UInt8)))) : (vfun env_l_toHistory Try.f40 J_l_toHistory ann_l_toHistory [] [.ag [⟨.int .i64, x0⟩, ⟨.str, x1⟩, ⟨.sl false 215 (.pair (.int .i64) (.int .i64)), x2⟩, ⟨.sl false 213 (.sl false 179 (.pair (.int .i64) (.pair (.int .i64) .str))), x3⟩]] []).run = (G.l_toHistory x0 x1 x2 x3).bind fun y => some (Res.mk [.ag [⟨.int .i64, y.1⟩, ⟨.str, y.2.1⟩, ⟨.sl true 144 (.pair (.int .i64) (.int .i64)), y.2.2.1⟩, ⟨.sl true 93 (.sl true 55 (.pair (.int .i64) (.pair (.int .i64) .str))), y.2.2.2⟩]] [] []) := by kernel_rfl
def k_l_toHistory : Kn := ⟨40, [0], fun args rows => match args, rows with
  | [.ag [⟨.int .i64, x0⟩, ⟨.str, x1⟩, ⟨.sl false 215 (.pair (.int .i64) (.int .i64)), x2⟩, ⟨.sl false 213 (.sl false 179 (.pair (.int .i64) (.pair (.int .i64) .str))), x3⟩]], [] => some ⟨_, G.l_toHistory x0 x1 x2 x3, fun y => ⟨[.ag [⟨.int .i64, y.1⟩, ⟨.str, y.2.1⟩, ⟨.sl true 144 (.pair (.int .i64) (.int .i64)), y.2.2.1⟩, ⟨.sl true 93 (.sl true 55 (.pair (.int .i64) (.pair (.int .i64) .str))), y.2.2.2⟩]], [], []⟩⟩
  | _, _ => none, []⟩
theorem s_l_toHistory : KnOk Try.prog k_l_toHistory := by
  intro args rows a h y hy
  simp only [k_l_toHistory] at h
  split at h
  · injection h with h
    subst h
    exact vfun_ok eok_l_toHistory Try.func40 rfl (by rw [v_l_toHistory]; simp only at hy; rw [hy]; rfl)
  · cases h
def J_s_l1In : Joins := [(.r, ⟨[.bool], [(6, .one (.h 0))], [], [], [], []⟩)]
def ann_s_l1In : Ann := .seq .nil (.seq (.reg [(.n, ⟨[.bool], [(6, .one (.h 0))], [], [], [], []⟩)]) .nil)
def env_s_l1In : Env := envOf ti [] []
theorem eok_s_l1In : EnvOk Try.prog env_s_l1In := envOf_ok tab mix _ _ (by
  intro k hk; cases hk)
theorem v_s_l1In (x0 : Int) (x1 : Int) (x2 : Int) : (vfun env_s_l1In Try.f88 J_s_l1In ann_s_l1In [] [.one ⟨.int .i64, x0⟩, .one ⟨.int .i64, x1⟩, .one ⟨.int .i64, x2⟩] []).run = (G.s_l1In x0 x1 x2).bind fun y => some (Res.mk [.one ⟨.bool, y⟩] [] []) := by kernel_rfl
def k_s_l1In : Kn := ⟨88, [0, 0, 0], fun args rows => match args, rows with
  | [.one ⟨.int .i64, x0⟩, .one ⟨.int .i64, x1⟩, .one ⟨.int .i64, x2⟩], [] => some ⟨_, G.s_l1In x0 x1 x2, fun y => ⟨[.one ⟨.bool, y⟩], [], []⟩⟩
  | _, _ => none, []⟩
theorem s_s_l1In : KnOk Try.prog k_s_l1In := by
  intro args rows a h y hy
  simp only [k_s_l1In] at h
  split at h
  · injection h with h
    subst h
    exact vfun_ok eok_s_l1In Try.func88 rfl (by rw [v_s_l1In]; simp only at hy; rw [hy]; rfl)
  · cases h
def J_s_GoodRuns : Joins := [(.r, ⟨[.bool], [(6, .one (.h 0))], [], [], [], []⟩)]
def ann_s_GoodRuns : Ann := .seq .nil (.seq (.seq (.reg [(.n, ⟨[.sl false 144 (.pair (.int .i64) (.int .i64)), .int .i64, .int .i64, .bool], [(0, .one (.h 0)), (1, .one (.h 1)), (2, .one (.h 2)), (17, .one (.h 3))], [], [], [], []⟩)]) .nil) (.seq .nil (.seq (.seq .nil (.block [] (.loop ⟨[.sl false 144 (.pair (.int .i64) (.int .i64)), .int .i64, .int .i64, .int .i64, .sl false 144 (.pair (.int .i64) (.int .i64)), .int .i64, .int .i64], [(0, .one (.h 0)), (1, .one (.h 1)), (2, .one (.h 2)), (7, .one (.h 3)), (18, .one (.h 4)), (19, .one (.h 5)), (20, .one (.h 6))], [], [], [], []⟩ [(.x 0, ⟨[.int .i64, .int .i64], [(1, .one (.h 0)), (7, .one (.h 1))], [], [], [], []⟩), (.r, ⟨[.bool], [(6, .one (.h 0))], [], [], [], []⟩)] (.seq .nil (.seq .nil (.seq (.block [] (.seq .nil (.seq (.seq (.reg [(.n, ⟨[.sl false 144 (.pair (.int .i64) (.int .i64)), .int .i64, .int .i64, .int .i64, .sl false 144 (.pair (.int .i64) (.int .i64)), .int .i64, .int .i64, .bool, .int .i64, .int .i64], [(0, .one (.h 0)), (1, .one (.h 1)), (2, .one (.h 2)), (7, .one (.h 3)), (9, .pl 9 0), (18, .one (.h 4)), (19, .one (.h 5)), (20, .one (.h 6)), (53, .one (.h 7))], [(9, [.h 8, .h 9])], [], [], []⟩)]) .nil) .nil))) .nil)))))) .nil)))
def env_s_GoodRuns : Env := envOf ti [k_s_l1In] []
theorem eok_s_GoodRuns : EnvOk Try.prog env_s_GoodRuns := envOf_ok tab mix _ _ (by
  intro k hk
  simp only [List.mem_cons, List.not_mem_nil, or_false] at hk
  rcases hk with rfl
  · exact s_s_l1In)
theorem v_s_GoodRuns (x0 : List (Int × Int)) (x1 : Int) (x2 : Int) : (vfun env_s_GoodRuns Try.f111 J_s_GoodRuns ann_s_GoodRuns [] [.one ⟨.sl false 144 (.pair (.int .i64) (.int .i64)), x0⟩, .one ⟨.int .i64, x1⟩, .one ⟨.int .i64, x2⟩] []).run = (G.s_GoodRuns x0 x1 x2).bind fun y => some (Res.mk [.one ⟨.bool, y⟩] [] []) := by kernel_rfl
def k_s_GoodRuns : Kn := ⟨111, [0, 0, 0], fun args rows => match args, rows with
  | [.one ⟨.sl false 144 (.pair (.int .i64) (.int .i64)), x0⟩, .one ⟨.int .i64, x1⟩, .one ⟨.int .i64, x2⟩], [] => some ⟨_, G.s_GoodRuns x0 x1 x2, fun y => ⟨[.one ⟨.bool, y⟩], [], []⟩⟩
  | _, _ => none, []⟩
theorem s_s_GoodRuns : KnOk Try.prog k_s_GoodRuns := by
  intro args rows a h y hy
  simp only [k_s_GoodRuns] at h
  split at h
  · injection h with h
    subst h
    exact vfun_ok eok_s_GoodRuns Try.func111 rfl (by rw [v_s_GoodRuns]; simp only at hy; rw [hy]; rfl)
  · cases h
def J_s_l1Kind : Joins := [(.r, ⟨[.int .i64], [(2, .one (.h 0))], [], [], [], []⟩)]
def ann_s_l1Kind : Ann := .seq .nil (.seq (.block [] (.seq (.reg [(.n, ⟨[.bool, .int .i64, .int .i64, .str], [(1, .pl 1 0), (3, .one (.h 0))], [(1, [.h 1, .h 2, .h 3])], [], [], []⟩)]) (.cond [] .nil (.seq (.reg [(.n, ⟨[.bool, .int .i64, .int .i64, .str], [(1, .pl 1 0), (17, .one (.h 0))], [(1, [.h 1, .h 2, .h 3])], [], [], []⟩)]) (.cond [] .nil (.seq (.reg [(.n, ⟨[.bool], [(31, .one (.h 0))], [], [], [], []⟩)]) .nil)))))) .nil)
def env_s_l1Kind : Env := envOf ti [] []
theorem eok_s_l1Kind : EnvOk Try.prog env_s_l1Kind := envOf_ok tab mix _ _ (by
  intro k hk; cases hk)
theorem v_s_l1Kind (x0 : Int) (x1 : Int) (x2 : List UInt8) : (vfun env_s_l1Kind Try.f194 J_s_l1Kind ann_s_l1Kind [] [.ag [⟨.int .i64, x0⟩, ⟨.int .i64, x1⟩, ⟨.str, x2⟩]] []).run = (G.s_l1Kind x0 x1 x2).bind fun y => some (Res.mk [.one ⟨.int .i64, y⟩] [] []) := by kernel_rfl
def k_s_l1Kind : Kn := ⟨194, [0], fun args rows => match args, rows with
  | [.ag [⟨.int .i64, x0⟩, ⟨.int .i64, x1⟩, ⟨.str, x2⟩]], [] => some ⟨_, G.s_l1Kind x0 x1 x2, fun y => ⟨[.one ⟨.int .i64, y⟩], [], []⟩⟩
  | _, _ => none, []⟩
theorem s_s_l1Kind : KnOk Try.prog k_s_l1Kind := by
  intro args rows a h y hy
  simp only [k_s_l1Kind] at h
  split at h
  · injection h with h
    subst h
    exact vfun_ok eok_s_l1Kind Try.func194 rfl (by rw [v_s_l1Kind]; simp only at hy; rw [hy]; rfl)
  · cases h
def J_s_GoodChange : Joins := [(.r, ⟨[.bool], [(2, .one (.h 0))], [], [], [], []⟩)]
def ann_s_GoodChange : Ann := .seq .nil (.seq .nil (.seq .nil (.seq (.seq .nil (.block [] (.loop ⟨[.sl false 55 (.pair (.int .i64) (.pair (.int .i64) .str)), .int .i64, .int .i64, .sl false 55 (.pair (.int .i64) (.pair (.int .i64) .str)), .int .i64, .int .i64], [(0, .one (.h 0)), (3, .one (.h 1)), (4, .one (.h 2)), (8, .one (.h 3)), (9, .one (.h 4)), (10, .one (.h 5))], [], [], [], []⟩ [(.x 0, ⟨[], [], [], [], [], []⟩), (.r, ⟨[.bool], [(2, .one (.h 0))], [], [], [], []⟩)] (.seq .nil (.seq .nil (.seq (.block [] (.seq .nil (.seq .nil (.seq (.seq (.reg [(.n, ⟨[.sl false 55 (.pair (.int .i64) (.pair (.int .i64) .str)), .int .i64, .int .i64, .sl false 55 (.pair (.int .i64) (.pair (.int .i64) .str)), .int .i64, .int .i64, .bool, .int .i64, .int .i64, .str], [(0, .one (.h 0)), (3, .one (.h 1)), (4, .one (.h 2)), (6, .pl 6 0), (8, .one (.h 3)), (9, .one (.h 4)), (10, .one (.h 5)), (48, .one (.h 6))], [(6, [.h 7, .h 8, .h 9])], [], [], []⟩)]) .nil) (.seq .nil (.seq .nil (.seq (.reg [(.n, ⟨[.sl false 55 (.pair (.int .i64) (.pair (.int .i64) .str)), .int .i64, .int .i64, .sl false 55 (.pair (.int .i64) (.pair (.int .i64) .str)), .int .i64, .int .i64, .bool], [(0, .one (.h 0)), (3, .one (.h 1)), (4, .one (.h 2)), (8, .one (.h 3)), (9, .one (.h 4)), (10, .one (.h 5)), (69, .one (.h 6))], [], [], [], []⟩)]) .nil))))))) .nil)))))) .nil)))
def env_s_GoodChange : Env := envOf ti [k_s_l1Kind] []
theorem eok_s_GoodChange : EnvOk Try.prog env_s_GoodChange := envOf_ok tab mix _ _ (by
  intro k hk
  simp only [List.mem_cons, List.not_mem_nil, or_false] at hk
  rcases hk with rfl
  · exact s_s_l1Kind)
theorem v_s_GoodChange (x0 : List (Int × (Int × List UInt8))) : (vfun env_s_GoodChange Try.f110 J_s_GoodChange ann_s_GoodChange [] [.one ⟨.sl false 55 (.pair (.int .i64) (.pair (.int .i64) .str)), x0⟩] []).run = (G.s_GoodChange x0).bind fun y => some (Res.mk [.one ⟨.bool, y⟩] [] []) := by kernel_rfl
def k_s_GoodChange : Kn := ⟨110, [0], fun args rows => match args, rows with
  | [.one ⟨.sl false 55 (.pair (.int .i64) (.pair (.int .i64) .str)), x0⟩], [] => some ⟨_, G.s_GoodChange x0, fun y => ⟨[.one ⟨.bool, y⟩], [], []⟩⟩
  | _, _ => none, []⟩
theorem s_s_GoodChange : KnOk Try.prog k_s_GoodChange := by
  intro args rows a h y hy
  simp only [k_s_GoodChange] at h
  split at h
  · injection h with h
    subst h
    exact vfun_ok eok_s_GoodChange Try.func110 rfl (by rw [v_s_GoodChange]; simp only at hy; rw [hy]; rfl)
  · cases h
def J_s_l1Source : Joins := [(.r, ⟨[.int .i64], [(2, .one (.h 0))], [], [], [], []⟩)]
def ann_s_l1Source : Ann := .seq .nil (.seq .nil (.seq (.seq .nil (.block [] (.loop ⟨[.int .i64, .sl false 55 (.pair (.int .i64) (.pair (.int .i64) .str)), .int .i64, .int .i64], [(3, .one (.h 0)), (6, .one (.h 1)), (7, .one (.h 2)), (8, .one (.h 3))], [], [], [], []⟩ [(.x 0, ⟨[.int .i64], [(3, .one (.h 0))], [], [], [], []⟩)] .nil))) .nil))
def env_s_l1Source : Env := envOf ti [] []
theorem eok_s_l1Source : EnvOk Try.prog env_s_l1Source := envOf_ok tab mix _ _ (by
  intro k hk; cases hk)
theorem v_s_l1Source (x0 : List (Int × (Int × List UInt8))) : (vfun env_s_l1Source Try.f112 J_s_l1Source ann_s_l1Source [] [.one ⟨.sl false 55 (.pair (.int .i64) (.pair (.int .i64) .str)), x0⟩] []).run = (G.s_l1Source x0).bind fun y => some (Res.mk [.one ⟨.int .i64, y⟩] [] []) := by kernel_rfl
def k_s_l1Source : Kn := ⟨112, [0], fun args rows => match args, rows with
  | [.one ⟨.sl false 55 (.pair (.int .i64) (.pair (.int .i64) .str)), x0⟩], [] => some ⟨_, G.s_l1Source x0, fun y => ⟨[.one ⟨.int .i64, y⟩], [], []⟩⟩
  | _, _ => none, []⟩
theorem s_s_l1Source : KnOk Try.prog k_s_l1Source := by
  intro args rows a h y hy
  simp only [k_s_l1Source] at h
  split at h
  · injection h with h
    subst h
    exact vfun_ok eok_s_l1Source Try.func112 rfl (by rw [v_s_l1Source]; simp only at hy; rw [hy]; rfl)
  · cases h
def J_s_l1Target : Joins := [(.r, ⟨[.int .i64], [(2, .one (.h 0))], [], [], [], []⟩)]
def ann_s_l1Target : Ann := .seq .nil (.seq .nil (.seq (.seq .nil (.block [] (.loop ⟨[.int .i64, .sl false 55 (.pair (.int .i64) (.pair (.int .i64) .str)), .int .i64, .int .i64], [(3, .one (.h 0)), (6, .one (.h 1)), (7, .one (.h 2)), (8, .one (.h 3))], [], [], [], []⟩ [(.x 0, ⟨[.int .i64], [(3, .one (.h 0))], [], [], [], []⟩)] .nil))) .nil))
def env_s_l1Target : Env := envOf ti [] []
theorem eok_s_l1Target : EnvOk Try.prog env_s_l1Target := envOf_ok tab mix _ _ (by
  intro k hk; cases hk)
theorem v_s_l1Target (x0 : List (Int × (Int × List UInt8))) : (vfun env_s_l1Target Try.f114 J_s_l1Target ann_s_l1Target [] [.one ⟨.sl false 55 (.pair (.int .i64) (.pair (.int .i64) .str)), x0⟩] []).run = (G.s_l1Target x0).bind fun y => some (Res.mk [.one ⟨.int .i64, y⟩] [] []) := by kernel_rfl
def k_s_l1Target : Kn := ⟨114, [0], fun args rows => match args, rows with
  | [.one ⟨.sl false 55 (.pair (.int .i64) (.pair (.int .i64) .str)), x0⟩], [] => some ⟨_, G.s_l1Target x0, fun y => ⟨[.one ⟨.int .i64, y⟩], [], []⟩⟩
  | _, _ => none, []⟩
theorem s_s_l1Target : KnOk Try.prog k_s_l1Target := by
  intro args rows a h y hy
  simp only [k_s_l1Target] at h
  split at h
  · injection h with h
    subst h
    exact vfun_ok eok_s_l1Target Try.func114 rfl (by rw [v_s_l1Target]; simp only at hy; rw [hy]; rfl)
  · cases h
def J_s_GoodHistory : Joins := [(.r, ⟨[.bool], [(2, .one (.h 0))], [], [], [], []⟩)]
def ann_s_GoodHistory : Ann := .seq .nil (.seq (.seq (.reg [(.n, ⟨[.bool, .int .i64, .str, .sl false 144 (.pair (.int .i64) (.int .i64)), .sl false 93 (.sl false 55 (.pair (.int .i64) (.pair (.int .i64) .str)))], [(1, .pl 1 0), (35, .one (.h 0))], [(1, [.h 1, .h 2, .h 3, .h 4])], [], [], []⟩)]) .nil) (.seq .nil (.seq (.seq .nil (.block [] (.loop ⟨[.int .i64, .sl false 93 (.sl false 55 (.pair (.int .i64) (.pair (.int .i64) .str))), .int .i64, .int .i64], [(3, .one (.h 0)), (40, .one (.h 1)), (41, .one (.h 2)), (42, .one (.h 3))], [], [], [], []⟩ [(.x 0, ⟨[], [], [], [], [], []⟩), (.r, ⟨[.bool], [(2, .one (.h 0))], [], [], [], []⟩)] (.seq .nil (.seq .nil (.seq (.block [] (.seq .nil (.seq (.seq (.reg [(.n, ⟨[.sl false 93 (.sl false 55 (.pair (.int .i64) (.pair (.int .i64) .str))), .int .i64, .int .i64, .bool, .sl false 55 (.pair (.int .i64) (.pair (.int .i64) .str))], [(5, .pl 5 0), (40, .one (.h 0)), (41, .one (.h 1)), (42, .one (.h 2)), (56, .one (.h 3))], [(5, [.h 4])], [], [], []⟩)]) .nil) .nil))) .nil)))))) .nil)))
def env_s_GoodHistory : Env := envOf ti [k_s_l1In, k_s_GoodRuns, k_s_GoodChange, k_s_l1Source, k_s_l1Target] []
theorem eok_s_GoodHistory : EnvOk Try.prog env_s_GoodHistory := envOf_ok tab mix _ _ (by
  intro k hk
  simp only [List.mem_cons, List.not_mem_nil, or_false] at hk
  rcases hk with rfl | rfl | rfl | rfl | rfl
  · exact s_s_l1In
  · exact s_s_GoodRuns
  · exact s_s_GoodChange
  · exact s_s_l1Source
  · exact s_s_l1Target)
theorem v_s_GoodHistory (x0 : Int) (x1 : List UInt8) (x2 : List (Int × Int)) (x3 : List (List (Int × (Int × List UInt8)))) : (vfun env_s_GoodHistory Try.f158 J_s_GoodHistory ann_s_GoodHistory [] [.ag [⟨.int .i64, x0⟩, ⟨.str, x1⟩, ⟨.sl false 144 (.pair (.int .i64) (.int .i64)), x2⟩, ⟨.sl false 93 (.sl false 55 (.pair (.int .i64) (.pair (.int .i64) .str))), x3⟩]] []).run = (G.s_GoodHistory x0 x1 x2 x3).bind fun y => some (Res.mk [.one ⟨.bool, y⟩] [] []) := by kernel_rfl
def k_s_GoodHistory : Kn := ⟨158, [0], fun args rows => match args, rows with
  | [.ag [⟨.int .i64, x0⟩, ⟨.str, x1⟩, ⟨.sl false 144 (.pair (.int .i64) (.int .i64)), x2⟩, ⟨.sl false 93 (.sl false 55 (.pair (.int .i64) (.pair (.int .i64) .str))), x3⟩]], [] => some ⟨_, G.s_GoodHistory x0 x1 x2 x3, fun y => ⟨[.one ⟨.bool, y⟩], [], []⟩⟩
  | _, _ => none, []⟩
theorem s_s_GoodHistory : KnOk Try.prog k_s_GoodHistory := by
  intro args rows a h y hy
  simp only [k_s_GoodHistory] at h
  split at h
  · injection h with h
    subst h
    exact vfun_ok eok_s_GoodHistory Try.func158 rfl (by rw [v_s_GoodHistory]; simp only at hy; rw [hy]; rfl)
  · cases h
def J_s_l10Head : Joins := [(.r, ⟨[.int .i64], [(2, .one (.h 0))], [], [], [], []⟩)]
def ann_s_l10Head : Ann := .nil
def env_s_l10Head : Env := envOf ti [] []
theorem eok_s_l10Head : EnvOk Try.prog env_s_l10Head := envOf_ok tab mix _ _ (by
  intro k hk; cases hk)
theorem v_s_l10Head (x0 : Int) (x1 : List UInt8) (x2 : List (Int × Int)) (x3 : List (List (Int × (Int × List UInt8)))) : (vfun env_s_l10Head Try.f151 J_s_l10Head ann_s_l10Head [] [.ag [⟨.int .i64, x0⟩, ⟨.str, x1⟩, ⟨.sl false 144 (.pair (.int .i64) (.int .i64)), x2⟩, ⟨.sl false 93 (.sl false 55 (.pair (.int .i64) (.pair (.int .i64) .str))), x3⟩]] []).run = (G.s_l10Head x0 x1 x2 x3).bind fun y => some (Res.mk [.one ⟨.int .i64, y⟩] [] []) := by kernel_rfl
def k_s_l10Head : Kn := ⟨151, [0], fun args rows => match args, rows with
  | [.ag [⟨.int .i64, x0⟩, ⟨.str, x1⟩, ⟨.sl false 144 (.pair (.int .i64) (.int .i64)), x2⟩, ⟨.sl false 93 (.sl false 55 (.pair (.int .i64) (.pair (.int .i64) .str))), x3⟩]], [] => some ⟨_, G.s_l10Head x0 x1 x2 x3, fun y => ⟨[.one ⟨.int .i64, y⟩], [], []⟩⟩
  | _, _ => none, []⟩
theorem s_s_l10Head : KnOk Try.prog k_s_l10Head := by
  intro args rows a h y hy
  simp only [k_s_l10Head] at h
  split at h
  · injection h with h
    subst h
    exact vfun_ok eok_s_l10Head Try.func151 rfl (by rw [v_s_l10Head]; simp only at hy; rw [hy]; rfl)
  · cases h
def J_s_l10Range : Joins := [(.r, ⟨[.int .i64], [(6, .one (.h 0))], [], [], [], []⟩)]
def ann_s_l10Range : Ann := .seq .nil (.seq (.block [] (.seq .nil (.cond [] .nil (.seq (.reg [(.n, ⟨[.bool], [(11, .one (.h 0))], [], [], [], []⟩)]) .nil)))) .nil)
def env_s_l10Range : Env := envOf ti [k_s_GoodHistory, k_s_l1In, k_s_l10Head] []
theorem eok_s_l10Range : EnvOk Try.prog env_s_l10Range := envOf_ok tab mix _ _ (by
  intro k hk
  simp only [List.mem_cons, List.not_mem_nil, or_false] at hk
  rcases hk with rfl | rfl | rfl
  · exact s_s_GoodHistory
  · exact s_s_l1In
  · exact s_s_l10Head)
theorem v_s_l10Range (x0 : Int) (x1 : List UInt8) (x2 : List (Int × Int)) (x3 : List (List (Int × (Int × List UInt8)))) (x4 : Int) (x5 : Int) : (vfun env_s_l10Range Try.f121 J_s_l10Range ann_s_l10Range [] [.ag [⟨.int .i64, x0⟩, ⟨.str, x1⟩, ⟨.sl false 144 (.pair (.int .i64) (.int .i64)), x2⟩, ⟨.sl false 93 (.sl false 55 (.pair (.int .i64) (.pair (.int .i64) .str))), x3⟩], .one ⟨.int .i64, x4⟩, .one ⟨.int .i64, x5⟩] []).run = (G.s_l10Range x0 x1 x2 x3 x4 x5).bind fun y => some (Res.mk [.one ⟨.int .i64, y⟩] [] []) := by kernel_rfl
def k_s_l10Range : Kn := ⟨121, [0, 0, 0], fun args rows => match args, rows with
  | [.ag [⟨.int .i64, x0⟩, ⟨.str, x1⟩, ⟨.sl false 144 (.pair (.int .i64) (.int .i64)), x2⟩, ⟨.sl false 93 (.sl false 55 (.pair (.int .i64) (.pair (.int .i64) .str))), x3⟩], .one ⟨.int .i64, x4⟩, .one ⟨.int .i64, x5⟩], [] => some ⟨_, G.s_l10Range x0 x1 x2 x3 x4 x5, fun y => ⟨[.one ⟨.int .i64, y⟩], [], []⟩⟩
  | _, _ => none, []⟩
theorem s_s_l10Range : KnOk Try.prog k_s_l10Range := by
  intro args rows a h y hy
  simp only [k_s_l10Range] at h
  split at h
  · injection h with h
    subst h
    exact vfun_ok eok_s_l10Range Try.func121 rfl (by rw [v_s_l10Range]; simp only at hy; rw [hy]; rfl)
  · cases h
def J_s_ApplyChange : Joins := [(.r, ⟨[.str, .bool], [(4, .one (.h 0)), (5, .one (.h 1))], [], [], [], []⟩)]
def ann_s_ApplyChange : Ann := .seq .nil (.seq (.seq (.reg [(.n, ⟨[.str, .sl false 55 (.pair (.int .i64) (.pair (.int .i64) .str)), .bool], [(0, .one (.h 0)), (1, .one (.h 1)), (19, .one (.h 2))], [], [], [], []⟩)]) .nil) (.seq .nil (.seq .nil (.seq (.seq .nil (.block [] (.loop ⟨[.str, .str, .int .i64, .sl false 55 (.pair (.int .i64) (.pair (.int .i64) .str)), .int .i64, .int .i64], [(0, .one (.h 0)), (6, .one (.h 1)), (7, .one (.h 2)), (20, .one (.h 3)), (21, .one (.h 4)), (22, .one (.h 5))], [], [], [], []⟩ [(.x 0, ⟨[.str], [(6, .one (.h 0))], [], [], [], []⟩)] .nil))) .nil))))
def env_s_ApplyChange : Env := envOf ti [k_s_GoodChange, k_s_l1Source] []
theorem eok_s_ApplyChange : EnvOk Try.prog env_s_ApplyChange := envOf_ok tab mix _ _ (by
  intro k hk
  simp only [List.mem_cons, List.not_mem_nil, or_false] at hk
  rcases hk with rfl | rfl
  · exact s_s_GoodChange
  · exact s_s_l1Source)
theorem v_s_ApplyChange (x0 : List UInt8) (x1 : List (Int × (Int × List UInt8))) : (vfun env_s_ApplyChange Try.f202 J_s_ApplyChange ann_s_ApplyChange [] [.one ⟨.str, x0⟩, .one ⟨.sl false 55 (.pair (.int .i64) (.pair (.int .i64) .str)), x1⟩] []).run = (G.s_ApplyChange x0 x1).bind fun y => some (Res.mk [.one ⟨.str, y.1⟩, .one ⟨.bool, y.2⟩] [] []) := by kernel_rfl
def k_s_ApplyChange : Kn := ⟨202, [0, 0], fun args rows => match args, rows with
  | [.one ⟨.str, x0⟩, .one ⟨.sl false 55 (.pair (.int .i64) (.pair (.int .i64) .str)), x1⟩], [] => some ⟨_, G.s_ApplyChange x0 x1, fun y => ⟨[.one ⟨.str, y.1⟩, .one ⟨.bool, y.2⟩], [], []⟩⟩
  | _, _ => none, []⟩
theorem s_s_ApplyChange : KnOk Try.prog k_s_ApplyChange := by
  intro args rows a h y hy
  simp only [k_s_ApplyChange] at h
  split at h
  · injection h with h
    subst h
    exact vfun_ok eok_s_ApplyChange Try.func202 rfl (by rw [v_s_ApplyChange]; simp only at hy; rw [hy]; rfl)
  · cases h
def J_s_l10Text : Joins := [(.r, ⟨[.str], [(4, .one (.h 0))], [], [], [], []⟩)]
def ann_s_l10Text : Ann := .seq .nil (.seq .nil (.seq (.seq .nil (.block [] (.loop ⟨[.str, .sl false 93 (.sl false 55 (.pair (.int .i64) (.pair (.int .i64) .str))), .int .i64, .int .i64], [(5, .one (.h 0)), (16, .one (.h 1)), (17, .one (.h 2)), (18, .one (.h 3))], [], [], [], []⟩ [(.x 0, ⟨[.str], [(5, .one (.h 0))], [], [], [], []⟩)] .nil))) .nil))
def env_s_l10Text : Env := envOf ti [k_s_ApplyChange] []
theorem eok_s_l10Text : EnvOk Try.prog env_s_l10Text := envOf_ok tab mix _ _ (by
  intro k hk
  simp only [List.mem_cons, List.not_mem_nil, or_false] at hk
  rcases hk with rfl
  · exact s_s_ApplyChange)
theorem v_s_l10Text (x0 : Int) (x1 : List UInt8) (x2 : List (Int × Int)) (x3 : List (List (Int × (Int × List UInt8)))) (x4 : Int) : (vfun env_s_l10Text Try.f130 J_s_l10Text ann_s_l10Text [] [.ag [⟨.int .i64, x0⟩, ⟨.str, x1⟩, ⟨.sl false 144 (.pair (.int .i64) (.int .i64)), x2⟩, ⟨.sl false 93 (.sl false 55 (.pair (.int .i64) (.pair (.int .i64) .str))), x3⟩], .one ⟨.int .i64, x4⟩] []).run = (G.s_l10Text x0 x1 x2 x3 x4).bind fun y => some (Res.mk [.one ⟨.str, y⟩] [] []) := by kernel_rfl
def k_s_l10Text : Kn := ⟨130, [0, 0], fun args rows => match args, rows with
  | [.ag [⟨.int .i64, x0⟩, ⟨.str, x1⟩, ⟨.sl false 144 (.pair (.int .i64) (.int .i64)), x2⟩, ⟨.sl false 93 (.sl false 55 (.pair (.int .i64) (.pair (.int .i64) .str))), x3⟩], .one ⟨.int .i64, x4⟩], [] => some ⟨_, G.s_l10Text x0 x1 x2 x3 x4, fun y => ⟨[.one ⟨.str, y⟩], [], []⟩⟩
  | _, _ => none, []⟩
theorem s_s_l10Text : KnOk Try.prog k_s_l10Text := by
  intro args rows a h y hy
  simp only [k_s_l10Text] at h
  split at h
  · injection h with h
    subst h
    exact vfun_ok eok_s_l10Text Try.func130 rfl (by rw [v_s_l10Text]; simp only at hy; rw [hy]; rfl)
  · cases h
end
end Go.Proofs.Ytcfbfpipfalieaa

set_option linter.unusedVariables false
set_option maxRecDepth 100000
namespace Go.Proofs.Ytcfbfpipfalieaa
open Go.V
noncomputable section
def J_s_l9Each : Joins := [(.r, ⟨[.sl true 3 (.int .i64)], [(2, .one (.vw 129154))], [], [(129154, 0)], [], []⟩)]
def ann_s_l9Each : Ann := .seq .nil (.seq .nil (.seq (.seq .nil (.block [] (.loop ⟨[.sl true 3 (.int .i64), .sl false 144 (.pair (.int .i64) (.int .i64)), .int .i64, .int .i64], [(3, .one (.vw 129024)), (7, .one (.h 1)), (8, .one (.h 2)), (9, .one (.h 3))], [], [(129024, 0)], [], []⟩ [(.x 0, ⟨[.sl true 3 (.int .i64)], [(3, .one (.vw 129153))], [], [(129153, 0)], [], []⟩)] (.seq .nil (.seq .nil (.seq (.block [] (.seq .nil (.seq .nil (.block [] (.loop ⟨[.sl true 3 (.int .i64), .int .i64, .sl false 144 (.pair (.int .i64) (.int .i64)), .int .i64, .int .i64, .int .i64, .int .i64], [(3, .one (.vw 129088)), (5, .pl 5 0), (6, .one (.h 1)), (7, .one (.h 2)), (8, .one (.h 3)), (9, .one (.h 4))], [(5, [.h 5, .h 6])], [(129088, 0)], [], []⟩ [(.x 2, ⟨[.sl true 3 (.int .i64), .sl false 144 (.pair (.int .i64) (.int .i64)), .int .i64, .int .i64], [(3, .one (.vw 129152)), (7, .one (.h 1)), (8, .one (.h 2)), (9, .one (.h 3))], [], [(129152, 0)], [], []⟩)] .nil))))) .nil)))))) .nil))
def env_s_l9Each : Env := envOf ti [] []
theorem eok_s_l9Each : EnvOk Try.prog env_s_l9Each := envOf_ok tab mix _ _ (by
  intro k hk; cases hk)
theorem v_s_l9Each (x0 : List (Int × Int)) : (vfun env_s_l9Each Try.f195 J_s_l9Each ann_s_l9Each [] [.one ⟨.sl false 144 (.pair (.int .i64) (.int .i64)), x0⟩] []).run = (G.s_l9Each x0).bind fun y => some (Res.mk [.one ⟨.sl true 3 (.int .i64), y⟩] [] []) := by kernel_rfl
def k_s_l9Each : Kn := ⟨195, [0], fun args rows => match args, rows with
  | [.one ⟨.sl false 144 (.pair (.int .i64) (.int .i64)), x0⟩], [] => some ⟨_, G.s_l9Each x0, fun y => ⟨[.one ⟨.sl true 3 (.int .i64), y⟩], [], []⟩⟩
  | _, _ => none, []⟩
theorem s_s_l9Each : KnOk Try.prog k_s_l9Each := by
  intro args rows a h y hy
  simp only [k_s_l9Each] at h
  split at h
  · injection h with h
    subst h
    exact vfun_ok eok_s_l9Each Try.func195 rfl (by rw [v_s_l9Each]; simp only at hy; rw [hy]; rfl)
  · cases h
def J_s_l9Add : Joins := [(.r, ⟨[.sl true 144 (.pair (.int .i64) (.int .i64))], [(4, .one (.vw 144385))], [], [(144385, 0)], [], []⟩)]
def ann_s_l9Add : Ann := .seq .nil (.seq .nil (.seq (.seq .nil (.seq (.reg [(.n, ⟨[.sl true 144 (.pair (.int .i64) (.int .i64)), .int .i64, .bool, .int .i64, .int .i64], [(0, .one (.vw 144384)), (3, .pl 3 0), (5, .one (.h 1)), (24, .one (.h 2))], [(3, [.h 3, .h 4])], [(144384, 0)], [], []⟩)]) .nil)) .nil))
def env_s_l9Add : Env := envOf ti [] []
theorem eok_s_l9Add : EnvOk Try.prog env_s_l9Add := envOf_ok tab mix _ _ (by
  intro k hk; cases hk)
theorem v_s_l9Add (x0 : List (Int × Int)) (x1 : Int) (x2 : Int) : (vfun env_s_l9Add Try.f190 J_s_l9Add ann_s_l9Add [] [.one ⟨.sl true 144 (.pair (.int .i64) (.int .i64)), x0⟩, .ag [⟨.int .i64, x1⟩, ⟨.int .i64, x2⟩]] []).run = (G.s_l9Add x0 x1 x2).bind fun y => some (Res.mk [.one ⟨.sl true 144 (.pair (.int .i64) (.int .i64)), y⟩] [] []) := by kernel_rfl
def k_s_l9Add : Kn := ⟨190, [1, 0], fun args rows => match args, rows with
  | [.one ⟨.sl true 144 (.pair (.int .i64) (.int .i64)), x0⟩, .ag [⟨.int .i64, x1⟩, ⟨.int .i64, x2⟩]], [] => some ⟨_, G.s_l9Add x0 x1 x2, fun y => ⟨[.one ⟨.sl true 144 (.pair (.int .i64) (.int .i64)), y⟩], [], []⟩⟩
  | _, _ => none, []⟩
theorem s_s_l9Add : KnOk Try.prog k_s_l9Add := by
  intro args rows a h y hy
  simp only [k_s_l9Add] at h
  split at h
  · injection h with h
    subst h
    exact vfun_ok eok_s_l9Add Try.func190 rfl (by rw [v_s_l9Add]; simp only at hy; rw [hy]; rfl)
  · cases h
def J_s_l9Carry : Joins := [(.r, ⟨[.sl true 144 (.pair (.int .i64) (.int .i64))], [(6, .one (.vw 155779))], [], [(155779, 0)], [], []⟩)]
def ann_s_l9Carry : Ann := .seq .nil (.seq .nil (.seq .nil (.seq .nil (.seq (.seq .nil (.block [] (.loop ⟨[.int .i64, .sl true 3 (.int .i64), .sl true 144 (.pair (.int .i64) (.int .i64)), .int .i64, .sl false 55 (.pair (.int .i64) (.pair (.int .i64) .str)), .int .i64, .int .i64], [(2, .one (.h 0)), (7, .one (.vw 155648)), (8, .one (.vw 155649)), (9, .one (.h 3)), (15, .one (.h 4)), (16, .one (.h 5)), (17, .one (.h 6))], [], [(155648, 1), (155649, 2)], [], []⟩ [(.x 0, ⟨[.sl true 144 (.pair (.int .i64) (.int .i64))], [(8, .one (.vw 155778))], [], [(155778, 0)], [], []⟩)] (.seq .nil (.seq .nil (.seq (.block [] (.seq .nil (.seq (.seq .nil (.block [] (.loop ⟨[.int .i64, .sl true 3 (.int .i64), .sl true 144 (.pair (.int .i64) (.int .i64)), .int .i64, .int .i64, .sl false 55 (.pair (.int .i64) (.pair (.int .i64) .str)), .int .i64, .int .i64, .int .i64, .int .i64, .str], [(2, .one (.h 0)), (7, .one (.vw 155712)), (8, .one (.vw 155713)), (9, .one (.h 3)), (11, .pl 11 0), (12, .one (.h 4)), (15, .one (.h 5)), (16, .one (.h 6)), (17, .one (.h 7))], [(11, [.h 8, .h 9, .h 10])], [(155712, 1), (155713, 2)], [], []⟩ [(.x 2, ⟨[.int .i64, .sl true 3 (.int .i64), .sl true 144 (.pair (.int .i64) (.int .i64)), .int .i64, .sl false 55 (.pair (.int .i64) (.pair (.int .i64) .str)), .int .i64, .int .i64, .int .i64, .int .i64, .str], [(2, .one (.h 0)), (7, .one (.vw 155776)), (8, .one (.vw 155777)), (9, .one (.h 3)), (11, .pl 11 0), (15, .one (.h 4)), (16, .one (.h 5)), (17, .one (.h 6))], [(11, [.h 7, .h 8, .h 9])], [(155776, 1), (155777, 2)], [], []⟩)] .nil))) .nil))) .nil)))))) .nil))))
def env_s_l9Carry : Env := envOf ti [k_s_l9Each, k_s_l9Add] []
theorem eok_s_l9Carry : EnvOk Try.prog env_s_l9Carry := envOf_ok tab mix _ _ (by
  intro k hk
  simp only [List.mem_cons, List.not_mem_nil, or_false] at hk
  rcases hk with rfl | rfl
  · exact s_s_l9Each
  · exact s_s_l9Add)
theorem v_s_l9Carry (x0 : List (Int × Int)) (x1 : List (Int × (Int × List UInt8))) (x2 : Int) : (vfun env_s_l9Carry Try.f113 J_s_l9Carry ann_s_l9Carry [] [.one ⟨.sl false 144 (.pair (.int .i64) (.int .i64)), x0⟩, .one ⟨.sl false 55 (.pair (.int .i64) (.pair (.int .i64) .str)), x1⟩, .one ⟨.int .i64, x2⟩] []).run = (G.s_l9Carry x0 x1 x2).bind fun y => some (Res.mk [.one ⟨.sl true 144 (.pair (.int .i64) (.int .i64)), y⟩] [] []) := by kernel_rfl
def k_s_l9Carry : Kn := ⟨113, [0, 0, 0], fun args rows => match args, rows with
  | [.one ⟨.sl false 144 (.pair (.int .i64) (.int .i64)), x0⟩, .one ⟨.sl false 55 (.pair (.int .i64) (.pair (.int .i64) .str)), x1⟩, .one ⟨.int .i64, x2⟩], [] => some ⟨_, G.s_l9Carry x0 x1 x2, fun y => ⟨[.one ⟨.sl true 144 (.pair (.int .i64) (.int .i64)), y⟩], [], []⟩⟩
  | _, _ => none, []⟩
theorem s_s_l9Carry : KnOk Try.prog k_s_l9Carry := by
  intro args rows a h y hy
  simp only [k_s_l9Carry] at h
  split at h
  · injection h with h
    subst h
    exact vfun_ok eok_s_l9Carry Try.func113 rfl (by rw [v_s_l9Carry]; simp only at hy; rw [hy]; rfl)
  · cases h
def J_s_l10Blame : Joins := [(.r, ⟨[.sl true 144 (.pair (.int .i64) (.int .i64))], [(4, .one (.vw 139329))], [], [(139329, 0)], [], []⟩)]
def ann_s_l10Blame : Ann := .seq .nil (.seq .nil (.seq (.seq .nil (.block [] (.loop ⟨[.sl true 144 (.pair (.int .i64) (.int .i64)), .sl false 93 (.sl false 55 (.pair (.int .i64) (.pair (.int .i64) .str))), .int .i64, .int .i64, .int .i64, .str, .sl false 144 (.pair (.int .i64) (.int .i64)), .sl false 93 (.sl false 55 (.pair (.int .i64) (.pair (.int .i64) .str)))], [(2, .pl 2 0), (5, .one (.vw 139264)), (18, .one (.h 1)), (19, .one (.h 2)), (20, .one (.h 3))], [(2, [.h 4, .h 5, .h 6, .h 7])], [(139264, 0)], [], []⟩ [(.x 0, ⟨[.sl true 144 (.pair (.int .i64) (.int .i64))], [(5, .one (.vw 139328))], [], [(139328, 0)], [], []⟩)] .nil))) .nil))
def env_s_l10Blame : Env := envOf ti [k_s_l9Carry] []
theorem eok_s_l10Blame : EnvOk Try.prog env_s_l10Blame := envOf_ok tab mix _ _ (by
  intro k hk
  simp only [List.mem_cons, List.not_mem_nil, or_false] at hk
  rcases hk with rfl
  · exact s_s_l9Carry)
theorem v_s_l10Blame (x0 : Int) (x1 : List UInt8) (x2 : List (Int × Int)) (x3 : List (List (Int × (Int × List UInt8)))) (x4 : Int) : (vfun env_s_l10Blame Try.f122 J_s_l10Blame ann_s_l10Blame [] [.ag [⟨.int .i64, x0⟩, ⟨.str, x1⟩, ⟨.sl false 144 (.pair (.int .i64) (.int .i64)), x2⟩, ⟨.sl false 93 (.sl false 55 (.pair (.int .i64) (.pair (.int .i64) .str))), x3⟩], .one ⟨.int .i64, x4⟩] []).run = (G.s_l10Blame x0 x1 x2 x3 x4).bind fun y => some (Res.mk [.one ⟨.sl true 144 (.pair (.int .i64) (.int .i64)), y⟩] [] []) := by kernel_rfl
def k_s_l10Blame : Kn := ⟨122, [0, 0], fun args rows => match args, rows with
  | [.ag [⟨.int .i64, x0⟩, ⟨.str, x1⟩, ⟨.sl false 144 (.pair (.int .i64) (.int .i64)), x2⟩, ⟨.sl false 93 (.sl false 55 (.pair (.int .i64) (.pair (.int .i64) .str))), x3⟩], .one ⟨.int .i64, x4⟩], [] => some ⟨_, G.s_l10Blame x0 x1 x2 x3 x4, fun y => ⟨[.one ⟨.sl true 144 (.pair (.int .i64) (.int .i64)), y⟩], [], []⟩⟩
  | _, _ => none, []⟩
theorem s_s_l10Blame : KnOk Try.prog k_s_l10Blame := by
  intro args rows a h y hy
  simp only [k_s_l10Blame] at h
  split at h
  · injection h with h
    subst h
    exact vfun_ok eok_s_l10Blame Try.func122 rfl (by rw [v_s_l10Blame]; simp only at hy; rw [hy]; rfl)
  · cases h
def J_s_l9Write : Joins := [(.r, ⟨[.sl true 5 (.int .u8)], [(2, .one (.vw 126017))], [], [(126017, 0)], [], []⟩)]
def ann_s_l9Write : Ann := .seq .nil (.seq .nil (.seq (.seq .nil (.block [] (.loop ⟨[.sl true 5 (.int .u8), .sl false 144 (.pair (.int .i64) (.int .i64)), .int .i64, .int .i64], [(3, .one (.vw 125952)), (6, .one (.h 1)), (7, .one (.h 2)), (8, .one (.h 3))], [], [(125952, 0)], [], []⟩ [(.x 0, ⟨[.sl true 5 (.int .u8)], [(3, .one (.vw 126016))], [], [(126016, 0)], [], []⟩)] .nil))) .nil))
def env_s_l9Write : Env := envOf ti [] []
theorem eok_s_l9Write : EnvOk Try.prog env_s_l9Write := envOf_ok tab mix _ _ (by
  intro k hk; cases hk)
theorem v_s_l9Write (x0 : List (Int × Int)) : (vfun env_s_l9Write Try.f142 J_s_l9Write ann_s_l9Write [] [.one ⟨.sl false 144 (.pair (.int .i64) (.int .i64)), x0⟩] []).run = (G.s_l9Write x0).bind fun y => some (Res.mk [.one ⟨.sl true 5 (.int .u8), y⟩] [] []) := by kernel_rfl
def k_s_l9Write : Kn := ⟨142, [0], fun args rows => match args, rows with
  | [.one ⟨.sl false 144 (.pair (.int .i64) (.int .i64)), x0⟩], [] => some ⟨_, G.s_l9Write x0, fun y => ⟨[.one ⟨.sl true 5 (.int .u8), y⟩], [], []⟩⟩
  | _, _ => none, []⟩
theorem s_s_l9Write : KnOk Try.prog k_s_l9Write := by
  intro args rows a h y hy
  simp only [k_s_l9Write] at h
  split at h
  · injection h with h
    subst h
    exact vfun_ok eok_s_l9Write Try.func142 rfl (by rw [v_s_l9Write]; simp only at hy; rw [hy]; rfl)
  · cases h
def J_s_l1Write : Joins := [(.r, ⟨[.sl true 5 (.int .u8)], [(2, .one (.vw 139329))], [], [(139329, 0)], [], []⟩)]
def ann_s_l1Write : Ann := .seq .nil (.seq .nil (.seq (.seq .nil (.block [] (.loop ⟨[.sl true 5 (.int .u8), .sl false 55 (.pair (.int .i64) (.pair (.int .i64) .str)), .int .i64, .int .i64], [(3, .one (.vw 139264)), (7, .one (.h 1)), (8, .one (.h 2)), (9, .one (.h 3))], [], [(139264, 0)], [], []⟩ [(.x 0, ⟨[.sl true 5 (.int .u8)], [(3, .one (.vw 139328))], [], [(139328, 0)], [], []⟩)] .nil))) .nil))
def env_s_l1Write : Env := envOf ti [k_s_l1Kind] []
theorem eok_s_l1Write : EnvOk Try.prog env_s_l1Write := envOf_ok tab mix _ _ (by
  intro k hk
  simp only [List.mem_cons, List.not_mem_nil, or_false] at hk
  rcases hk with rfl
  · exact s_s_l1Kind)
theorem v_s_l1Write (x0 : List (Int × (Int × List UInt8))) : (vfun env_s_l1Write Try.f143 J_s_l1Write ann_s_l1Write [] [.one ⟨.sl false 55 (.pair (.int .i64) (.pair (.int .i64) .str)), x0⟩] []).run = (G.s_l1Write x0).bind fun y => some (Res.mk [.one ⟨.sl true 5 (.int .u8), y⟩] [] []) := by kernel_rfl
def k_s_l1Write : Kn := ⟨143, [0], fun args rows => match args, rows with
  | [.one ⟨.sl false 55 (.pair (.int .i64) (.pair (.int .i64) .str)), x0⟩], [] => some ⟨_, G.s_l1Write x0, fun y => ⟨[.one ⟨.sl true 5 (.int .u8), y⟩], [], []⟩⟩
  | _, _ => none, []⟩
theorem s_s_l1Write : KnOk Try.prog k_s_l1Write := by
  intro args rows a h y hy
  simp only [k_s_l1Write] at h
  split at h
  · injection h with h
    subst h
    exact vfun_ok eok_s_l1Write Try.func143 rfl (by rw [v_s_l1Write]; simp only at hy; rw [hy]; rfl)
  · cases h
def J_s_DigestOf : Joins := [(.r, ⟨[.int .u32], [(2, .one (.h 0))], [], [], [], []⟩)]
def ann_s_DigestOf : Ann := .seq .nil (.seq .nil (.seq (.seq .nil (.block [] (.loop ⟨[.int .u64, .sl false 5 (.int .u8), .int .i64, .int .i64], [(3, .one (.h 0)), (6, .one (.h 1)), (7, .one (.h 2)), (8, .one (.h 3))], [], [], [], []⟩ [(.x 0, ⟨[.int .u64], [(3, .one (.h 0))], [], [], [], []⟩)] .nil))) .nil))
def env_s_DigestOf : Env := envOf ti [] []
theorem eok_s_DigestOf : EnvOk Try.prog env_s_DigestOf := envOf_ok tab mix _ _ (by
  intro k hk; cases hk)
theorem v_s_DigestOf (x0 : List Int) : (vfun env_s_DigestOf Try.f144 J_s_DigestOf ann_s_DigestOf [] [.one ⟨.sl false 5 (.int .u8), x0⟩] []).run = (G.s_DigestOf x0).bind fun y => some (Res.mk [.one ⟨.int .u32, y⟩] [] []) := by kernel_rfl
def k_s_DigestOf : Kn := ⟨144, [0], fun args rows => match args, rows with
  | [.one ⟨.sl false 5 (.int .u8), x0⟩], [] => some ⟨_, G.s_DigestOf x0, fun y => ⟨[.one ⟨.int .u32, y⟩], [], []⟩⟩
  | _, _ => none, []⟩
theorem s_s_DigestOf : KnOk Try.prog k_s_DigestOf := by
  intro args rows a h y hy
  simp only [k_s_DigestOf] at h
  split at h
  · injection h with h
    subst h
    exact vfun_ok eok_s_DigestOf Try.func144 rfl (by rw [v_s_DigestOf]; simp only at hy; rw [hy]; rfl)
  · cases h
def J_s_ExportRange : Joins := [(.r, ⟨[.sl true 5 (.int .u8), .int .i64], [(6, .one (.vw 212033)), (7, .one (.h 1))], [], [(212033, 0)], [], []⟩)]
def ann_s_ExportRange : Ann := .seq .nil (.seq .nil (.seq .nil (.seq .nil (.seq .nil (.seq .nil (.seq .nil (.seq .nil (.seq (.seq .nil (.block [] (.loop ⟨[.sl true 5 (.int .u8), .sl false 93 (.sl false 55 (.pair (.int .i64) (.pair (.int .i64) .str))), .int .i64, .int .i64], [(10, .one (.vw 211968)), (64, .one (.h 1)), (65, .one (.h 2)), (66, .one (.h 3))], [], [(211968, 0)], [], []⟩ [(.x 1, ⟨[.sl true 5 (.int .u8)], [(10, .one (.vw 212032))], [], [(212032, 0)], [], []⟩)] .nil))) .nil))))))))
def env_s_ExportRange : Env := envOf ti [k_s_l10Range, k_s_l10Text, k_s_l10Blame, k_s_l9Write, k_s_l1Write, k_s_DigestOf] []
theorem eok_s_ExportRange : EnvOk Try.prog env_s_ExportRange := envOf_ok tab mix _ _ (by
  intro k hk
  simp only [List.mem_cons, List.not_mem_nil, or_false] at hk
  rcases hk with rfl | rfl | rfl | rfl | rfl | rfl
  · exact s_s_l10Range
  · exact s_s_l10Text
  · exact s_s_l10Blame
  · exact s_s_l9Write
  · exact s_s_l1Write
  · exact s_s_DigestOf)
theorem v_s_ExportRange (x0 : Int) (x1 : List UInt8) (x2 : List (Int × Int)) (x3 : List (List (Int × (Int × List UInt8)))) (x4 : Int) (x5 : Int) : (vfun env_s_ExportRange Try.f57 J_s_ExportRange ann_s_ExportRange [] [.ag [⟨.int .i64, x0⟩, ⟨.str, x1⟩, ⟨.sl false 144 (.pair (.int .i64) (.int .i64)), x2⟩, ⟨.sl false 93 (.sl false 55 (.pair (.int .i64) (.pair (.int .i64) .str))), x3⟩], .one ⟨.int .i64, x4⟩, .one ⟨.int .i64, x5⟩] []).run = (G.s_ExportRange x0 x1 x2 x3 x4 x5).bind fun y => some (Res.mk [.one ⟨.sl true 5 (.int .u8), y.1⟩, .one ⟨.int .i64, y.2⟩] [] []) := by kernel_rfl
def k_s_ExportRange : Kn := ⟨57, [0, 0, 0], fun args rows => match args, rows with
  | [.ag [⟨.int .i64, x0⟩, ⟨.str, x1⟩, ⟨.sl false 144 (.pair (.int .i64) (.int .i64)), x2⟩, ⟨.sl false 93 (.sl false 55 (.pair (.int .i64) (.pair (.int .i64) .str))), x3⟩], .one ⟨.int .i64, x4⟩, .one ⟨.int .i64, x5⟩], [] => some ⟨_, G.s_ExportRange x0 x1 x2 x3 x4 x5, fun y => ⟨[.one ⟨.sl true 5 (.int .u8), y.1⟩, .one ⟨.int .i64, y.2⟩], [], []⟩⟩
  | _, _ => none, []⟩
theorem s_s_ExportRange : KnOk Try.prog k_s_ExportRange := by
  intro args rows a h y hy
  simp only [k_s_ExportRange] at h
  split at h
  · injection h with h
    subst h
    exact vfun_ok eok_s_ExportRange Try.func57 rfl (by rw [v_s_ExportRange]; simp only at hy; rw [hy]; rfl)
  · cases h
def J_i_within : Joins := [(.r, ⟨[.bool], [(6, .one (.h 0))], [], [], [], []⟩)]
def ann_i_within : Ann := .seq .nil (.seq (.reg [(.n, ⟨[.bool], [(6, .one (.h 0))], [], [], [], []⟩)]) .nil)
def env_i_within : Env := envOf ti [] []
theorem eok_i_within : EnvOk Try.prog env_i_within := envOf_ok tab mix _ _ (by
  intro k hk; cases hk)
theorem v_i_within (x0 : Int) (x1 : Int) (x2 : Int) : (vfun env_i_within Try.f96 J_i_within ann_i_within [] [.one ⟨.int .i64, x0⟩, .one ⟨.int .i64, x1⟩, .one ⟨.int .i64, x2⟩] []).run = (G.i_within x0 x1 x2).bind fun y => some (Res.mk [.one ⟨.bool, y⟩] [] []) := by kernel_rfl
def k_i_within : Kn := ⟨96, [0, 0, 0], fun args rows => match args, rows with
  | [.one ⟨.int .i64, x0⟩, .one ⟨.int .i64, x1⟩, .one ⟨.int .i64, x2⟩], [] => some ⟨_, G.i_within x0 x1 x2, fun y => ⟨[.one ⟨.bool, y⟩], [], []⟩⟩
  | _, _ => none, []⟩
theorem s_i_within : KnOk Try.prog k_i_within := by
  intro args rows a h y hy
  simp only [k_i_within] at h
  split at h
  · injection h with h
    subst h
    exact vfun_ok eok_i_within Try.func96 rfl (by rw [v_i_within]; simp only at hy; rw [hy]; rfl)
  · cases h
def J_i_GoodRuns : Joins := [(.r, ⟨[.bool], [(6, .one (.h 0))], [], [], [], []⟩)]
def ann_i_GoodRuns : Ann := .seq .nil (.seq (.seq (.reg [(.n, ⟨[.sl false 144 (.pair (.int .i64) (.int .i64)), .int .i64, .int .i64, .bool], [(0, .one (.h 0)), (1, .one (.h 1)), (2, .one (.h 2)), (17, .one (.h 3))], [], [], [], []⟩)]) .nil) (.seq .nil (.seq (.seq .nil (.block [] (.loop ⟨[.sl false 144 (.pair (.int .i64) (.int .i64)), .int .i64, .int .i64, .int .i64, .sl false 144 (.pair (.int .i64) (.int .i64)), .int .i64, .int .i64], [(0, .one (.h 0)), (1, .one (.h 1)), (2, .one (.h 2)), (7, .one (.h 3)), (18, .one (.h 4)), (19, .one (.h 5)), (20, .one (.h 6))], [], [], [], []⟩ [(.x 0, ⟨[.int .i64, .int .i64], [(1, .one (.h 0)), (7, .one (.h 1))], [], [], [], []⟩), (.r, ⟨[.bool], [(6, .one (.h 0))], [], [], [], []⟩)] (.seq .nil (.seq .nil (.seq (.block [] (.seq .nil (.seq (.seq (.reg [(.n, ⟨[.sl false 144 (.pair (.int .i64) (.int .i64)), .int .i64, .int .i64, .int .i64, .sl false 144 (.pair (.int .i64) (.int .i64)), .int .i64, .int .i64, .bool, .int .i64, .int .i64], [(0, .one (.h 0)), (1, .one (.h 1)), (2, .one (.h 2)), (7, .one (.h 3)), (9, .pl 9 0), (18, .one (.h 4)), (19, .one (.h 5)), (20, .one (.h 6)), (50, .one (.h 7))], [(9, [.h 8, .h 9])], [], [], []⟩)]) .nil) .nil))) .nil)))))) .nil)))
def env_i_GoodRuns : Env := envOf ti [k_i_within] []
theorem eok_i_GoodRuns : EnvOk Try.prog env_i_GoodRuns := envOf_ok tab mix _ _ (by
  intro k hk
  simp only [List.mem_cons, List.not_mem_nil, or_false] at hk
  rcases hk with rfl
  · exact s_i_within)
theorem v_i_GoodRuns (x0 : List (Int × Int)) (x1 : Int) (x2 : Int) : (vfun env_i_GoodRuns Try.f34 J_i_GoodRuns ann_i_GoodRuns [] [.one ⟨.sl false 144 (.pair (.int .i64) (.int .i64)), x0⟩, .one ⟨.int .i64, x1⟩, .one ⟨.int .i64, x2⟩] []).run = (G.i_GoodRuns x0 x1 x2).bind fun y => some (Res.mk [.one ⟨.bool, y⟩] [] []) := by kernel_rfl
def k_i_GoodRuns : Kn := ⟨34, [0, 0, 0], fun args rows => match args, rows with
  | [.one ⟨.sl false 144 (.pair (.int .i64) (.int .i64)), x0⟩, .one ⟨.int .i64, x1⟩, .one ⟨.int .i64, x2⟩], [] => some ⟨_, G.i_GoodRuns x0 x1 x2, fun y => ⟨[.one ⟨.bool, y⟩], [], []⟩⟩
  | _, _ => none, []⟩
theorem s_i_GoodRuns : KnOk Try.prog k_i_GoodRuns := by
  intro args rows a h y hy
  simp only [k_i_GoodRuns] at h
  split at h
  · injection h with h
    subst h
    exact vfun_ok eok_i_GoodRuns Try.func34 rfl (by rw [v_i_GoodRuns]; simp only at hy; rw [hy]; rfl)
  · cases h
def J_i_Part_kind : Joins := [(.r, ⟨[.int .i64], [(2, .one (.h 0))], [], [], [], []⟩)]
def ann_i_Part_kind : Ann := .seq .nil (.seq (.block [] (.seq (.reg [(.n, ⟨[.bool, .int .i64, .int .i64, .str], [(1, .pl 1 0), (3, .one (.h 0))], [(1, [.h 1, .h 2, .h 3])], [], [], []⟩)]) (.cond [] .nil (.seq (.reg [(.n, ⟨[.bool, .int .i64, .int .i64, .str], [(1, .pl 1 0), (17, .one (.h 0))], [(1, [.h 1, .h 2, .h 3])], [], [], []⟩)]) (.cond [] .nil (.seq (.reg [(.n, ⟨[.bool], [(31, .one (.h 0))], [], [], [], []⟩)]) .nil)))))) .nil)
def env_i_Part_kind : Env := envOf ti [] []
theorem eok_i_Part_kind : EnvOk Try.prog env_i_Part_kind := envOf_ok tab mix _ _ (by
  intro k hk; cases hk)
theorem v_i_Part_kind (x0 : Int) (x1 : Int) (x2 : List UInt8) : (vfun env_i_Part_kind Try.f225 J_i_Part_kind ann_i_Part_kind [] [.ag [⟨.int .i64, x0⟩, ⟨.int .i64, x1⟩, ⟨.str, x2⟩]] []).run = (G.i_Part_kind x0 x1 x2).bind fun y => some (Res.mk [.one ⟨.int .i64, y⟩] [] []) := by kernel_rfl
def k_i_Part_kind : Kn := ⟨225, [0], fun args rows => match args, rows with
  | [.ag [⟨.int .i64, x0⟩, ⟨.int .i64, x1⟩, ⟨.str, x2⟩]], [] => some ⟨_, G.i_Part_kind x0 x1 x2, fun y => ⟨[.one ⟨.int .i64, y⟩], [], []⟩⟩
  | _, _ => none, []⟩
theorem s_i_Part_kind : KnOk Try.prog k_i_Part_kind := by
  intro args rows a h y hy
  simp only [k_i_Part_kind] at h
  split at h
  · injection h with h
    subst h
    exact vfun_ok eok_i_Part_kind Try.func225 rfl (by rw [v_i_Part_kind]; simp only at hy; rw [hy]; rfl)
  · cases h
def J_i_lengths : Joins := [(.r, ⟨[.int .i64, .int .i64, .bool], [(2, .one (.h 0)), (3, .one (.h 1)), (4, .one (.h 2))], [], [], [], []⟩)]
def ann_i_lengths : Ann := .seq .nil (.seq .nil (.seq (.seq .nil (.block [] (.loop ⟨[.int .i64, .int .i64, .sl false 55 (.pair (.int .i64) (.pair (.int .i64) .str)), .int .i64, .int .i64], [(5, .one (.h 0)), (6, .one (.h 1)), (9, .one (.h 2)), (10, .one (.h 3)), (11, .one (.h 4))], [], [], [], []⟩ [(.x 0, ⟨[.int .i64, .int .i64], [(5, .one (.h 0)), (6, .one (.h 1))], [], [], [], []⟩), (.r, ⟨[.int .i64, .int .i64, .bool], [(2, .one (.h 0)), (3, .one (.h 1)), (4, .one (.h 2))], [], [], [], []⟩)] (.seq .nil (.seq .nil (.seq (.block [] (.seq .nil (.seq (.seq (.reg [(.n, ⟨[.int .i64, .int .i64, .sl false 55 (.pair (.int .i64) (.pair (.int .i64) .str)), .int .i64, .int .i64, .bool, .int .i64, .int .i64, .str], [(5, .one (.h 0)), (6, .one (.h 1)), (8, .pl 8 0), (9, .one (.h 2)), (10, .one (.h 3)), (11, .one (.h 4)), (22, .one (.h 5))], [(8, [.h 6, .h 7, .h 8])], [], [], []⟩)]) .nil) (.seq .nil (.seq .nil (.seq (.reg [(.n, ⟨[.int .i64, .int .i64, .sl false 55 (.pair (.int .i64) (.pair (.int .i64) .str)), .int .i64, .int .i64, .bool], [(5, .one (.h 0)), (6, .one (.h 1)), (9, .one (.h 2)), (10, .one (.h 3)), (11, .one (.h 4)), (43, .one (.h 5))], [], [], [], []⟩)]) .nil)))))) .nil)))))) .nil))
def env_i_lengths : Env := envOf ti [] []
theorem eok_i_lengths : EnvOk Try.prog env_i_lengths := envOf_ok tab mix _ _ (by
  intro k hk; cases hk)
theorem v_i_lengths (x0 : List (Int × (Int × List UInt8))) : (vfun env_i_lengths Try.f192 J_i_lengths ann_i_lengths [] [.one ⟨.sl false 55 (.pair (.int .i64) (.pair (.int .i64) .str)), x0⟩] []).run = (G.i_lengths x0).bind fun y => some (Res.mk [.one ⟨.int .i64, y.1⟩, .one ⟨.int .i64, y.2.1⟩, .one ⟨.bool, y.2.2⟩] [] []) := by kernel_rfl
def k_i_lengths : Kn := ⟨192, [0], fun args rows => match args, rows with
  | [.one ⟨.sl false 55 (.pair (.int .i64) (.pair (.int .i64) .str)), x0⟩], [] => some ⟨_, G.i_lengths x0, fun y => ⟨[.one ⟨.int .i64, y.1⟩, .one ⟨.int .i64, y.2.1⟩, .one ⟨.bool, y.2.2⟩], [], []⟩⟩
  | _, _ => none, []⟩
theorem s_i_lengths : KnOk Try.prog k_i_lengths := by
  intro args rows a h y hy
  simp only [k_i_lengths] at h
  split at h
  · injection h with h
    subst h
    exact vfun_ok eok_i_lengths Try.func192 rfl (by rw [v_i_lengths]; simp only at hy; rw [hy]; rfl)
  · cases h
end
end Go.Proofs.Ytcfbfpipfalieaa

set_option linter.unusedVariables false
set_option maxRecDepth 100000
namespace Go.Proofs.Ytcfbfpipfalieaa
open Go.V
noncomputable section
def J_i_GoodChange : Joins := [(.r, ⟨[.bool], [(2, .one (.h 0))], [], [], [], []⟩)]
def ann_i_GoodChange : Ann := .seq .nil (.seq (.seq .nil (.block [] (.loop ⟨[.sl false 55 (.pair (.int .i64) (.pair (.int .i64) .str)), .sl false 55 (.pair (.int .i64) (.pair (.int .i64) .str)), .int .i64, .int .i64], [(0, .one (.h 0)), (9, .one (.h 1)), (10, .one (.h 2)), (11, .one (.h 3))], [], [], [], []⟩ [(.x 0, ⟨[.sl false 55 (.pair (.int .i64) (.pair (.int .i64) .str))], [(0, .one (.h 0))], [], [], [], []⟩), (.r, ⟨[.bool], [(2, .one (.h 0))], [], [], [], []⟩)] (.seq .nil (.seq .nil (.seq (.block [] (.seq .nil (.seq .nil (.seq (.reg [(.n, ⟨[.sl false 55 (.pair (.int .i64) (.pair (.int .i64) .str)), .sl false 55 (.pair (.int .i64) (.pair (.int .i64) .str)), .int .i64, .int .i64, .bool], [(0, .one (.h 0)), (9, .one (.h 1)), (10, .one (.h 2)), (11, .one (.h 3)), (33, .one (.h 4))], [], [], [], []⟩)]) .nil)))) .nil)))))) .nil)
def env_i_GoodChange : Env := envOf ti [k_i_Part_kind, k_i_lengths] []
theorem eok_i_GoodChange : EnvOk Try.prog env_i_GoodChange := envOf_ok tab mix _ _ (by
  intro k hk
  simp only [List.mem_cons, List.not_mem_nil, or_false] at hk
  rcases hk with rfl | rfl
  · exact s_i_Part_kind
  · exact s_i_lengths)
theorem v_i_GoodChange (x0 : List (Int × (Int × List UInt8))) : (vfun env_i_GoodChange Try.f191 J_i_GoodChange ann_i_GoodChange [] [.one ⟨.sl false 55 (.pair (.int .i64) (.pair (.int .i64) .str)), x0⟩] []).run = (G.i_GoodChange x0).bind fun y => some (Res.mk [.one ⟨.bool, y⟩] [] []) := by kernel_rfl
def k_i_GoodChange : Kn := ⟨191, [0], fun args rows => match args, rows with
  | [.one ⟨.sl false 55 (.pair (.int .i64) (.pair (.int .i64) .str)), x0⟩], [] => some ⟨_, G.i_GoodChange x0, fun y => ⟨[.one ⟨.bool, y⟩], [], []⟩⟩
  | _, _ => none, []⟩
theorem s_i_GoodChange : KnOk Try.prog k_i_GoodChange := by
  intro args rows a h y hy
  simp only [k_i_GoodChange] at h
  split at h
  · injection h with h
    subst h
    exact vfun_ok eok_i_GoodChange Try.func191 rfl (by rw [v_i_GoodChange]; simp only at hy; rw [hy]; rfl)
  · cases h
def J_i_LengthsOf : Joins := [(.r, ⟨[.int .i64, .int .i64, .bool], [(2, .one (.h 0)), (3, .one (.h 1)), (4, .one (.h 2))], [], [], [], []⟩)]
def ann_i_LengthsOf : Ann := .nil
def env_i_LengthsOf : Env := envOf ti [k_i_GoodChange, k_i_lengths] []
theorem eok_i_LengthsOf : EnvOk Try.prog env_i_LengthsOf := envOf_ok tab mix _ _ (by
  intro k hk
  simp only [List.mem_cons, List.not_mem_nil, or_false] at hk
  rcases hk with rfl | rfl
  · exact s_i_GoodChange
  · exact s_i_lengths)
theorem v_i_LengthsOf (x0 : List (Int × (Int × List UInt8))) : (vfun env_i_LengthsOf Try.f108 J_i_LengthsOf ann_i_LengthsOf [] [.one ⟨.sl false 55 (.pair (.int .i64) (.pair (.int .i64) .str)), x0⟩] []).run = (G.i_LengthsOf x0).bind fun y => some (Res.mk [.one ⟨.int .i64, y.1⟩, .one ⟨.int .i64, y.2.1⟩, .one ⟨.bool, y.2.2⟩] [] []) := by kernel_rfl
def k_i_LengthsOf : Kn := ⟨108, [0], fun args rows => match args, rows with
  | [.one ⟨.sl false 55 (.pair (.int .i64) (.pair (.int .i64) .str)), x0⟩], [] => some ⟨_, G.i_LengthsOf x0, fun y => ⟨[.one ⟨.int .i64, y.1⟩, .one ⟨.int .i64, y.2.1⟩, .one ⟨.bool, y.2.2⟩], [], []⟩⟩
  | _, _ => none, []⟩
theorem s_i_LengthsOf : KnOk Try.prog k_i_LengthsOf := by
  intro args rows a h y hy
  simp only [k_i_LengthsOf] at h
  split at h
  · injection h with h
    subst h
    exact vfun_ok eok_i_LengthsOf Try.func108 rfl (by rw [v_i_LengthsOf]; simp only at hy; rw [hy]; rfl)
  · cases h
def J_i_chained : Joins := [(.r, ⟨[.bool], [(4, .one (.h 0))], [], [], [], []⟩)]
def ann_i_chained : Ann := .seq .nil (.seq (.seq .nil (.block [] (.loop ⟨[.int .i64, .sl false 93 (.sl false 55 (.pair (.int .i64) (.pair (.int .i64) .str))), .int .i64, .int .i64], [(0, .one (.h 0)), (10, .one (.h 1)), (11, .one (.h 2)), (12, .one (.h 3))], [], [], [], []⟩ [(.x 0, ⟨[], [], [], [], [], []⟩), (.r, ⟨[.bool], [(4, .one (.h 0))], [], [], [], []⟩)] (.seq .nil (.seq .nil (.seq (.block [] (.seq .nil (.seq .nil (.seq (.seq (.reg [(.n, ⟨[.int .i64, .sl false 93 (.sl false 55 (.pair (.int .i64) (.pair (.int .i64) .str))), .int .i64, .int .i64, .bool], [(8, .one (.h 0)), (10, .one (.h 1)), (11, .one (.h 2)), (12, .one (.h 3)), (29, .one (.h 4))], [], [], [], []⟩)]) .nil) .nil)))) .nil)))))) .nil)
def env_i_chained : Env := envOf ti [k_i_LengthsOf] []
theorem eok_i_chained : EnvOk Try.prog env_i_chained := envOf_ok tab mix _ _ (by
  intro k hk
  simp only [List.mem_cons, List.not_mem_nil, or_false] at hk
  rcases hk with rfl
  · exact s_i_LengthsOf)
theorem v_i_chained (x0 : Int) (x1 : List (List (Int × (Int × List UInt8)))) : (vfun env_i_chained Try.f219 J_i_chained ann_i_chained [] [.one ⟨.int .i64, x0⟩, .one ⟨.sl false 93 (.sl false 55 (.pair (.int .i64) (.pair (.int .i64) .str))), x1⟩] []).run = (G.i_chained x0 x1).bind fun y => some (Res.mk [.one ⟨.bool, y⟩] [] []) := by kernel_rfl
def k_i_chained : Kn := ⟨219, [0, 0], fun args rows => match args, rows with
  | [.one ⟨.int .i64, x0⟩, .one ⟨.sl false 93 (.sl false 55 (.pair (.int .i64) (.pair (.int .i64) .str))), x1⟩], [] => some ⟨_, G.i_chained x0 x1, fun y => ⟨[.one ⟨.bool, y⟩], [], []⟩⟩
  | _, _ => none, []⟩
theorem s_i_chained : KnOk Try.prog k_i_chained := by
  intro args rows a h y hy
  simp only [k_i_chained] at h
  split at h
  · injection h with h
    subst h
    exact vfun_ok eok_i_chained Try.func219 rfl (by rw [v_i_chained]; simp only at hy; rw [hy]; rfl)
  · cases h
def J_i_GoodHistory : Joins := [(.r, ⟨[.bool], [(2, .one (.h 0))], [], [], [], []⟩)]
def ann_i_GoodHistory : Ann := .seq .nil (.seq (.reg [(.n, ⟨[.bool], [(2, .one (.h 0))], [], [], [], []⟩)]) .nil)
def env_i_GoodHistory : Env := envOf ti [k_i_within, k_i_GoodRuns, k_i_chained] []
theorem eok_i_GoodHistory : EnvOk Try.prog env_i_GoodHistory := envOf_ok tab mix _ _ (by
  intro k hk
  simp only [List.mem_cons, List.not_mem_nil, or_false] at hk
  rcases hk with rfl | rfl | rfl
  · exact s_i_within
  · exact s_i_GoodRuns
  · exact s_i_chained)
theorem v_i_GoodHistory (x0 : Int) (x1 : List UInt8) (x2 : List (Int × Int)) (x3 : List (List (Int × (Int × List UInt8)))) : (vfun env_i_GoodHistory Try.f173 J_i_GoodHistory ann_i_GoodHistory [] [.ag [⟨.int .i64, x0⟩, ⟨.str, x1⟩, ⟨.sl false 144 (.pair (.int .i64) (.int .i64)), x2⟩, ⟨.sl false 93 (.sl false 55 (.pair (.int .i64) (.pair (.int .i64) .str))), x3⟩]] []).run = (G.i_GoodHistory x0 x1 x2 x3).bind fun y => some (Res.mk [.one ⟨.bool, y⟩] [] []) := by kernel_rfl
def k_i_GoodHistory : Kn := ⟨173, [0], fun args rows => match args, rows with
  | [.ag [⟨.int .i64, x0⟩, ⟨.str, x1⟩, ⟨.sl false 144 (.pair (.int .i64) (.int .i64)), x2⟩, ⟨.sl false 93 (.sl false 55 (.pair (.int .i64) (.pair (.int .i64) .str))), x3⟩]], [] => some ⟨_, G.i_GoodHistory x0 x1 x2 x3, fun y => ⟨[.one ⟨.bool, y⟩], [], []⟩⟩
  | _, _ => none, []⟩
theorem s_i_GoodHistory : KnOk Try.prog k_i_GoodHistory := by
  intro args rows a h y hy
  simp only [k_i_GoodHistory] at h
  split at h
  · injection h with h
    subst h
    exact vfun_ok eok_i_GoodHistory Try.func173 rfl (by rw [v_i_GoodHistory]; simp only at hy; rw [hy]; rfl)
  · cases h
def J_i_History_head : Joins := [(.r, ⟨[.int .i64], [(2, .one (.h 0))], [], [], [], []⟩)]
def ann_i_History_head : Ann := .nil
def env_i_History_head : Env := envOf ti [] []
theorem eok_i_History_head : EnvOk Try.prog env_i_History_head := envOf_ok tab mix _ _ (by
  intro k hk; cases hk)
theorem v_i_History_head (x0 : Int) (x1 : List UInt8) (x2 : List (Int × Int)) (x3 : List (List (Int × (Int × List UInt8)))) : (vfun env_i_History_head Try.f157 J_i_History_head ann_i_History_head [] [.ag [⟨.int .i64, x0⟩, ⟨.str, x1⟩, ⟨.sl false 144 (.pair (.int .i64) (.int .i64)), x2⟩, ⟨.sl false 93 (.sl false 55 (.pair (.int .i64) (.pair (.int .i64) .str))), x3⟩]] []).run = (G.i_History_head x0 x1 x2 x3).bind fun y => some (Res.mk [.one ⟨.int .i64, y⟩] [] []) := by kernel_rfl
def k_i_History_head : Kn := ⟨157, [0], fun args rows => match args, rows with
  | [.ag [⟨.int .i64, x0⟩, ⟨.str, x1⟩, ⟨.sl false 144 (.pair (.int .i64) (.int .i64)), x2⟩, ⟨.sl false 93 (.sl false 55 (.pair (.int .i64) (.pair (.int .i64) .str))), x3⟩]], [] => some ⟨_, G.i_History_head x0 x1 x2 x3, fun y => ⟨[.one ⟨.int .i64, y⟩], [], []⟩⟩
  | _, _ => none, []⟩
theorem s_i_History_head : KnOk Try.prog k_i_History_head := by
  intro args rows a h y hy
  simp only [k_i_History_head] at h
  split at h
  · injection h with h
    subst h
    exact vfun_ok eok_i_History_head Try.func157 rfl (by rw [v_i_History_head]; simp only at hy; rw [hy]; rfl)
  · cases h
def J_i_History_code : Joins := [(.r, ⟨[.int .i64], [(6, .one (.h 0))], [], [], [], []⟩)]
def ann_i_History_code : Ann := .seq .nil (.seq (.block [] (.seq .nil (.cond [] .nil (.seq (.reg [(.n, ⟨[.bool], [(11, .one (.h 0))], [], [], [], []⟩)]) .nil)))) .nil)
def env_i_History_code : Env := envOf ti [k_i_GoodHistory, k_i_History_head] []
theorem eok_i_History_code : EnvOk Try.prog env_i_History_code := envOf_ok tab mix _ _ (by
  intro k hk
  simp only [List.mem_cons, List.not_mem_nil, or_false] at hk
  rcases hk with rfl | rfl
  · exact s_i_GoodHistory
  · exact s_i_History_head)
theorem v_i_History_code (x0 : Int) (x1 : List UInt8) (x2 : List (Int × Int)) (x3 : List (List (Int × (Int × List UInt8)))) (x4 : Int) (x5 : Int) : (vfun env_i_History_code Try.f125 J_i_History_code ann_i_History_code [] [.ag [⟨.int .i64, x0⟩, ⟨.str, x1⟩, ⟨.sl false 144 (.pair (.int .i64) (.int .i64)), x2⟩, ⟨.sl false 93 (.sl false 55 (.pair (.int .i64) (.pair (.int .i64) .str))), x3⟩], .one ⟨.int .i64, x4⟩, .one ⟨.int .i64, x5⟩] []).run = (G.i_History_code x0 x1 x2 x3 x4 x5).bind fun y => some (Res.mk [.one ⟨.int .i64, y⟩] [] []) := by kernel_rfl
def k_i_History_code : Kn := ⟨125, [0, 0, 0], fun args rows => match args, rows with
  | [.ag [⟨.int .i64, x0⟩, ⟨.str, x1⟩, ⟨.sl false 144 (.pair (.int .i64) (.int .i64)), x2⟩, ⟨.sl false 93 (.sl false 55 (.pair (.int .i64) (.pair (.int .i64) .str))), x3⟩], .one ⟨.int .i64, x4⟩, .one ⟨.int .i64, x5⟩], [] => some ⟨_, G.i_History_code x0 x1 x2 x3 x4 x5, fun y => ⟨[.one ⟨.int .i64, y⟩], [], []⟩⟩
  | _, _ => none, []⟩
theorem s_i_History_code : KnOk Try.prog k_i_History_code := by
  intro args rows a h y hy
  simp only [k_i_History_code] at h
  split at h
  · injection h with h
    subst h
    exact vfun_ok eok_i_History_code Try.func125 rfl (by rw [v_i_History_code]; simp only at hy; rw [hy]; rfl)
  · cases h
def J_i_apply : Joins := [(.r, ⟨[.str], [(4, .one (.h 0))], [], [], [], []⟩)]
def ann_i_apply : Ann := .seq .nil (.seq .nil (.seq (.seq .nil (.block [] (.loop ⟨[.str, .str, .int .i64, .sl false 55 (.pair (.int .i64) (.pair (.int .i64) .str)), .int .i64, .int .i64], [(0, .one (.h 0)), (5, .one (.h 1)), (6, .one (.h 2)), (9, .one (.h 3)), (10, .one (.h 4)), (11, .one (.h 5))], [], [], [], []⟩ [(.x 0, ⟨[.str], [(5, .one (.h 0))], [], [], [], []⟩)] .nil))) .nil))
def env_i_apply : Env := envOf ti [] []
theorem eok_i_apply : EnvOk Try.prog env_i_apply := envOf_ok tab mix _ _ (by
  intro k hk; cases hk)
theorem v_i_apply (x0 : List UInt8) (x1 : List (Int × (Int × List UInt8))) : (vfun env_i_apply Try.f159 J_i_apply ann_i_apply [] [.one ⟨.str, x0⟩, .one ⟨.sl false 55 (.pair (.int .i64) (.pair (.int .i64) .str)), x1⟩] []).run = (G.i_apply x0 x1).bind fun y => some (Res.mk [.one ⟨.str, y⟩] [] []) := by kernel_rfl
def k_i_apply : Kn := ⟨159, [0, 0], fun args rows => match args, rows with
  | [.one ⟨.str, x0⟩, .one ⟨.sl false 55 (.pair (.int .i64) (.pair (.int .i64) .str)), x1⟩], [] => some ⟨_, G.i_apply x0 x1, fun y => ⟨[.one ⟨.str, y⟩], [], []⟩⟩
  | _, _ => none, []⟩
theorem s_i_apply : KnOk Try.prog k_i_apply := by
  intro args rows a h y hy
  simp only [k_i_apply] at h
  split at h
  · injection h with h
    subst h
    exact vfun_ok eok_i_apply Try.func159 rfl (by rw [v_i_apply]; simp only at hy; rw [hy]; rfl)
  · cases h
def J_i_History_text : Joins := [(.r, ⟨[.str], [(4, .one (.h 0))], [], [], [], []⟩)]
def ann_i_History_text : Ann := .seq .nil (.seq .nil (.seq (.seq .nil (.block [] (.loop ⟨[.str, .sl false 93 (.sl false 55 (.pair (.int .i64) (.pair (.int .i64) .str))), .int .i64, .int .i64], [(5, .one (.h 0)), (16, .one (.h 1)), (17, .one (.h 2)), (18, .one (.h 3))], [], [], [], []⟩ [(.x 0, ⟨[.str], [(5, .one (.h 0))], [], [], [], []⟩)] .nil))) .nil))
def env_i_History_text : Env := envOf ti [k_i_apply] []
theorem eok_i_History_text : EnvOk Try.prog env_i_History_text := envOf_ok tab mix _ _ (by
  intro k hk
  simp only [List.mem_cons, List.not_mem_nil, or_false] at hk
  rcases hk with rfl
  · exact s_i_apply)
theorem v_i_History_text (x0 : Int) (x1 : List UInt8) (x2 : List (Int × Int)) (x3 : List (List (Int × (Int × List UInt8)))) (x4 : Int) : (vfun env_i_History_text Try.f133 J_i_History_text ann_i_History_text [] [.ag [⟨.int .i64, x0⟩, ⟨.str, x1⟩, ⟨.sl false 144 (.pair (.int .i64) (.int .i64)), x2⟩, ⟨.sl false 93 (.sl false 55 (.pair (.int .i64) (.pair (.int .i64) .str))), x3⟩], .one ⟨.int .i64, x4⟩] []).run = (G.i_History_text x0 x1 x2 x3 x4).bind fun y => some (Res.mk [.one ⟨.str, y⟩] [] []) := by kernel_rfl
def k_i_History_text : Kn := ⟨133, [0, 0], fun args rows => match args, rows with
  | [.ag [⟨.int .i64, x0⟩, ⟨.str, x1⟩, ⟨.sl false 144 (.pair (.int .i64) (.int .i64)), x2⟩, ⟨.sl false 93 (.sl false 55 (.pair (.int .i64) (.pair (.int .i64) .str))), x3⟩], .one ⟨.int .i64, x4⟩], [] => some ⟨_, G.i_History_text x0 x1 x2 x3 x4, fun y => ⟨[.one ⟨.str, y⟩], [], []⟩⟩
  | _, _ => none, []⟩
theorem s_i_History_text : KnOk Try.prog k_i_History_text := by
  intro args rows a h y hy
  simp only [k_i_History_text] at h
  split at h
  · injection h with h
    subst h
    exact vfun_ok eok_i_History_text Try.func133 rfl (by rw [v_i_History_text]; simp only at hy; rw [hy]; rfl)
  · cases h
def J_slices_Clone_loop_example_g00083_impl_Run_loop_example_g00083_impl_Run : Joins := [(.r, ⟨[.sl true 144 (.pair (.int .i64) (.int .i64))], [(2, .one (.vw 110593))], [], [(110593, 0)], [], []⟩)]
def ann_slices_Clone_loop_example_g00083_impl_Run_loop_example_g00083_impl_Run : Ann := .seq .nil (.both [(.r, ⟨[.sl true 144 (.pair (.int .i64) (.int .i64))], [(2, .one (.vw 110592))], [], [(110592, 0)], [], []⟩)] .nil .nil .nil .nil .nil)
def env_slices_Clone_loop_example_g00083_impl_Run_loop_example_g00083_impl_Run : Env := envOf ti [] []
theorem eok_slices_Clone_loop_example_g00083_impl_Run_loop_example_g00083_impl_Run : EnvOk Try.prog env_slices_Clone_loop_example_g00083_impl_Run_loop_example_g00083_impl_Run := envOf_ok tab mix _ _ (by
  intro k hk; cases hk)
theorem v_slices_Clone_loop_example_g00083_impl_Run_loop_example_g00083_impl_Run (x0 : List (Int × Int)) : (vfun env_slices_Clone_loop_example_g00083_impl_Run_loop_example_g00083_impl_Run Try.f200 J_slices_Clone_loop_example_g00083_impl_Run_loop_example_g00083_impl_Run ann_slices_Clone_loop_example_g00083_impl_Run_loop_example_g00083_impl_Run [] [.one ⟨.sl false 144 (.pair (.int .i64) (.int .i64)), x0⟩] []).run = (G.slices_Clone_loop_example_g00083_impl_Run_loop_example_g00083_impl_Run x0).bind fun y => some (Res.mk [.one ⟨.sl true 144 (.pair (.int .i64) (.int .i64)), y⟩] [] []) := by kernel_rfl
def k_slices_Clone_loop_example_g00083_impl_Run_loop_example_g00083_impl_Run : Kn := ⟨200, [0], fun args rows => match args, rows with
  | [.one ⟨.sl false 144 (.pair (.int .i64) (.int .i64)), x0⟩], [] => some ⟨_, G.slices_Clone_loop_example_g00083_impl_Run_loop_example_g00083_impl_Run x0, fun y => ⟨[.one ⟨.sl true 144 (.pair (.int .i64) (.int .i64)), y⟩], [], []⟩⟩
  | _, _ => none, []⟩
theorem s_slices_Clone_loop_example_g00083_impl_Run_loop_example_g00083_impl_Run : KnOk Try.prog k_slices_Clone_loop_example_g00083_impl_Run_loop_example_g00083_impl_Run := by
  intro args rows a h y hy
  simp only [k_slices_Clone_loop_example_g00083_impl_Run_loop_example_g00083_impl_Run] at h
  split at h
  · injection h with h
    subst h
    exact vfun_ok eok_slices_Clone_loop_example_g00083_impl_Run_loop_example_g00083_impl_Run Try.func200 rfl (by rw [v_slices_Clone_loop_example_g00083_impl_Run_loop_example_g00083_impl_Run]; simp only at hy; rw [hy]; rfl)
  · cases h
def J_i_revs : Joins := [(.r, ⟨[.sl true 3 (.int .i64)], [(2, .one (.vw 128130))], [], [(128130, 0)], [], []⟩)]
def ann_i_revs : Ann := .seq .nil (.seq .nil (.seq (.seq .nil (.block [] (.loop ⟨[.sl true 3 (.int .i64), .sl false 144 (.pair (.int .i64) (.int .i64)), .int .i64, .int .i64], [(3, .one (.vw 128000)), (7, .one (.h 1)), (8, .one (.h 2)), (9, .one (.h 3))], [], [(128000, 0)], [], []⟩ [(.x 0, ⟨[.sl true 3 (.int .i64)], [(3, .one (.vw 128129))], [], [(128129, 0)], [], []⟩)] (.seq .nil (.seq .nil (.seq (.block [] (.seq .nil (.seq .nil (.block [] (.loop ⟨[.sl true 3 (.int .i64), .sl false 144 (.pair (.int .i64) (.int .i64)), .int .i64, .int .i64, .int .i64, .int .i64, .int .i64, .int .i64], [(3, .one (.vw 128064)), (5, .pl 5 0), (7, .one (.h 1)), (8, .one (.h 2)), (9, .one (.h 3)), (14, .one (.h 4)), (15, .one (.h 5))], [(5, [.h 6, .h 7])], [(128064, 0)], [], []⟩ [(.x 2, ⟨[.sl true 3 (.int .i64), .sl false 144 (.pair (.int .i64) (.int .i64)), .int .i64, .int .i64], [(3, .one (.vw 128128)), (7, .one (.h 1)), (8, .one (.h 2)), (9, .one (.h 3))], [], [(128128, 0)], [], []⟩)] .nil))))) .nil)))))) .nil))
def env_i_revs : Env := envOf ti [] []
theorem eok_i_revs : EnvOk Try.prog env_i_revs := envOf_ok tab mix _ _ (by
  intro k hk; cases hk)
theorem v_i_revs (x0 : List (Int × Int)) : (vfun env_i_revs Try.f116 J_i_revs ann_i_revs [] [.one ⟨.sl false 144 (.pair (.int .i64) (.int .i64)), x0⟩] []).run = (G.i_revs x0).bind fun y => some (Res.mk [.one ⟨.sl true 3 (.int .i64), y⟩] [] []) := by kernel_rfl
def k_i_revs : Kn := ⟨116, [0], fun args rows => match args, rows with
  | [.one ⟨.sl false 144 (.pair (.int .i64) (.int .i64)), x0⟩], [] => some ⟨_, G.i_revs x0, fun y => ⟨[.one ⟨.sl true 3 (.int .i64), y⟩], [], []⟩⟩
  | _, _ => none, []⟩
theorem s_i_revs : KnOk Try.prog k_i_revs := by
  intro args rows a h y hy
  simp only [k_i_revs] at h
  split at h
  · injection h with h
    subst h
    exact vfun_ok eok_i_revs Try.func116 rfl (by rw [v_i_revs]; simp only at hy; rw [hy]; rfl)
  · cases h
def J_i_runs : Joins := [(.r, ⟨[.sl true 144 (.pair (.int .i64) (.int .i64))], [(2, .one (.vw 147523))], [], [(147523, 0)], [], []⟩)]
def ann_i_runs : Ann := .seq .nil (.seq .nil (.seq (.seq .nil (.block [] (.loop ⟨[.sl true 144 (.pair (.int .i64) (.int .i64)), .sl false 3 (.int .i64), .int .i64, .int .i64], [(3, .one (.vw 147456)), (8, .one (.h 1)), (9, .one (.h 2)), (10, .one (.h 3))], [], [(147456, 0)], [], []⟩ [(.x 0, ⟨[.sl true 144 (.pair (.int .i64) (.int .i64))], [(3, .one (.vw 147522))], [], [(147522, 0)], [], []⟩)] (.seq .nil (.seq .nil (.seq (.block [] (.seq .nil (.seq .nil (.seq (.reg [(.n, ⟨[.sl true 144 (.pair (.int .i64) (.int .i64)), .int .i64, .int .i64, .sl false 3 (.int .i64), .int .i64, .int .i64, .bool], [(3, .one (.vw 147520)), (5, .one (.h 1)), (6, .one (.h 2)), (8, .one (.h 3)), (9, .one (.h 4)), (10, .one (.h 5)), (27, .one (.h 6))], [], [(147520, 0)], [], []⟩)]) (.cond [(.n, ⟨[.sl true 144 (.pair (.int .i64) (.int .i64)), .sl false 3 (.int .i64), .int .i64, .int .i64], [(3, .one (.vw 147521)), (8, .one (.h 1)), (9, .one (.h 2)), (10, .one (.h 3))], [], [(147521, 0)], [], []⟩)] .nil .nil))))) .nil)))))) .nil))
def env_i_runs : Env := envOf ti [] []
theorem eok_i_runs : EnvOk Try.prog env_i_runs := envOf_ok tab mix _ _ (by
  intro k hk; cases hk)
theorem v_i_runs (x0 : List Int) : (vfun env_i_runs Try.f193 J_i_runs ann_i_runs [] [.one ⟨.sl false 3 (.int .i64), x0⟩] []).run = (G.i_runs x0).bind fun y => some (Res.mk [.one ⟨.sl true 144 (.pair (.int .i64) (.int .i64)), y⟩] [] []) := by kernel_rfl
def k_i_runs : Kn := ⟨193, [0], fun args rows => match args, rows with
  | [.one ⟨.sl false 3 (.int .i64), x0⟩], [] => some ⟨_, G.i_runs x0, fun y => ⟨[.one ⟨.sl true 144 (.pair (.int .i64) (.int .i64)), y⟩], [], []⟩⟩
  | _, _ => none, []⟩
theorem s_i_runs : KnOk Try.prog k_i_runs := by
  intro args rows a h y hy
  simp only [k_i_runs] at h
  split at h
  · injection h with h
    subst h
    exact vfun_ok eok_i_runs Try.func193 rfl (by rw [v_i_runs]; simp only at hy; rw [hy]; rfl)
  · cases h
def J_i_carryRuns : Joins := [(.r, ⟨[.sl true 144 (.pair (.int .i64) (.int .i64))], [(6, .one (.vw 153731))], [], [(153731, 0)], [], []⟩)]
def ann_i_carryRuns : Ann := .seq .nil (.seq .nil (.seq (.seq .nil (.block [] (.loop ⟨[.int .i64, .sl true 3 (.int .i64), .sl true 3 (.int .i64), .int .i64, .sl false 55 (.pair (.int .i64) (.pair (.int .i64) .str)), .int .i64, .int .i64], [(2, .one (.h 0)), (7, .one (.vw 153600)), (8, .one (.vw 153601)), (9, .one (.h 3)), (15, .one (.h 4)), (16, .one (.h 5)), (17, .one (.h 6))], [], [(153600, 1), (153601, 2)], [], []⟩ [(.x 0, ⟨[.sl true 3 (.int .i64)], [(8, .one (.vw 153730))], [], [(153730, 0)], [], []⟩)] (.seq .nil (.seq .nil (.seq (.block [] (.seq .nil (.seq .nil (.seq .nil (.seq .nil (.block [] (.loop ⟨[.int .i64, .sl true 3 (.int .i64), .sl true 3 (.int .i64), .int .i64, .sl false 55 (.pair (.int .i64) (.pair (.int .i64) .str)), .int .i64, .int .i64, .int .i64, .int .i64], [(2, .one (.h 0)), (7, .one (.vw 153664)), (8, .one (.vw 153665)), (9, .one (.h 3)), (15, .one (.h 4)), (16, .one (.h 5)), (17, .one (.h 6)), (39, .one (.h 7)), (40, .one (.h 8))], [], [(153664, 1), (153665, 2)], [], []⟩ [(.x 2, ⟨[.int .i64, .sl true 3 (.int .i64), .sl true 3 (.int .i64), .int .i64, .sl false 55 (.pair (.int .i64) (.pair (.int .i64) .str)), .int .i64, .int .i64], [(2, .one (.h 0)), (7, .one (.vw 153728)), (8, .one (.vw 153729)), (9, .one (.h 3)), (15, .one (.h 4)), (16, .one (.h 5)), (17, .one (.h 6))], [], [(153728, 1), (153729, 2)], [], []⟩)] .nil))))))) .nil)))))) .nil))
def env_i_carryRuns : Env := envOf ti [k_i_revs, k_i_runs] []
theorem eok_i_carryRuns : EnvOk Try.prog env_i_carryRuns := envOf_ok tab mix _ _ (by
  intro k hk
  simp only [List.mem_cons, List.not_mem_nil, or_false] at hk
  rcases hk with rfl | rfl
  · exact s_i_revs
  · exact s_i_runs)
theorem v_i_carryRuns (x0 : List (Int × Int)) (x1 : List (Int × (Int × List UInt8))) (x2 : Int) : (vfun env_i_carryRuns Try.f109 J_i_carryRuns ann_i_carryRuns [] [.one ⟨.sl false 144 (.pair (.int .i64) (.int .i64)), x0⟩, .one ⟨.sl false 55 (.pair (.int .i64) (.pair (.int .i64) .str)), x1⟩, .one ⟨.int .i64, x2⟩] []).run = (G.i_carryRuns x0 x1 x2).bind fun y => some (Res.mk [.one ⟨.sl true 144 (.pair (.int .i64) (.int .i64)), y⟩] [] []) := by kernel_rfl
def k_i_carryRuns : Kn := ⟨109, [0, 0, 0], fun args rows => match args, rows with
  | [.one ⟨.sl false 144 (.pair (.int .i64) (.int .i64)), x0⟩, .one ⟨.sl false 55 (.pair (.int .i64) (.pair (.int .i64) .str)), x1⟩, .one ⟨.int .i64, x2⟩], [] => some ⟨_, G.i_carryRuns x0 x1 x2, fun y => ⟨[.one ⟨.sl true 144 (.pair (.int .i64) (.int .i64)), y⟩], [], []⟩⟩
  | _, _ => none, []⟩
theorem s_i_carryRuns : KnOk Try.prog k_i_carryRuns := by
  intro args rows a h y hy
  simp only [k_i_carryRuns] at h
  split at h
  · injection h with h
    subst h
    exact vfun_ok eok_i_carryRuns Try.func109 rfl (by rw [v_i_carryRuns]; simp only at hy; rw [hy]; rfl)
  · cases h
end
end Go.Proofs.Ytcfbfpipfalieaa

set_option linter.unusedVariables false
set_option maxRecDepth 100000
namespace Go.Proofs.Ytcfbfpipfalieaa
open Go.V
noncomputable section
def J_i_History_blame : Joins := [(.r, ⟨[.sl true 144 (.pair (.int .i64) (.int .i64))], [(4, .one (.vw 138305))], [], [(138305, 0)], [], []⟩)]
def ann_i_History_blame : Ann := .seq .nil (.seq .nil (.seq (.seq .nil (.block [] (.loop ⟨[.sl true 144 (.pair (.int .i64) (.int .i64)), .sl false 93 (.sl false 55 (.pair (.int .i64) (.pair (.int .i64) .str))), .int .i64, .int .i64, .int .i64, .str, .sl false 144 (.pair (.int .i64) (.int .i64)), .sl false 93 (.sl false 55 (.pair (.int .i64) (.pair (.int .i64) .str)))], [(2, .pl 2 0), (5, .one (.vw 138240)), (17, .one (.h 1)), (18, .one (.h 2)), (19, .one (.h 3))], [(2, [.h 4, .h 5, .h 6, .h 7])], [(138240, 0)], [], []⟩ [(.x 0, ⟨[.sl true 144 (.pair (.int .i64) (.int .i64))], [(5, .one (.vw 138304))], [], [(138304, 0)], [], []⟩)] .nil))) .nil))
def env_i_History_blame : Env := envOf ti [k_slices_Clone_loop_example_g00083_impl_Run_loop_example_g00083_impl_Run, k_i_carryRuns] []
theorem eok_i_History_blame : EnvOk Try.prog env_i_History_blame := envOf_ok tab mix _ _ (by
  intro k hk
  simp only [List.mem_cons, List.not_mem_nil, or_false] at hk
  rcases hk with rfl | rfl
  · exact s_slices_Clone_loop_example_g00083_impl_Run_loop_example_g00083_impl_Run
  · exact s_i_carryRuns)
theorem v_i_History_blame (x0 : Int) (x1 : List UInt8) (x2 : List (Int × Int)) (x3 : List (List (Int × (Int × List UInt8)))) (x4 : Int) : (vfun env_i_History_blame Try.f126 J_i_History_blame ann_i_History_blame [] [.ag [⟨.int .i64, x0⟩, ⟨.str, x1⟩, ⟨.sl false 144 (.pair (.int .i64) (.int .i64)), x2⟩, ⟨.sl false 93 (.sl false 55 (.pair (.int .i64) (.pair (.int .i64) .str))), x3⟩], .one ⟨.int .i64, x4⟩] []).run = (G.i_History_blame x0 x1 x2 x3 x4).bind fun y => some (Res.mk [.one ⟨.sl true 144 (.pair (.int .i64) (.int .i64)), y⟩] [] []) := by kernel_rfl
def k_i_History_blame : Kn := ⟨126, [0, 0], fun args rows => match args, rows with
  | [.ag [⟨.int .i64, x0⟩, ⟨.str, x1⟩, ⟨.sl false 144 (.pair (.int .i64) (.int .i64)), x2⟩, ⟨.sl false 93 (.sl false 55 (.pair (.int .i64) (.pair (.int .i64) .str))), x3⟩], .one ⟨.int .i64, x4⟩], [] => some ⟨_, G.i_History_blame x0 x1 x2 x3 x4, fun y => ⟨[.one ⟨.sl true 144 (.pair (.int .i64) (.int .i64)), y⟩], [], []⟩⟩
  | _, _ => none, []⟩
theorem s_i_History_blame : KnOk Try.prog k_i_History_blame := by
  intro args rows a h y hy
  simp only [k_i_History_blame] at h
  split at h
  · injection h with h
    subst h
    exact vfun_ok eok_i_History_blame Try.func126 rfl (by rw [v_i_History_blame]; simp only at hy; rw [hy]; rfl)
  · cases h
def J_i_writeRuns : Joins := [(.r, ⟨[.sl true 5 (.int .u8)], [(2, .one (.vw 127041))], [], [(127041, 0)], [], []⟩)]
def ann_i_writeRuns : Ann := .seq .nil (.seq .nil (.seq (.seq .nil (.block [] (.loop ⟨[.sl true 5 (.int .u8), .sl false 144 (.pair (.int .i64) (.int .i64)), .int .i64, .int .i64], [(3, .one (.vw 126976)), (7, .one (.h 1)), (8, .one (.h 2)), (9, .one (.h 3))], [], [(126976, 0)], [], []⟩ [(.x 0, ⟨[.sl true 5 (.int .u8)], [(3, .one (.vw 127040))], [], [(127040, 0)], [], []⟩)] .nil))) .nil))
def env_i_writeRuns : Env := envOf ti [] []
theorem eok_i_writeRuns : EnvOk Try.prog env_i_writeRuns := envOf_ok tab mix _ _ (by
  intro k hk; cases hk)
theorem v_i_writeRuns (x0 : List (Int × Int)) : (vfun env_i_writeRuns Try.f117 J_i_writeRuns ann_i_writeRuns [] [.one ⟨.sl false 144 (.pair (.int .i64) (.int .i64)), x0⟩] []).run = (G.i_writeRuns x0).bind fun y => some (Res.mk [.one ⟨.sl true 5 (.int .u8), y⟩] [] []) := by kernel_rfl
def k_i_writeRuns : Kn := ⟨117, [0], fun args rows => match args, rows with
  | [.one ⟨.sl false 144 (.pair (.int .i64) (.int .i64)), x0⟩], [] => some ⟨_, G.i_writeRuns x0, fun y => ⟨[.one ⟨.sl true 5 (.int .u8), y⟩], [], []⟩⟩
  | _, _ => none, []⟩
theorem s_i_writeRuns : KnOk Try.prog k_i_writeRuns := by
  intro args rows a h y hy
  simp only [k_i_writeRuns] at h
  split at h
  · injection h with h
    subst h
    exact vfun_ok eok_i_writeRuns Try.func117 rfl (by rw [v_i_writeRuns]; simp only at hy; rw [hy]; rfl)
  · cases h
def J_i_two : Joins := [(.r, ⟨[.sl true 5 (.int .u8)], [(2, .one (.vw 111616))], [], [(111616, 0)], [], []⟩)]
def ann_i_two : Ann := .nil
def env_i_two : Env := envOf ti [] []
theorem eok_i_two : EnvOk Try.prog env_i_two := envOf_ok tab mix _ _ (by
  intro k hk; cases hk)
theorem v_i_two (x0 : Int) : (vfun env_i_two Try.f208 J_i_two ann_i_two [] [.one ⟨.int .i64, x0⟩] []).run = (G.i_two x0).bind fun y => some (Res.mk [.one ⟨.sl true 5 (.int .u8), y⟩] [] []) := by kernel_rfl
def k_i_two : Kn := ⟨208, [0], fun args rows => match args, rows with
  | [.one ⟨.int .i64, x0⟩], [] => some ⟨_, G.i_two x0, fun y => ⟨[.one ⟨.sl true 5 (.int .u8), y⟩], [], []⟩⟩
  | _, _ => none, []⟩
theorem s_i_two : KnOk Try.prog k_i_two := by
  intro args rows a h y hy
  simp only [k_i_two] at h
  split at h
  · injection h with h
    subst h
    exact vfun_ok eok_i_two Try.func208 rfl (by rw [v_i_two]; simp only at hy; rw [hy]; rfl)
  · cases h
def J_i_writeChange : Joins := [(.r, ⟨[.sl true 5 (.int .u8)], [(2, .one (.vw 138305))], [], [(138305, 0)], [], []⟩)]
def ann_i_writeChange : Ann := .seq .nil (.seq .nil (.seq (.seq .nil (.block [] (.loop ⟨[.sl true 5 (.int .u8), .sl false 55 (.pair (.int .i64) (.pair (.int .i64) .str)), .int .i64, .int .i64], [(3, .one (.vw 138240)), (7, .one (.h 1)), (8, .one (.h 2)), (9, .one (.h 3))], [], [(138240, 0)], [], []⟩ [(.x 0, ⟨[.sl true 5 (.int .u8)], [(3, .one (.vw 138304))], [], [(138304, 0)], [], []⟩)] .nil))) .nil))
def env_i_writeChange : Env := envOf ti [k_i_Part_kind] []
theorem eok_i_writeChange : EnvOk Try.prog env_i_writeChange := envOf_ok tab mix _ _ (by
  intro k hk
  simp only [List.mem_cons, List.not_mem_nil, or_false] at hk
  rcases hk with rfl
  · exact s_i_Part_kind)
theorem v_i_writeChange (x0 : List (Int × (Int × List UInt8))) : (vfun env_i_writeChange Try.f209 J_i_writeChange ann_i_writeChange [] [.one ⟨.sl false 55 (.pair (.int .i64) (.pair (.int .i64) .str)), x0⟩] []).run = (G.i_writeChange x0).bind fun y => some (Res.mk [.one ⟨.sl true 5 (.int .u8), y⟩] [] []) := by kernel_rfl
def k_i_writeChange : Kn := ⟨209, [0], fun args rows => match args, rows with
  | [.one ⟨.sl false 55 (.pair (.int .i64) (.pair (.int .i64) .str)), x0⟩], [] => some ⟨_, G.i_writeChange x0, fun y => ⟨[.one ⟨.sl true 5 (.int .u8), y⟩], [], []⟩⟩
  | _, _ => none, []⟩
theorem s_i_writeChange : KnOk Try.prog k_i_writeChange := by
  intro args rows a h y hy
  simp only [k_i_writeChange] at h
  split at h
  · injection h with h
    subst h
    exact vfun_ok eok_i_writeChange Try.func209 rfl (by rw [v_i_writeChange]; simp only at hy; rw [hy]; rfl)
  · cases h
def J_i_digest : Joins := [(.r, ⟨[.int .u32], [(4, .one (.h 0))], [], [], [], []⟩)]
def ann_i_digest : Ann := .seq .nil (.seq (.seq .nil (.block [] (.loop ⟨[.int .u32, .sl false 5 (.int .u8), .int .i64, .int .i64], [(0, .one (.h 0)), (7, .one (.h 1)), (8, .one (.h 2)), (9, .one (.h 3))], [], [], [], []⟩ [(.x 0, ⟨[.int .u32], [(0, .one (.h 0))], [], [], [], []⟩)] .nil))) .nil)
def env_i_digest : Env := envOf ti [] []
theorem eok_i_digest : EnvOk Try.prog env_i_digest := envOf_ok tab mix _ _ (by
  intro k hk; cases hk)
theorem v_i_digest (x0 : Int) (x1 : List Int) : (vfun env_i_digest Try.f217 J_i_digest ann_i_digest [] [.one ⟨.int .u32, x0⟩, .one ⟨.sl false 5 (.int .u8), x1⟩] []).run = (G.i_digest x0 x1).bind fun y => some (Res.mk [.one ⟨.int .u32, y⟩] [] []) := by kernel_rfl
def k_i_digest : Kn := ⟨217, [0, 0], fun args rows => match args, rows with
  | [.one ⟨.int .u32, x0⟩, .one ⟨.sl false 5 (.int .u8), x1⟩], [] => some ⟨_, G.i_digest x0 x1, fun y => ⟨[.one ⟨.int .u32, y⟩], [], []⟩⟩
  | _, _ => none, []⟩
theorem s_i_digest : KnOk Try.prog k_i_digest := by
  intro args rows a h y hy
  simp only [k_i_digest] at h
  split at h
  · injection h with h
    subst h
    exact vfun_ok eok_i_digest Try.func217 rfl (by rw [v_i_digest]; simp only at hy; rw [hy]; rfl)
  · cases h
def J_i_DigestOf : Joins := [(.r, ⟨[.int .u32], [(2, .one (.h 0))], [], [], [], []⟩)]
def ann_i_DigestOf : Ann := .nil
def env_i_DigestOf : Env := envOf ti [k_i_digest] []
theorem eok_i_DigestOf : EnvOk Try.prog env_i_DigestOf := envOf_ok tab mix _ _ (by
  intro k hk
  simp only [List.mem_cons, List.not_mem_nil, or_false] at hk
  rcases hk with rfl
  · exact s_i_digest)
theorem v_i_DigestOf (x0 : List Int) : (vfun env_i_DigestOf Try.f170 J_i_DigestOf ann_i_DigestOf [] [.one ⟨.sl false 5 (.int .u8), x0⟩] []).run = (G.i_DigestOf x0).bind fun y => some (Res.mk [.one ⟨.int .u32, y⟩] [] []) := by kernel_rfl
def k_i_DigestOf : Kn := ⟨170, [0], fun args rows => match args, rows with
  | [.one ⟨.sl false 5 (.int .u8), x0⟩], [] => some ⟨_, G.i_DigestOf x0, fun y => ⟨[.one ⟨.int .u32, y⟩], [], []⟩⟩
  | _, _ => none, []⟩
theorem s_i_DigestOf : KnOk Try.prog k_i_DigestOf := by
  intro args rows a h y hy
  simp only [k_i_DigestOf] at h
  split at h
  · injection h with h
    subst h
    exact vfun_ok eok_i_DigestOf Try.func170 rfl (by rw [v_i_DigestOf]; simp only at hy; rw [hy]; rfl)
  · cases h
def J_i_four : Joins := [(.r, ⟨[.sl true 5 (.int .u8)], [(2, .one (.vw 117760))], [], [(117760, 0)], [], []⟩)]
def ann_i_four : Ann := .nil
def env_i_four : Env := envOf ti [] []
theorem eok_i_four : EnvOk Try.prog env_i_four := envOf_ok tab mix _ _ (by
  intro k hk; cases hk)
theorem v_i_four (x0 : Int) : (vfun env_i_four Try.f169 J_i_four ann_i_four [] [.one ⟨.int .u32, x0⟩] []).run = (G.i_four x0).bind fun y => some (Res.mk [.one ⟨.sl true 5 (.int .u8), y⟩] [] []) := by kernel_rfl
def k_i_four : Kn := ⟨169, [0], fun args rows => match args, rows with
  | [.one ⟨.int .u32, x0⟩], [] => some ⟨_, G.i_four x0, fun y => ⟨[.one ⟨.sl true 5 (.int .u8), y⟩], [], []⟩⟩
  | _, _ => none, []⟩
theorem s_i_four : KnOk Try.prog k_i_four := by
  intro args rows a h y hy
  simp only [k_i_four] at h
  split at h
  · injection h with h
    subst h
    exact vfun_ok eok_i_four Try.func169 rfl (by rw [v_i_four]; simp only at hy; rw [hy]; rfl)
  · cases h
def J_i_bundle : Joins := [(.r, ⟨[.sl true 5 (.int .u8)], [(6, .one (.vw 173121))], [], [(173121, 0)], [], []⟩)]
def ann_i_bundle : Ann := .seq .nil (.seq .nil (.seq .nil (.seq .nil (.seq (.seq .nil (.block [] (.loop ⟨[.sl true 5 (.int .u8), .sl false 93 (.sl false 55 (.pair (.int .i64) (.pair (.int .i64) .str))), .int .i64, .int .i64], [(9, .one (.vw 173056)), (47, .one (.h 1)), (48, .one (.h 2)), (49, .one (.h 3))], [], [(173056, 0)], [], []⟩ [(.x 0, ⟨[.sl true 5 (.int .u8)], [(9, .one (.vw 173120))], [], [(173120, 0)], [], []⟩)] .nil))) .nil))))
def env_i_bundle : Env := envOf ti [k_i_History_text, k_i_History_blame, k_i_writeRuns, k_i_two, k_i_writeChange, k_i_DigestOf, k_i_four] []
theorem eok_i_bundle : EnvOk Try.prog env_i_bundle := envOf_ok tab mix _ _ (by
  intro k hk
  simp only [List.mem_cons, List.not_mem_nil, or_false] at hk
  rcases hk with rfl | rfl | rfl | rfl | rfl | rfl | rfl
  · exact s_i_History_text
  · exact s_i_History_blame
  · exact s_i_writeRuns
  · exact s_i_two
  · exact s_i_writeChange
  · exact s_i_DigestOf
  · exact s_i_four)
theorem v_i_bundle (x0 : Int) (x1 : List UInt8) (x2 : List (Int × Int)) (x3 : List (List (Int × (Int × List UInt8)))) (x4 : Int) (x5 : Int) : (vfun env_i_bundle Try.f145 J_i_bundle ann_i_bundle [] [.ag [⟨.int .i64, x0⟩, ⟨.str, x1⟩, ⟨.sl false 144 (.pair (.int .i64) (.int .i64)), x2⟩, ⟨.sl false 93 (.sl false 55 (.pair (.int .i64) (.pair (.int .i64) .str))), x3⟩], .one ⟨.int .i64, x4⟩, .one ⟨.int .i64, x5⟩] []).run = (G.i_bundle x0 x1 x2 x3 x4 x5).bind fun y => some (Res.mk [.one ⟨.sl true 5 (.int .u8), y⟩] [] []) := by kernel_rfl
def k_i_bundle : Kn := ⟨145, [0, 0, 0], fun args rows => match args, rows with
  | [.ag [⟨.int .i64, x0⟩, ⟨.str, x1⟩, ⟨.sl false 144 (.pair (.int .i64) (.int .i64)), x2⟩, ⟨.sl false 93 (.sl false 55 (.pair (.int .i64) (.pair (.int .i64) .str))), x3⟩], .one ⟨.int .i64, x4⟩, .one ⟨.int .i64, x5⟩], [] => some ⟨_, G.i_bundle x0 x1 x2 x3 x4 x5, fun y => ⟨[.one ⟨.sl true 5 (.int .u8), y⟩], [], []⟩⟩
  | _, _ => none, []⟩
theorem s_i_bundle : KnOk Try.prog k_i_bundle := by
  intro args rows a h y hy
  simp only [k_i_bundle] at h
  split at h
  · injection h with h
    subst h
    exact vfun_ok eok_i_bundle Try.func145 rfl (by rw [v_i_bundle]; simp only at hy; rw [hy]; rfl)
  · cases h
def J_i_ExportRange : Joins := [(.r, ⟨[.sl true 5 (.int .u8), .int .i64], [(6, .one (.vw 128000)), (7, .one (.h 1))], [], [(128000, 0)], [], []⟩)]
def ann_i_ExportRange : Ann := .nil
def env_i_ExportRange : Env := envOf ti [k_i_History_code, k_i_bundle] []
theorem eok_i_ExportRange : EnvOk Try.prog env_i_ExportRange := envOf_ok tab mix _ _ (by
  intro k hk
  simp only [List.mem_cons, List.not_mem_nil, or_false] at hk
  rcases hk with rfl | rfl
  · exact s_i_History_code
  · exact s_i_bundle)
theorem v_i_ExportRange (x0 : Int) (x1 : List UInt8) (x2 : List (Int × Int)) (x3 : List (List (Int × (Int × List UInt8)))) (x4 : Int) (x5 : Int) : (vfun env_i_ExportRange Try.f58 J_i_ExportRange ann_i_ExportRange [] [.ag [⟨.int .i64, x0⟩, ⟨.str, x1⟩, ⟨.sl false 144 (.pair (.int .i64) (.int .i64)), x2⟩, ⟨.sl false 93 (.sl false 55 (.pair (.int .i64) (.pair (.int .i64) .str))), x3⟩], .one ⟨.int .i64, x4⟩, .one ⟨.int .i64, x5⟩] []).run = (G.i_ExportRange x0 x1 x2 x3 x4 x5).bind fun y => some (Res.mk [.one ⟨.sl true 5 (.int .u8), y.1⟩, .one ⟨.int .i64, y.2⟩] [] []) := by kernel_rfl
def k_i_ExportRange : Kn := ⟨58, [0, 0, 0], fun args rows => match args, rows with
  | [.ag [⟨.int .i64, x0⟩, ⟨.str, x1⟩, ⟨.sl false 144 (.pair (.int .i64) (.int .i64)), x2⟩, ⟨.sl false 93 (.sl false 55 (.pair (.int .i64) (.pair (.int .i64) .str))), x3⟩], .one ⟨.int .i64, x4⟩, .one ⟨.int .i64, x5⟩], [] => some ⟨_, G.i_ExportRange x0 x1 x2 x3 x4 x5, fun y => ⟨[.one ⟨.sl true 5 (.int .u8), y.1⟩, .one ⟨.int .i64, y.2⟩], [], []⟩⟩
  | _, _ => none, []⟩
theorem s_i_ExportRange : KnOk Try.prog k_i_ExportRange := by
  intro args rows a h y hy
  simp only [k_i_ExportRange] at h
  split at h
  · injection h with h
    subst h
    exact vfun_ok eok_i_ExportRange Try.func58 rfl (by rw [v_i_ExportRange]; simp only at hy; rw [hy]; rfl)
  · cases h
def J_l_eqByteS : Joins := [(.r, ⟨[.bool], [(4, .one (.h 0))], [], [], [], []⟩)]
def ann_l_eqByteS : Ann := .seq .nil (.seq .nil (.seq (.seq .nil (.block [] (.loop ⟨[.sl false 5 (.int .u8), .sl false 5 (.int .u8), .int .i64], [(0, .one (.h 0)), (1, .one (.h 1)), (5, .one (.h 2))], [], [], [], []⟩ [(.x 0, ⟨[], [], [], [], [], []⟩), (.r, ⟨[.bool], [(4, .one (.h 0))], [], [], [], []⟩)] .nil))) .nil))
def env_l_eqByteS : Env := envOf ti [] []
theorem eok_l_eqByteS : EnvOk Try.prog env_l_eqByteS := envOf_ok tab mix _ _ (by
  intro k hk; cases hk)
theorem v_l_eqByteS (x0 : List Int) (x1 : List Int) : (vfun env_l_eqByteS Try.f59 J_l_eqByteS ann_l_eqByteS [] [.one ⟨.sl false 5 (.int .u8), x0⟩, .one ⟨.sl false 5 (.int .u8), x1⟩] []).run = (G.l_eqByteS x0 x1).bind fun y => some (Res.mk [.one ⟨.bool, y⟩] [] []) := by kernel_rfl
def k_l_eqByteS : Kn := ⟨59, [0, 0], fun args rows => match args, rows with
  | [.one ⟨.sl false 5 (.int .u8), x0⟩, .one ⟨.sl false 5 (.int .u8), x1⟩], [] => some ⟨_, G.l_eqByteS x0 x1, fun y => ⟨[.one ⟨.bool, y⟩], [], []⟩⟩
  | _, _ => none, []⟩
theorem s_l_eqByteS : KnOk Try.prog k_l_eqByteS := by
  intro args rows a h y hy
  simp only [k_l_eqByteS] at h
  split at h
  · injection h with h
    subst h
    exact vfun_ok eok_l_eqByteS Try.func59 rfl (by rw [v_l_eqByteS]; simp only at hy; rw [hy]; rfl)
  · cases h
def J_l_eqRun : Joins := [(.r, ⟨[.bool], [(4, .one (.h 0))], [], [], [], []⟩)]
def ann_l_eqRun : Ann := .nil
def env_l_eqRun : Env := envOf ti [] []
theorem eok_l_eqRun : EnvOk Try.prog env_l_eqRun := envOf_ok tab mix _ _ (by
  intro k hk; cases hk)
theorem v_l_eqRun (x0 : Int) (x1 : Int) (x2 : Int) (x3 : Int) : (vfun env_l_eqRun Try.f127 J_l_eqRun ann_l_eqRun [] [.ag [⟨.int .i64, x0⟩, ⟨.int .i64, x1⟩], .ag [⟨.int .i64, x2⟩, ⟨.int .i64, x3⟩]] []).run = (G.l_eqRun x0 x1 x2 x3).bind fun y => some (Res.mk [.one ⟨.bool, y⟩] [] []) := by kernel_rfl
def k_l_eqRun : Kn := ⟨127, [0, 0], fun args rows => match args, rows with
  | [.ag [⟨.int .i64, x0⟩, ⟨.int .i64, x1⟩], .ag [⟨.int .i64, x2⟩, ⟨.int .i64, x3⟩]], [] => some ⟨_, G.l_eqRun x0 x1 x2 x3, fun y => ⟨[.one ⟨.bool, y⟩], [], []⟩⟩
  | _, _ => none, []⟩
theorem s_l_eqRun : KnOk Try.prog k_l_eqRun := by
  intro args rows a h y hy
  simp only [k_l_eqRun] at h
  split at h
  · injection h with h
    subst h
    exact vfun_ok eok_l_eqRun Try.func127 rfl (by rw [v_l_eqRun]; simp only at hy; rw [hy]; rfl)
  · cases h
def J_l_eqRunS : Joins := [(.r, ⟨[.bool], [(4, .one (.h 0))], [], [], [], []⟩)]
def ann_l_eqRunS : Ann := .seq .nil (.seq .nil (.seq (.seq .nil (.block [] (.loop ⟨[.sl false 144 (.pair (.int .i64) (.int .i64)), .sl false 144 (.pair (.int .i64) (.int .i64)), .int .i64], [(0, .one (.h 0)), (1, .one (.h 1)), (5, .one (.h 2))], [], [], [], []⟩ [(.x 0, ⟨[], [], [], [], [], []⟩), (.r, ⟨[.bool], [(4, .one (.h 0))], [], [], [], []⟩)] .nil))) .nil))
def env_l_eqRunS : Env := envOf ti [k_l_eqRun] []
theorem eok_l_eqRunS : EnvOk Try.prog env_l_eqRunS := envOf_ok tab mix _ _ (by
  intro k hk
  simp only [List.mem_cons, List.not_mem_nil, or_false] at hk
  rcases hk with rfl
  · exact s_l_eqRun)
theorem v_l_eqRunS (x0 : List (Int × Int)) (x1 : List (Int × Int)) : (vfun env_l_eqRunS Try.f42 J_l_eqRunS ann_l_eqRunS [] [.one ⟨.sl false 144 (.pair (.int .i64) (.int .i64)), x0⟩, .one ⟨.sl false 144 (.pair (.int .i64) (.int .i64)), x1⟩] []).run = (G.l_eqRunS x0 x1).bind fun y => some (Res.mk [.one ⟨.bool, y⟩] [] []) := by kernel_rfl
def k_l_eqRunS : Kn := ⟨42, [0, 0], fun args rows => match args, rows with
  | [.one ⟨.sl false 144 (.pair (.int .i64) (.int .i64)), x0⟩, .one ⟨.sl false 144 (.pair (.int .i64) (.int .i64)), x1⟩], [] => some ⟨_, G.l_eqRunS x0 x1, fun y => ⟨[.one ⟨.bool, y⟩], [], []⟩⟩
  | _, _ => none, []⟩
theorem s_l_eqRunS : KnOk Try.prog k_l_eqRunS := by
  intro args rows a h y hy
  simp only [k_l_eqRunS] at h
  split at h
  · injection h with h
    subst h
    exact vfun_ok eok_l_eqRunS Try.func42 rfl (by rw [v_l_eqRunS]; simp only at hy; rw [hy]; rfl)
  · cases h
end
end Go.Proofs.Ytcfbfpipfalieaa

set_option linter.unusedVariables false
set_option maxRecDepth 100000
namespace Go.Proofs.Ytcfbfpipfalieaa
open Go.V
noncomputable section
def J_l_eqPart : Joins := [(.r, ⟨[.bool], [(4, .one (.h 0))], [], [], [], []⟩)]
def ann_l_eqPart : Ann := .nil
def env_l_eqPart : Env := envOf ti [] []
theorem eok_l_eqPart : EnvOk Try.prog env_l_eqPart := envOf_ok tab mix _ _ (by
  intro k hk; cases hk)
theorem v_l_eqPart (x0 : Int) (x1 : Int) (x2 : List UInt8) (x3 : Int) (x4 : Int) (x5 : List UInt8) : (vfun env_l_eqPart Try.f140 J_l_eqPart ann_l_eqPart [] [.ag [⟨.int .i64, x0⟩, ⟨.int .i64, x1⟩, ⟨.str, x2⟩], .ag [⟨.int .i64, x3⟩, ⟨.int .i64, x4⟩, ⟨.str, x5⟩]] []).run = (G.l_eqPart x0 x1 x2 x3 x4 x5).bind fun y => some (Res.mk [.one ⟨.bool, y⟩] [] []) := by kernel_rfl
def k_l_eqPart : Kn := ⟨140, [0, 0], fun args rows => match args, rows with
  | [.ag [⟨.int .i64, x0⟩, ⟨.int .i64, x1⟩, ⟨.str, x2⟩], .ag [⟨.int .i64, x3⟩, ⟨.int .i64, x4⟩, ⟨.str, x5⟩]], [] => some ⟨_, G.l_eqPart x0 x1 x2 x3 x4 x5, fun y => ⟨[.one ⟨.bool, y⟩], [], []⟩⟩
  | _, _ => none, []⟩
theorem s_l_eqPart : KnOk Try.prog k_l_eqPart := by
  intro args rows a h y hy
  simp only [k_l_eqPart] at h
  split at h
  · injection h with h
    subst h
    exact vfun_ok eok_l_eqPart Try.func140 rfl (by rw [v_l_eqPart]; simp only at hy; rw [hy]; rfl)
  · cases h
def J_l_eqPartS : Joins := [(.r, ⟨[.bool], [(4, .one (.h 0))], [], [], [], []⟩)]
def ann_l_eqPartS : Ann := .seq .nil (.seq .nil (.seq (.seq .nil (.block [] (.loop ⟨[.sl false 55 (.pair (.int .i64) (.pair (.int .i64) .str)), .sl false 55 (.pair (.int .i64) (.pair (.int .i64) .str)), .int .i64], [(0, .one (.h 0)), (1, .one (.h 1)), (5, .one (.h 2))], [], [], [], []⟩ [(.x 0, ⟨[], [], [], [], [], []⟩), (.r, ⟨[.bool], [(4, .one (.h 0))], [], [], [], []⟩)] .nil))) .nil))
def env_l_eqPartS : Env := envOf ti [k_l_eqPart] []
theorem eok_l_eqPartS : EnvOk Try.prog env_l_eqPartS := envOf_ok tab mix _ _ (by
  intro k hk
  simp only [List.mem_cons, List.not_mem_nil, or_false] at hk
  rcases hk with rfl
  · exact s_l_eqPart)
theorem v_l_eqPartS (x0 : List (Int × (Int × List UInt8))) (x1 : List (Int × (Int × List UInt8))) : (vfun env_l_eqPartS Try.f54 J_l_eqPartS ann_l_eqPartS [] [.one ⟨.sl false 55 (.pair (.int .i64) (.pair (.int .i64) .str)), x0⟩, .one ⟨.sl false 55 (.pair (.int .i64) (.pair (.int .i64) .str)), x1⟩] []).run = (G.l_eqPartS x0 x1).bind fun y => some (Res.mk [.one ⟨.bool, y⟩] [] []) := by kernel_rfl
def k_l_eqPartS : Kn := ⟨54, [0, 0], fun args rows => match args, rows with
  | [.one ⟨.sl false 55 (.pair (.int .i64) (.pair (.int .i64) .str)), x0⟩, .one ⟨.sl false 55 (.pair (.int .i64) (.pair (.int .i64) .str)), x1⟩], [] => some ⟨_, G.l_eqPartS x0 x1, fun y => ⟨[.one ⟨.bool, y⟩], [], []⟩⟩
  | _, _ => none, []⟩
theorem s_l_eqPartS : KnOk Try.prog k_l_eqPartS := by
  intro args rows a h y hy
  simp only [k_l_eqPartS] at h
  split at h
  · injection h with h
    subst h
    exact vfun_ok eok_l_eqPartS Try.func54 rfl (by rw [v_l_eqPartS]; simp only at hy; rw [hy]; rfl)
  · cases h
def J_l_eqChange : Joins := [(.r, ⟨[.bool], [(4, .one (.h 0))], [], [], [], []⟩)]
def ann_l_eqChange : Ann := .nil
def env_l_eqChange : Env := envOf ti [k_l_eqPartS] []
theorem eok_l_eqChange : EnvOk Try.prog env_l_eqChange := envOf_ok tab mix _ _ (by
  intro k hk
  simp only [List.mem_cons, List.not_mem_nil, or_false] at hk
  rcases hk with rfl
  · exact s_l_eqPartS)
theorem v_l_eqChange (x0 : List (Int × (Int × List UInt8))) (x1 : List (Int × (Int × List UInt8))) : (vfun env_l_eqChange Try.f201 J_l_eqChange ann_l_eqChange [] [.ag [⟨.sl false 55 (.pair (.int .i64) (.pair (.int .i64) .str)), x0⟩], .ag [⟨.sl false 55 (.pair (.int .i64) (.pair (.int .i64) .str)), x1⟩]] []).run = (G.l_eqChange x0 x1).bind fun y => some (Res.mk [.one ⟨.bool, y⟩] [] []) := by kernel_rfl
def k_l_eqChange : Kn := ⟨201, [0, 0], fun args rows => match args, rows with
  | [.ag [⟨.sl false 55 (.pair (.int .i64) (.pair (.int .i64) .str)), x0⟩], .ag [⟨.sl false 55 (.pair (.int .i64) (.pair (.int .i64) .str)), x1⟩]], [] => some ⟨_, G.l_eqChange x0 x1, fun y => ⟨[.one ⟨.bool, y⟩], [], []⟩⟩
  | _, _ => none, []⟩
theorem s_l_eqChange : KnOk Try.prog k_l_eqChange := by
  intro args rows a h y hy
  simp only [k_l_eqChange] at h
  split at h
  · injection h with h
    subst h
    exact vfun_ok eok_l_eqChange Try.func201 rfl (by rw [v_l_eqChange]; simp only at hy; rw [hy]; rfl)
  · cases h
def J_l_eqChangeS : Joins := [(.r, ⟨[.bool], [(4, .one (.h 0))], [], [], [], []⟩)]
def ann_l_eqChangeS : Ann := .seq .nil (.seq .nil (.seq (.seq .nil (.block [] (.loop ⟨[.sl false 93 (.sl false 55 (.pair (.int .i64) (.pair (.int .i64) .str))), .sl false 93 (.sl false 55 (.pair (.int .i64) (.pair (.int .i64) .str))), .int .i64], [(0, .one (.h 0)), (1, .one (.h 1)), (5, .one (.h 2))], [], [], [], []⟩ [(.x 0, ⟨[], [], [], [], [], []⟩), (.r, ⟨[.bool], [(4, .one (.h 0))], [], [], [], []⟩)] .nil))) .nil))
def env_l_eqChangeS : Env := envOf ti [k_l_eqChange] []
theorem eok_l_eqChangeS : EnvOk Try.prog env_l_eqChangeS := envOf_ok tab mix _ _ (by
  intro k hk
  simp only [List.mem_cons, List.not_mem_nil, or_false] at hk
  rcases hk with rfl
  · exact s_l_eqChange)
theorem v_l_eqChangeS (x0 : List (List (Int × (Int × List UInt8)))) (x1 : List (List (Int × (Int × List UInt8)))) : (vfun env_l_eqChangeS Try.f128 J_l_eqChangeS ann_l_eqChangeS [] [.one ⟨.sl false 93 (.sl false 55 (.pair (.int .i64) (.pair (.int .i64) .str))), x0⟩, .one ⟨.sl false 93 (.sl false 55 (.pair (.int .i64) (.pair (.int .i64) .str))), x1⟩] []).run = (G.l_eqChangeS x0 x1).bind fun y => some (Res.mk [.one ⟨.bool, y⟩] [] []) := by kernel_rfl
def k_l_eqChangeS : Kn := ⟨128, [0, 0], fun args rows => match args, rows with
  | [.one ⟨.sl false 93 (.sl false 55 (.pair (.int .i64) (.pair (.int .i64) .str))), x0⟩, .one ⟨.sl false 93 (.sl false 55 (.pair (.int .i64) (.pair (.int .i64) .str))), x1⟩], [] => some ⟨_, G.l_eqChangeS x0 x1, fun y => ⟨[.one ⟨.bool, y⟩], [], []⟩⟩
  | _, _ => none, []⟩
theorem s_l_eqChangeS : KnOk Try.prog k_l_eqChangeS := by
  intro args rows a h y hy
  simp only [k_l_eqChangeS] at h
  split at h
  · injection h with h
    subst h
    exact vfun_ok eok_l_eqChangeS Try.func128 rfl (by rw [v_l_eqChangeS]; simp only at hy; rw [hy]; rfl)
  · cases h
def J_l_eqHistory : Joins := [(.r, ⟨[.bool], [(4, .one (.h 0))], [], [], [], []⟩)]
def ann_l_eqHistory : Ann := .nil
def env_l_eqHistory : Env := envOf ti [k_l_eqRunS, k_l_eqChangeS] []
theorem eok_l_eqHistory : EnvOk Try.prog env_l_eqHistory := envOf_ok tab mix _ _ (by
  intro k hk
  simp only [List.mem_cons, List.not_mem_nil, or_false] at hk
  rcases hk with rfl | rfl
  · exact s_l_eqRunS
  · exact s_l_eqChangeS)
theorem v_l_eqHistory (x0 : Int) (x1 : List UInt8) (x2 : List (Int × Int)) (x3 : List (List (Int × (Int × List UInt8)))) (x4 : Int) (x5 : List UInt8) (x6 : List (Int × Int)) (x7 : List (List (Int × (Int × List UInt8)))) : (vfun env_l_eqHistory Try.f43 J_l_eqHistory ann_l_eqHistory [] [.ag [⟨.int .i64, x0⟩, ⟨.str, x1⟩, ⟨.sl false 144 (.pair (.int .i64) (.int .i64)), x2⟩, ⟨.sl false 93 (.sl false 55 (.pair (.int .i64) (.pair (.int .i64) .str))), x3⟩], .ag [⟨.int .i64, x4⟩, ⟨.str, x5⟩, ⟨.sl false 144 (.pair (.int .i64) (.int .i64)), x6⟩, ⟨.sl false 93 (.sl false 55 (.pair (.int .i64) (.pair (.int .i64) .str))), x7⟩]] []).run = (G.l_eqHistory x0 x1 x2 x3 x4 x5 x6 x7).bind fun y => some (Res.mk [.one ⟨.bool, y⟩] [] []) := by kernel_rfl
def k_l_eqHistory : Kn := ⟨43, [0, 0], fun args rows => match args, rows with
  | [.ag [⟨.int .i64, x0⟩, ⟨.str, x1⟩, ⟨.sl false 144 (.pair (.int .i64) (.int .i64)), x2⟩, ⟨.sl false 93 (.sl false 55 (.pair (.int .i64) (.pair (.int .i64) .str))), x3⟩], .ag [⟨.int .i64, x4⟩, ⟨.str, x5⟩, ⟨.sl false 144 (.pair (.int .i64) (.int .i64)), x6⟩, ⟨.sl false 93 (.sl false 55 (.pair (.int .i64) (.pair (.int .i64) .str))), x7⟩]], [] => some ⟨_, G.l_eqHistory x0 x1 x2 x3 x4 x5 x6 x7, fun y => ⟨[.one ⟨.bool, y⟩], [], []⟩⟩
  | _, _ => none, []⟩
theorem s_l_eqHistory : KnOk Try.prog k_l_eqHistory := by
  intro args rows a h y hy
  simp only [k_l_eqHistory] at h
  split at h
  · injection h with h
    subst h
    exact vfun_ok eok_l_eqHistory Try.func43 rfl (by rw [v_l_eqHistory]; simp only at hy; rw [hy]; rfl)
  · cases h
def J_l_markRunS_l : Joins := [(.r, ⟨[.sl true 144 (.pair (.int .i64) (.int .i64)), .int .i64], [(0, .one (.vw 130113)), (4, .one (.h 1))], [], [(130113, 0)], [], []⟩)]
def ann_l_markRunS_l : Ann := .seq .nil (.seq (.seq .nil (.block [] (.loop ⟨[.sl true 144 (.pair (.int .i64) (.int .i64)), .int .i64, .int .i64], [(0, .one (.vw 130048)), (1, .one (.h 1)), (5, .one (.h 2))], [], [(130048, 0)], [], []⟩ [(.x 0, ⟨[.sl true 144 (.pair (.int .i64) (.int .i64)), .int .i64], [(0, .one (.vw 130112)), (1, .one (.h 1))], [], [(130112, 0)], [], []⟩)] .nil))) .nil)
def env_l_markRunS_l : Env := envOf ti [] [0]
theorem eok_l_markRunS_l : EnvOk Try.prog env_l_markRunS_l := envOf_ok tab mix _ _ (by
  intro k hk; cases hk)
theorem v_l_markRunS_l (x0 : List (Int × Int)) (x1 : Int) : (vfun env_l_markRunS_l Try.f45 J_l_markRunS_l ann_l_markRunS_l [(0, 0)] [.one ⟨.sl true 144 (.pair (.int .i64) (.int .i64)), x0⟩, .one ⟨.int .i64, x1⟩] []).run = (G.l_markRunS_l x0 x1).bind fun y => some (Res.mk [.one ⟨.int .i64, y.2⟩] [] [((0, 0), ⟨.sl true 144 (.pair (.int .i64) (.int .i64)), y.1⟩)]) := by kernel_rfl
def k_l_markRunS_l : Kn := ⟨45, [2, 0], fun args rows => match args, rows with
  | [.one ⟨.sl true 144 (.pair (.int .i64) (.int .i64)), x0⟩, .one ⟨.int .i64, x1⟩], [] => some ⟨_, G.l_markRunS_l x0 x1, fun y => ⟨[.one ⟨.int .i64, y.2⟩], [], [((0, 0), ⟨.sl true 144 (.pair (.int .i64) (.int .i64)), y.1⟩)]⟩⟩
  | _, _ => none, []⟩
theorem s_l_markRunS_l : KnOk Try.prog k_l_markRunS_l := by
  intro args rows a h y hy
  simp only [k_l_markRunS_l] at h
  split at h
  · injection h with h
    subst h
    exact vfun_ok eok_l_markRunS_l Try.func45 rfl (by rw [v_l_markRunS_l]; simp only at hy; rw [hy]; rfl)
  · cases h
def J_l_markText : Joins := [(.r, ⟨[.str], [(2, .one (.h 0))], [], [], [], []⟩)]
def ann_l_markText : Ann := .seq .nil (.seq .nil (.seq .nil (.seq (.block [] (.loop ⟨[.int .i64, .str], [(0, .one (.h 0)), (3, .one (.h 1))], [], [], [], []⟩ [(.x 0, ⟨[.str], [(3, .one (.h 0))], [], [], [], []⟩)] .nil)) .nil)))
def env_l_markText : Env := envOf ti [] []
theorem eok_l_markText : EnvOk Try.prog env_l_markText := envOf_ok tab mix _ _ (by
  intro k hk; cases hk)
theorem v_l_markText (x0 : Int) : (vfun env_l_markText Try.f141 J_l_markText ann_l_markText [] [.one ⟨.int .i64, x0⟩] []).run = (G.l_markText x0).bind fun y => some (Res.mk [.one ⟨.str, y⟩] [] []) := by kernel_rfl
def k_l_markText : Kn := ⟨141, [0], fun args rows => match args, rows with
  | [.one ⟨.int .i64, x0⟩], [] => some ⟨_, G.l_markText x0, fun y => ⟨[.one ⟨.str, y⟩], [], []⟩⟩
  | _, _ => none, []⟩
theorem s_l_markText : KnOk Try.prog k_l_markText := by
  intro args rows a h y hy
  simp only [k_l_markText] at h
  split at h
  · injection h with h
    subst h
    exact vfun_ok eok_l_markText Try.func141 rfl (by rw [v_l_markText]; simp only at hy; rw [hy]; rfl)
  · cases h
def J_l_markPartS_l : Joins := [(.r, ⟨[.sl true 55 (.pair (.int .i64) (.pair (.int .i64) .str)), .int .i64], [(0, .one (.vw 138305)), (4, .one (.h 1))], [], [(138305, 0)], [], []⟩)]
def ann_l_markPartS_l : Ann := .seq .nil (.seq (.seq .nil (.block [] (.loop ⟨[.sl true 55 (.pair (.int .i64) (.pair (.int .i64) .str)), .int .i64, .int .i64], [(0, .one (.vw 138240)), (1, .one (.h 1)), (5, .one (.h 2))], [], [(138240, 0)], [], []⟩ [(.x 0, ⟨[.sl true 55 (.pair (.int .i64) (.pair (.int .i64) .str)), .int .i64], [(0, .one (.vw 138304)), (1, .one (.h 1))], [], [(138304, 0)], [], []⟩)] .nil))) .nil)
def env_l_markPartS_l : Env := envOf ti [k_l_markText] [0]
theorem eok_l_markPartS_l : EnvOk Try.prog env_l_markPartS_l := envOf_ok tab mix _ _ (by
  intro k hk
  simp only [List.mem_cons, List.not_mem_nil, or_false] at hk
  rcases hk with rfl
  · exact s_l_markText)
theorem v_l_markPartS_l (x0 : List (Int × (Int × List UInt8))) (x1 : Int) : (vfun env_l_markPartS_l Try.f55 J_l_markPartS_l ann_l_markPartS_l [(0, 0)] [.one ⟨.sl true 55 (.pair (.int .i64) (.pair (.int .i64) .str)), x0⟩, .one ⟨.int .i64, x1⟩] []).run = (G.l_markPartS_l x0 x1).bind fun y => some (Res.mk [.one ⟨.int .i64, y.2⟩] [] [((0, 0), ⟨.sl true 55 (.pair (.int .i64) (.pair (.int .i64) .str)), y.1⟩)]) := by kernel_rfl
def k_l_markPartS_l : Kn := ⟨55, [2, 0], fun args rows => match args, rows with
  | [.one ⟨.sl true 55 (.pair (.int .i64) (.pair (.int .i64) .str)), x0⟩, .one ⟨.int .i64, x1⟩], [] => some ⟨_, G.l_markPartS_l x0 x1, fun y => ⟨[.one ⟨.int .i64, y.2⟩], [], [((0, 0), ⟨.sl true 55 (.pair (.int .i64) (.pair (.int .i64) .str)), y.1⟩)]⟩⟩
  | _, _ => none, []⟩
theorem s_l_markPartS_l : KnOk Try.prog k_l_markPartS_l := by
  intro args rows a h y hy
  simp only [k_l_markPartS_l] at h
  split at h
  · injection h with h
    subst h
    exact vfun_ok eok_l_markPartS_l Try.func55 rfl (by rw [v_l_markPartS_l]; simp only at hy; rw [hy]; rfl)
  · cases h
def J_l_markChangeS_l : Joins := [(.r, ⟨[.sl true 93 (.sl true 55 (.pair (.int .i64) (.pair (.int .i64) .str))), .int .i64], [(0, .one (.vw 122945)), (4, .one (.h 1))], [], [(122945, 0)], [], []⟩)]
def ann_l_markChangeS_l : Ann := .seq .nil (.seq (.seq .nil (.block [] (.loop ⟨[.sl true 93 (.sl true 55 (.pair (.int .i64) (.pair (.int .i64) .str))), .int .i64, .int .i64], [(0, .one (.vw 122880)), (1, .one (.h 1)), (5, .one (.h 2))], [], [(122880, 0)], [], []⟩ [(.x 0, ⟨[.sl true 93 (.sl true 55 (.pair (.int .i64) (.pair (.int .i64) .str))), .int .i64], [(0, .one (.vw 122944)), (1, .one (.h 1))], [], [(122944, 0)], [], []⟩)] .nil))) .nil)
def env_l_markChangeS_l : Env := envOf ti [k_l_markPartS_l] [0]
theorem eok_l_markChangeS_l : EnvOk Try.prog env_l_markChangeS_l := envOf_ok tab mix _ _ (by
  intro k hk
  simp only [List.mem_cons, List.not_mem_nil, or_false] at hk
  rcases hk with rfl
  · exact s_l_markPartS_l)
theorem v_l_markChangeS_l (x0 : List (List (Int × (Int × List UInt8)))) (x1 : Int) : (vfun env_l_markChangeS_l Try.f129 J_l_markChangeS_l ann_l_markChangeS_l [(0, 0)] [.one ⟨.sl true 93 (.sl true 55 (.pair (.int .i64) (.pair (.int .i64) .str))), x0⟩, .one ⟨.int .i64, x1⟩] []).run = (G.l_markChangeS_l x0 x1).bind fun y => some (Res.mk [.one ⟨.int .i64, y.2⟩] [] [((0, 0), ⟨.sl true 93 (.sl true 55 (.pair (.int .i64) (.pair (.int .i64) .str))), y.1⟩)]) := by kernel_rfl
def k_l_markChangeS_l : Kn := ⟨129, [2, 0], fun args rows => match args, rows with
  | [.one ⟨.sl true 93 (.sl true 55 (.pair (.int .i64) (.pair (.int .i64) .str))), x0⟩, .one ⟨.int .i64, x1⟩], [] => some ⟨_, G.l_markChangeS_l x0 x1, fun y => ⟨[.one ⟨.int .i64, y.2⟩], [], [((0, 0), ⟨.sl true 93 (.sl true 55 (.pair (.int .i64) (.pair (.int .i64) .str))), y.1⟩)]⟩⟩
  | _, _ => none, []⟩
theorem s_l_markChangeS_l : KnOk Try.prog k_l_markChangeS_l := by
  intro args rows a h y hy
  simp only [k_l_markChangeS_l] at h
  split at h
  · injection h with h
    subst h
    exact vfun_ok eok_l_markChangeS_l Try.func129 rfl (by rw [v_l_markChangeS_l]; simp only at hy; rw [hy]; rfl)
  · cases h
def J_l_markHistory_l : Joins := [(.r, ⟨[.int .i64, .str, .sl true 144 (.pair (.int .i64) (.int .i64)), .sl true 93 (.sl true 55 (.pair (.int .i64) (.pair (.int .i64) .str))), .int .i64], [(0, .ag [.h 0, .h 1, .vw 116736, .vw 116737]), (4, .one (.h 4))], [], [(116736, 2), (116737, 3)], [], []⟩)]
def ann_l_markHistory_l : Ann := .nil
def env_l_markHistory_l : Env := envOf ti [k_l_markRunS_l, k_l_markChangeS_l] [0]
theorem eok_l_markHistory_l : EnvOk Try.prog env_l_markHistory_l := envOf_ok tab mix _ _ (by
  intro k hk
  simp only [List.mem_cons, List.not_mem_nil, or_false] at hk
  rcases hk with rfl | rfl
  · exact s_l_markRunS_l
  · exact s_l_markChangeS_l)
theorem v_l_markHistory_l (x0 : Int) (x1 : List UInt8) (x2 : List (Int × Int)) (x3 : List (List (Int × (Int × List UInt8)))) (x4 : Int) : (vfun env_l_markHistory_l Try.f44 J_l_markHistory_l ann_l_markHistory_l [(0, 2), (0, 3)] [.ag [⟨.int .i64, x0⟩, ⟨.str, x1⟩, ⟨.sl true 144 (.pair (.int .i64) (.int .i64)), x2⟩, ⟨.sl true 93 (.sl true 55 (.pair (.int .i64) (.pair (.int .i64) .str))), x3⟩], .one ⟨.int .i64, x4⟩] []).run = (G.l_markHistory_l x0 x1 x2 x3 x4).bind fun y => some (Res.mk [.one ⟨.int .i64, y.2.2.2.2⟩] [] [((0, 2), ⟨.sl true 144 (.pair (.int .i64) (.int .i64)), y.2.2.1⟩), ((0, 3), ⟨.sl true 93 (.sl true 55 (.pair (.int .i64) (.pair (.int .i64) .str))), y.2.2.2.1⟩)]) := by kernel_rfl
def k_l_markHistory_l : Kn := ⟨44, [2, 0], fun args rows => match args, rows with
  | [.ag [⟨.int .i64, x0⟩, ⟨.str, x1⟩, ⟨.sl true 144 (.pair (.int .i64) (.int .i64)), x2⟩, ⟨.sl true 93 (.sl true 55 (.pair (.int .i64) (.pair (.int .i64) .str))), x3⟩], .one ⟨.int .i64, x4⟩], [] => some ⟨_, G.l_markHistory_l x0 x1 x2 x3 x4, fun y => ⟨[.one ⟨.int .i64, y.2.2.2.2⟩], [], [((0, 2), ⟨.sl true 144 (.pair (.int .i64) (.int .i64)), y.2.2.1⟩), ((0, 3), ⟨.sl true 93 (.sl true 55 (.pair (.int .i64) (.pair (.int .i64) .str))), y.2.2.2.1⟩)]⟩⟩
  | _, _ => none, []⟩
theorem s_l_markHistory_l : KnOk Try.prog k_l_markHistory_l := by
  intro args rows a h y hy
  simp only [k_l_markHistory_l] at h
  split at h
  · injection h with h
    subst h
    exact vfun_ok eok_l_markHistory_l Try.func44 rfl (by rw [v_l_markHistory_l]; simp only at hy; rw [hy]; rfl)
  · cases h
def J_l_markByteS_l : Joins := [(.r, ⟨[.sl true 5 (.int .u8), .int .i64], [(0, .one (.vw 122945)), (4, .one (.h 1))], [], [(122945, 0)], [], []⟩)]
def ann_l_markByteS_l : Ann := .seq .nil (.seq (.seq .nil (.block [] (.loop ⟨[.sl true 5 (.int .u8), .int .i64, .int .i64], [(0, .one (.vw 122880)), (1, .one (.h 1)), (5, .one (.h 2))], [], [(122880, 0)], [], []⟩ [(.x 0, ⟨[.sl true 5 (.int .u8), .int .i64], [(0, .one (.vw 122944)), (1, .one (.h 1))], [], [(122944, 0)], [], []⟩)] .nil))) .nil)
def env_l_markByteS_l : Env := envOf ti [] [0]
theorem eok_l_markByteS_l : EnvOk Try.prog env_l_markByteS_l := envOf_ok tab mix _ _ (by
  intro k hk; cases hk)
theorem v_l_markByteS_l (x0 : List Int) (x1 : Int) : (vfun env_l_markByteS_l Try.f60 J_l_markByteS_l ann_l_markByteS_l [(0, 0)] [.one ⟨.sl true 5 (.int .u8), x0⟩, .one ⟨.int .i64, x1⟩] []).run = (G.l_markByteS_l x0 x1).bind fun y => some (Res.mk [.one ⟨.int .i64, y.2⟩] [] [((0, 0), ⟨.sl true 5 (.int .u8), y.1⟩)]) := by kernel_rfl
def k_l_markByteS_l : Kn := ⟨60, [2, 0], fun args rows => match args, rows with
  | [.one ⟨.sl true 5 (.int .u8), x0⟩, .one ⟨.int .i64, x1⟩], [] => some ⟨_, G.l_markByteS_l x0 x1, fun y => ⟨[.one ⟨.int .i64, y.2⟩], [], [((0, 0), ⟨.sl true 5 (.int .u8), y.1⟩)]⟩⟩
  | _, _ => none, []⟩
theorem s_l_markByteS_l : KnOk Try.prog k_l_markByteS_l := by
  intro args rows a h y hy
  simp only [k_l_markByteS_l] at h
  split at h
  · injection h with h
    subst h
    exact vfun_ok eok_l_markByteS_l Try.func60 rfl (by rw [v_l_markByteS_l]; simp only at hy; rw [hy]; rfl)
  · cases h
def J_l_heldByteS : Joins := [(.r, ⟨[.int .i64], [(4, .one (.h 0))], [], [], [], []⟩)]
def ann_l_heldByteS : Ann := .seq .nil (.seq (.seq .nil (.block [] (.loop ⟨[.sl false 5 (.int .u8), .int .i64, .int .i64], [(0, .one (.h 0)), (1, .one (.h 1)), (5, .one (.h 2))], [], [], [], []⟩ [(.x 0, ⟨[.int .i64], [(1, .one (.h 0))], [], [], [], []⟩), (.r, ⟨[.int .i64], [(4, .one (.h 0))], [], [], [], []⟩)] .nil))) .nil)
def env_l_heldByteS : Env := envOf ti [] []
theorem eok_l_heldByteS : EnvOk Try.prog env_l_heldByteS := envOf_ok tab mix _ _ (by
  intro k hk; cases hk)
theorem v_l_heldByteS (x0 : List Int) (x1 : Int) : (vfun env_l_heldByteS Try.f61 J_l_heldByteS ann_l_heldByteS [] [.one ⟨.sl false 5 (.int .u8), x0⟩, .one ⟨.int .i64, x1⟩] []).run = (G.l_heldByteS x0 x1).bind fun y => some (Res.mk [.one ⟨.int .i64, y⟩] [] []) := by kernel_rfl
def k_l_heldByteS : Kn := ⟨61, [0, 0], fun args rows => match args, rows with
  | [.one ⟨.sl false 5 (.int .u8), x0⟩, .one ⟨.int .i64, x1⟩], [] => some ⟨_, G.l_heldByteS x0 x1, fun y => ⟨[.one ⟨.int .i64, y⟩], [], []⟩⟩
  | _, _ => none, []⟩
theorem s_l_heldByteS : KnOk Try.prog k_l_heldByteS := by
  intro args rows a h y hy
  simp only [k_l_heldByteS] at h
  split at h
  · injection h with h
    subst h
    exact vfun_ok eok_l_heldByteS Try.func61 rfl (by rw [v_l_heldByteS]; simp only at hy; rw [hy]; rfl)
  · cases h
end
end Go.Proofs.Ytcfbfpipfalieaa

set_option linter.unusedVariables false
set_option maxRecDepth 100000
namespace Go.Proofs.Ytcfbfpipfalieaa
open Go.V
noncomputable section
def J_l_FnExactExportRange : Joins := [(.r, ⟨[.bool], [(6, .one (.h 0))], [], [], [], []⟩)]
def ann_l_FnExactExportRange : Ann := .seq .nil (.seq .nil (.seq .nil (.seq .nil (.seq .nil (.seq .nil (.seq .nil (.seq (.seq (.reg [(.n, ⟨[.int .i64, .int .i64, .sl true 5 (.int .u8), .int .i64, .sl true 5 (.int .u8), .int .i64, .bool, .int .i64, .str, .sl false 215 (.pair (.int .i64) (.int .i64)), .sl false 213 (.sl false 179 (.pair (.int .i64) (.pair (.int .i64) .str))), .int .i64, .str, .sl true 144 (.pair (.int .i64) (.int .i64)), .sl true 93 (.sl true 55 (.pair (.int .i64) (.pair (.int .i64) .str)))], [(1, .one (.h 0)), (2, .one (.h 1)), (3, .pl 3 0), (8, .one (.vw 210944)), (9, .one (.h 3)), (10, .pl 10 0), (11, .one (.vw 210945)), (12, .one (.h 5)), (48, .one (.h 6))], [(3, [.h 7, .h 8, .h 9, .h 10]), (10, [.h 11, .h 12, .vw 210946, .vw 210947])], [(210944, 2), (210945, 4), (210946, 13), (210947, 14)], [], []⟩)]) .nil) (.seq .nil (.seq .nil (.seq .nil (.seq (.seq (.reg [(.n, ⟨[.int .i64, .int .i64, .sl true 5 (.int .u8), .int .i64, .sl true 5 (.int .u8), .bool, .int .i64, .str, .sl false 215 (.pair (.int .i64) (.int .i64)), .sl false 213 (.sl false 179 (.pair (.int .i64) (.pair (.int .i64) .str)))], [(1, .one (.h 0)), (2, .one (.h 1)), (3, .pl 3 0), (8, .one (.vw 210948)), (9, .one (.h 3)), (11, .one (.vw 210949)), (69, .one (.h 5))], [(3, [.h 6, .h 7, .h 8, .h 9])], [(210948, 2), (210949, 4)], [], []⟩)]) .nil) (.seq .nil (.seq .nil (.seq .nil (.seq .nil (.seq .nil (.seq .nil (.seq .nil (.seq (.seq (.reg [(.n, ⟨[.sl true 5 (.int .u8), .int .i64, .bool], [(11, .one (.vw 210950)), (14, .one (.h 1)), (97, .one (.h 2))], [], [(210950, 0)], [], []⟩)]) .nil) .nil)))))))))))))))))))
def env_l_FnExactExportRange : Env := envOf ti [k_l_szHistory, k_l_toHistory, k_s_ExportRange, k_i_ExportRange, k_l_eqByteS, k_l_eqHistory, k_l_markHistory_l, k_l_markByteS_l, k_l_heldByteS] []
theorem eok_l_FnExactExportRange : EnvOk Try.prog env_l_FnExactExportRange := envOf_ok tab mix _ _ (by
  intro k hk
  simp only [List.mem_cons, List.not_mem_nil, or_false] at hk
  rcases hk with rfl | rfl | rfl | rfl | rfl | rfl | rfl | rfl | rfl
  · exact s_l_szHistory
  · exact s_l_toHistory
  · exact s_s_ExportRange
  · exact s_i_ExportRange
  · exact s_l_eqByteS
  · exact s_l_eqHistory
  · exact s_l_markHistory_l
  · exact s_l_markByteS_l
  · exact s_l_heldByteS)
theorem v_l_FnExactExportRange (x0 : Int) (x1 : List UInt8) (x2 : List (Int × Int)) (x3 : List (List (Int × (Int × List UInt8)))) (x4 : Int) (x5 : Int) : (vfun env_l_FnExactExportRange Try.f9 J_l_FnExactExportRange ann_l_FnExactExportRange [] [.ag [⟨.int .i64, x0⟩, ⟨.str, x1⟩, ⟨.sl false 215 (.pair (.int .i64) (.int .i64)), x2⟩, ⟨.sl false 213 (.sl false 179 (.pair (.int .i64) (.pair (.int .i64) .str))), x3⟩], .one ⟨.int .i64, x4⟩, .one ⟨.int .i64, x5⟩] []).run = (G.l_FnExactExportRange x0 x1 x2 x3 x4 x5).bind fun y => some (Res.mk [.one ⟨.bool, y⟩] [] []) := by kernel_rfl
def k_l_FnExactExportRange : Kn := ⟨9, [0, 0, 0], fun args rows => match args, rows with
  | [.ag [⟨.int .i64, x0⟩, ⟨.str, x1⟩, ⟨.sl false 215 (.pair (.int .i64) (.int .i64)), x2⟩, ⟨.sl false 213 (.sl false 179 (.pair (.int .i64) (.pair (.int .i64) .str))), x3⟩], .one ⟨.int .i64, x4⟩, .one ⟨.int .i64, x5⟩], [] => some ⟨_, G.l_FnExactExportRange x0 x1 x2 x3 x4 x5, fun y => ⟨[.one ⟨.bool, y⟩], [], []⟩⟩
  | _, _ => none, []⟩
theorem s_l_FnExactExportRange : KnOk Try.prog k_l_FnExactExportRange := by
  intro args rows a h y hy
  simp only [k_l_FnExactExportRange] at h
  split at h
  · injection h with h
    subst h
    exact vfun_ok eok_l_FnExactExportRange Try.func9 rfl (by rw [v_l_FnExactExportRange]; simp only at hy; rw [hy]; rfl)
  · cases h
end
end Go.Proofs.Ytcfbfpipfalieaa
