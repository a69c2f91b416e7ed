import Derived.Test.YtcfbfpipfalieaaQPlC
import Derived.Test.YtcfbfpipfalieaaProg
import Derived.KernelRfl
import Derived.Test.YtcfbfpipfalieaaRows
import Derived.WalkKit
import Derived.ProofKit
import Derived.OpenShut
import Derived.ShutString
import Derived.ChangeOld
import Derived.Below
set_option linter.unusedVariables false
set_option maxRecDepth 100000
namespace Go.Proofs.Ytcfbfpipfalieaa
open Go.V
def tiL : List TI := [
  .other,
  .other,
  .cell (.int .i64),
  .cell (.int .i64),
  .cell .bool,
  .cell (.int .u8),
  .cell (.int .u8),
  .other,
  .other,
  .cell .str,
  .cell .str,
  .cell .str,
  .cell (.int .u64),
  .other,
  .other,
  .ptr 247,
  .ptr 250,
  .ptr 258,
  .other,
  .other,
  .other,
  .cell (.int .i32),
  .slice 196 [(.int .i64), (.sl true 5 (.int .u8)), .bool, (.int .i64), (.int .i64)] 56,
  .struct [(0, 1, false), (1, 1, false), (2, 1, false)] [(.int .i64), (.int .i64), (.sl true 196 (.pair (.int .i64) (.pair (.sl true 5 (.int .u8)) (.pair .bool (.pair (.int .i64) (.int .i64))))))] false,
  .struct [(0, 1, false), (1, 1, false), (2, 1, false)] [(.int .i64), (.int .i64), (.sl true 196 (.pair (.int .i64) (.pair (.sl true 5 (.int .u8)) (.pair .bool (.pair (.int .i64) (.int .i64))))))] false,
  .slice 43 [(.sl true 5 (.int .u8))] 24,
  .struct [(0, 1, false), (1, 1, false), (2, 1, false), (3, 1, false)] [(.sl true 43 (.sl true 5 (.int .u8))), (.int .i64), .bool, (.int .i64)] false,
  .struct [(0, 1, false), (1, 1, false), (2, 1, false), (3, 1, false)] [(.sl true 43 (.sl true 5 (.int .u8))), (.int .i64), .bool, (.int .i64)] false,
  .other,
  .other,
  .slice 120 [(.int .i64), (.sl true 5 (.int .u8)), .bool, (.int .i64), (.int .i64)] 56,
  .struct [(0, 1, false), (1, 1, false), (2, 1, false)] [(.int .i64), (.int .i64), (.sl true 120 (.pair (.int .i64) (.pair (.sl true 5 (.int .u8)) (.pair .bool (.pair (.int .i64) (.int .i64))))))] false,
  .struct [(0, 1, false), (1, 1, false), (2, 1, false)] [(.int .i64), (.int .i64), (.sl true 120 (.pair (.int .i64) (.pair (.sl true 5 (.int .u8)) (.pair .bool (.pair (.int .i64) (.int .i64))))))] false,
  .other,
  .other,
  .other,
  .struct [(0, 1, false), (1, 1, false), (2, 1, false), (3, 1, false)] [(.sl true 43 (.sl true 5 (.int .u8))), (.int .i64), .bool, (.int .i64)] false,
  .other,
  .other,
  .other,
  .other,
  .other,
  .other,
  .slice 5 [(.int .u8)] 1,
  .slice 144 [(.int .i64), (.int .i64)] 16,
  .slice 55 [(.int .i64), (.int .i64), .str] 32,
  .other,
  .other,
  .other,
  .other,
  .other,
  .other,
  .other,
  .other,
  .struct [(0, 1, false), (1, 1, false), (2, 1, false)] [(.int .i64), (.int .i64), .str] true,
  .struct [(0, 1, false), (1, 1, false), (2, 1, false)] [(.int .i64), (.int .i64), .str] true,
  .other,
  .other,
  .other,
  .other,
  .other,
  .slice 215 [(.int .i64), (.int .i64)] 16,
  .slice 213 [(.sl true 179 (.pair (.int .i64) (.pair (.int .i64) .str)))] 24,
  .struct [(0, 1, false), (1, 1, false), (2, 1, false), (3, 1, false)] [(.int .i64), .str, (.sl true 215 (.pair (.int .i64) (.int .i64))), (.sl true 213 (.sl true 179 (.pair (.int .i64) (.pair (.int .i64) .str))))] false,
  .struct [(0, 1, false), (1, 1, false), (2, 1, false), (3, 1, false)] [(.int .i64), .str, (.sl true 215 (.pair (.int .i64) (.int .i64))), (.sl true 213 (.sl true 179 (.pair (.int .i64) (.pair (.int .i64) .str))))] false,
  .other,
  .other,
  .other,
  .slice 93 [(.sl true 55 (.pair (.int .i64) (.pair (.int .i64) .str)))] 24,
  .struct [(0, 1, false), (1, 1, false), (2, 1, false), (3, 1, false)] [(.int .i64), .str, (.sl true 144 (.pair (.int .i64) (.int .i64))), (.sl true 93 (.sl true 55 (.pair (.int .i64) (.pair (.int .i64) .str))))] false,
  .struct [(0, 1, false), (1, 1, false), (2, 1, false), (3, 1, false)] [(.int .i64), .str, (.sl true 144 (.pair (.int .i64) (.int .i64))), (.sl true 93 (.sl true 55 (.pair (.int .i64) (.pair (.int .i64) .str))))] false,
  .other,
  .other,
  .other,
  .other,
  .other,
  .other,
  .other,
  .other,
  .other,
  .other,
  .other,
  .other,
  .other,
  .other,
  .other,
  .other,
  .other,
  .other,
  .other,
  .other,
  .other,
  .struct [(0, 1, false)] [(.sl true 55 (.pair (.int .i64) (.pair (.int .i64) .str)))] false,
  .struct [(0, 1, false)] [(.sl true 55 (.pair (.int .i64) (.pair (.int .i64) .str)))] false,
  .other,
  .other,
  .slice 179 [(.int .i64), (.int .i64), .str] 32,
  .other,
  .other,
  .other,
  .other,
  .other,
  .other,
  .other,
  .other,
  .other,
  .other,
  .other,
  .other,
  .other,
  .other,
  .other,
  .other,
  .cell (.int .u64),
  .other,
  .other,
  .other,
  .other,
  .other,
  .struct [(0, 1, false), (1, 1, false), (2, 1, false), (3, 1, false), (4, 1, false)] [(.int .i64), (.sl true 5 (.int .u8)), .bool, (.int .i64), (.int .i64)] false,
  .struct [(0, 1, false), (1, 1, false), (2, 1, false), (3, 1, false), (4, 1, false)] [(.int .i64), (.sl true 5 (.int .u8)), .bool, (.int .i64), (.int .i64)] false,
  .other,
  .other,
  .other,
  .other,
  .other,
  .other,
  .other,
  .other,
  .other,
  .ptr 133,
  .cell (.int .u64),
  .struct [(0, 1, false), (1, 1, false), (2, 1, false)] [(.sl true 5 (.int .u8)), (.int .i64), (.int .u64)] false,
  .struct [(0, 1, false), (1, 1, false), (2, 1, false)] [(.sl true 5 (.int .u8)), (.int .i64), (.int .u64)] false,
  .other,
  .other,
  .other,
  .other,
  .slice 3 [(.int .i64)] 8,
  .other,
  .other,
  .other,
  .other,
  .struct [(0, 1, false), (1, 1, false)] [(.int .i64), (.int .i64)] true,
  .struct [(0, 1, false), (1, 1, false)] [(.int .i64), (.int .i64)] true,
  .other,
  .other,
  .other,
  .other,
  .other,
  .other,
  .other,
  .other,
  .other,
  .other,
  .other,
  .other,
  .other,
  .other,
  .other,
  .other,
  .other,
  .other,
  .other,
  .other,
  .other,
  .other,
  .other,
  .other,
  .other,
  .other,
  .other,
  .cell (.int .u32),
  .other,
  .other,
  .other,
  .other,
  .other,
  .other,
  .struct [(0, 1, false), (1, 1, false), (2, 1, false)] [(.int .i64), (.int .i64), .str] true,
  .other,
  .other,
  .other,
  .other,
  .other,
  .other,
  .ptr 188,
  .struct [(0, 1, false), (1, 1, false), (2, 1, false)] [(.sl true 5 (.int .u8)), (.int .i64), .bool] false,
  .struct [(0, 1, false), (1, 1, false), (2, 1, false)] [(.sl true 5 (.int .u8)), (.int .i64), .bool] false,
  .other,
  .other,
  .other,
  .ptr 194,
  .struct [(0, 1, false), (1, 1, false)] [(.sl true 5 (.int .u8)), .bool] false,
  .struct [(0, 1, false), (1, 1, false)] [(.sl true 5 (.int .u8)), .bool] false,
  .other,
  .struct [(0, 1, false), (1, 1, false), (2, 1, false), (3, 1, false), (4, 1, false)] [(.int .i64), (.sl true 5 (.int .u8)), .bool, (.int .i64), (.int .i64)] false,
  .other,
  .other,
  .other,
  .other,
  .ptr 32,
  .other,
  .other,
  .other,
  .other,
  .other,
  .other,
  .other,
  .other,
  .other,
  .other,
  .struct [(0, 1, false)] [(.sl true 179 (.pair (.int .i64) (.pair (.int .i64) .str)))] false,
  .struct [(0, 1, false)] [(.sl true 179 (.pair (.int .i64) (.pair (.int .i64) .str)))] false,
  .other,
  .struct [(0, 1, false), (1, 1, false)] [(.int .i64), (.int .i64)] true,
  .other,
  .other,
  .other,
  .slice 4 [.bool] 1,
  .slice 9 [.str] 16,
  .struct [(0, 1, false), (1, 1, false)] [(.sl true 4 .bool), (.sl true 9 .str)] false,
  .struct [(0, 1, false), (1, 1, false)] [(.sl true 4 .bool), (.sl true 9 .str)] false,
  .other,
  .struct [(0, 1, false), (1, 1, false)] [(.sl true 4 .bool), (.sl true 9 .str)] false,
  .struct [(0, 1, false), (1, 1, false)] [(.sl true 4 .bool), (.sl true 9 .str)] false,
  .other,
  .other,
  .other,
  .other,
  .struct [(0, 1, false)] [(.sl true 55 (.pair (.int .i64) (.pair (.int .i64) .str)))] false,
  .struct [(0, 1, false)] [(.sl true 55 (.pair (.int .i64) (.pair (.int .i64) .str)))] false,
  .other,
  .other,
  .other,
  .other,
  .other,
  .other,
  .other,
  .other,
  .other,
  .ptr 231,
  .ptr 55,
  .other,
  .other,
  .other,
  .other,
  .other,
  .other,
  .other,
  .other,
  .cell (.int .u8),
  .cell (.int .u8),
  .other,
  .ptr 5,
  .cell (.int .i32),
  .cell (.int .i32),
  .other,
  .other,
  .other]
def ti (t : TypeId) : TI := tiL.getD t .other
theorem tab : TabOk Try.prog ti := tabOf Try.prog tiL (by kernel_rfl)
theorem mix : Try.prog.follows .mixedOrders = true := by kernel_rfl
end Go.Proofs.Ytcfbfpipfalieaa

set_option maxRecDepth 100000
namespace Go.Proofs.Ytcfbfpipfalieaa
open Go.V
theorem own : ownKnob Try.prog.godebug = none := by kernel_rfl
theorem laidOut : laidOutB Try.prog = true := by kernel_rfl
theorem tab2 : ∀ t, tyOk2 Try.prog ti t (ti t) = true := tabOf2 Try.prog tiL (by kernel_rfl)
end Go.Proofs.Ytcfbfpipfalieaa

set_option linter.unusedVariables false
set_option maxRecDepth 100000
namespace Go.Proofs.Ytcfbfpipfalieaa
open Go.V
noncomputable section
def J_l_szByteS : Joins := [(.r, ⟨[.int .i64], [(4, .one (.h 0))], [], [], [], []⟩)]
def ann_l_szByteS : Ann := .nil
def env_l_szByteS : Env := envOf ti [] []
theorem eok_l_szByteS : EnvOk Try.prog env_l_szByteS := envOf_ok tab mix _ _ (by
  intro k hk; cases hk)
theorem v_l_szByteS (x0 : List Int) (x1 : Int) : (vfun env_l_szByteS Try.f176 J_l_szByteS ann_l_szByteS [] [.one ⟨.sl false 5 (.int .u8), x0⟩, .one ⟨.int .i64, x1⟩] []).run = (G.l_szByteS x0 x1).bind fun y => some (Res.mk [.one ⟨.int .i64, y⟩] [] []) := by kernel_rfl
def k_l_szByteS : Kn := ⟨176, [0, 0], fun args rows => match args, rows with
  | [.one ⟨.sl false 5 (.int .u8), x0⟩, .one ⟨.int .i64, x1⟩], [] => some ⟨_, G.l_szByteS x0 x1, fun y => ⟨[.one ⟨.int .i64, y⟩], [], []⟩⟩
  | _, _ => none, []⟩
theorem s_l_szByteS : KnOk Try.prog k_l_szByteS := by
  intro args rows a h y hy
  simp only [k_l_szByteS] at h
  split at h
  · injection h with h
    subst h
    exact vfun_ok eok_l_szByteS Try.func176 rfl (by rw [v_l_szByteS]; simp only at hy; rw [hy]; rfl)
  · cases h
def J_l_szCacheLine : Joins := [(.r, ⟨[.int .i64], [(4, .one (.h 0))], [], [], [], []⟩)]
def ann_l_szCacheLine : Ann := .nil
def env_l_szCacheLine : Env := envOf ti [k_l_szByteS] []
theorem eok_l_szCacheLine : EnvOk Try.prog env_l_szCacheLine := envOf_ok tab mix _ _ (by
  intro k hk
  simp only [List.mem_cons, List.not_mem_nil, or_false] at hk
  rcases hk with rfl
  · exact s_l_szByteS)
theorem v_l_szCacheLine (x0 : Int) (x1 : List Int) (x2 : Bool) (x3 : Int) (x4 : Int) (x5 : Int) : (vfun env_l_szCacheLine Try.f175 J_l_szCacheLine ann_l_szCacheLine [] [.ag [⟨.int .i64, x0⟩, ⟨.sl false 5 (.int .u8), x1⟩, ⟨.bool, x2⟩, ⟨.int .i64, x3⟩, ⟨.int .i64, x4⟩], .one ⟨.int .i64, x5⟩] []).run = (G.l_szCacheLine x0 x1 x2 x3 x4 x5).bind fun y => some (Res.mk [.one ⟨.int .i64, y⟩] [] []) := by kernel_rfl
def k_l_szCacheLine : Kn := ⟨175, [0, 0], fun args rows => match args, rows with
  | [.ag [⟨.int .i64, x0⟩, ⟨.sl false 5 (.int .u8), x1⟩, ⟨.bool, x2⟩, ⟨.int .i64, x3⟩, ⟨.int .i64, x4⟩], .one ⟨.int .i64, x5⟩], [] => some ⟨_, G.l_szCacheLine x0 x1 x2 x3 x4 x5, fun y => ⟨[.one ⟨.int .i64, y⟩], [], []⟩⟩
  | _, _ => none, []⟩
theorem s_l_szCacheLine : KnOk Try.prog k_l_szCacheLine := by
  intro args rows a h y hy
  simp only [k_l_szCacheLine] at h
  split at h
  · injection h with h
    subst h
    exact vfun_ok eok_l_szCacheLine Try.func175 rfl (by rw [v_l_szCacheLine]; simp only at hy; rw [hy]; rfl)
  · cases h
def J_l_szCacheLineS : Joins := [(.r, ⟨[.int .i64], [(4, .one (.h 0))], [], [], [], []⟩)]
def ann_l_szCacheLineS : Ann := .seq .nil (.seq .nil (.seq .nil (.seq (.seq .nil (.block [] (.loop ⟨[.sl false 196 (.pair (.int .i64) (.pair (.sl false 5 (.int .u8)) (.pair .bool (.pair (.int .i64) (.int .i64))))), .int .i64, .int .i64], [(0, .one (.h 0)), (1, .one (.h 1)), (5, .one (.h 2))], [], [], [], []⟩ [(.x 0, ⟨[.int .i64], [(1, .one (.h 0))], [], [], [], []⟩), (.r, ⟨[.int .i64], [(4, .one (.h 0))], [], [], [], []⟩)] .nil))) .nil)))
def env_l_szCacheLineS : Env := envOf ti [k_l_szCacheLine] []
theorem eok_l_szCacheLineS : EnvOk Try.prog env_l_szCacheLineS := envOf_ok tab mix _ _ (by
  intro k hk
  simp only [List.mem_cons, List.not_mem_nil, or_false] at hk
  rcases hk with rfl
  · exact s_l_szCacheLine)
theorem v_l_szCacheLineS (x0 : List (Int × (List Int × (Bool × (Int × Int))))) (x1 : Int) : (vfun env_l_szCacheLineS Try.f84 J_l_szCacheLineS ann_l_szCacheLineS [] [.one ⟨.sl false 196 (.pair (.int .i64) (.pair (.sl false 5 (.int .u8)) (.pair .bool (.pair (.int .i64) (.int .i64))))), x0⟩, .one ⟨.int .i64, x1⟩] []).run = (G.l_szCacheLineS x0 x1).bind fun y => some (Res.mk [.one ⟨.int .i64, y⟩] [] []) := by kernel_rfl
def k_l_szCacheLineS : Kn := ⟨84, [0, 0], fun args rows => match args, rows with
  | [.one ⟨.sl false 196 (.pair (.int .i64) (.pair (.sl false 5 (.int .u8)) (.pair .bool (.pair (.int .i64) (.int .i64))))), x0⟩, .one ⟨.int .i64, x1⟩], [] => some ⟨_, G.l_szCacheLineS x0 x1, fun y => ⟨[.one ⟨.int .i64, y⟩], [], []⟩⟩
  | _, _ => none, []⟩
theorem s_l_szCacheLineS : KnOk Try.prog k_l_szCacheLineS := by
  intro args rows a h y hy
  simp only [k_l_szCacheLineS] at h
  split at h
  · injection h with h
    subst h
    exact vfun_ok eok_l_szCacheLineS Try.func84 rfl (by rw [v_l_szCacheLineS]; simp only at hy; rw [hy]; rfl)
  · cases h
def J_l_szCache : Joins := [(.r, ⟨[.int .i64], [(4, .one (.h 0))], [], [], [], []⟩)]
def ann_l_szCache : Ann := .nil
def env_l_szCache : Env := envOf ti [k_l_szCacheLineS] []
theorem eok_l_szCache : EnvOk Try.prog env_l_szCache := envOf_ok tab mix _ _ (by
  intro k hk
  simp only [List.mem_cons, List.not_mem_nil, or_false] at hk
  rcases hk with rfl
  · exact s_l_szCacheLineS)
theorem v_l_szCache (x0 : Int) (x1 : Int) (x2 : List (Int × (List Int × (Bool × (Int × Int))))) (x3 : Int) : (vfun env_l_szCache Try.f18 J_l_szCache ann_l_szCache [] [.ag [⟨.int .i64, x0⟩, ⟨.int .i64, x1⟩, ⟨.sl false 196 (.pair (.int .i64) (.pair (.sl false 5 (.int .u8)) (.pair .bool (.pair (.int .i64) (.int .i64))))), x2⟩], .one ⟨.int .i64, x3⟩] []).run = (G.l_szCache x0 x1 x2 x3).bind fun y => some (Res.mk [.one ⟨.int .i64, y⟩] [] []) := by kernel_rfl
def k_l_szCache : Kn := ⟨18, [0, 0], fun args rows => match args, rows with
  | [.ag [⟨.int .i64, x0⟩, ⟨.int .i64, x1⟩, ⟨.sl false 196 (.pair (.int .i64) (.pair (.sl false 5 (.int .u8)) (.pair .bool (.pair (.int .i64) (.int .i64))))), x2⟩], .one ⟨.int .i64, x3⟩], [] => some ⟨_, G.l_szCache x0 x1 x2 x3, fun y => ⟨[.one ⟨.int .i64, y⟩], [], []⟩⟩
  | _, _ => none, []⟩
theorem s_l_szCache : KnOk Try.prog k_l_szCache := by
  intro args rows a h y hy
  simp only [k_l_szCache] at h
  split at h
  · injection h with h
    subst h
    exact vfun_ok eok_l_szCache Try.func18 rfl (by rw [v_l_szCache]; simp only at hy; rw [hy]; rfl)
  · cases h
def J_l_szByteSS : Joins := [(.r, ⟨[.int .i64], [(4, .one (.h 0))], [], [], [], []⟩)]
def ann_l_szByteSS : Ann := .seq .nil (.seq .nil (.seq .nil (.seq (.seq .nil (.block [] (.loop ⟨[.sl false 43 (.sl false 5 (.int .u8)), .int .i64, .int .i64], [(0, .one (.h 0)), (1, .one (.h 1)), (5, .one (.h 2))], [], [], [], []⟩ [(.x 0, ⟨[.int .i64], [(1, .one (.h 0))], [], [], [], []⟩), (.r, ⟨[.int .i64], [(4, .one (.h 0))], [], [], [], []⟩)] .nil))) .nil)))
def env_l_szByteSS : Env := envOf ti [k_l_szByteS] []
theorem eok_l_szByteSS : EnvOk Try.prog env_l_szByteSS := envOf_ok tab mix _ _ (by
  intro k hk
  simp only [List.mem_cons, List.not_mem_nil, or_false] at hk
  rcases hk with rfl
  · exact s_l_szByteS)
theorem v_l_szByteSS (x0 : List (List Int)) (x1 : Int) : (vfun env_l_szByteSS Try.f85 J_l_szByteSS ann_l_szByteSS [] [.one ⟨.sl false 43 (.sl false 5 (.int .u8)), x0⟩, .one ⟨.int .i64, x1⟩] []).run = (G.l_szByteSS x0 x1).bind fun y => some (Res.mk [.one ⟨.int .i64, y⟩] [] []) := by kernel_rfl
def k_l_szByteSS : Kn := ⟨85, [0, 0], fun args rows => match args, rows with
  | [.one ⟨.sl false 43 (.sl false 5 (.int .u8)), x0⟩, .one ⟨.int .i64, x1⟩], [] => some ⟨_, G.l_szByteSS x0 x1, fun y => ⟨[.one ⟨.int .i64, y⟩], [], []⟩⟩
  | _, _ => none, []⟩
theorem s_l_szByteSS : KnOk Try.prog k_l_szByteSS := by
  intro args rows a h y hy
  simp only [k_l_szByteSS] at h
  split at h
  · injection h with h
    subst h
    exact vfun_ok eok_l_szByteSS Try.func85 rfl (by rw [v_l_szByteSS]; simp only at hy; rw [hy]; rfl)
  · cases h
def J_l_szDisk : Joins := [(.r, ⟨[.int .i64], [(4, .one (.h 0))], [], [], [], []⟩)]
def ann_l_szDisk : Ann := .nil
def env_l_szDisk : Env := envOf ti [k_l_szByteSS] []
theorem eok_l_szDisk : EnvOk Try.prog env_l_szDisk := envOf_ok tab mix _ _ (by
  intro k hk
  simp only [List.mem_cons, List.not_mem_nil, or_false] at hk
  rcases hk with rfl
  · exact s_l_szByteSS)
theorem v_l_szDisk (x0 : List (List Int)) (x1 : Int) (x2 : Bool) (x3 : Int) (x4 : Int) : (vfun env_l_szDisk Try.f19 J_l_szDisk ann_l_szDisk [] [.ag [⟨.sl false 43 (.sl false 5 (.int .u8)), x0⟩, ⟨.int .i64, x1⟩, ⟨.bool, x2⟩, ⟨.int .i64, x3⟩], .one ⟨.int .i64, x4⟩] []).run = (G.l_szDisk x0 x1 x2 x3 x4).bind fun y => some (Res.mk [.one ⟨.int .i64, y⟩] [] []) := by kernel_rfl
def k_l_szDisk : Kn := ⟨19, [0, 0], fun args rows => match args, rows with
  | [.ag [⟨.sl false 43 (.sl false 5 (.int .u8)), x0⟩, ⟨.int .i64, x1⟩, ⟨.bool, x2⟩, ⟨.int .i64, x3⟩], .one ⟨.int .i64, x4⟩], [] => some ⟨_, G.l_szDisk x0 x1 x2 x3 x4, fun y => ⟨[.one ⟨.int .i64, y⟩], [], []⟩⟩
  | _, _ => none, []⟩
theorem s_l_szDisk : KnOk Try.prog k_l_szDisk := by
  intro args rows a h y hy
  simp only [k_l_szDisk] at h
  split at h
  · injection h with h
    subst h
    exact vfun_ok eok_l_szDisk Try.func19 rfl (by rw [v_l_szDisk]; simp only at hy; rw [hy]; rfl)
  · cases h
def J_l_toByteS : Joins := [(.r, ⟨[.sl true 5 (.int .u8)], [(2, .one (.vw 124993))], [], [(124993, 0)], [], []⟩)]
def ann_l_toByteS : Ann := .seq .nil (.seq .nil (.seq (.seq .nil (.block [] (.loop ⟨[.sl false 5 (.int .u8), .sl true 5 (.int .u8), .int .i64], [(0, .one (.h 0)), (3, .one (.vw 124928)), (4, .one (.h 2))], [], [(124928, 1)], [], []⟩ [(.x 0, ⟨[.sl true 5 (.int .u8)], [(3, .one (.vw 124992))], [], [(124992, 0)], [], []⟩)] .nil))) .nil))
def env_l_toByteS : Env := envOf ti [] []
theorem eok_l_toByteS : EnvOk Try.prog env_l_toByteS := envOf_ok tab mix _ _ (by
  intro k hk; cases hk)
theorem v_l_toByteS (x0 : List Int) : (vfun env_l_toByteS Try.f80 J_l_toByteS ann_l_toByteS [] [.one ⟨.sl false 5 (.int .u8), x0⟩] []).run = (G.l_toByteS x0).bind fun y => some (Res.mk [.one ⟨.sl true 5 (.int .u8), y⟩] [] []) := by kernel_rfl
def k_l_toByteS : Kn := ⟨80, [0], fun args rows => match args, rows with
  | [.one ⟨.sl false 5 (.int .u8), x0⟩], [] => some ⟨_, G.l_toByteS x0, fun y => ⟨[.one ⟨.sl true 5 (.int .u8), y⟩], [], []⟩⟩
  | _, _ => none, []⟩
theorem s_l_toByteS : KnOk Try.prog k_l_toByteS := by
  intro args rows a h y hy
  simp only [k_l_toByteS] at h
  split at h
  · injection h with h
    subst h
    exact vfun_ok eok_l_toByteS Try.func80 rfl (by rw [v_l_toByteS]; simp only at hy; rw [hy]; rfl)
  · cases h
def J_l_toCacheLine : Joins := [(.r, ⟨[.int .i64, .sl true 5 (.int .u8), .bool, .int .i64, .int .i64], [(2, .pl 2 0)], [(2, [.h 0, .vw 123904, .h 2, .h 3, .h 4])], [(123904, 1)], [], []⟩)]
def ann_l_toCacheLine : Ann := .nil
def env_l_toCacheLine : Env := envOf ti [k_l_toByteS] []
theorem eok_l_toCacheLine : EnvOk Try.prog env_l_toCacheLine := envOf_ok tab mix _ _ (by
  intro k hk
  simp only [List.mem_cons, List.not_mem_nil, or_false] at hk
  rcases hk with rfl
  · exact s_l_toByteS)
theorem v_l_toCacheLine (x0 : Int) (x1 : List Int) (x2 : Bool) (x3 : Int) (x4 : Int) : (vfun env_l_toCacheLine Try.f178 J_l_toCacheLine ann_l_toCacheLine [] [.ag [⟨.int .i64, x0⟩, ⟨.sl false 5 (.int .u8), x1⟩, ⟨.bool, x2⟩, ⟨.int .i64, x3⟩, ⟨.int .i64, x4⟩]] []).run = (G.l_toCacheLine x0 x1 x2 x3 x4).bind fun y => some (Res.mk [.ag [⟨.int .i64, y.1⟩, ⟨.sl true 5 (.int .u8), y.2.1⟩, ⟨.bool, y.2.2.1⟩, ⟨.int .i64, y.2.2.2.1⟩, ⟨.int .i64, y.2.2.2.2⟩]] [] []) := by kernel_rfl
def k_l_toCacheLine : Kn := ⟨178, [0], fun args rows => match args, rows with
  | [.ag [⟨.int .i64, x0⟩, ⟨.sl false 5 (.int .u8), x1⟩, ⟨.bool, x2⟩, ⟨.int .i64, x3⟩, ⟨.int .i64, x4⟩]], [] => some ⟨_, G.l_toCacheLine x0 x1 x2 x3 x4, fun y => ⟨[.ag [⟨.int .i64, y.1⟩, ⟨.sl true 5 (.int .u8), y.2.1⟩, ⟨.bool, y.2.2.1⟩, ⟨.int .i64, y.2.2.2.1⟩, ⟨.int .i64, y.2.2.2.2⟩]], [], []⟩⟩
  | _, _ => none, []⟩
theorem s_l_toCacheLine : KnOk Try.prog k_l_toCacheLine := by
  intro args rows a h y hy
  simp only [k_l_toCacheLine] at h
  split at h
  · injection h with h
    subst h
    exact vfun_ok eok_l_toCacheLine Try.func178 rfl (by rw [v_l_toCacheLine]; simp only at hy; rw [hy]; rfl)
  · cases h
def J_l_toCacheLineS : Joins := [(.r, ⟨[.sl true 120 (.pair (.int .i64) (.pair (.sl true 5 (.int .u8)) (.pair .bool (.pair (.int .i64) (.int .i64)))))], [(2, .one (.vw 126017))], [], [(126017, 0)], [], []⟩)]
def ann_l_toCacheLineS : Ann := .seq .nil (.seq .nil (.seq (.seq .nil (.block [] (.loop ⟨[.sl false 196 (.pair (.int .i64) (.pair (.sl false 5 (.int .u8)) (.pair .bool (.pair (.int .i64) (.int .i64))))), .sl true 120 (.pair (.int .i64) (.pair (.sl true 5 (.int .u8)) (.pair .bool (.pair (.int .i64) (.int .i64))))), .int .i64], [(0, .one (.h 0)), (3, .one (.vw 125952)), (4, .one (.h 2))], [], [(125952, 1)], [], []⟩ [(.x 0, ⟨[.sl true 120 (.pair (.int .i64) (.pair (.sl true 5 (.int .u8)) (.pair .bool (.pair (.int .i64) (.int .i64)))))], [(3, .one (.vw 126016))], [], [(126016, 0)], [], []⟩)] .nil))) .nil))
def env_l_toCacheLineS : Env := envOf ti [k_l_toCacheLine] []
theorem eok_l_toCacheLineS : EnvOk Try.prog env_l_toCacheLineS := envOf_ok tab mix _ _ (by
  intro k hk
  simp only [List.mem_cons, List.not_mem_nil, or_false] at hk
  rcases hk with rfl
  · exact s_l_toCacheLine)
theorem v_l_toCacheLineS (x0 : List (Int × (List Int × (Bool × (Int × Int))))) : (vfun env_l_toCacheLineS Try.f90 J_l_toCacheLineS ann_l_toCacheLineS [] [.one ⟨.sl false 196 (.pair (.int .i64) (.pair (.sl false 5 (.int .u8)) (.pair .bool (.pair (.int .i64) (.int .i64))))), x0⟩] []).run = (G.l_toCacheLineS x0).bind fun y => some (Res.mk [.one ⟨.sl true 120 (.pair (.int .i64) (.pair (.sl true 5 (.int .u8)) (.pair .bool (.pair (.int .i64) (.int .i64))))), y⟩] [] []) := by kernel_rfl
def k_l_toCacheLineS : Kn := ⟨90, [0], fun args rows => match args, rows with
  | [.one ⟨.sl false 196 (.pair (.int .i64) (.pair (.sl false 5 (.int .u8)) (.pair .bool (.pair (.int .i64) (.int .i64))))), x0⟩], [] => some ⟨_, G.l_toCacheLineS x0, fun y => ⟨[.one ⟨.sl true 120 (.pair (.int .i64) (.pair (.sl true 5 (.int .u8)) (.pair .bool (.pair (.int .i64) (.int .i64))))), y⟩], [], []⟩⟩
  | _, _ => none, []⟩
theorem s_l_toCacheLineS : KnOk Try.prog k_l_toCacheLineS := by
  intro args rows a h y hy
  simp only [k_l_toCacheLineS] at h
  split at h
  · injection h with h
    subst h
    exact vfun_ok eok_l_toCacheLineS Try.func90 rfl (by rw [v_l_toCacheLineS]; simp only at hy; rw [hy]; rfl)
  · cases h
def J_l_toCache : Joins := [(.r, ⟨[.int .i64, .int .i64, .sl true 120 (.pair (.int .i64) (.pair (.sl true 5 (.int .u8)) (.pair .bool (.pair (.int .i64) (.int .i64)))))], [(2, .pl 2 0)], [(2, [.h 0, .h 1, .vw 117760])], [(117760, 2)], [], []⟩)]
def ann_l_toCache : Ann := .nil
def env_l_toCache : Env := envOf ti [k_l_toCacheLineS] []
theorem eok_l_toCache : EnvOk Try.prog env_l_toCache := envOf_ok tab mix _ _ (by
  intro k hk
  simp only [List.mem_cons, List.not_mem_nil, or_false] at hk
  rcases hk with rfl
  · exact s_l_toCacheLineS)
theorem v_l_toCache (x0 : Int) (x1 : Int) (x2 : List (Int × (List Int × (Bool × (Int × Int))))) : (vfun env_l_toCache Try.f21 J_l_toCache ann_l_toCache [] [.ag [⟨.int .i64, x0⟩, ⟨.int .i64, x1⟩, ⟨.sl false 196 (.pair (.int .i64) (.pair (.sl false 5 (.int .u8)) (.pair .bool (.pair (.int .i64) (.int .i64))))), x2⟩]] []).run = (G.l_toCache x0 x1 x2).bind fun y => some (Res.mk [.ag [⟨.int .i64, y.1⟩, ⟨.int .i64, y.2.1⟩, ⟨.sl true 120 (.pair (.int .i64) (.pair (.sl true 5 (.int .u8)) (.pair .bool (.pair (.int .i64) (.int .i64))))), y.2.2⟩]] [] []) := by kernel_rfl
def k_l_toCache : Kn := ⟨21, [0], fun args rows => match args, rows with
  | [.ag [⟨.int .i64, x0⟩, ⟨.int .i64, x1⟩, ⟨.sl false 196 (.pair (.int .i64) (.pair (.sl false 5 (.int .u8)) (.pair .bool (.pair (.int .i64) (.int .i64))))), x2⟩]], [] => some ⟨_, G.l_toCache x0 x1 x2, fun y => ⟨[.ag [⟨.int .i64, y.1⟩, ⟨.int .i64, y.2.1⟩, ⟨.sl true 120 (.pair (.int .i64) (.pair (.sl true 5 (.int .u8)) (.pair .bool (.pair (.int .i64) (.int .i64))))), y.2.2⟩]], [], []⟩⟩
  | _, _ => none, []⟩
theorem s_l_toCache : KnOk Try.prog k_l_toCache := by
  intro args rows a h y hy
  simp only [k_l_toCache] at h
  split at h
  · injection h with h
    subst h
    exact vfun_ok eok_l_toCache Try.func21 rfl (by rw [v_l_toCache]; simp only at hy; rw [hy]; rfl)
  · cases h
def J_l_toByteSS : Joins := [(.r, ⟨[.sl true 43 (.sl true 5 (.int .u8))], [(2, .one (.vw 126017))], [], [(126017, 0)], [], []⟩)]
def ann_l_toByteSS : Ann := .seq .nil (.seq .nil (.seq (.seq .nil (.block [] (.loop ⟨[.sl false 43 (.sl false 5 (.int .u8)), .sl true 43 (.sl true 5 (.int .u8)), .int .i64], [(0, .one (.h 0)), (3, .one (.vw 125952)), (4, .one (.h 2))], [], [(125952, 1)], [], []⟩ [(.x 0, ⟨[.sl true 43 (.sl true 5 (.int .u8))], [(3, .one (.vw 126016))], [], [(126016, 0)], [], []⟩)] .nil))) .nil))
def env_l_toByteSS : Env := envOf ti [k_l_toByteS] []
theorem eok_l_toByteSS : EnvOk Try.prog env_l_toByteSS := envOf_ok tab mix _ _ (by
  intro k hk
  simp only [List.mem_cons, List.not_mem_nil, or_false] at hk
  rcases hk with rfl
  · exact s_l_toByteS)
theorem v_l_toByteSS (x0 : List (List Int)) : (vfun env_l_toByteSS Try.f91 J_l_toByteSS ann_l_toByteSS [] [.one ⟨.sl false 43 (.sl false 5 (.int .u8)), x0⟩] []).run = (G.l_toByteSS x0).bind fun y => some (Res.mk [.one ⟨.sl true 43 (.sl true 5 (.int .u8)), y⟩] [] []) := by kernel_rfl
def k_l_toByteSS : Kn := ⟨91, [0], fun args rows => match args, rows with
  | [.one ⟨.sl false 43 (.sl false 5 (.int .u8)), x0⟩], [] => some ⟨_, G.l_toByteSS x0, fun y => ⟨[.one ⟨.sl true 43 (.sl true 5 (.int .u8)), y⟩], [], []⟩⟩
  | _, _ => none, []⟩
theorem s_l_toByteSS : KnOk Try.prog k_l_toByteSS := by
  intro args rows a h y hy
  simp only [k_l_toByteSS] at h
  split at h
  · injection h with h
    subst h
    exact vfun_ok eok_l_toByteSS Try.func91 rfl (by rw [v_l_toByteSS]; simp only at hy; rw [hy]; rfl)
  · cases h
def J_l_toDisk : Joins := [(.r, ⟨[.sl true 43 (.sl true 5 (.int .u8)), .int .i64, .bool, .int .i64], [(2, .pl 2 0)], [(2, [.vw 120832, .h 1, .h 2, .h 3])], [(120832, 0)], [], []⟩)]
def ann_l_toDisk : Ann := .nil
def env_l_toDisk : Env := envOf ti [k_l_toByteSS] []
theorem eok_l_toDisk : EnvOk Try.prog env_l_toDisk := envOf_ok tab mix _ _ (by
  intro k hk
  simp only [List.mem_cons, List.not_mem_nil, or_false] at hk
  rcases hk with rfl
  · exact s_l_toByteSS)
theorem v_l_toDisk (x0 : List (List Int)) (x1 : Int) (x2 : Bool) (x3 : Int) : (vfun env_l_toDisk Try.f22 J_l_toDisk ann_l_toDisk [] [.ag [⟨.sl false 43 (.sl false 5 (.int .u8)), x0⟩, ⟨.int .i64, x1⟩, ⟨.bool, x2⟩, ⟨.int .i64, x3⟩]] []).run = (G.l_toDisk x0 x1 x2 x3).bind fun y => some (Res.mk [.ag [⟨.sl true 43 (.sl true 5 (.int .u8)), y.1⟩, ⟨.int .i64, y.2.1⟩, ⟨.bool, y.2.2.1⟩, ⟨.int .i64, y.2.2.2⟩]] [] []) := by kernel_rfl
def k_l_toDisk : Kn := ⟨22, [0], fun args rows => match args, rows with
  | [.ag [⟨.sl false 43 (.sl false 5 (.int .u8)), x0⟩, ⟨.int .i64, x1⟩, ⟨.bool, x2⟩, ⟨.int .i64, x3⟩]], [] => some ⟨_, G.l_toDisk x0 x1 x2 x3, fun y => ⟨[.ag [⟨.sl true 43 (.sl true 5 (.int .u8)), y.1⟩, ⟨.int .i64, y.2.1⟩, ⟨.bool, y.2.2.1⟩, ⟨.int .i64, y.2.2.2⟩]], [], []⟩⟩
  | _, _ => none, []⟩
theorem s_l_toDisk : KnOk Try.prog k_l_toDisk := by
  intro args rows a h y hy
  simp only [k_l_toDisk] at h
  split at h
  · injection h with h
    subst h
    exact vfun_ok eok_l_toDisk Try.func22 rfl (by rw [v_l_toDisk]; simp only at hy; rw [hy]; rfl)
  · cases h
end
end Go.Proofs.Ytcfbfpipfalieaa

set_option linter.unusedVariables false
set_option maxRecDepth 100000
namespace Go.Proofs.Ytcfbfpipfalieaa
open Go.V
noncomputable section
def J_s_l1In : Joins := [(.r, ⟨[.bool], [(6, .one (.h 0))], [], [], [], []⟩)]
def ann_s_l1In : Ann := .seq .nil (.seq (.reg [(.n, ⟨[.bool], [(6, .one (.h 0))], [], [], [], []⟩)]) .nil)
def env_s_l1In : Env := envOf ti [] []
theorem eok_s_l1In : EnvOk Try.prog env_s_l1In := envOf_ok tab mix _ _ (by
  intro k hk; cases hk)
theorem v_s_l1In (x0 : Int) (x1 : Int) (x2 : Int) : (vfun env_s_l1In Try.f88 J_s_l1In ann_s_l1In [] [.one ⟨.int .i64, x0⟩, .one ⟨.int .i64, x1⟩, .one ⟨.int .i64, x2⟩] []).run = (G.s_l1In x0 x1 x2).bind fun y => some (Res.mk [.one ⟨.bool, y⟩] [] []) := by kernel_rfl
def k_s_l1In : Kn := ⟨88, [0, 0, 0], fun args rows => match args, rows with
  | [.one ⟨.int .i64, x0⟩, .one ⟨.int .i64, x1⟩, .one ⟨.int .i64, x2⟩], [] => some ⟨_, G.s_l1In x0 x1 x2, fun y => ⟨[.one ⟨.bool, y⟩], [], []⟩⟩
  | _, _ => none, []⟩
theorem s_s_l1In : KnOk Try.prog k_s_l1In := by
  intro args rows a h y hy
  simp only [k_s_l1In] at h
  split at h
  · injection h with h
    subst h
    exact vfun_ok eok_s_l1In Try.func88 rfl (by rw [v_s_l1In]; simp only at hy; rw [hy]; rfl)
  · cases h
def J_s_GoodDisk : Joins := [(.r, ⟨[.bool], [(2, .one (.h 0))], [], [], [], []⟩)]
def ann_s_GoodDisk : Ann := .seq .nil (.seq (.seq (.reg [(.n, ⟨[.bool, .sl false 43 (.sl false 5 (.int .u8)), .int .i64, .bool, .int .i64], [(1, .pl 1 0), (21, .one (.h 0))], [(1, [.h 1, .h 2, .h 3, .h 4])], [], [], []⟩)]) .nil) (.seq (.seq .nil (.block [] (.loop ⟨[.sl false 43 (.sl false 5 (.int .u8)), .int .i64, .int .i64], [(23, .one (.h 0)), (24, .one (.h 1)), (25, .one (.h 2))], [], [], [], []⟩ [(.x 0, ⟨[], [], [], [], [], []⟩), (.r, ⟨[.bool], [(2, .one (.h 0))], [], [], [], []⟩)] .nil))) .nil))
def env_s_GoodDisk : Env := envOf ti [k_s_l1In] []
theorem eok_s_GoodDisk : EnvOk Try.prog env_s_GoodDisk := envOf_ok tab mix _ _ (by
  intro k hk
  simp only [List.mem_cons, List.not_mem_nil, or_false] at hk
  rcases hk with rfl
  · exact s_s_l1In)
theorem v_s_GoodDisk (x0 : List (List Int)) (x1 : Int) (x2 : Bool) (x3 : Int) : (vfun env_s_GoodDisk Try.f177 J_s_GoodDisk ann_s_GoodDisk [] [.ag [⟨.sl false 43 (.sl false 5 (.int .u8)), x0⟩, ⟨.int .i64, x1⟩, ⟨.bool, x2⟩, ⟨.int .i64, x3⟩]] []).run = (G.s_GoodDisk x0 x1 x2 x3).bind fun y => some (Res.mk [.one ⟨.bool, y⟩] [] []) := by kernel_rfl
def k_s_GoodDisk : Kn := ⟨177, [0], fun args rows => match args, rows with
  | [.ag [⟨.sl false 43 (.sl false 5 (.int .u8)), x0⟩, ⟨.int .i64, x1⟩, ⟨.bool, x2⟩, ⟨.int .i64, x3⟩]], [] => some ⟨_, G.s_GoodDisk x0 x1 x2 x3, fun y => ⟨[.one ⟨.bool, y⟩], [], []⟩⟩
  | _, _ => none, []⟩
theorem s_s_GoodDisk : KnOk Try.prog k_s_GoodDisk := by
  intro args rows a h y hy
  simp only [k_s_GoodDisk] at h
  split at h
  · injection h with h
    subst h
    exact vfun_ok eok_s_GoodDisk Try.func177 rfl (by rw [v_s_GoodDisk]; simp only at hy; rw [hy]; rfl)
  · cases h
def J_s_GoodCache : Joins := [(.r, ⟨[.bool], [(4, .one (.h 0))], [], [], [], []⟩)]
def ann_s_GoodCache : Ann := .seq .nil (.seq (.seq (.reg [(.n, ⟨[.bool, .int .i64, .int .i64, .sl false 120 (.pair (.int .i64) (.pair (.sl false 5 (.int .u8)) (.pair .bool (.pair (.int .i64) (.int .i64))))), .sl false 43 (.sl false 5 (.int .u8)), .int .i64, .bool, .int .i64], [(2, .pl 2 0), (3, .pl 3 0), (31, .one (.h 0))], [(2, [.h 1, .h 2, .h 3]), (3, [.h 4, .h 5, .h 6, .h 7])], [], [], []⟩)]) .nil) (.seq (.seq .nil (.block [] (.loop ⟨[.sl false 120 (.pair (.int .i64) (.pair (.sl false 5 (.int .u8)) (.pair .bool (.pair (.int .i64) (.int .i64))))), .int .i64, .int .i64, .int .i64, .int .i64, .sl false 120 (.pair (.int .i64) (.pair (.sl false 5 (.int .u8)) (.pair .bool (.pair (.int .i64) (.int .i64))))), .sl false 43 (.sl false 5 (.int .u8)), .int .i64, .bool, .int .i64], [(2, .pl 2 0), (3, .pl 3 0), (33, .one (.h 0)), (34, .one (.h 1)), (35, .one (.h 2))], [(2, [.h 3, .h 4, .h 5]), (3, [.h 6, .h 7, .h 8, .h 9])], [], [], []⟩ [(.x 0, ⟨[], [], [], [], [], []⟩), (.r, ⟨[.bool], [(4, .one (.h 0))], [], [], [], []⟩)] (.seq .nil (.seq .nil (.seq (.block [] (.seq .nil (.seq (.seq (.reg [(.n, ⟨[.int .i64, .sl false 120 (.pair (.int .i64) (.pair (.sl false 5 (.int .u8)) (.pair .bool (.pair (.int .i64) (.int .i64))))), .int .i64, .int .i64, .bool, .int .i64, .int .i64, .sl false 120 (.pair (.int .i64) (.pair (.sl false 5 (.int .u8)) (.pair .bool (.pair (.int .i64) (.int .i64))))), .sl false 43 (.sl false 5 (.int .u8)), .int .i64, .bool, .int .i64, .int .i64, .sl false 5 (.int .u8), .bool, .int .i64, .int .i64], [(2, .pl 2 0), (3, .pl 3 0), (5, .one (.h 0)), (6, .pl 6 0), (33, .one (.h 1)), (34, .one (.h 2)), (35, .one (.h 3)), (83, .one (.h 4))], [(2, [.h 5, .h 6, .h 7]), (3, [.h 8, .h 9, .h 10, .h 11]), (6, [.h 12, .h 13, .h 14, .h 15, .h 16])], [], [], []⟩)]) .nil) (.seq (.seq (.reg [(.n, ⟨[.int .i64, .sl false 120 (.pair (.int .i64) (.pair (.sl false 5 (.int .u8)) (.pair .bool (.pair (.int .i64) (.int .i64))))), .int .i64, .int .i64, .bool, .int .i64, .int .i64, .sl false 120 (.pair (.int .i64) (.pair (.sl false 5 (.int .u8)) (.pair .bool (.pair (.int .i64) (.int .i64))))), .sl false 43 (.sl false 5 (.int .u8)), .int .i64, .bool, .int .i64, .int .i64, .sl false 5 (.int .u8), .bool, .int .i64, .int .i64], [(2, .pl 2 0), (3, .pl 3 0), (5, .one (.h 0)), (6, .pl 6 0), (33, .one (.h 1)), (34, .one (.h 2)), (35, .one (.h 3)), (99, .one (.h 4))], [(2, [.h 5, .h 6, .h 7]), (3, [.h 8, .h 9, .h 10, .h 11]), (6, [.h 12, .h 13, .h 14, .h 15, .h 16])], [], [], []⟩)]) .nil) (.seq .nil (.block [] (.loop ⟨[.sl false 120 (.pair (.int .i64) (.pair (.sl false 5 (.int .u8)) (.pair .bool (.pair (.int .i64) (.int .i64))))), .int .i64, .int .i64, .sl false 120 (.pair (.int .i64) (.pair (.sl false 5 (.int .u8)) (.pair .bool (.pair (.int .i64) (.int .i64))))), .int .i64, .int .i64, .int .i64, .int .i64, .sl false 120 (.pair (.int .i64) (.pair (.sl false 5 (.int .u8)) (.pair .bool (.pair (.int .i64) (.int .i64))))), .sl false 43 (.sl false 5 (.int .u8)), .int .i64, .bool, .int .i64, .int .i64, .sl false 5 (.int .u8), .bool, .int .i64, .int .i64], [(2, .pl 2 0), (3, .pl 3 0), (6, .pl 6 0), (33, .one (.h 0)), (34, .one (.h 1)), (35, .one (.h 2)), (103, .one (.h 3)), (104, .one (.h 4)), (105, .one (.h 5))], [(2, [.h 6, .h 7, .h 8]), (3, [.h 9, .h 10, .h 11, .h 12]), (6, [.h 13, .h 14, .h 15, .h 16, .h 17])], [], [], []⟩ [(.x 2, ⟨[.sl false 120 (.pair (.int .i64) (.pair (.sl false 5 (.int .u8)) (.pair .bool (.pair (.int .i64) (.int .i64))))), .int .i64, .int .i64, .int .i64, .int .i64, .sl false 120 (.pair (.int .i64) (.pair (.sl false 5 (.int .u8)) (.pair .bool (.pair (.int .i64) (.int .i64))))), .sl false 43 (.sl false 5 (.int .u8)), .int .i64, .bool, .int .i64], [(2, .pl 2 0), (3, .pl 3 0), (33, .one (.h 0)), (34, .one (.h 1)), (35, .one (.h 2))], [(2, [.h 3, .h 4, .h 5]), (3, [.h 6, .h 7, .h 8, .h 9])], [], [], []⟩), (.r, ⟨[.bool], [(4, .one (.h 0))], [], [], [], []⟩)] .nil))))))) .nil)))))) .nil))
def env_s_GoodCache : Env := envOf ti [k_s_GoodDisk, k_s_l1In] []
theorem eok_s_GoodCache : EnvOk Try.prog env_s_GoodCache := envOf_ok tab mix _ _ (by
  intro k hk
  simp only [List.mem_cons, List.not_mem_nil, or_false] at hk
  rcases hk with rfl | rfl
  · exact s_s_GoodDisk
  · exact s_s_l1In)
theorem v_s_GoodCache (x0 : Int) (x1 : Int) (x2 : List (Int × (List Int × (Bool × (Int × Int))))) (x3 : List (List Int)) (x4 : Int) (x5 : Bool) (x6 : Int) : (vfun env_s_GoodCache Try.f86 J_s_GoodCache ann_s_GoodCache [] [.ag [⟨.int .i64, x0⟩, ⟨.int .i64, x1⟩, ⟨.sl false 120 (.pair (.int .i64) (.pair (.sl false 5 (.int .u8)) (.pair .bool (.pair (.int .i64) (.int .i64))))), x2⟩], .ag [⟨.sl false 43 (.sl false 5 (.int .u8)), x3⟩, ⟨.int .i64, x4⟩, ⟨.bool, x5⟩, ⟨.int .i64, x6⟩]] []).run = (G.s_GoodCache x0 x1 x2 x3 x4 x5 x6).bind fun y => some (Res.mk [.one ⟨.bool, y⟩] [] []) := by kernel_rfl
def k_s_GoodCache : Kn := ⟨86, [0, 0], fun args rows => match args, rows with
  | [.ag [⟨.int .i64, x0⟩, ⟨.int .i64, x1⟩, ⟨.sl false 120 (.pair (.int .i64) (.pair (.sl false 5 (.int .u8)) (.pair .bool (.pair (.int .i64) (.int .i64))))), x2⟩], .ag [⟨.sl false 43 (.sl false 5 (.int .u8)), x3⟩, ⟨.int .i64, x4⟩, ⟨.bool, x5⟩, ⟨.int .i64, x6⟩]], [] => some ⟨_, G.s_GoodCache x0 x1 x2 x3 x4 x5 x6, fun y => ⟨[.one ⟨.bool, y⟩], [], []⟩⟩
  | _, _ => none, []⟩
theorem s_s_GoodCache : KnOk Try.prog k_s_GoodCache := by
  intro args rows a h y hy
  simp only [k_s_GoodCache] at h
  split at h
  · injection h with h
    subst h
    exact vfun_ok eok_s_GoodCache Try.func86 rfl (by rw [v_s_GoodCache]; simp only at hy; rw [hy]; rfl)
  · cases h
def J_s_l3Own : Joins := [(.r, ⟨[.int .i64, .int .i64, .sl true 120 (.pair (.int .i64) (.pair (.sl true 5 (.int .u8)) (.pair .bool (.pair (.int .i64) (.int .i64)))))], [(2, .pl 2 0)], [(2, [.h 0, .h 1, .vw 129089])], [(129089, 2)], [], []⟩)]
def ann_s_l3Own : Ann := .seq .nil (.seq .nil (.seq (.seq .nil (.block [] (.loop ⟨[.sl true 120 (.pair (.int .i64) (.pair (.sl true 5 (.int .u8)) (.pair .bool (.pair (.int .i64) (.int .i64))))), .sl false 120 (.pair (.int .i64) (.pair (.sl false 5 (.int .u8)) (.pair .bool (.pair (.int .i64) (.int .i64))))), .int .i64, .int .i64, .int .i64, .int .i64, .sl false 120 (.pair (.int .i64) (.pair (.sl false 5 (.int .u8)) (.pair .bool (.pair (.int .i64) (.int .i64))))), .int .i64, .int .i64], [(1, .pl 1 0), (2, .pl 2 0), (3, .one (.vw 129024)), (7, .one (.h 1)), (8, .one (.h 2)), (9, .one (.h 3))], [(1, [.h 4, .h 5, .h 6]), (2, [.h 7, .h 8, .nil])], [(129024, 0)], [], []⟩ [(.x 0, ⟨[.sl true 120 (.pair (.int .i64) (.pair (.sl true 5 (.int .u8)) (.pair .bool (.pair (.int .i64) (.int .i64))))), .int .i64, .int .i64, .sl false 120 (.pair (.int .i64) (.pair (.sl false 5 (.int .u8)) (.pair .bool (.pair (.int .i64) (.int .i64))))), .int .i64, .int .i64], [(1, .pl 1 0), (2, .pl 2 0), (3, .one (.vw 129088))], [(1, [.h 1, .h 2, .h 3]), (2, [.h 4, .h 5, .nil])], [(129088, 0)], [], []⟩)] .nil))) .nil))
def env_s_l3Own : Env := envOf ti [] []
theorem eok_s_l3Own : EnvOk Try.prog env_s_l3Own := envOf_ok tab mix _ _ (by
  intro k hk; cases hk)
theorem v_s_l3Own (x0 : Int) (x1 : Int) (x2 : List (Int × (List Int × (Bool × (Int × Int))))) : (vfun env_s_l3Own Try.f87 J_s_l3Own ann_s_l3Own [] [.ag [⟨.int .i64, x0⟩, ⟨.int .i64, x1⟩, ⟨.sl false 120 (.pair (.int .i64) (.pair (.sl false 5 (.int .u8)) (.pair .bool (.pair (.int .i64) (.int .i64))))), x2⟩]] []).run = (G.s_l3Own x0 x1 x2).bind fun y => some (Res.mk [.ag [⟨.int .i64, y.1⟩, ⟨.int .i64, y.2.1⟩, ⟨.sl true 120 (.pair (.int .i64) (.pair (.sl true 5 (.int .u8)) (.pair .bool (.pair (.int .i64) (.int .i64))))), y.2.2⟩]] [] []) := by kernel_rfl
def k_s_l3Own : Kn := ⟨87, [0], fun args rows => match args, rows with
  | [.ag [⟨.int .i64, x0⟩, ⟨.int .i64, x1⟩, ⟨.sl false 120 (.pair (.int .i64) (.pair (.sl false 5 (.int .u8)) (.pair .bool (.pair (.int .i64) (.int .i64))))), x2⟩]], [] => some ⟨_, G.s_l3Own x0 x1 x2, fun y => ⟨[.ag [⟨.int .i64, y.1⟩, ⟨.int .i64, y.2.1⟩, ⟨.sl true 120 (.pair (.int .i64) (.pair (.sl true 5 (.int .u8)) (.pair .bool (.pair (.int .i64) (.int .i64))))), y.2.2⟩]], [], []⟩⟩
  | _, _ => none, []⟩
theorem s_s_l3Own : KnOk Try.prog k_s_l3Own := by
  intro args rows a h y hy
  simp only [k_s_l3Own] at h
  split at h
  · injection h with h
    subst h
    exact vfun_ok eok_s_l3Own Try.func87 rfl (by rw [v_s_l3Own]; simp only at hy; rw [hy]; rfl)
  · cases h
def J_s_l3At : Joins := [(.r, ⟨[.int .i64], [(4, .one (.h 0))], [], [], [], []⟩)]
def ann_s_l3At : Ann := .seq .nil (.seq (.seq .nil (.block [] (.loop ⟨[.int .i64, .sl false 120 (.pair (.int .i64) (.pair (.sl false 5 (.int .u8)) (.pair .bool (.pair (.int .i64) (.int .i64))))), .int .i64, .int .i64], [(1, .one (.h 0)), (8, .one (.h 1)), (9, .one (.h 2)), (10, .one (.h 3))], [], [], [], []⟩ [(.x 0, ⟨[], [], [], [], [], []⟩), (.r, ⟨[.int .i64], [(4, .one (.h 0))], [], [], [], []⟩)] .nil))) .nil)
def env_s_l3At : Env := envOf ti [] []
theorem eok_s_l3At : EnvOk Try.prog env_s_l3At := envOf_ok tab mix _ _ (by
  intro k hk; cases hk)
theorem v_s_l3At (x0 : Int) (x1 : Int) (x2 : List (Int × (List Int × (Bool × (Int × Int))))) (x3 : Int) : (vfun env_s_l3At Try.f89 J_s_l3At ann_s_l3At [] [.ag [⟨.int .i64, x0⟩, ⟨.int .i64, x1⟩, ⟨.sl false 120 (.pair (.int .i64) (.pair (.sl false 5 (.int .u8)) (.pair .bool (.pair (.int .i64) (.int .i64))))), x2⟩], .one ⟨.int .i64, x3⟩] []).run = (G.s_l3At x0 x1 x2 x3).bind fun y => some (Res.mk [.one ⟨.int .i64, y⟩] [] []) := by kernel_rfl
def k_s_l3At : Kn := ⟨89, [0, 0], fun args rows => match args, rows with
  | [.ag [⟨.int .i64, x0⟩, ⟨.int .i64, x1⟩, ⟨.sl false 120 (.pair (.int .i64) (.pair (.sl false 5 (.int .u8)) (.pair .bool (.pair (.int .i64) (.int .i64))))), x2⟩], .one ⟨.int .i64, x3⟩], [] => some ⟨_, G.s_l3At x0 x1 x2 x3, fun y => ⟨[.one ⟨.int .i64, y⟩], [], []⟩⟩
  | _, _ => none, []⟩
theorem s_s_l3At : KnOk Try.prog k_s_l3At := by
  intro args rows a h y hy
  simp only [k_s_l3At] at h
  split at h
  · injection h with h
    subst h
    exact vfun_ok eok_s_l3At Try.func89 rfl (by rw [v_s_l3At]; simp only at hy; rw [hy]; rfl)
  · cases h
def J_s_PinLine : Joins := [(.r, ⟨[.int .i64, .int .i64, .int .i64, .sl true 120 (.pair (.int .i64) (.pair (.sl true 5 (.int .u8)) (.pair .bool (.pair (.int .i64) (.int .i64)))))], [(8, .pl 8 0), (9, .one (.h 0))], [(8, [.h 1, .h 2, .vw 166913])], [(166913, 3)], [], []⟩)]
def ann_s_PinLine : Ann := .seq .nil (.seq (.seq (.reg [(.n, ⟨[.int .i64, .int .i64, .bool, .int .i64, .int .i64, .sl false 120 (.pair (.int .i64) (.pair (.sl false 5 (.int .u8)) (.pair .bool (.pair (.int .i64) (.int .i64))))), .sl false 43 (.sl false 5 (.int .u8)), .int .i64, .bool, .int .i64, .int .i64, .int .i64], [(2, .one (.h 0)), (3, .one (.h 1)), (4, .pl 4 0), (5, .pl 5 0), (8, .pl 8 0), (22, .one (.h 2))], [(4, [.h 3, .h 4, .h 5]), (5, [.h 6, .h 7, .h 8, .h 9]), (8, [.h 10, .h 11, .nil])], [], [], []⟩)]) .nil) (.seq .nil (.seq .nil (.seq .nil (.seq (.seq (.reg [(.n, ⟨[.int .i64, .int .i64, .bool, .int .i64, .int .i64, .sl true 120 (.pair (.int .i64) (.pair (.sl true 5 (.int .u8)) (.pair .bool (.pair (.int .i64) (.int .i64))))), .int .i64, .int .i64], [(3, .one (.h 0)), (4, .pl 4 0), (8, .pl 8 0), (10, .one (.h 1)), (50, .one (.h 2))], [(4, [.h 3, .h 4, .vw 166912]), (8, [.h 6, .h 7, .nil])], [(166912, 5)], [], []⟩)]) .nil) .nil)))))
def env_s_PinLine : Env := envOf ti [k_s_GoodCache, k_s_l3Own, k_s_l1In, k_s_l3At] []
theorem eok_s_PinLine : EnvOk Try.prog env_s_PinLine := envOf_ok tab mix _ _ (by
  intro k hk
  simp only [List.mem_cons, List.not_mem_nil, or_false] at hk
  rcases hk with rfl | rfl | rfl | rfl
  · exact s_s_GoodCache
  · exact s_s_l3Own
  · exact s_s_l1In
  · exact s_s_l3At)
theorem v_s_PinLine (x0 : Int) (x1 : Int) (x2 : List (Int × (List Int × (Bool × (Int × Int))))) (x3 : List (List Int)) (x4 : Int) (x5 : Bool) (x6 : Int) (x7 : Int) (x8 : Int) : (vfun env_s_PinLine Try.f20 J_s_PinLine ann_s_PinLine [] [.ag [⟨.int .i64, x0⟩, ⟨.int .i64, x1⟩, ⟨.sl false 120 (.pair (.int .i64) (.pair (.sl false 5 (.int .u8)) (.pair .bool (.pair (.int .i64) (.int .i64))))), x2⟩], .ag [⟨.sl false 43 (.sl false 5 (.int .u8)), x3⟩, ⟨.int .i64, x4⟩, ⟨.bool, x5⟩, ⟨.int .i64, x6⟩], .one ⟨.int .i64, x7⟩, .one ⟨.int .i64, x8⟩] []).run = (G.s_PinLine x0 x1 x2 x3 x4 x5 x6 x7 x8).bind fun y => some (Res.mk [.ag [⟨.int .i64, y.2.1⟩, ⟨.int .i64, y.2.2.1⟩, ⟨.sl true 120 (.pair (.int .i64) (.pair (.sl true 5 (.int .u8)) (.pair .bool (.pair (.int .i64) (.int .i64))))), y.2.2.2⟩], .one ⟨.int .i64, y.1⟩] [] []) := by kernel_rfl
def k_s_PinLine : Kn := ⟨20, [0, 0, 0, 0], fun args rows => match args, rows with
  | [.ag [⟨.int .i64, x0⟩, ⟨.int .i64, x1⟩, ⟨.sl false 120 (.pair (.int .i64) (.pair (.sl false 5 (.int .u8)) (.pair .bool (.pair (.int .i64) (.int .i64))))), x2⟩], .ag [⟨.sl false 43 (.sl false 5 (.int .u8)), x3⟩, ⟨.int .i64, x4⟩, ⟨.bool, x5⟩, ⟨.int .i64, x6⟩], .one ⟨.int .i64, x7⟩, .one ⟨.int .i64, x8⟩], [] => some ⟨_, G.s_PinLine x0 x1 x2 x3 x4 x5 x6 x7 x8, fun y => ⟨[.ag [⟨.int .i64, y.2.1⟩, ⟨.int .i64, y.2.2.1⟩, ⟨.sl true 120 (.pair (.int .i64) (.pair (.sl true 5 (.int .u8)) (.pair .bool (.pair (.int .i64) (.int .i64))))), y.2.2.2⟩], .one ⟨.int .i64, y.1⟩], [], []⟩⟩
  | _, _ => none, []⟩
theorem s_s_PinLine : KnOk Try.prog k_s_PinLine := by
  intro args rows a h y hy
  simp only [k_s_PinLine] at h
  split at h
  · injection h with h
    subst h
    exact vfun_ok eok_s_PinLine Try.func20 rfl (by rw [v_s_PinLine]; simp only at hy; rw [hy]; rfl)
  · cases h
def J_i_within : Joins := [(.r, ⟨[.bool], [(6, .one (.h 0))], [], [], [], []⟩)]
def ann_i_within : Ann := .seq .nil (.seq (.reg [(.n, ⟨[.bool], [(6, .one (.h 0))], [], [], [], []⟩)]) .nil)
def env_i_within : Env := envOf ti [] []
theorem eok_i_within : EnvOk Try.prog env_i_within := envOf_ok tab mix _ _ (by
  intro k hk; cases hk)
theorem v_i_within (x0 : Int) (x1 : Int) (x2 : Int) : (vfun env_i_within Try.f96 J_i_within ann_i_within [] [.one ⟨.int .i64, x0⟩, .one ⟨.int .i64, x1⟩, .one ⟨.int .i64, x2⟩] []).run = (G.i_within x0 x1 x2).bind fun y => some (Res.mk [.one ⟨.bool, y⟩] [] []) := by kernel_rfl
def k_i_within : Kn := ⟨96, [0, 0, 0], fun args rows => match args, rows with
  | [.one ⟨.int .i64, x0⟩, .one ⟨.int .i64, x1⟩, .one ⟨.int .i64, x2⟩], [] => some ⟨_, G.i_within x0 x1 x2, fun y => ⟨[.one ⟨.bool, y⟩], [], []⟩⟩
  | _, _ => none, []⟩
theorem s_i_within : KnOk Try.prog k_i_within := by
  intro args rows a h y hy
  simp only [k_i_within] at h
  split at h
  · injection h with h
    subst h
    exact vfun_ok eok_i_within Try.func96 rfl (by rw [v_i_within]; simp only at hy; rw [hy]; rfl)
  · cases h
def J_i_areBlocks_1 : Joins := [(.r, ⟨[.bool], [(2, .one (.h 0))], [], [], [], []⟩)]
def ann_i_areBlocks_1 : Ann := .nil
def env_i_areBlocks_1 : Env := envOf ti [] []
theorem eok_i_areBlocks_1 : EnvOk Try.prog env_i_areBlocks_1 := envOf_ok tab mix _ _ (by
  intro k hk; cases hk)
theorem v_i_areBlocks_1 (x0 : List Int) : (vfun env_i_areBlocks_1 Try.f228 J_i_areBlocks_1 ann_i_areBlocks_1 [] [.one ⟨.sl false 5 (.int .u8), x0⟩] []).run = (G.i_areBlocks_1 x0).bind fun y => some (Res.mk [.one ⟨.bool, y⟩] [] []) := by kernel_rfl
def k_i_areBlocks_1 : Kn := ⟨228, [0], fun args rows => match args, rows with
  | [.one ⟨.sl false 5 (.int .u8), x0⟩], [] => some ⟨_, G.i_areBlocks_1 x0, fun y => ⟨[.one ⟨.bool, y⟩], [], []⟩⟩
  | _, _ => none, []⟩
theorem s_i_areBlocks_1 : KnOk Try.prog k_i_areBlocks_1 := by
  intro args rows a h y hy
  simp only [k_i_areBlocks_1] at h
  split at h
  · injection h with h
    subst h
    exact vfun_ok eok_i_areBlocks_1 Try.func228 rfl (by rw [v_i_areBlocks_1]; simp only at hy; rw [hy]; rfl)
  · cases h
def J_slices_IndexFunc_byte_byte_i_areBlocks_1 : Joins := [(.r, ⟨[.int .i64], [(4, .one (.h 0))], [], [], [], []⟩)]
def ann_slices_IndexFunc_byte_byte_i_areBlocks_1 : Ann := .seq .nil (.seq (.seq .nil (.block [] (.loop ⟨[.sl false 43 (.sl false 5 (.int .u8)), .int .i64, .int .i64], [(0, .one (.h 0)), (1, .fv 228 []), (7, .one (.h 1)), (8, .one (.h 2))], [], [], [], []⟩ [(.x 0, ⟨[], [], [], [], [], []⟩), (.r, ⟨[.int .i64], [(4, .one (.h 0))], [], [], [], []⟩)] .nil))) .nil)
def env_slices_IndexFunc_byte_byte_i_areBlocks_1 : Env := envOf ti [k_i_areBlocks_1] []
theorem eok_slices_IndexFunc_byte_byte_i_areBlocks_1 : EnvOk Try.prog env_slices_IndexFunc_byte_byte_i_areBlocks_1 := envOf_ok tab mix _ _ (by
  intro k hk
  simp only [List.mem_cons, List.not_mem_nil, or_false] at hk
  rcases hk with rfl
  · exact s_i_areBlocks_1)
theorem v_slices_IndexFunc_byte_byte_i_areBlocks_1 (x0 : List (List Int)) : (vfun env_slices_IndexFunc_byte_byte_i_areBlocks_1 Try.f230 J_slices_IndexFunc_byte_byte_i_areBlocks_1 ann_slices_IndexFunc_byte_byte_i_areBlocks_1 [] [.one ⟨.sl false 43 (.sl false 5 (.int .u8)), x0⟩, .fv 228 []] []).run = (G.slices_IndexFunc_byte_byte_i_areBlocks_1 x0).bind fun y => some (Res.mk [.one ⟨.int .i64, y⟩] [] []) := by kernel_rfl
def k_slices_IndexFunc_byte_byte_i_areBlocks_1 : Kn := ⟨230, [0, 0], fun args rows => match args, rows with
  | [.one ⟨.sl false 43 (.sl false 5 (.int .u8)), x0⟩, .fv 228 []], [] => some ⟨_, G.slices_IndexFunc_byte_byte_i_areBlocks_1 x0, fun y => ⟨[.one ⟨.int .i64, y⟩], [], []⟩⟩
  | _, _ => none, []⟩
theorem s_slices_IndexFunc_byte_byte_i_areBlocks_1 : KnOk Try.prog k_slices_IndexFunc_byte_byte_i_areBlocks_1 := by
  intro args rows a h y hy
  simp only [k_slices_IndexFunc_byte_byte_i_areBlocks_1] at h
  split at h
  · injection h with h
    subst h
    exact vfun_ok eok_slices_IndexFunc_byte_byte_i_areBlocks_1 Try.func230 rfl (by rw [v_slices_IndexFunc_byte_byte_i_areBlocks_1]; simp only at hy; rw [hy]; rfl)
  · cases h
def J_slices_ContainsFunc_byte_byte_i_areBlocks_1 : Joins := [(.r, ⟨[.bool], [(4, .one (.h 0))], [], [], [], []⟩)]
def ann_slices_ContainsFunc_byte_byte_i_areBlocks_1 : Ann := .nil
def env_slices_ContainsFunc_byte_byte_i_areBlocks_1 : Env := envOf ti [k_slices_IndexFunc_byte_byte_i_areBlocks_1] []
theorem eok_slices_ContainsFunc_byte_byte_i_areBlocks_1 : EnvOk Try.prog env_slices_ContainsFunc_byte_byte_i_areBlocks_1 := envOf_ok tab mix _ _ (by
  intro k hk
  simp only [List.mem_cons, List.not_mem_nil, or_false] at hk
  rcases hk with rfl
  · exact s_slices_IndexFunc_byte_byte_i_areBlocks_1)
theorem v_slices_ContainsFunc_byte_byte_i_areBlocks_1 (x0 : List (List Int)) : (vfun env_slices_ContainsFunc_byte_byte_i_areBlocks_1 Try.f227 J_slices_ContainsFunc_byte_byte_i_areBlocks_1 ann_slices_ContainsFunc_byte_byte_i_areBlocks_1 [] [.one ⟨.sl false 43 (.sl false 5 (.int .u8)), x0⟩, .fv 228 []] []).run = (G.slices_ContainsFunc_byte_byte_i_areBlocks_1 x0).bind fun y => some (Res.mk [.one ⟨.bool, y⟩] [] []) := by kernel_rfl
def k_slices_ContainsFunc_byte_byte_i_areBlocks_1 : Kn := ⟨227, [0, 0], fun args rows => match args, rows with
  | [.one ⟨.sl false 43 (.sl false 5 (.int .u8)), x0⟩, .fv 228 []], [] => some ⟨_, G.slices_ContainsFunc_byte_byte_i_areBlocks_1 x0, fun y => ⟨[.one ⟨.bool, y⟩], [], []⟩⟩
  | _, _ => none, []⟩
theorem s_slices_ContainsFunc_byte_byte_i_areBlocks_1 : KnOk Try.prog k_slices_ContainsFunc_byte_byte_i_areBlocks_1 := by
  intro args rows a h y hy
  simp only [k_slices_ContainsFunc_byte_byte_i_areBlocks_1] at h
  split at h
  · injection h with h
    subst h
    exact vfun_ok eok_slices_ContainsFunc_byte_byte_i_areBlocks_1 Try.func227 rfl (by rw [v_slices_ContainsFunc_byte_byte_i_areBlocks_1]; simp only at hy; rw [hy]; rfl)
  · cases h
def J_i_areBlocks : Joins := [(.r, ⟨[.bool], [(2, .one (.h 0))], [], [], [], []⟩)]
def ann_i_areBlocks : Ann := .seq .nil (.seq (.reg [(.n, ⟨[.bool], [(2, .one (.h 0))], [], [], [], []⟩)]) .nil)
def env_i_areBlocks : Env := envOf ti [k_i_within, k_slices_ContainsFunc_byte_byte_i_areBlocks_1] []
theorem eok_i_areBlocks : EnvOk Try.prog env_i_areBlocks := envOf_ok tab mix _ _ (by
  intro k hk
  simp only [List.mem_cons, List.not_mem_nil, or_false] at hk
  rcases hk with rfl | rfl
  · exact s_i_within
  · exact s_slices_ContainsFunc_byte_byte_i_areBlocks_1)
theorem v_i_areBlocks (x0 : List (List Int)) : (vfun env_i_areBlocks Try.f221 J_i_areBlocks ann_i_areBlocks [] [.one ⟨.sl false 43 (.sl false 5 (.int .u8)), x0⟩] []).run = (G.i_areBlocks x0).bind fun y => some (Res.mk [.one ⟨.bool, y⟩] [] []) := by kernel_rfl
def k_i_areBlocks : Kn := ⟨221, [0], fun args rows => match args, rows with
  | [.one ⟨.sl false 43 (.sl false 5 (.int .u8)), x0⟩], [] => some ⟨_, G.i_areBlocks x0, fun y => ⟨[.one ⟨.bool, y⟩], [], []⟩⟩
  | _, _ => none, []⟩
theorem s_i_areBlocks : KnOk Try.prog k_i_areBlocks := by
  intro args rows a h y hy
  simp only [k_i_areBlocks] at h
  split at h
  · injection h with h
    subst h
    exact vfun_ok eok_i_areBlocks Try.func221 rfl (by rw [v_i_areBlocks]; simp only at hy; rw [hy]; rfl)
  · cases h
def J_i_GoodDisk : Joins := [(.r, ⟨[.bool], [(2, .one (.h 0))], [], [], [], []⟩)]
def ann_i_GoodDisk : Ann := .seq .nil (.seq (.reg [(.n, ⟨[.bool], [(2, .one (.h 0))], [], [], [], []⟩)]) .nil)
def env_i_GoodDisk : Env := envOf ti [k_i_areBlocks, k_i_within] []
theorem eok_i_GoodDisk : EnvOk Try.prog env_i_GoodDisk := envOf_ok tab mix _ _ (by
  intro k hk
  simp only [List.mem_cons, List.not_mem_nil, or_false] at hk
  rcases hk with rfl | rfl
  · exact s_i_areBlocks
  · exact s_i_within)
theorem v_i_GoodDisk (x0 : List (List Int)) (x1 : Int) (x2 : Bool) (x3 : Int) : (vfun env_i_GoodDisk Try.f179 J_i_GoodDisk ann_i_GoodDisk [] [.ag [⟨.sl false 43 (.sl false 5 (.int .u8)), x0⟩, ⟨.int .i64, x1⟩, ⟨.bool, x2⟩, ⟨.int .i64, x3⟩]] []).run = (G.i_GoodDisk x0 x1 x2 x3).bind fun y => some (Res.mk [.one ⟨.bool, y⟩] [] []) := by kernel_rfl
def k_i_GoodDisk : Kn := ⟨179, [0], fun args rows => match args, rows with
  | [.ag [⟨.sl false 43 (.sl false 5 (.int .u8)), x0⟩, ⟨.int .i64, x1⟩, ⟨.bool, x2⟩, ⟨.int .i64, x3⟩]], [] => some ⟨_, G.i_GoodDisk x0 x1 x2 x3, fun y => ⟨[.one ⟨.bool, y⟩], [], []⟩⟩
  | _, _ => none, []⟩
theorem s_i_GoodDisk : KnOk Try.prog k_i_GoodDisk := by
  intro args rows a h y hy
  simp only [k_i_GoodDisk] at h
  split at h
  · injection h with h
    subst h
    exact vfun_ok eok_i_GoodDisk Try.func179 rfl (by rw [v_i_GoodDisk]; simp only at hy; rw [hy]; rfl)
  · cases h
end
end Go.Proofs.Ytcfbfpipfalieaa

set_option linter.unusedVariables false
set_option maxRecDepth 100000
namespace Go.Proofs.Ytcfbfpipfalieaa
open Go.V
noncomputable section
def J_i_Disk_has : Joins := [(.r, ⟨[.bool], [(4, .one (.h 0))], [], [], [], []⟩)]
def ann_i_Disk_has : Ann := .nil
def env_i_Disk_has : Env := envOf ti [k_i_within] []
theorem eok_i_Disk_has : EnvOk Try.prog env_i_Disk_has := envOf_ok tab mix _ _ (by
  intro k hk
  simp only [List.mem_cons, List.not_mem_nil, or_false] at hk
  rcases hk with rfl
  · exact s_i_within)
theorem v_i_Disk_has (x0 : List (List Int)) (x1 : Int) (x2 : Bool) (x3 : Int) (x4 : Int) : (vfun env_i_Disk_has Try.f93 J_i_Disk_has ann_i_Disk_has [] [.ag [⟨.sl false 43 (.sl false 5 (.int .u8)), x0⟩, ⟨.int .i64, x1⟩, ⟨.bool, x2⟩, ⟨.int .i64, x3⟩], .one ⟨.int .i64, x4⟩] []).run = (G.i_Disk_has x0 x1 x2 x3 x4).bind fun y => some (Res.mk [.one ⟨.bool, y⟩] [] []) := by kernel_rfl
def k_i_Disk_has : Kn := ⟨93, [0, 0], fun args rows => match args, rows with
  | [.ag [⟨.sl false 43 (.sl false 5 (.int .u8)), x0⟩, ⟨.int .i64, x1⟩, ⟨.bool, x2⟩, ⟨.int .i64, x3⟩], .one ⟨.int .i64, x4⟩], [] => some ⟨_, G.i_Disk_has x0 x1 x2 x3 x4, fun y => ⟨[.one ⟨.bool, y⟩], [], []⟩⟩
  | _, _ => none, []⟩
theorem s_i_Disk_has : KnOk Try.prog k_i_Disk_has := by
  intro args rows a h y hy
  simp only [k_i_Disk_has] at h
  split at h
  · injection h with h
    subst h
    exact vfun_ok eok_i_Disk_has Try.func93 rfl (by rw [v_i_Disk_has]; simp only at hy; rw [hy]; rfl)
  · cases h
def J_slices_Equal_byte_byte : Joins := [(.r, ⟨[.bool], [(4, .one (.h 0))], [], [], [], []⟩)]
def ann_slices_Equal_byte_byte : Ann := .seq .nil (.seq .nil (.seq (.seq .nil (.block [] (.loop ⟨[.sl false 5 (.int .u8), .sl false 5 (.int .u8), .int .i64, .int .i64], [(0, .one (.h 0)), (1, .one (.h 1)), (12, .one (.h 2)), (13, .one (.h 3))], [], [], [], []⟩ [(.x 0, ⟨[], [], [], [], [], []⟩), (.r, ⟨[.bool], [(4, .one (.h 0))], [], [], [], []⟩)] .nil))) .nil))
def env_slices_Equal_byte_byte : Env := envOf ti [] []
theorem eok_slices_Equal_byte_byte : EnvOk Try.prog env_slices_Equal_byte_byte := envOf_ok tab mix _ _ (by
  intro k hk; cases hk)
theorem v_slices_Equal_byte_byte (x0 : List Int) (x1 : List Int) : (vfun env_slices_Equal_byte_byte Try.f168 J_slices_Equal_byte_byte ann_slices_Equal_byte_byte [] [.one ⟨.sl false 5 (.int .u8), x0⟩, .one ⟨.sl false 5 (.int .u8), x1⟩] []).run = (G.slices_Equal_byte_byte x0 x1).bind fun y => some (Res.mk [.one ⟨.bool, y⟩] [] []) := by kernel_rfl
def k_slices_Equal_byte_byte : Kn := ⟨168, [0, 0], fun args rows => match args, rows with
  | [.one ⟨.sl false 5 (.int .u8), x0⟩, .one ⟨.sl false 5 (.int .u8), x1⟩], [] => some ⟨_, G.slices_Equal_byte_byte x0 x1, fun y => ⟨[.one ⟨.bool, y⟩], [], []⟩⟩
  | _, _ => none, []⟩
theorem s_slices_Equal_byte_byte : KnOk Try.prog k_slices_Equal_byte_byte := by
  intro args rows a h y hy
  simp only [k_slices_Equal_byte_byte] at h
  split at h
  · injection h with h
    subst h
    exact vfun_ok eok_slices_Equal_byte_byte Try.func168 rfl (by rw [v_slices_Equal_byte_byte]; simp only at hy; rw [hy]; rfl)
  · cases h
def J_i_GoodCache_1_f : Joins := [(.r, ⟨[.bool, .int .i64, .sl false 5 (.int .u8), .bool, .int .i64, .int .i64], [(3, .one (.h 0))], [(10, [.h 1, .h 2, .h 3, .h 4, .h 5])], [], [], []⟩)]
def ann_i_GoodCache_1_f : Ann := .nil
def env_i_GoodCache_1_f : Env := envOf ti [] []
theorem eok_i_GoodCache_1_f : EnvOk Try.prog env_i_GoodCache_1_f := envOf_ok tab mix _ _ (by
  intro k hk; cases hk)
theorem v_i_GoodCache_1_f (x0 : Int) (x1 : List Int) (x2 : Bool) (x3 : Int) (x4 : Int) (x5 : Int) (x6 : List Int) (x7 : Bool) (x8 : Int) (x9 : Int) : (vfun env_i_GoodCache_1_f Try.f181 J_i_GoodCache_1_f ann_i_GoodCache_1_f [] [.ag [⟨.int .i64, x0⟩, ⟨.sl false 5 (.int .u8), x1⟩, ⟨.bool, x2⟩, ⟨.int .i64, x3⟩, ⟨.int .i64, x4⟩], .pl 0 0] [[⟨.int .i64, x5⟩, ⟨.sl false 5 (.int .u8), x6⟩, ⟨.bool, x7⟩, ⟨.int .i64, x8⟩, ⟨.int .i64, x9⟩]]).run = (G.i_GoodCache_1_f x0 x1 x2 x3 x4 x5 x6 x7 x8 x9).bind fun y => some (Res.mk [.one ⟨.bool, y.1⟩] [[⟨.int .i64, y.2.1⟩, ⟨.sl false 5 (.int .u8), y.2.2.1⟩, ⟨.bool, y.2.2.2.1⟩, ⟨.int .i64, y.2.2.2.2.1⟩, ⟨.int .i64, y.2.2.2.2.2⟩]] []) := by kernel_rfl
def k_i_GoodCache_1_f : Kn := ⟨181, [0], fun args rows => match args, rows with
  | [.ag [⟨.int .i64, x0⟩, ⟨.sl false 5 (.int .u8), x1⟩, ⟨.bool, x2⟩, ⟨.int .i64, x3⟩, ⟨.int .i64, x4⟩], .pl 0 0], [[⟨.int .i64, x5⟩, ⟨.sl false 5 (.int .u8), x6⟩, ⟨.bool, x7⟩, ⟨.int .i64, x8⟩, ⟨.int .i64, x9⟩]] => some ⟨_, G.i_GoodCache_1_f x0 x1 x2 x3 x4 x5 x6 x7 x8 x9, fun y => ⟨[.one ⟨.bool, y.1⟩], [[⟨.int .i64, y.2.1⟩, ⟨.sl false 5 (.int .u8), y.2.2.1⟩, ⟨.bool, y.2.2.2.1⟩, ⟨.int .i64, y.2.2.2.2.1⟩, ⟨.int .i64, y.2.2.2.2.2⟩]], []⟩⟩
  | _, _ => none, [[.int .i64, .sl true 5 (.int .u8), .bool, .int .i64, .int .i64]]⟩
theorem s_i_GoodCache_1_f : KnOk Try.prog k_i_GoodCache_1_f := by
  intro args rows a h y hy
  simp only [k_i_GoodCache_1_f] at h
  split at h
  · injection h with h
    subst h
    exact vfun_ok eok_i_GoodCache_1_f Try.func181 rfl (by rw [v_i_GoodCache_1_f]; simp only at hy; rw [hy]; rfl)
  · cases h
def J_slices_IndexFunc_loop_example_g00083_impl_CacheLine_loop_example_g00083_impl_CacheLine_i_GoodCache_1_f : Joins := [(.r, ⟨[.int .i64, .int .i64, .sl false 5 (.int .u8), .bool, .int .i64, .int .i64], [(4, .one (.h 0))], [(20, [.h 1, .h 2, .h 3, .h 4, .h 5])], [], [], []⟩)]
def ann_slices_IndexFunc_loop_example_g00083_impl_CacheLine_loop_example_g00083_impl_CacheLine_i_GoodCache_1_f : Ann := .seq .nil (.seq (.seq .nil (.block [] (.loop ⟨[.sl false 120 (.pair (.int .i64) (.pair (.sl false 5 (.int .u8)) (.pair .bool (.pair (.int .i64) (.int .i64))))), .int .i64, .int .i64, .int .i64, .sl false 5 (.int .u8), .bool, .int .i64, .int .i64], [(0, .one (.h 0)), (1, .fv 181 [(20, 0)]), (7, .one (.h 1)), (8, .one (.h 2))], [(20, [.h 3, .h 4, .h 5, .h 6, .h 7])], [], [], []⟩ [(.x 0, ⟨[.int .i64, .sl false 5 (.int .u8), .bool, .int .i64, .int .i64], [], [(20, [.h 0, .h 1, .h 2, .h 3, .h 4])], [], [], []⟩), (.r, ⟨[.int .i64, .int .i64, .sl false 5 (.int .u8), .bool, .int .i64, .int .i64], [(4, .one (.h 0))], [(20, [.h 1, .h 2, .h 3, .h 4, .h 5])], [], [], []⟩)] .nil))) .nil)
def env_slices_IndexFunc_loop_example_g00083_impl_CacheLine_loop_example_g00083_impl_CacheLine_i_GoodCache_1_f : Env := envOf ti [k_i_GoodCache_1_f] []
theorem eok_slices_IndexFunc_loop_example_g00083_impl_CacheLine_loop_example_g00083_impl_CacheLine_i_GoodCache_1_f : EnvOk Try.prog env_slices_IndexFunc_loop_example_g00083_impl_CacheLine_loop_example_g00083_impl_CacheLine_i_GoodCache_1_f := envOf_ok tab mix _ _ (by
  intro k hk
  simp only [List.mem_cons, List.not_mem_nil, or_false] at hk
  rcases hk with rfl
  · exact s_i_GoodCache_1_f)
theorem v_slices_IndexFunc_loop_example_g00083_impl_CacheLine_loop_example_g00083_impl_CacheLine_i_GoodCache_1_f (x0 : List (Int × (List Int × (Bool × (Int × Int))))) (x1 : Int) (x2 : List Int) (x3 : Bool) (x4 : Int) (x5 : Int) : (vfun env_slices_IndexFunc_loop_example_g00083_impl_CacheLine_loop_example_g00083_impl_CacheLine_i_GoodCache_1_f Try.f222 J_slices_IndexFunc_loop_example_g00083_impl_CacheLine_loop_example_g00083_impl_CacheLine_i_GoodCache_1_f ann_slices_IndexFunc_loop_example_g00083_impl_CacheLine_loop_example_g00083_impl_CacheLine_i_GoodCache_1_f [] [.one ⟨.sl false 120 (.pair (.int .i64) (.pair (.sl false 5 (.int .u8)) (.pair .bool (.pair (.int .i64) (.int .i64))))), x0⟩, .fv 181 [(0, 0)]] [[⟨.int .i64, x1⟩, ⟨.sl false 5 (.int .u8), x2⟩, ⟨.bool, x3⟩, ⟨.int .i64, x4⟩, ⟨.int .i64, x5⟩]]).run = (G.slices_IndexFunc_loop_example_g00083_impl_CacheLine_loop_example_g00083_impl_CacheLine_i_GoodCache_1_f x0 x1 x2 x3 x4 x5).bind fun y => some (Res.mk [.one ⟨.int .i64, y.1⟩] [[⟨.int .i64, y.2.1⟩, ⟨.sl false 5 (.int .u8), y.2.2.1⟩, ⟨.bool, y.2.2.2.1⟩, ⟨.int .i64, y.2.2.2.2.1⟩, ⟨.int .i64, y.2.2.2.2.2⟩]] []) := by kernel_rfl
def k_slices_IndexFunc_loop_example_g00083_impl_CacheLine_loop_example_g00083_impl_CacheLine_i_GoodCache_1_f : Kn := ⟨222, [0, 0], fun args rows => match args, rows with
  | [.one ⟨.sl false 120 (.pair (.int .i64) (.pair (.sl false 5 (.int .u8)) (.pair .bool (.pair (.int .i64) (.int .i64))))), x0⟩, .fv 181 [(0, 0)]], [[⟨.int .i64, x1⟩, ⟨.sl false 5 (.int .u8), x2⟩, ⟨.bool, x3⟩, ⟨.int .i64, x4⟩, ⟨.int .i64, x5⟩]] => some ⟨_, G.slices_IndexFunc_loop_example_g00083_impl_CacheLine_loop_example_g00083_impl_CacheLine_i_GoodCache_1_f x0 x1 x2 x3 x4 x5, fun y => ⟨[.one ⟨.int .i64, y.1⟩], [[⟨.int .i64, y.2.1⟩, ⟨.sl false 5 (.int .u8), y.2.2.1⟩, ⟨.bool, y.2.2.2.1⟩, ⟨.int .i64, y.2.2.2.2.1⟩, ⟨.int .i64, y.2.2.2.2.2⟩]], []⟩⟩
  | _, _ => none, []⟩
theorem s_slices_IndexFunc_loop_example_g00083_impl_CacheLine_loop_example_g00083_impl_CacheLine_i_GoodCache_1_f : KnOk Try.prog k_slices_IndexFunc_loop_example_g00083_impl_CacheLine_loop_example_g00083_impl_CacheLine_i_GoodCache_1_f := by
  intro args rows a h y hy
  simp only [k_slices_IndexFunc_loop_example_g00083_impl_CacheLine_loop_example_g00083_impl_CacheLine_i_GoodCache_1_f] at h
  split at h
  · injection h with h
    subst h
    exact vfun_ok eok_slices_IndexFunc_loop_example_g00083_impl_CacheLine_loop_example_g00083_impl_CacheLine_i_GoodCache_1_f Try.func222 rfl (by rw [v_slices_IndexFunc_loop_example_g00083_impl_CacheLine_loop_example_g00083_impl_CacheLine_i_GoodCache_1_f]; simp only at hy; rw [hy]; rfl)
  · cases h
def J_slices_ContainsFunc_loop_example_g00083_impl_CacheLine_loop_example_g00083_impl_CacheLine_i_GoodCache_1_f : Joins := [(.r, ⟨[.bool, .int .i64, .sl false 5 (.int .u8), .bool, .int .i64, .int .i64], [(4, .one (.h 0))], [(10, [.h 1, .h 2, .h 3, .h 4, .h 5])], [], [], []⟩)]
def ann_slices_ContainsFunc_loop_example_g00083_impl_CacheLine_loop_example_g00083_impl_CacheLine_i_GoodCache_1_f : Ann := .nil
def env_slices_ContainsFunc_loop_example_g00083_impl_CacheLine_loop_example_g00083_impl_CacheLine_i_GoodCache_1_f : Env := envOf ti [k_slices_IndexFunc_loop_example_g00083_impl_CacheLine_loop_example_g00083_impl_CacheLine_i_GoodCache_1_f, k_i_GoodCache_1_f] []
theorem eok_slices_ContainsFunc_loop_example_g00083_impl_CacheLine_loop_example_g00083_impl_CacheLine_i_GoodCache_1_f : EnvOk Try.prog env_slices_ContainsFunc_loop_example_g00083_impl_CacheLine_loop_example_g00083_impl_CacheLine_i_GoodCache_1_f := envOf_ok tab mix _ _ (by
  intro k hk
  simp only [List.mem_cons, List.not_mem_nil, or_false] at hk
  rcases hk with rfl | rfl
  · exact s_slices_IndexFunc_loop_example_g00083_impl_CacheLine_loop_example_g00083_impl_CacheLine_i_GoodCache_1_f
  · exact s_i_GoodCache_1_f)
theorem v_slices_ContainsFunc_loop_example_g00083_impl_CacheLine_loop_example_g00083_impl_CacheLine_i_GoodCache_1_f (x0 : List (Int × (List Int × (Bool × (Int × Int))))) (x1 : Int) (x2 : List Int) (x3 : Bool) (x4 : Int) (x5 : Int) : (vfun env_slices_ContainsFunc_loop_example_g00083_impl_CacheLine_loop_example_g00083_impl_CacheLine_i_GoodCache_1_f Try.f180 J_slices_ContainsFunc_loop_example_g00083_impl_CacheLine_loop_example_g00083_impl_CacheLine_i_GoodCache_1_f ann_slices_ContainsFunc_loop_example_g00083_impl_CacheLine_loop_example_g00083_impl_CacheLine_i_GoodCache_1_f [] [.one ⟨.sl false 120 (.pair (.int .i64) (.pair (.sl false 5 (.int .u8)) (.pair .bool (.pair (.int .i64) (.int .i64))))), x0⟩, .fv 181 [(0, 0)]] [[⟨.int .i64, x1⟩, ⟨.sl false 5 (.int .u8), x2⟩, ⟨.bool, x3⟩, ⟨.int .i64, x4⟩, ⟨.int .i64, x5⟩]]).run = (G.slices_ContainsFunc_loop_example_g00083_impl_CacheLine_loop_example_g00083_impl_CacheLine_i_GoodCache_1_f x0 x1 x2 x3 x4 x5).bind fun y => some (Res.mk [.one ⟨.bool, y.1⟩] [[⟨.int .i64, y.2.1⟩, ⟨.sl false 5 (.int .u8), y.2.2.1⟩, ⟨.bool, y.2.2.2.1⟩, ⟨.int .i64, y.2.2.2.2.1⟩, ⟨.int .i64, y.2.2.2.2.2⟩]] []) := by kernel_rfl
def k_slices_ContainsFunc_loop_example_g00083_impl_CacheLine_loop_example_g00083_impl_CacheLine_i_GoodCache_1_f : Kn := ⟨180, [0, 0], fun args rows => match args, rows with
  | [.one ⟨.sl false 120 (.pair (.int .i64) (.pair (.sl false 5 (.int .u8)) (.pair .bool (.pair (.int .i64) (.int .i64))))), x0⟩, .fv 181 [(0, 0)]], [[⟨.int .i64, x1⟩, ⟨.sl false 5 (.int .u8), x2⟩, ⟨.bool, x3⟩, ⟨.int .i64, x4⟩, ⟨.int .i64, x5⟩]] => some ⟨_, G.slices_ContainsFunc_loop_example_g00083_impl_CacheLine_loop_example_g00083_impl_CacheLine_i_GoodCache_1_f x0 x1 x2 x3 x4 x5, fun y => ⟨[.one ⟨.bool, y.1⟩], [[⟨.int .i64, y.2.1⟩, ⟨.sl false 5 (.int .u8), y.2.2.1⟩, ⟨.bool, y.2.2.2.1⟩, ⟨.int .i64, y.2.2.2.2.1⟩, ⟨.int .i64, y.2.2.2.2.2⟩]], []⟩⟩
  | _, _ => none, []⟩
theorem s_slices_ContainsFunc_loop_example_g00083_impl_CacheLine_loop_example_g00083_impl_CacheLine_i_GoodCache_1_f : KnOk Try.prog k_slices_ContainsFunc_loop_example_g00083_impl_CacheLine_loop_example_g00083_impl_CacheLine_i_GoodCache_1_f := by
  intro args rows a h y hy
  simp only [k_slices_ContainsFunc_loop_example_g00083_impl_CacheLine_loop_example_g00083_impl_CacheLine_i_GoodCache_1_f] at h
  split at h
  · injection h with h
    subst h
    exact vfun_ok eok_slices_ContainsFunc_loop_example_g00083_impl_CacheLine_loop_example_g00083_impl_CacheLine_i_GoodCache_1_f Try.func180 rfl (by rw [v_slices_ContainsFunc_loop_example_g00083_impl_CacheLine_loop_example_g00083_impl_CacheLine_i_GoodCache_1_f]; simp only at hy; rw [hy]; rfl)
  · cases h
def J_i_GoodCache : Joins := [(.r, ⟨[.bool], [(4, .one (.h 0))], [], [], [], []⟩)]
def ann_i_GoodCache : Ann := .seq .nil (.seq (.seq (.reg [(.n, ⟨[.bool, .int .i64, .int .i64, .sl false 120 (.pair (.int .i64) (.pair (.sl false 5 (.int .u8)) (.pair .bool (.pair (.int .i64) (.int .i64))))), .sl false 43 (.sl false 5 (.int .u8)), .int .i64, .bool, .int .i64], [(2, .pl 2 0), (3, .pl 3 0), (29, .one (.h 0))], [(2, [.h 1, .h 2, .h 3]), (3, [.h 4, .h 5, .h 6, .h 7])], [], [], []⟩)]) .nil) (.seq (.seq .nil (.block [] (.loop ⟨[.sl false 120 (.pair (.int .i64) (.pair (.sl false 5 (.int .u8)) (.pair .bool (.pair (.int .i64) (.int .i64))))), .int .i64, .int .i64, .int .i64, .int .i64, .sl false 120 (.pair (.int .i64) (.pair (.sl false 5 (.int .u8)) (.pair .bool (.pair (.int .i64) (.int .i64))))), .sl false 43 (.sl false 5 (.int .u8)), .int .i64, .bool, .int .i64], [(2, .pl 2 0), (3, .pl 3 0), (31, .one (.h 0)), (32, .one (.h 1)), (33, .one (.h 2))], [(2, [.h 3, .h 4, .h 5]), (3, [.h 6, .h 7, .h 8, .h 9])], [], [], []⟩ [(.x 0, ⟨[], [], [], [], [], []⟩), (.r, ⟨[.bool], [(4, .one (.h 0))], [], [], [], []⟩)] (.seq .nil (.seq .nil (.seq (.block [] (.seq .nil (.seq (.reg [(.n, ⟨[.sl false 120 (.pair (.int .i64) (.pair (.sl false 5 (.int .u8)) (.pair .bool (.pair (.int .i64) (.int .i64))))), .int .i64, .int .i64, .bool, .int .i64, .int .i64, .sl false 120 (.pair (.int .i64) (.pair (.sl false 5 (.int .u8)) (.pair .bool (.pair (.int .i64) (.int .i64))))), .sl false 43 (.sl false 5 (.int .u8)), .int .i64, .bool, .int .i64], [(2, .pl 2 0), (3, .pl 3 0), (31, .one (.h 0)), (32, .one (.h 1)), (33, .one (.h 2)), (103, .one (.h 3))], [(2, [.h 4, .h 5, .h 6]), (3, [.h 7, .h 8, .h 9, .h 10])], [], [], []⟩)]) .nil))) .nil)))))) .nil))
def env_i_GoodCache : Env := envOf ti [k_i_GoodDisk, k_i_within, k_i_Disk_has, k_slices_Equal_byte_byte, k_slices_ContainsFunc_loop_example_g00083_impl_CacheLine_loop_example_g00083_impl_CacheLine_i_GoodCache_1_f, k_i_GoodCache_1_f] []
theorem eok_i_GoodCache : EnvOk Try.prog env_i_GoodCache := envOf_ok tab mix _ _ (by
  intro k hk
  simp only [List.mem_cons, List.not_mem_nil, or_false] at hk
  rcases hk with rfl | rfl | rfl | rfl | rfl | rfl
  · exact s_i_GoodDisk
  · exact s_i_within
  · exact s_i_Disk_has
  · exact s_slices_Equal_byte_byte
  · exact s_slices_ContainsFunc_loop_example_g00083_impl_CacheLine_loop_example_g00083_impl_CacheLine_i_GoodCache_1_f
  · exact s_i_GoodCache_1_f)
theorem v_i_GoodCache (x0 : Int) (x1 : Int) (x2 : List (Int × (List Int × (Bool × (Int × Int))))) (x3 : List (List Int)) (x4 : Int) (x5 : Bool) (x6 : Int) : (vfun env_i_GoodCache Try.f92 J_i_GoodCache ann_i_GoodCache [] [.ag [⟨.int .i64, x0⟩, ⟨.int .i64, x1⟩, ⟨.sl false 120 (.pair (.int .i64) (.pair (.sl false 5 (.int .u8)) (.pair .bool (.pair (.int .i64) (.int .i64))))), x2⟩], .ag [⟨.sl false 43 (.sl false 5 (.int .u8)), x3⟩, ⟨.int .i64, x4⟩, ⟨.bool, x5⟩, ⟨.int .i64, x6⟩]] []).run = (G.i_GoodCache x0 x1 x2 x3 x4 x5 x6).bind fun y => some (Res.mk [.one ⟨.bool, y⟩] [] []) := by kernel_rfl
def k_i_GoodCache : Kn := ⟨92, [0, 0], fun args rows => match args, rows with
  | [.ag [⟨.int .i64, x0⟩, ⟨.int .i64, x1⟩, ⟨.sl false 120 (.pair (.int .i64) (.pair (.sl false 5 (.int .u8)) (.pair .bool (.pair (.int .i64) (.int .i64))))), x2⟩], .ag [⟨.sl false 43 (.sl false 5 (.int .u8)), x3⟩, ⟨.int .i64, x4⟩, ⟨.bool, x5⟩, ⟨.int .i64, x6⟩]], [] => some ⟨_, G.i_GoodCache x0 x1 x2 x3 x4 x5 x6, fun y => ⟨[.one ⟨.bool, y⟩], [], []⟩⟩
  | _, _ => none, []⟩
theorem s_i_GoodCache : KnOk Try.prog k_i_GoodCache := by
  intro args rows a h y hy
  simp only [k_i_GoodCache] at h
  split at h
  · injection h with h
    subst h
    exact vfun_ok eok_i_GoodCache Try.func92 rfl (by rw [v_i_GoodCache]; simp only at hy; rw [hy]; rfl)
  · cases h
def J_slices_Clone_byte_byte : Joins := [(.r, ⟨[.sl true 5 (.int .u8)], [(2, .one (.vw 110593))], [], [(110593, 0)], [], []⟩)]
def ann_slices_Clone_byte_byte : Ann := .seq .nil (.both [(.r, ⟨[.sl true 5 (.int .u8)], [(2, .one (.vw 110592))], [], [(110592, 0)], [], []⟩)] .nil .nil .nil .nil .nil)
def env_slices_Clone_byte_byte : Env := envOf ti [] []
theorem eok_slices_Clone_byte_byte : EnvOk Try.prog env_slices_Clone_byte_byte := envOf_ok tab mix _ _ (by
  intro k hk; cases hk)
theorem v_slices_Clone_byte_byte (x0 : List Int) : (vfun env_slices_Clone_byte_byte Try.f182 J_slices_Clone_byte_byte ann_slices_Clone_byte_byte [] [.one ⟨.sl false 5 (.int .u8), x0⟩] []).run = (G.slices_Clone_byte_byte x0).bind fun y => some (Res.mk [.one ⟨.sl true 5 (.int .u8), y⟩] [] []) := by kernel_rfl
def k_slices_Clone_byte_byte : Kn := ⟨182, [0], fun args rows => match args, rows with
  | [.one ⟨.sl false 5 (.int .u8), x0⟩], [] => some ⟨_, G.slices_Clone_byte_byte x0, fun y => ⟨[.one ⟨.sl true 5 (.int .u8), y⟩], [], []⟩⟩
  | _, _ => none, []⟩
theorem s_slices_Clone_byte_byte : KnOk Try.prog k_slices_Clone_byte_byte := by
  intro args rows a h y hy
  simp only [k_slices_Clone_byte_byte] at h
  split at h
  · injection h with h
    subst h
    exact vfun_ok eok_slices_Clone_byte_byte Try.func182 rfl (by rw [v_slices_Clone_byte_byte]; simp only at hy; rw [hy]; rfl)
  · cases h
def J_i_Cache_copied : Joins := [(.r, ⟨[.int .i64, .int .i64, .sl true 120 (.pair (.int .i64) (.pair (.sl true 5 (.int .u8)) (.pair .bool (.pair (.int .i64) (.int .i64)))))], [(2, .pl 2 0)], [(2, [.h 0, .h 1, .vw 133185])], [(133185, 2)], [], []⟩)]
def ann_i_Cache_copied : Ann := .seq .nil (.seq .nil (.seq (.seq .nil (.block [] (.loop ⟨[.sl false 120 (.pair (.int .i64) (.pair (.sl false 5 (.int .u8)) (.pair .bool (.pair (.int .i64) (.int .i64))))), .int .i64, .int .i64, .int .i64, .int .i64, .int .i64, .int .i64, .sl true 120 (.pair (.int .i64) (.pair (.sl true 5 (.int .u8)) (.pair .bool (.pair (.int .i64) (.int .i64)))))], [(2, .pl 2 0), (3, .pl 3 0), (12, .one (.h 0)), (13, .one (.h 1)), (14, .one (.h 2))], [(2, [.h 3, .h 4, .nil]), (3, [.h 5, .h 6, .vw 133120])], [(133120, 7)], [], []⟩ [(.x 0, ⟨[.int .i64, .int .i64, .int .i64, .int .i64, .sl true 120 (.pair (.int .i64) (.pair (.sl true 5 (.int .u8)) (.pair .bool (.pair (.int .i64) (.int .i64)))))], [(2, .pl 2 0), (3, .pl 3 0)], [(2, [.h 0, .h 1, .nil]), (3, [.h 2, .h 3, .vw 133184])], [(133184, 4)], [], []⟩)] .nil))) .nil))
def env_i_Cache_copied : Env := envOf ti [k_slices_Clone_byte_byte] []
theorem eok_i_Cache_copied : EnvOk Try.prog env_i_Cache_copied := envOf_ok tab mix _ _ (by
  intro k hk
  simp only [List.mem_cons, List.not_mem_nil, or_false] at hk
  rcases hk with rfl
  · exact s_slices_Clone_byte_byte)
theorem v_i_Cache_copied (x0 : Int) (x1 : Int) (x2 : List (Int × (List Int × (Bool × (Int × Int))))) : (vfun env_i_Cache_copied Try.f94 J_i_Cache_copied ann_i_Cache_copied [] [.ag [⟨.int .i64, x0⟩, ⟨.int .i64, x1⟩, ⟨.sl false 120 (.pair (.int .i64) (.pair (.sl false 5 (.int .u8)) (.pair .bool (.pair (.int .i64) (.int .i64))))), x2⟩]] []).run = (G.i_Cache_copied x0 x1 x2).bind fun y => some (Res.mk [.ag [⟨.int .i64, y.1⟩, ⟨.int .i64, y.2.1⟩, ⟨.sl true 120 (.pair (.int .i64) (.pair (.sl true 5 (.int .u8)) (.pair .bool (.pair (.int .i64) (.int .i64))))), y.2.2⟩]] [] []) := by kernel_rfl
def k_i_Cache_copied : Kn := ⟨94, [0], fun args rows => match args, rows with
  | [.ag [⟨.int .i64, x0⟩, ⟨.int .i64, x1⟩, ⟨.sl false 120 (.pair (.int .i64) (.pair (.sl false 5 (.int .u8)) (.pair .bool (.pair (.int .i64) (.int .i64))))), x2⟩]], [] => some ⟨_, G.i_Cache_copied x0 x1 x2, fun y => ⟨[.ag [⟨.int .i64, y.1⟩, ⟨.int .i64, y.2.1⟩, ⟨.sl true 120 (.pair (.int .i64) (.pair (.sl true 5 (.int .u8)) (.pair .bool (.pair (.int .i64) (.int .i64))))), y.2.2⟩]], [], []⟩⟩
  | _, _ => none, []⟩
theorem s_i_Cache_copied : KnOk Try.prog k_i_Cache_copied := by
  intro args rows a h y hy
  simp only [k_i_Cache_copied] at h
  split at h
  · injection h with h
    subst h
    exact vfun_ok eok_i_Cache_copied Try.func94 rfl (by rw [v_i_Cache_copied]; simp only at hy; rw [hy]; rfl)
  · cases h
def J_i_Cache_line_1 : Joins := [(.r, ⟨[.int .i64], [(4, .one (.h 0))], [], [], [], []⟩)]
def ann_i_Cache_line_1 : Ann := .nil
def env_i_Cache_line_1 : Env := envOf ti [] []
theorem eok_i_Cache_line_1 : EnvOk Try.prog env_i_Cache_line_1 := envOf_ok tab mix _ _ (by
  intro k hk; cases hk)
theorem v_i_Cache_line_1 (x0 : Int) (x1 : List Int) (x2 : Bool) (x3 : Int) (x4 : Int) (x5 : Int) : (vfun env_i_Cache_line_1 Try.f184 J_i_Cache_line_1 ann_i_Cache_line_1 [] [.ag [⟨.int .i64, x0⟩, ⟨.sl false 5 (.int .u8), x1⟩, ⟨.bool, x2⟩, ⟨.int .i64, x3⟩, ⟨.int .i64, x4⟩], .one ⟨.int .i64, x5⟩] []).run = (G.i_Cache_line_1 x0 x1 x2 x3 x4 x5).bind fun y => some (Res.mk [.one ⟨.int .i64, y⟩] [] []) := by kernel_rfl
def k_i_Cache_line_1 : Kn := ⟨184, [0, 0], fun args rows => match args, rows with
  | [.ag [⟨.int .i64, x0⟩, ⟨.sl false 5 (.int .u8), x1⟩, ⟨.bool, x2⟩, ⟨.int .i64, x3⟩, ⟨.int .i64, x4⟩], .one ⟨.int .i64, x5⟩], [] => some ⟨_, G.i_Cache_line_1 x0 x1 x2 x3 x4 x5, fun y => ⟨[.one ⟨.int .i64, y⟩], [], []⟩⟩
  | _, _ => none, []⟩
theorem s_i_Cache_line_1 : KnOk Try.prog k_i_Cache_line_1 := by
  intro args rows a h y hy
  simp only [k_i_Cache_line_1] at h
  split at h
  · injection h with h
    subst h
    exact vfun_ok eok_i_Cache_line_1 Try.func184 rfl (by rw [v_i_Cache_line_1]; simp only at hy; rw [hy]; rfl)
  · cases h
def J_slices_BinarySearchFunc_loop_example_g00083_impl_CacheLine_loop_example_g00083_impl_CacheLine_int_i_Cache_line_1 : Joins := [(.r, ⟨[.int .i64, .bool], [(6, .one (.h 0)), (7, .one (.h 1))], [], [], [], []⟩)]
def ann_slices_BinarySearchFunc_loop_example_g00083_impl_CacheLine_loop_example_g00083_impl_CacheLine_int_i_Cache_line_1 : Ann := .seq .nil (.seq .nil (.seq .nil (.seq (.block [] (.loop ⟨[.sl false 120 (.pair (.int .i64) (.pair (.sl false 5 (.int .u8)) (.pair .bool (.pair (.int .i64) (.int .i64))))), .int .i64, .int .i64, .int .i64, .int .i64], [(0, .one (.h 0)), (1, .one (.h 1)), (2, .fv 184 []), (8, .one (.h 2)), (9, .one (.h 3)), (10, .one (.h 4))], [], [], [], []⟩ [(.x 0, ⟨[.sl false 120 (.pair (.int .i64) (.pair (.sl false 5 (.int .u8)) (.pair .bool (.pair (.int .i64) (.int .i64))))), .int .i64, .int .i64, .int .i64], [(0, .one (.h 0)), (1, .one (.h 1)), (2, .fv 184 []), (8, .one (.h 2)), (9, .one (.h 3))], [], [], [], []⟩)] (.seq .nil (.block [] (.seq .nil (.seq .nil (.cond [(.n, ⟨[.sl false 120 (.pair (.int .i64) (.pair (.sl false 5 (.int .u8)) (.pair .bool (.pair (.int .i64) (.int .i64))))), .int .i64, .int .i64, .int .i64, .int .i64], [(0, .one (.h 0)), (1, .one (.h 1)), (2, .fv 184 []), (8, .one (.h 2)), (9, .one (.h 3)), (10, .one (.h 4))], [], [], [], []⟩)] .nil .nil))))))) (.seq (.reg [(.n, ⟨[.int .i64, .bool], [(6, .one (.h 0)), (7, .one (.h 1))], [], [], [], []⟩)]) .nil))))
def env_slices_BinarySearchFunc_loop_example_g00083_impl_CacheLine_loop_example_g00083_impl_CacheLine_int_i_Cache_line_1 : Env := envOf ti [k_i_Cache_line_1] []
theorem eok_slices_BinarySearchFunc_loop_example_g00083_impl_CacheLine_loop_example_g00083_impl_CacheLine_int_i_Cache_line_1 : EnvOk Try.prog env_slices_BinarySearchFunc_loop_example_g00083_impl_CacheLine_loop_example_g00083_impl_CacheLine_int_i_Cache_line_1 := envOf_ok tab mix _ _ (by
  intro k hk
  simp only [List.mem_cons, List.not_mem_nil, or_false] at hk
  rcases hk with rfl
  · exact s_i_Cache_line_1)
theorem v_slices_BinarySearchFunc_loop_example_g00083_impl_CacheLine_loop_example_g00083_impl_CacheLine_int_i_Cache_line_1 (x0 : List (Int × (List Int × (Bool × (Int × Int))))) (x1 : Int) : (vfun env_slices_BinarySearchFunc_loop_example_g00083_impl_CacheLine_loop_example_g00083_impl_CacheLine_int_i_Cache_line_1 Try.f183 J_slices_BinarySearchFunc_loop_example_g00083_impl_CacheLine_loop_example_g00083_impl_CacheLine_int_i_Cache_line_1 ann_slices_BinarySearchFunc_loop_example_g00083_impl_CacheLine_loop_example_g00083_impl_CacheLine_int_i_Cache_line_1 [] [.one ⟨.sl false 120 (.pair (.int .i64) (.pair (.sl false 5 (.int .u8)) (.pair .bool (.pair (.int .i64) (.int .i64))))), x0⟩, .one ⟨.int .i64, x1⟩, .fv 184 []] []).run = (G.slices_BinarySearchFunc_loop_example_g00083_impl_CacheLine_loop_example_g00083_impl_CacheLine_int_i_Cache_line_1 x0 x1).bind fun y => some (Res.mk [.one ⟨.int .i64, y.1⟩, .one ⟨.bool, y.2⟩] [] []) := by kernel_rfl
def k_slices_BinarySearchFunc_loop_example_g00083_impl_CacheLine_loop_example_g00083_impl_CacheLine_int_i_Cache_line_1 : Kn := ⟨183, [0, 0, 0], fun args rows => match args, rows with
  | [.one ⟨.sl false 120 (.pair (.int .i64) (.pair (.sl false 5 (.int .u8)) (.pair .bool (.pair (.int .i64) (.int .i64))))), x0⟩, .one ⟨.int .i64, x1⟩, .fv 184 []], [] => some ⟨_, G.slices_BinarySearchFunc_loop_example_g00083_impl_CacheLine_loop_example_g00083_impl_CacheLine_int_i_Cache_line_1 x0 x1, fun y => ⟨[.one ⟨.int .i64, y.1⟩, .one ⟨.bool, y.2⟩], [], []⟩⟩
  | _, _ => none, []⟩
theorem s_slices_BinarySearchFunc_loop_example_g00083_impl_CacheLine_loop_example_g00083_impl_CacheLine_int_i_Cache_line_1 : KnOk Try.prog k_slices_BinarySearchFunc_loop_example_g00083_impl_CacheLine_loop_example_g00083_impl_CacheLine_int_i_Cache_line_1 := by
  intro args rows a h y hy
  simp only [k_slices_BinarySearchFunc_loop_example_g00083_impl_CacheLine_loop_example_g00083_impl_CacheLine_int_i_Cache_line_1] at h
  split at h
  · injection h with h
    subst h
    exact vfun_ok eok_slices_BinarySearchFunc_loop_example_g00083_impl_CacheLine_loop_example_g00083_impl_CacheLine_int_i_Cache_line_1 Try.func183 rfl (by rw [v_slices_BinarySearchFunc_loop_example_g00083_impl_CacheLine_loop_example_g00083_impl_CacheLine_int_i_Cache_line_1]; simp only at hy; rw [hy]; rfl)
  · cases h
def J_i_Cache_line_o : Joins := [(.r, ⟨[.int .i64, .bool, .int .i64, .int .i64, .sl true 120 (.pair (.int .i64) (.pair (.sl true 5 (.int .u8)) (.pair .bool (.pair (.int .i64) (.int .i64)))))], [(4, .one (.h 0)), (5, .one (.h 1))], [(15, [.h 2, .h 3, .vw 116736])], [(116736, 4)], [], []⟩)]
def ann_i_Cache_line_o : Ann := .nil
def env_i_Cache_line_o : Env := envOf ti [k_slices_BinarySearchFunc_loop_example_g00083_impl_CacheLine_loop_example_g00083_impl_CacheLine_int_i_Cache_line_1] []
theorem eok_i_Cache_line_o : EnvOk Try.prog env_i_Cache_line_o := envOf_ok tab mix _ _ (by
  intro k hk
  simp only [List.mem_cons, List.not_mem_nil, or_false] at hk
  rcases hk with rfl
  · exact s_slices_BinarySearchFunc_loop_example_g00083_impl_CacheLine_loop_example_g00083_impl_CacheLine_int_i_Cache_line_1)
theorem v_i_Cache_line_o (x0 : Int) (x1 : Int) (x2 : Int) (x3 : List (Int × (List Int × (Bool × (Int × Int))))) : (vfun env_i_Cache_line_o Try.f95 J_i_Cache_line_o ann_i_Cache_line_o [] [.pl 0 0, .one ⟨.int .i64, x0⟩] [[⟨.int .i64, x1⟩, ⟨.int .i64, x2⟩, ⟨.sl true 120 (.pair (.int .i64) (.pair (.sl true 5 (.int .u8)) (.pair .bool (.pair (.int .i64) (.int .i64))))), x3⟩]]).run = (G.i_Cache_line_o x0 x1 x2 x3).bind fun y => some (Res.mk [.one ⟨.int .i64, y.1⟩, .one ⟨.bool, y.2.1⟩] [[⟨.int .i64, y.2.2.1⟩, ⟨.int .i64, y.2.2.2.1⟩, ⟨.sl true 120 (.pair (.int .i64) (.pair (.sl true 5 (.int .u8)) (.pair .bool (.pair (.int .i64) (.int .i64))))), y.2.2.2.2⟩]] []) := by kernel_rfl
def k_i_Cache_line_o : Kn := ⟨95, [0, 0], fun args rows => match args, rows with
  | [.pl 0 0, .one ⟨.int .i64, x0⟩], [[⟨.int .i64, x1⟩, ⟨.int .i64, x2⟩, ⟨.sl true 120 (.pair (.int .i64) (.pair (.sl true 5 (.int .u8)) (.pair .bool (.pair (.int .i64) (.int .i64))))), x3⟩]] => some ⟨_, G.i_Cache_line_o x0 x1 x2 x3, fun y => ⟨[.one ⟨.int .i64, y.1⟩, .one ⟨.bool, y.2.1⟩], [[⟨.int .i64, y.2.2.1⟩, ⟨.int .i64, y.2.2.2.1⟩, ⟨.sl true 120 (.pair (.int .i64) (.pair (.sl true 5 (.int .u8)) (.pair .bool (.pair (.int .i64) (.int .i64))))), y.2.2.2.2⟩]], []⟩⟩
  | _, _ => none, []⟩
theorem s_i_Cache_line_o : KnOk Try.prog k_i_Cache_line_o := by
  intro args rows a h y hy
  simp only [k_i_Cache_line_o] at h
  split at h
  · injection h with h
    subst h
    exact vfun_ok eok_i_Cache_line_o Try.func95 rfl (by rw [v_i_Cache_line_o]; simp only at hy; rw [hy]; rfl)
  · cases h
end
end Go.Proofs.Ytcfbfpipfalieaa

set_option linter.unusedVariables false
set_option maxRecDepth 100000
namespace Go.Proofs.Ytcfbfpipfalieaa
open Go.V
noncomputable section
def J_i_PinLine : Joins := [(.r, ⟨[.int .i64, .int .i64, .int .i64, .sl true 120 (.pair (.int .i64) (.pair (.sl true 5 (.int .u8)) (.pair .bool (.pair (.int .i64) (.int .i64)))))], [(8, .pl 8 0), (9, .one (.h 0))], [(8, [.h 1, .h 2, .vw 171009])], [(171009, 3)], [], []⟩)]
def ann_i_PinLine : Ann := .seq .nil (.seq (.block [] (.seq (.reg [(.n, ⟨[.int .i64, .int .i64, .bool, .int .i64, .int .i64, .sl false 120 (.pair (.int .i64) (.pair (.sl false 5 (.int .u8)) (.pair .bool (.pair (.int .i64) (.int .i64))))), .sl false 43 (.sl false 5 (.int .u8)), .int .i64, .bool, .int .i64, .int .i64, .int .i64], [(2, .one (.h 0)), (3, .one (.h 1)), (4, .pl 4 0), (5, .pl 5 0), (8, .pl 8 0), (13, .one (.h 2))], [(4, [.h 3, .h 4, .h 5]), (5, [.h 6, .h 7, .h 8, .h 9]), (8, [.h 10, .h 11, .nil])], [], [], []⟩)]) .nil)) (.seq .nil (.seq .nil (.seq (.seq (.reg [(.n, ⟨[.int .i64, .int .i64, .bool, .int .i64, .int .i64, .int .i64, .int .i64, .sl true 120 (.pair (.int .i64) (.pair (.sl true 5 (.int .u8)) (.pair .bool (.pair (.int .i64) (.int .i64)))))], [(3, .one (.h 0)), (8, .pl 8 0), (10, .pl 10 0), (11, .one (.h 1)), (54, .one (.h 2))], [(8, [.h 3, .h 4, .nil]), (10, [.h 5, .h 6, .vw 171008])], [(171008, 7)], [], []⟩)]) .nil) .nil))))
def env_i_PinLine : Env := envOf ti [k_i_GoodCache, k_i_Disk_has, k_i_Cache_copied, k_i_Cache_line_o, k_i_within] []
theorem eok_i_PinLine : EnvOk Try.prog env_i_PinLine := envOf_ok tab mix _ _ (by
  intro k hk
  simp only [List.mem_cons, List.not_mem_nil, or_false] at hk
  rcases hk with rfl | rfl | rfl | rfl | rfl
  · exact s_i_GoodCache
  · exact s_i_Disk_has
  · exact s_i_Cache_copied
  · exact s_i_Cache_line_o
  · exact s_i_within)
theorem v_i_PinLine (x0 : Int) (x1 : Int) (x2 : List (Int × (List Int × (Bool × (Int × Int))))) (x3 : List (List Int)) (x4 : Int) (x5 : Bool) (x6 : Int) (x7 : Int) (x8 : Int) : (vfun env_i_PinLine Try.f23 J_i_PinLine ann_i_PinLine [] [.ag [⟨.int .i64, x0⟩, ⟨.int .i64, x1⟩, ⟨.sl false 120 (.pair (.int .i64) (.pair (.sl false 5 (.int .u8)) (.pair .bool (.pair (.int .i64) (.int .i64))))), x2⟩], .ag [⟨.sl false 43 (.sl false 5 (.int .u8)), x3⟩, ⟨.int .i64, x4⟩, ⟨.bool, x5⟩, ⟨.int .i64, x6⟩], .one ⟨.int .i64, x7⟩, .one ⟨.int .i64, x8⟩] []).run = (G.i_PinLine x0 x1 x2 x3 x4 x5 x6 x7 x8).bind fun y => some (Res.mk [.ag [⟨.int .i64, y.2.1⟩, ⟨.int .i64, y.2.2.1⟩, ⟨.sl true 120 (.pair (.int .i64) (.pair (.sl true 5 (.int .u8)) (.pair .bool (.pair (.int .i64) (.int .i64))))), y.2.2.2⟩], .one ⟨.int .i64, y.1⟩] [] []) := by kernel_rfl
def k_i_PinLine : Kn := ⟨23, [0, 0, 0, 0], fun args rows => match args, rows with
  | [.ag [⟨.int .i64, x0⟩, ⟨.int .i64, x1⟩, ⟨.sl false 120 (.pair (.int .i64) (.pair (.sl false 5 (.int .u8)) (.pair .bool (.pair (.int .i64) (.int .i64))))), x2⟩], .ag [⟨.sl false 43 (.sl false 5 (.int .u8)), x3⟩, ⟨.int .i64, x4⟩, ⟨.bool, x5⟩, ⟨.int .i64, x6⟩], .one ⟨.int .i64, x7⟩, .one ⟨.int .i64, x8⟩], [] => some ⟨_, G.i_PinLine x0 x1 x2 x3 x4 x5 x6 x7 x8, fun y => ⟨[.ag [⟨.int .i64, y.2.1⟩, ⟨.int .i64, y.2.2.1⟩, ⟨.sl true 120 (.pair (.int .i64) (.pair (.sl true 5 (.int .u8)) (.pair .bool (.pair (.int .i64) (.int .i64))))), y.2.2.2⟩], .one ⟨.int .i64, y.1⟩], [], []⟩⟩
  | _, _ => none, []⟩
theorem s_i_PinLine : KnOk Try.prog k_i_PinLine := by
  intro args rows a h y hy
  simp only [k_i_PinLine] at h
  split at h
  · injection h with h
    subst h
    exact vfun_ok eok_i_PinLine Try.func23 rfl (by rw [v_i_PinLine]; simp only at hy; rw [hy]; rfl)
  · cases h
def J_l_eqByteS : Joins := [(.r, ⟨[.bool], [(4, .one (.h 0))], [], [], [], []⟩)]
def ann_l_eqByteS : Ann := .seq .nil (.seq .nil (.seq (.seq .nil (.block [] (.loop ⟨[.sl false 5 (.int .u8), .sl false 5 (.int .u8), .int .i64], [(0, .one (.h 0)), (1, .one (.h 1)), (5, .one (.h 2))], [], [], [], []⟩ [(.x 0, ⟨[], [], [], [], [], []⟩), (.r, ⟨[.bool], [(4, .one (.h 0))], [], [], [], []⟩)] .nil))) .nil))
def env_l_eqByteS : Env := envOf ti [] []
theorem eok_l_eqByteS : EnvOk Try.prog env_l_eqByteS := envOf_ok tab mix _ _ (by
  intro k hk; cases hk)
theorem v_l_eqByteS (x0 : List Int) (x1 : List Int) : (vfun env_l_eqByteS Try.f59 J_l_eqByteS ann_l_eqByteS [] [.one ⟨.sl false 5 (.int .u8), x0⟩, .one ⟨.sl false 5 (.int .u8), x1⟩] []).run = (G.l_eqByteS x0 x1).bind fun y => some (Res.mk [.one ⟨.bool, y⟩] [] []) := by kernel_rfl
def k_l_eqByteS : Kn := ⟨59, [0, 0], fun args rows => match args, rows with
  | [.one ⟨.sl false 5 (.int .u8), x0⟩, .one ⟨.sl false 5 (.int .u8), x1⟩], [] => some ⟨_, G.l_eqByteS x0 x1, fun y => ⟨[.one ⟨.bool, y⟩], [], []⟩⟩
  | _, _ => none, []⟩
theorem s_l_eqByteS : KnOk Try.prog k_l_eqByteS := by
  intro args rows a h y hy
  simp only [k_l_eqByteS] at h
  split at h
  · injection h with h
    subst h
    exact vfun_ok eok_l_eqByteS Try.func59 rfl (by rw [v_l_eqByteS]; simp only at hy; rw [hy]; rfl)
  · cases h
def J_l_eqCacheLine : Joins := [(.r, ⟨[.bool], [(4, .one (.h 0))], [], [], [], []⟩)]
def ann_l_eqCacheLine : Ann := .nil
def env_l_eqCacheLine : Env := envOf ti [k_l_eqByteS] []
theorem eok_l_eqCacheLine : EnvOk Try.prog env_l_eqCacheLine := envOf_ok tab mix _ _ (by
  intro k hk
  simp only [List.mem_cons, List.not_mem_nil, or_false] at hk
  rcases hk with rfl
  · exact s_l_eqByteS)
theorem v_l_eqCacheLine (x0 : Int) (x1 : List Int) (x2 : Bool) (x3 : Int) (x4 : Int) (x5 : Int) (x6 : List Int) (x7 : Bool) (x8 : Int) (x9 : Int) : (vfun env_l_eqCacheLine Try.f185 J_l_eqCacheLine ann_l_eqCacheLine [] [.ag [⟨.int .i64, x0⟩, ⟨.sl false 5 (.int .u8), x1⟩, ⟨.bool, x2⟩, ⟨.int .i64, x3⟩, ⟨.int .i64, x4⟩], .ag [⟨.int .i64, x5⟩, ⟨.sl false 5 (.int .u8), x6⟩, ⟨.bool, x7⟩, ⟨.int .i64, x8⟩, ⟨.int .i64, x9⟩]] []).run = (G.l_eqCacheLine x0 x1 x2 x3 x4 x5 x6 x7 x8 x9).bind fun y => some (Res.mk [.one ⟨.bool, y⟩] [] []) := by kernel_rfl
def k_l_eqCacheLine : Kn := ⟨185, [0, 0], fun args rows => match args, rows with
  | [.ag [⟨.int .i64, x0⟩, ⟨.sl false 5 (.int .u8), x1⟩, ⟨.bool, x2⟩, ⟨.int .i64, x3⟩, ⟨.int .i64, x4⟩], .ag [⟨.int .i64, x5⟩, ⟨.sl false 5 (.int .u8), x6⟩, ⟨.bool, x7⟩, ⟨.int .i64, x8⟩, ⟨.int .i64, x9⟩]], [] => some ⟨_, G.l_eqCacheLine x0 x1 x2 x3 x4 x5 x6 x7 x8 x9, fun y => ⟨[.one ⟨.bool, y⟩], [], []⟩⟩
  | _, _ => none, []⟩
theorem s_l_eqCacheLine : KnOk Try.prog k_l_eqCacheLine := by
  intro args rows a h y hy
  simp only [k_l_eqCacheLine] at h
  split at h
  · injection h with h
    subst h
    exact vfun_ok eok_l_eqCacheLine Try.func185 rfl (by rw [v_l_eqCacheLine]; simp only at hy; rw [hy]; rfl)
  · cases h
def J_l_eqCacheLineS : Joins := [(.r, ⟨[.bool], [(4, .one (.h 0))], [], [], [], []⟩)]
def ann_l_eqCacheLineS : Ann := .seq .nil (.seq .nil (.seq (.seq .nil (.block [] (.loop ⟨[.sl false 120 (.pair (.int .i64) (.pair (.sl false 5 (.int .u8)) (.pair .bool (.pair (.int .i64) (.int .i64))))), .sl false 120 (.pair (.int .i64) (.pair (.sl false 5 (.int .u8)) (.pair .bool (.pair (.int .i64) (.int .i64))))), .int .i64], [(0, .one (.h 0)), (1, .one (.h 1)), (5, .one (.h 2))], [], [], [], []⟩ [(.x 0, ⟨[], [], [], [], [], []⟩), (.r, ⟨[.bool], [(4, .one (.h 0))], [], [], [], []⟩)] .nil))) .nil))
def env_l_eqCacheLineS : Env := envOf ti [k_l_eqCacheLine] []
theorem eok_l_eqCacheLineS : EnvOk Try.prog env_l_eqCacheLineS := envOf_ok tab mix _ _ (by
  intro k hk
  simp only [List.mem_cons, List.not_mem_nil, or_false] at hk
  rcases hk with rfl
  · exact s_l_eqCacheLine)
theorem v_l_eqCacheLineS (x0 : List (Int × (List Int × (Bool × (Int × Int))))) (x1 : List (Int × (List Int × (Bool × (Int × Int))))) : (vfun env_l_eqCacheLineS Try.f97 J_l_eqCacheLineS ann_l_eqCacheLineS [] [.one ⟨.sl false 120 (.pair (.int .i64) (.pair (.sl false 5 (.int .u8)) (.pair .bool (.pair (.int .i64) (.int .i64))))), x0⟩, .one ⟨.sl false 120 (.pair (.int .i64) (.pair (.sl false 5 (.int .u8)) (.pair .bool (.pair (.int .i64) (.int .i64))))), x1⟩] []).run = (G.l_eqCacheLineS x0 x1).bind fun y => some (Res.mk [.one ⟨.bool, y⟩] [] []) := by kernel_rfl
def k_l_eqCacheLineS : Kn := ⟨97, [0, 0], fun args rows => match args, rows with
  | [.one ⟨.sl false 120 (.pair (.int .i64) (.pair (.sl false 5 (.int .u8)) (.pair .bool (.pair (.int .i64) (.int .i64))))), x0⟩, .one ⟨.sl false 120 (.pair (.int .i64) (.pair (.sl false 5 (.int .u8)) (.pair .bool (.pair (.int .i64) (.int .i64))))), x1⟩], [] => some ⟨_, G.l_eqCacheLineS x0 x1, fun y => ⟨[.one ⟨.bool, y⟩], [], []⟩⟩
  | _, _ => none, []⟩
theorem s_l_eqCacheLineS : KnOk Try.prog k_l_eqCacheLineS := by
  intro args rows a h y hy
  simp only [k_l_eqCacheLineS] at h
  split at h
  · injection h with h
    subst h
    exact vfun_ok eok_l_eqCacheLineS Try.func97 rfl (by rw [v_l_eqCacheLineS]; simp only at hy; rw [hy]; rfl)
  · cases h
def J_l_eqCache : Joins := [(.r, ⟨[.bool], [(4, .one (.h 0))], [], [], [], []⟩)]
def ann_l_eqCache : Ann := .nil
def env_l_eqCache : Env := envOf ti [k_l_eqCacheLineS] []
theorem eok_l_eqCache : EnvOk Try.prog env_l_eqCache := envOf_ok tab mix _ _ (by
  intro k hk
  simp only [List.mem_cons, List.not_mem_nil, or_false] at hk
  rcases hk with rfl
  · exact s_l_eqCacheLineS)
theorem v_l_eqCache (x0 : Int) (x1 : Int) (x2 : List (Int × (List Int × (Bool × (Int × Int))))) (x3 : Int) (x4 : Int) (x5 : List (Int × (List Int × (Bool × (Int × Int))))) : (vfun env_l_eqCache Try.f24 J_l_eqCache ann_l_eqCache [] [.ag [⟨.int .i64, x0⟩, ⟨.int .i64, x1⟩, ⟨.sl false 120 (.pair (.int .i64) (.pair (.sl false 5 (.int .u8)) (.pair .bool (.pair (.int .i64) (.int .i64))))), x2⟩], .ag [⟨.int .i64, x3⟩, ⟨.int .i64, x4⟩, ⟨.sl false 120 (.pair (.int .i64) (.pair (.sl false 5 (.int .u8)) (.pair .bool (.pair (.int .i64) (.int .i64))))), x5⟩]] []).run = (G.l_eqCache x0 x1 x2 x3 x4 x5).bind fun y => some (Res.mk [.one ⟨.bool, y⟩] [] []) := by kernel_rfl
def k_l_eqCache : Kn := ⟨24, [0, 0], fun args rows => match args, rows with
  | [.ag [⟨.int .i64, x0⟩, ⟨.int .i64, x1⟩, ⟨.sl false 120 (.pair (.int .i64) (.pair (.sl false 5 (.int .u8)) (.pair .bool (.pair (.int .i64) (.int .i64))))), x2⟩], .ag [⟨.int .i64, x3⟩, ⟨.int .i64, x4⟩, ⟨.sl false 120 (.pair (.int .i64) (.pair (.sl false 5 (.int .u8)) (.pair .bool (.pair (.int .i64) (.int .i64))))), x5⟩]], [] => some ⟨_, G.l_eqCache x0 x1 x2 x3 x4 x5, fun y => ⟨[.one ⟨.bool, y⟩], [], []⟩⟩
  | _, _ => none, []⟩
theorem s_l_eqCache : KnOk Try.prog k_l_eqCache := by
  intro args rows a h y hy
  simp only [k_l_eqCache] at h
  split at h
  · injection h with h
    subst h
    exact vfun_ok eok_l_eqCache Try.func24 rfl (by rw [v_l_eqCache]; simp only at hy; rw [hy]; rfl)
  · cases h
def J_l_eqByteSS : Joins := [(.r, ⟨[.bool], [(4, .one (.h 0))], [], [], [], []⟩)]
def ann_l_eqByteSS : Ann := .seq .nil (.seq .nil (.seq (.seq .nil (.block [] (.loop ⟨[.sl false 43 (.sl false 5 (.int .u8)), .sl false 43 (.sl false 5 (.int .u8)), .int .i64], [(0, .one (.h 0)), (1, .one (.h 1)), (5, .one (.h 2))], [], [], [], []⟩ [(.x 0, ⟨[], [], [], [], [], []⟩), (.r, ⟨[.bool], [(4, .one (.h 0))], [], [], [], []⟩)] .nil))) .nil))
def env_l_eqByteSS : Env := envOf ti [k_l_eqByteS] []
theorem eok_l_eqByteSS : EnvOk Try.prog env_l_eqByteSS := envOf_ok tab mix _ _ (by
  intro k hk
  simp only [List.mem_cons, List.not_mem_nil, or_false] at hk
  rcases hk with rfl
  · exact s_l_eqByteS)
theorem v_l_eqByteSS (x0 : List (List Int)) (x1 : List (List Int)) : (vfun env_l_eqByteSS Try.f98 J_l_eqByteSS ann_l_eqByteSS [] [.one ⟨.sl false 43 (.sl false 5 (.int .u8)), x0⟩, .one ⟨.sl false 43 (.sl false 5 (.int .u8)), x1⟩] []).run = (G.l_eqByteSS x0 x1).bind fun y => some (Res.mk [.one ⟨.bool, y⟩] [] []) := by kernel_rfl
def k_l_eqByteSS : Kn := ⟨98, [0, 0], fun args rows => match args, rows with
  | [.one ⟨.sl false 43 (.sl false 5 (.int .u8)), x0⟩, .one ⟨.sl false 43 (.sl false 5 (.int .u8)), x1⟩], [] => some ⟨_, G.l_eqByteSS x0 x1, fun y => ⟨[.one ⟨.bool, y⟩], [], []⟩⟩
  | _, _ => none, []⟩
theorem s_l_eqByteSS : KnOk Try.prog k_l_eqByteSS := by
  intro args rows a h y hy
  simp only [k_l_eqByteSS] at h
  split at h
  · injection h with h
    subst h
    exact vfun_ok eok_l_eqByteSS Try.func98 rfl (by rw [v_l_eqByteSS]; simp only at hy; rw [hy]; rfl)
  · cases h
def J_l_eqDisk : Joins := [(.r, ⟨[.bool], [(4, .one (.h 0))], [], [], [], []⟩)]
def ann_l_eqDisk : Ann := .nil
def env_l_eqDisk : Env := envOf ti [k_l_eqByteSS] []
theorem eok_l_eqDisk : EnvOk Try.prog env_l_eqDisk := envOf_ok tab mix _ _ (by
  intro k hk
  simp only [List.mem_cons, List.not_mem_nil, or_false] at hk
  rcases hk with rfl
  · exact s_l_eqByteSS)
theorem v_l_eqDisk (x0 : List (List Int)) (x1 : Int) (x2 : Bool) (x3 : Int) (x4 : List (List Int)) (x5 : Int) (x6 : Bool) (x7 : Int) : (vfun env_l_eqDisk Try.f25 J_l_eqDisk ann_l_eqDisk [] [.ag [⟨.sl false 43 (.sl false 5 (.int .u8)), x0⟩, ⟨.int .i64, x1⟩, ⟨.bool, x2⟩, ⟨.int .i64, x3⟩], .ag [⟨.sl false 43 (.sl false 5 (.int .u8)), x4⟩, ⟨.int .i64, x5⟩, ⟨.bool, x6⟩, ⟨.int .i64, x7⟩]] []).run = (G.l_eqDisk x0 x1 x2 x3 x4 x5 x6 x7).bind fun y => some (Res.mk [.one ⟨.bool, y⟩] [] []) := by kernel_rfl
def k_l_eqDisk : Kn := ⟨25, [0, 0], fun args rows => match args, rows with
  | [.ag [⟨.sl false 43 (.sl false 5 (.int .u8)), x0⟩, ⟨.int .i64, x1⟩, ⟨.bool, x2⟩, ⟨.int .i64, x3⟩], .ag [⟨.sl false 43 (.sl false 5 (.int .u8)), x4⟩, ⟨.int .i64, x5⟩, ⟨.bool, x6⟩, ⟨.int .i64, x7⟩]], [] => some ⟨_, G.l_eqDisk x0 x1 x2 x3 x4 x5 x6 x7, fun y => ⟨[.one ⟨.bool, y⟩], [], []⟩⟩
  | _, _ => none, []⟩
theorem s_l_eqDisk : KnOk Try.prog k_l_eqDisk := by
  intro args rows a h y hy
  simp only [k_l_eqDisk] at h
  split at h
  · injection h with h
    subst h
    exact vfun_ok eok_l_eqDisk Try.func25 rfl (by rw [v_l_eqDisk]; simp only at hy; rw [hy]; rfl)
  · cases h
def J_l_markByteS_l : Joins := [(.r, ⟨[.sl true 5 (.int .u8), .int .i64], [(0, .one (.vw 122945)), (4, .one (.h 1))], [], [(122945, 0)], [], []⟩)]
def ann_l_markByteS_l : Ann := .seq .nil (.seq (.seq .nil (.block [] (.loop ⟨[.sl true 5 (.int .u8), .int .i64, .int .i64], [(0, .one (.vw 122880)), (1, .one (.h 1)), (5, .one (.h 2))], [], [(122880, 0)], [], []⟩ [(.x 0, ⟨[.sl true 5 (.int .u8), .int .i64], [(0, .one (.vw 122944)), (1, .one (.h 1))], [], [(122944, 0)], [], []⟩)] .nil))) .nil)
def env_l_markByteS_l : Env := envOf ti [] [0]
theorem eok_l_markByteS_l : EnvOk Try.prog env_l_markByteS_l := envOf_ok tab mix _ _ (by
  intro k hk; cases hk)
theorem v_l_markByteS_l (x0 : List Int) (x1 : Int) : (vfun env_l_markByteS_l Try.f60 J_l_markByteS_l ann_l_markByteS_l [(0, 0)] [.one ⟨.sl true 5 (.int .u8), x0⟩, .one ⟨.int .i64, x1⟩] []).run = (G.l_markByteS_l x0 x1).bind fun y => some (Res.mk [.one ⟨.int .i64, y.2⟩] [] [((0, 0), ⟨.sl true 5 (.int .u8), y.1⟩)]) := by kernel_rfl
def k_l_markByteS_l : Kn := ⟨60, [2, 0], fun args rows => match args, rows with
  | [.one ⟨.sl true 5 (.int .u8), x0⟩, .one ⟨.int .i64, x1⟩], [] => some ⟨_, G.l_markByteS_l x0 x1, fun y => ⟨[.one ⟨.int .i64, y.2⟩], [], [((0, 0), ⟨.sl true 5 (.int .u8), y.1⟩)]⟩⟩
  | _, _ => none, []⟩
theorem s_l_markByteS_l : KnOk Try.prog k_l_markByteS_l := by
  intro args rows a h y hy
  simp only [k_l_markByteS_l] at h
  split at h
  · injection h with h
    subst h
    exact vfun_ok eok_l_markByteS_l Try.func60 rfl (by rw [v_l_markByteS_l]; simp only at hy; rw [hy]; rfl)
  · cases h
def J_l_markCacheLineS_l : Joins := [(.r, ⟨[.sl true 120 (.pair (.int .i64) (.pair (.sl true 5 (.int .u8)) (.pair .bool (.pair (.int .i64) (.int .i64))))), .int .i64], [(0, .one (.vw 153665)), (4, .one (.h 1))], [], [(153665, 0)], [], []⟩)]
def ann_l_markCacheLineS_l : Ann := .seq .nil (.seq (.seq .nil (.block [] (.loop ⟨[.sl true 120 (.pair (.int .i64) (.pair (.sl true 5 (.int .u8)) (.pair .bool (.pair (.int .i64) (.int .i64))))), .int .i64, .int .i64], [(0, .one (.vw 153600)), (1, .one (.h 1)), (5, .one (.h 2))], [], [(153600, 0)], [], []⟩ [(.x 0, ⟨[.sl true 120 (.pair (.int .i64) (.pair (.sl true 5 (.int .u8)) (.pair .bool (.pair (.int .i64) (.int .i64))))), .int .i64], [(0, .one (.vw 153664)), (1, .one (.h 1))], [], [(153664, 0)], [], []⟩)] .nil))) .nil)
def env_l_markCacheLineS_l : Env := envOf ti [k_l_markByteS_l] [0]
theorem eok_l_markCacheLineS_l : EnvOk Try.prog env_l_markCacheLineS_l := envOf_ok tab mix _ _ (by
  intro k hk
  simp only [List.mem_cons, List.not_mem_nil, or_false] at hk
  rcases hk with rfl
  · exact s_l_markByteS_l)
theorem v_l_markCacheLineS_l (x0 : List (Int × (List Int × (Bool × (Int × Int))))) (x1 : Int) : (vfun env_l_markCacheLineS_l Try.f99 J_l_markCacheLineS_l ann_l_markCacheLineS_l [(0, 0)] [.one ⟨.sl true 120 (.pair (.int .i64) (.pair (.sl true 5 (.int .u8)) (.pair .bool (.pair (.int .i64) (.int .i64))))), x0⟩, .one ⟨.int .i64, x1⟩] []).run = (G.l_markCacheLineS_l x0 x1).bind fun y => some (Res.mk [.one ⟨.int .i64, y.2⟩] [] [((0, 0), ⟨.sl true 120 (.pair (.int .i64) (.pair (.sl true 5 (.int .u8)) (.pair .bool (.pair (.int .i64) (.int .i64))))), y.1⟩)]) := by kernel_rfl
def k_l_markCacheLineS_l : Kn := ⟨99, [2, 0], fun args rows => match args, rows with
  | [.one ⟨.sl true 120 (.pair (.int .i64) (.pair (.sl true 5 (.int .u8)) (.pair .bool (.pair (.int .i64) (.int .i64))))), x0⟩, .one ⟨.int .i64, x1⟩], [] => some ⟨_, G.l_markCacheLineS_l x0 x1, fun y => ⟨[.one ⟨.int .i64, y.2⟩], [], [((0, 0), ⟨.sl true 120 (.pair (.int .i64) (.pair (.sl true 5 (.int .u8)) (.pair .bool (.pair (.int .i64) (.int .i64))))), y.1⟩)]⟩⟩
  | _, _ => none, []⟩
theorem s_l_markCacheLineS_l : KnOk Try.prog k_l_markCacheLineS_l := by
  intro args rows a h y hy
  simp only [k_l_markCacheLineS_l] at h
  split at h
  · injection h with h
    subst h
    exact vfun_ok eok_l_markCacheLineS_l Try.func99 rfl (by rw [v_l_markCacheLineS_l]; simp only at hy; rw [hy]; rfl)
  · cases h
def J_l_markCache_l : Joins := [(.r, ⟨[.int .i64, .int .i64, .sl true 120 (.pair (.int .i64) (.pair (.sl true 5 (.int .u8)) (.pair .bool (.pair (.int .i64) (.int .i64))))), .int .i64], [(0, .ag [.h 0, .h 1, .vw 112640]), (4, .one (.h 3))], [], [(112640, 2)], [], []⟩)]
def ann_l_markCache_l : Ann := .nil
def env_l_markCache_l : Env := envOf ti [k_l_markCacheLineS_l] [0]
theorem eok_l_markCache_l : EnvOk Try.prog env_l_markCache_l := envOf_ok tab mix _ _ (by
  intro k hk
  simp only [List.mem_cons, List.not_mem_nil, or_false] at hk
  rcases hk with rfl
  · exact s_l_markCacheLineS_l)
theorem v_l_markCache_l (x0 : Int) (x1 : Int) (x2 : List (Int × (List Int × (Bool × (Int × Int))))) (x3 : Int) : (vfun env_l_markCache_l Try.f26 J_l_markCache_l ann_l_markCache_l [(0, 2)] [.ag [⟨.int .i64, x0⟩, ⟨.int .i64, x1⟩, ⟨.sl true 120 (.pair (.int .i64) (.pair (.sl true 5 (.int .u8)) (.pair .bool (.pair (.int .i64) (.int .i64))))), x2⟩], .one ⟨.int .i64, x3⟩] []).run = (G.l_markCache_l x0 x1 x2 x3).bind fun y => some (Res.mk [.one ⟨.int .i64, y.2.2.2⟩] [] [((0, 2), ⟨.sl true 120 (.pair (.int .i64) (.pair (.sl true 5 (.int .u8)) (.pair .bool (.pair (.int .i64) (.int .i64))))), y.2.2.1⟩)]) := by kernel_rfl
def k_l_markCache_l : Kn := ⟨26, [2, 0], fun args rows => match args, rows with
  | [.ag [⟨.int .i64, x0⟩, ⟨.int .i64, x1⟩, ⟨.sl true 120 (.pair (.int .i64) (.pair (.sl true 5 (.int .u8)) (.pair .bool (.pair (.int .i64) (.int .i64))))), x2⟩], .one ⟨.int .i64, x3⟩], [] => some ⟨_, G.l_markCache_l x0 x1 x2 x3, fun y => ⟨[.one ⟨.int .i64, y.2.2.2⟩], [], [((0, 2), ⟨.sl true 120 (.pair (.int .i64) (.pair (.sl true 5 (.int .u8)) (.pair .bool (.pair (.int .i64) (.int .i64))))), y.2.2.1⟩)]⟩⟩
  | _, _ => none, []⟩
theorem s_l_markCache_l : KnOk Try.prog k_l_markCache_l := by
  intro args rows a h y hy
  simp only [k_l_markCache_l] at h
  split at h
  · injection h with h
    subst h
    exact vfun_ok eok_l_markCache_l Try.func26 rfl (by rw [v_l_markCache_l]; simp only at hy; rw [hy]; rfl)
  · cases h
def J_l_markByteSS_l : Joins := [(.r, ⟨[.sl true 43 (.sl true 5 (.int .u8)), .int .i64], [(0, .one (.vw 121921)), (4, .one (.h 1))], [], [(121921, 0)], [], []⟩)]
def ann_l_markByteSS_l : Ann := .seq .nil (.seq (.seq .nil (.block [] (.loop ⟨[.sl true 43 (.sl true 5 (.int .u8)), .int .i64, .int .i64], [(0, .one (.vw 121856)), (1, .one (.h 1)), (5, .one (.h 2))], [], [(121856, 0)], [], []⟩ [(.x 0, ⟨[.sl true 43 (.sl true 5 (.int .u8)), .int .i64], [(0, .one (.vw 121920)), (1, .one (.h 1))], [], [(121920, 0)], [], []⟩)] .nil))) .nil)
def env_l_markByteSS_l : Env := envOf ti [k_l_markByteS_l] [0]
theorem eok_l_markByteSS_l : EnvOk Try.prog env_l_markByteSS_l := envOf_ok tab mix _ _ (by
  intro k hk
  simp only [List.mem_cons, List.not_mem_nil, or_false] at hk
  rcases hk with rfl
  · exact s_l_markByteS_l)
theorem v_l_markByteSS_l (x0 : List (List Int)) (x1 : Int) : (vfun env_l_markByteSS_l Try.f100 J_l_markByteSS_l ann_l_markByteSS_l [(0, 0)] [.one ⟨.sl true 43 (.sl true 5 (.int .u8)), x0⟩, .one ⟨.int .i64, x1⟩] []).run = (G.l_markByteSS_l x0 x1).bind fun y => some (Res.mk [.one ⟨.int .i64, y.2⟩] [] [((0, 0), ⟨.sl true 43 (.sl true 5 (.int .u8)), y.1⟩)]) := by kernel_rfl
def k_l_markByteSS_l : Kn := ⟨100, [2, 0], fun args rows => match args, rows with
  | [.one ⟨.sl true 43 (.sl true 5 (.int .u8)), x0⟩, .one ⟨.int .i64, x1⟩], [] => some ⟨_, G.l_markByteSS_l x0 x1, fun y => ⟨[.one ⟨.int .i64, y.2⟩], [], [((0, 0), ⟨.sl true 43 (.sl true 5 (.int .u8)), y.1⟩)]⟩⟩
  | _, _ => none, []⟩
theorem s_l_markByteSS_l : KnOk Try.prog k_l_markByteSS_l := by
  intro args rows a h y hy
  simp only [k_l_markByteSS_l] at h
  split at h
  · injection h with h
    subst h
    exact vfun_ok eok_l_markByteSS_l Try.func100 rfl (by rw [v_l_markByteSS_l]; simp only at hy; rw [hy]; rfl)
  · cases h
def J_l_markDisk_l : Joins := [(.r, ⟨[.sl true 43 (.sl true 5 (.int .u8)), .int .i64, .bool, .int .i64, .int .i64], [(0, .ag [.vw 112640, .h 1, .h 2, .h 3]), (4, .one (.h 4))], [], [(112640, 0)], [], []⟩)]
def ann_l_markDisk_l : Ann := .nil
def env_l_markDisk_l : Env := envOf ti [k_l_markByteSS_l] [0]
theorem eok_l_markDisk_l : EnvOk Try.prog env_l_markDisk_l := envOf_ok tab mix _ _ (by
  intro k hk
  simp only [List.mem_cons, List.not_mem_nil, or_false] at hk
  rcases hk with rfl
  · exact s_l_markByteSS_l)
theorem v_l_markDisk_l (x0 : List (List Int)) (x1 : Int) (x2 : Bool) (x3 : Int) (x4 : Int) : (vfun env_l_markDisk_l Try.f27 J_l_markDisk_l ann_l_markDisk_l [(0, 0)] [.ag [⟨.sl true 43 (.sl true 5 (.int .u8)), x0⟩, ⟨.int .i64, x1⟩, ⟨.bool, x2⟩, ⟨.int .i64, x3⟩], .one ⟨.int .i64, x4⟩] []).run = (G.l_markDisk_l x0 x1 x2 x3 x4).bind fun y => some (Res.mk [.one ⟨.int .i64, y.2.2.2.2⟩] [] [((0, 0), ⟨.sl true 43 (.sl true 5 (.int .u8)), y.1⟩)]) := by kernel_rfl
def k_l_markDisk_l : Kn := ⟨27, [2, 0], fun args rows => match args, rows with
  | [.ag [⟨.sl true 43 (.sl true 5 (.int .u8)), x0⟩, ⟨.int .i64, x1⟩, ⟨.bool, x2⟩, ⟨.int .i64, x3⟩], .one ⟨.int .i64, x4⟩], [] => some ⟨_, G.l_markDisk_l x0 x1 x2 x3 x4, fun y => ⟨[.one ⟨.int .i64, y.2.2.2.2⟩], [], [((0, 0), ⟨.sl true 43 (.sl true 5 (.int .u8)), y.1⟩)]⟩⟩
  | _, _ => none, []⟩
theorem s_l_markDisk_l : KnOk Try.prog k_l_markDisk_l := by
  intro args rows a h y hy
  simp only [k_l_markDisk_l] at h
  split at h
  · injection h with h
    subst h
    exact vfun_ok eok_l_markDisk_l Try.func27 rfl (by rw [v_l_markDisk_l]; simp only at hy; rw [hy]; rfl)
  · cases h
end
end Go.Proofs.Ytcfbfpipfalieaa

set_option linter.unusedVariables false
set_option maxRecDepth 100000
namespace Go.Proofs.Ytcfbfpipfalieaa
open Go.V
noncomputable section
def J_l_heldByteS : Joins := [(.r, ⟨[.int .i64], [(4, .one (.h 0))], [], [], [], []⟩)]
def ann_l_heldByteS : Ann := .seq .nil (.seq (.seq .nil (.block [] (.loop ⟨[.sl false 5 (.int .u8), .int .i64, .int .i64], [(0, .one (.h 0)), (1, .one (.h 1)), (5, .one (.h 2))], [], [], [], []⟩ [(.x 0, ⟨[.int .i64], [(1, .one (.h 0))], [], [], [], []⟩), (.r, ⟨[.int .i64], [(4, .one (.h 0))], [], [], [], []⟩)] .nil))) .nil)
def env_l_heldByteS : Env := envOf ti [] []
theorem eok_l_heldByteS : EnvOk Try.prog env_l_heldByteS := envOf_ok tab mix _ _ (by
  intro k hk; cases hk)
theorem v_l_heldByteS (x0 : List Int) (x1 : Int) : (vfun env_l_heldByteS Try.f61 J_l_heldByteS ann_l_heldByteS [] [.one ⟨.sl false 5 (.int .u8), x0⟩, .one ⟨.int .i64, x1⟩] []).run = (G.l_heldByteS x0 x1).bind fun y => some (Res.mk [.one ⟨.int .i64, y⟩] [] []) := by kernel_rfl
def k_l_heldByteS : Kn := ⟨61, [0, 0], fun args rows => match args, rows with
  | [.one ⟨.sl false 5 (.int .u8), x0⟩, .one ⟨.int .i64, x1⟩], [] => some ⟨_, G.l_heldByteS x0 x1, fun y => ⟨[.one ⟨.int .i64, y⟩], [], []⟩⟩
  | _, _ => none, []⟩
theorem s_l_heldByteS : KnOk Try.prog k_l_heldByteS := by
  intro args rows a h y hy
  simp only [k_l_heldByteS] at h
  split at h
  · injection h with h
    subst h
    exact vfun_ok eok_l_heldByteS Try.func61 rfl (by rw [v_l_heldByteS]; simp only at hy; rw [hy]; rfl)
  · cases h
def J_l_heldCacheLineS : Joins := [(.r, ⟨[.int .i64], [(4, .one (.h 0))], [], [], [], []⟩)]
def ann_l_heldCacheLineS : Ann := .seq .nil (.seq (.seq .nil (.block [] (.loop ⟨[.sl false 120 (.pair (.int .i64) (.pair (.sl false 5 (.int .u8)) (.pair .bool (.pair (.int .i64) (.int .i64))))), .int .i64, .int .i64], [(0, .one (.h 0)), (1, .one (.h 1)), (5, .one (.h 2))], [], [], [], []⟩ [(.x 0, ⟨[.int .i64], [(1, .one (.h 0))], [], [], [], []⟩), (.r, ⟨[.int .i64], [(4, .one (.h 0))], [], [], [], []⟩)] .nil))) .nil)
def env_l_heldCacheLineS : Env := envOf ti [k_l_heldByteS] []
theorem eok_l_heldCacheLineS : EnvOk Try.prog env_l_heldCacheLineS := envOf_ok tab mix _ _ (by
  intro k hk
  simp only [List.mem_cons, List.not_mem_nil, or_false] at hk
  rcases hk with rfl
  · exact s_l_heldByteS)
theorem v_l_heldCacheLineS (x0 : List (Int × (List Int × (Bool × (Int × Int))))) (x1 : Int) : (vfun env_l_heldCacheLineS Try.f101 J_l_heldCacheLineS ann_l_heldCacheLineS [] [.one ⟨.sl false 120 (.pair (.int .i64) (.pair (.sl false 5 (.int .u8)) (.pair .bool (.pair (.int .i64) (.int .i64))))), x0⟩, .one ⟨.int .i64, x1⟩] []).run = (G.l_heldCacheLineS x0 x1).bind fun y => some (Res.mk [.one ⟨.int .i64, y⟩] [] []) := by kernel_rfl
def k_l_heldCacheLineS : Kn := ⟨101, [0, 0], fun args rows => match args, rows with
  | [.one ⟨.sl false 120 (.pair (.int .i64) (.pair (.sl false 5 (.int .u8)) (.pair .bool (.pair (.int .i64) (.int .i64))))), x0⟩, .one ⟨.int .i64, x1⟩], [] => some ⟨_, G.l_heldCacheLineS x0 x1, fun y => ⟨[.one ⟨.int .i64, y⟩], [], []⟩⟩
  | _, _ => none, []⟩
theorem s_l_heldCacheLineS : KnOk Try.prog k_l_heldCacheLineS := by
  intro args rows a h y hy
  simp only [k_l_heldCacheLineS] at h
  split at h
  · injection h with h
    subst h
    exact vfun_ok eok_l_heldCacheLineS Try.func101 rfl (by rw [v_l_heldCacheLineS]; simp only at hy; rw [hy]; rfl)
  · cases h
def J_l_heldCache : Joins := [(.r, ⟨[.int .i64], [(4, .one (.h 0))], [], [], [], []⟩)]
def ann_l_heldCache : Ann := .nil
def env_l_heldCache : Env := envOf ti [k_l_heldCacheLineS] []
theorem eok_l_heldCache : EnvOk Try.prog env_l_heldCache := envOf_ok tab mix _ _ (by
  intro k hk
  simp only [List.mem_cons, List.not_mem_nil, or_false] at hk
  rcases hk with rfl
  · exact s_l_heldCacheLineS)
theorem v_l_heldCache (x0 : Int) (x1 : Int) (x2 : List (Int × (List Int × (Bool × (Int × Int))))) (x3 : Int) : (vfun env_l_heldCache Try.f28 J_l_heldCache ann_l_heldCache [] [.ag [⟨.int .i64, x0⟩, ⟨.int .i64, x1⟩, ⟨.sl false 120 (.pair (.int .i64) (.pair (.sl false 5 (.int .u8)) (.pair .bool (.pair (.int .i64) (.int .i64))))), x2⟩], .one ⟨.int .i64, x3⟩] []).run = (G.l_heldCache x0 x1 x2 x3).bind fun y => some (Res.mk [.one ⟨.int .i64, y⟩] [] []) := by kernel_rfl
def k_l_heldCache : Kn := ⟨28, [0, 0], fun args rows => match args, rows with
  | [.ag [⟨.int .i64, x0⟩, ⟨.int .i64, x1⟩, ⟨.sl false 120 (.pair (.int .i64) (.pair (.sl false 5 (.int .u8)) (.pair .bool (.pair (.int .i64) (.int .i64))))), x2⟩], .one ⟨.int .i64, x3⟩], [] => some ⟨_, G.l_heldCache x0 x1 x2 x3, fun y => ⟨[.one ⟨.int .i64, y⟩], [], []⟩⟩
  | _, _ => none, []⟩
theorem s_l_heldCache : KnOk Try.prog k_l_heldCache := by
  intro args rows a h y hy
  simp only [k_l_heldCache] at h
  split at h
  · injection h with h
    subst h
    exact vfun_ok eok_l_heldCache Try.func28 rfl (by rw [v_l_heldCache]; simp only at hy; rw [hy]; rfl)
  · cases h
def J_l_FnExactPinLine : Joins := [(.r, ⟨[.bool], [(8, .one (.h 0))], [], [], [], []⟩)]
def ann_l_FnExactPinLine : Ann := .seq .nil (.seq .nil (.seq .nil (.seq .nil (.seq .nil (.seq .nil (.seq .nil (.seq .nil (.seq .nil (.seq .nil (.seq (.seq (.reg [(.n, ⟨[.int .i64, .int .i64, .int .i64, .int .i64, .bool, .int .i64, .int .i64, .sl false 196 (.pair (.int .i64) (.pair (.sl false 5 (.int .u8)) (.pair .bool (.pair (.int .i64) (.int .i64))))), .sl false 43 (.sl false 5 (.int .u8)), .int .i64, .bool, .int .i64, .int .i64, .int .i64, .sl true 120 (.pair (.int .i64) (.pair (.sl true 5 (.int .u8)) (.pair .bool (.pair (.int .i64) (.int .i64))))), .int .i64, .int .i64, .sl true 120 (.pair (.int .i64) (.pair (.sl true 5 (.int .u8)) (.pair .bool (.pair (.int .i64) (.int .i64))))), .sl true 43 (.sl true 5 (.int .u8)), .int .i64, .bool, .int .i64, .int .i64, .int .i64, .sl true 120 (.pair (.int .i64) (.pair (.sl true 5 (.int .u8)) (.pair .bool (.pair (.int .i64) (.int .i64)))))], [(2, .one (.h 0)), (3, .one (.h 1)), (4, .pl 4 0), (5, .pl 5 0), (10, .pl 10 0), (11, .one (.h 2)), (12, .pl 12 0), (13, .pl 13 0), (14, .pl 14 0), (15, .one (.h 3)), (61, .one (.h 4))], [(4, [.h 5, .h 6, .h 7]), (5, [.h 8, .h 9, .h 10, .h 11]), (10, [.h 12, .h 13, .vw 234496]), (12, [.h 15, .h 16, .vw 234497]), (13, [.vw 234498, .h 19, .h 20, .h 21]), (14, [.h 22, .h 23, .vw 234499])], [(234496, 14), (234497, 17), (234498, 18), (234499, 24)], [], []⟩)]) .nil) (.seq .nil (.seq .nil (.seq .nil (.seq .nil (.seq .nil (.seq (.seq (.reg [(.n, ⟨[.int .i64, .int .i64, .int .i64, .bool, .int .i64, .int .i64, .sl false 196 (.pair (.int .i64) (.pair (.sl false 5 (.int .u8)) (.pair .bool (.pair (.int .i64) (.int .i64))))), .sl false 43 (.sl false 5 (.int .u8)), .int .i64, .bool, .int .i64, .int .i64, .int .i64, .sl true 120 (.pair (.int .i64) (.pair (.sl true 5 (.int .u8)) (.pair .bool (.pair (.int .i64) (.int .i64))))), .int .i64, .int .i64, .sl true 120 (.pair (.int .i64) (.pair (.sl true 5 (.int .u8)) (.pair .bool (.pair (.int .i64) (.int .i64)))))], [(2, .one (.h 0)), (3, .one (.h 1)), (4, .pl 4 0), (5, .pl 5 0), (10, .pl 10 0), (11, .one (.h 2)), (14, .pl 14 0), (90, .one (.h 3))], [(4, [.h 4, .h 5, .h 6]), (5, [.h 7, .h 8, .h 9, .h 10]), (10, [.h 11, .h 12, .vw 234500]), (14, [.h 14, .h 15, .vw 234501])], [(234500, 13), (234501, 16)], [], []⟩)]) .nil) (.seq .nil (.seq .nil (.seq .nil (.seq .nil (.seq .nil (.seq .nil (.seq .nil (.seq (.seq (.reg [(.n, ⟨[.int .i64, .bool, .int .i64, .int .i64, .sl true 120 (.pair (.int .i64) (.pair (.sl true 5 (.int .u8)) (.pair .bool (.pair (.int .i64) (.int .i64)))))], [(14, .pl 14 0), (17, .one (.h 0)), (120, .one (.h 1))], [(14, [.h 2, .h 3, .vw 234502])], [(234502, 4)], [], []⟩)]) .nil) .nil))))))))))))))))))))))))
def env_l_FnExactPinLine : Env := envOf ti [k_l_szCache, k_l_szDisk, k_l_toCache, k_l_toDisk, k_s_PinLine, k_i_PinLine, k_l_eqCache, k_l_eqDisk, k_l_markCache_l, k_l_markDisk_l, k_l_heldCache] []
theorem eok_l_FnExactPinLine : EnvOk Try.prog env_l_FnExactPinLine := envOf_ok tab mix _ _ (by
  intro k hk
  simp only [List.mem_cons, List.not_mem_nil, or_false] at hk
  rcases hk with rfl | rfl | rfl | rfl | rfl | rfl | rfl | rfl | rfl | rfl | rfl
  · exact s_l_szCache
  · exact s_l_szDisk
  · exact s_l_toCache
  · exact s_l_toDisk
  · exact s_s_PinLine
  · exact s_i_PinLine
  · exact s_l_eqCache
  · exact s_l_eqDisk
  · exact s_l_markCache_l
  · exact s_l_markDisk_l
  · exact s_l_heldCache)
theorem v_l_FnExactPinLine (x0 : Int) (x1 : Int) (x2 : List (Int × (List Int × (Bool × (Int × Int))))) (x3 : List (List Int)) (x4 : Int) (x5 : Bool) (x6 : Int) (x7 : Int) (x8 : Int) : (vfun env_l_FnExactPinLine Try.f3 J_l_FnExactPinLine ann_l_FnExactPinLine [] [.ag [⟨.int .i64, x0⟩, ⟨.int .i64, x1⟩, ⟨.sl false 196 (.pair (.int .i64) (.pair (.sl false 5 (.int .u8)) (.pair .bool (.pair (.int .i64) (.int .i64))))), x2⟩], .ag [⟨.sl false 43 (.sl false 5 (.int .u8)), x3⟩, ⟨.int .i64, x4⟩, ⟨.bool, x5⟩, ⟨.int .i64, x6⟩], .one ⟨.int .i64, x7⟩, .one ⟨.int .i64, x8⟩] []).run = (G.l_FnExactPinLine x0 x1 x2 x3 x4 x5 x6 x7 x8).bind fun y => some (Res.mk [.one ⟨.bool, y⟩] [] []) := by kernel_rfl
def k_l_FnExactPinLine : Kn := ⟨3, [0, 0, 0, 0], fun args rows => match args, rows with
  | [.ag [⟨.int .i64, x0⟩, ⟨.int .i64, x1⟩, ⟨.sl false 196 (.pair (.int .i64) (.pair (.sl false 5 (.int .u8)) (.pair .bool (.pair (.int .i64) (.int .i64))))), x2⟩], .ag [⟨.sl false 43 (.sl false 5 (.int .u8)), x3⟩, ⟨.int .i64, x4⟩, ⟨.bool, x5⟩, ⟨.int .i64, x6⟩], .one ⟨.int .i64, x7⟩, .one ⟨.int .i64, x8⟩], [] => some ⟨_, G.l_FnExactPinLine x0 x1 x2 x3 x4 x5 x6 x7 x8, fun y => ⟨[.one ⟨.bool, y⟩], [], []⟩⟩
  | _, _ => none, []⟩
theorem s_l_FnExactPinLine : KnOk Try.prog k_l_FnExactPinLine := by
  intro args rows a h y hy
  simp only [k_l_FnExactPinLine] at h
  split at h
  · injection h with h
    subst h
    exact vfun_ok eok_l_FnExactPinLine Try.func3 rfl (by rw [v_l_FnExactPinLine]; simp only at hy; rw [hy]; rfl)
  · cases h
end
end Go.Proofs.Ytcfbfpipfalieaa
