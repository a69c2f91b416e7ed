import Derived.Test.YtggpihbcaebpjaaQLrD
import Derived.Test.YtggpihbcaebpjaaProg
import Derived.KernelRfl
import Derived.Test.YtggpihbcaebpjaaRows
import Derived.WalkKit
import Derived.ProofKit
import Derived.OpenShut
import Derived.ShutString
import Derived.ChangeOld
import Derived.Below
set_option linter.unusedVariables false
set_option maxRecDepth 100000
namespace Go.Proofs.Ytggpihbcaebpjaa
open Go.V
def tiL : List TI := [
  .other,
  .other,
  .cell (.int .i64),
  .cell (.int .i64),
  .cell .bool,
  .cell (.int .u8),
  .cell (.int .u8),
  .other,
  .other,
  .cell .str,
  .cell .str,
  .cell .str,
  .cell (.int .u64),
  .other,
  .other,
  .ptr 262,
  .ptr 265,
  .ptr 274,
  .other,
  .other,
  .other,
  .cell (.int .i32),
  .slice 23 [(.sl true 5 (.int .u8))] 24,
  .slice 5 [(.int .u8)] 1,
  .slice 3 [(.int .i64)] 8,
  .struct [(0, 1, false), (1, 1, false), (2, 1, false), (3, 1, false)] [(.sl true 23 (.sl true 5 (.int .u8))), (.sl true 5 (.int .u8)), (.sl true 3 (.int .i64)), (.sl true 3 (.int .i64))] false,
  .struct [(0, 1, false), (1, 1, false), (2, 1, false), (3, 1, false)] [(.sl true 23 (.sl true 5 (.int .u8))), (.sl true 5 (.int .u8)), (.sl true 3 (.int .i64)), (.sl true 3 (.int .i64))] false,
  .other,
  .struct [(0, 1, false), (1, 1, false), (2, 1, false), (3, 1, false)] [(.sl true 23 (.sl true 5 (.int .u8))), (.sl true 5 (.int .u8)), (.sl true 3 (.int .i64)), (.sl true 3 (.int .i64))] false,
  .other,
  .other,
  .other,
  .other,
  .other,
  .other,
  .other,
  .other,
  .other,
  .other,
  .other,
  .slice 44 [(.int .i64), (.sl true 5 (.int .u8))] 32,
  .other,
  .other,
  .struct [(0, 1, false), (1, 1, false)] [(.int .i64), (.sl true 5 (.int .u8))] false,
  .struct [(0, 1, false), (1, 1, false)] [(.int .i64), (.sl true 5 (.int .u8))] false,
  .cell (.int .u64),
  .other,
  .slice 196 [(.int .i64), (.sl true 5 (.int .u8)), .bool, (.int .i64), (.int .i64)] 56,
  .struct [(0, 1, false), (1, 1, false), (2, 1, false)] [(.int .i64), (.int .i64), (.sl true 196 (.pair (.int .i64) (.pair (.sl true 5 (.int .u8)) (.pair .bool (.pair (.int .i64) (.int .i64))))))] false,
  .struct [(0, 1, false), (1, 1, false), (2, 1, false)] [(.int .i64), (.int .i64), (.sl true 196 (.pair (.int .i64) (.pair (.sl true 5 (.int .u8)) (.pair .bool (.pair (.int .i64) (.int .i64))))))] false,
  .struct [(0, 1, false), (1, 1, false), (2, 1, false), (3, 1, false)] [(.sl true 23 (.sl true 5 (.int .u8))), (.int .i64), .bool, (.int .i64)] false,
  .struct [(0, 1, false), (1, 1, false), (2, 1, false), (3, 1, false)] [(.sl true 23 (.sl true 5 (.int .u8))), (.int .i64), .bool, (.int .i64)] false,
  .other,
  .other,
  .slice 134 [(.int .i64), (.sl true 5 (.int .u8)), .bool, (.int .i64), (.int .i64)] 56,
  .struct [(0, 1, false), (1, 1, false), (2, 1, false)] [(.int .i64), (.int .i64), (.sl true 134 (.pair (.int .i64) (.pair (.sl true 5 (.int .u8)) (.pair .bool (.pair (.int .i64) (.int .i64))))))] false,
  .struct [(0, 1, false), (1, 1, false), (2, 1, false)] [(.int .i64), (.int .i64), (.sl true 134 (.pair (.int .i64) (.pair (.sl true 5 (.int .u8)) (.pair .bool (.pair (.int .i64) (.int .i64))))))] false,
  .struct [(0, 1, false), (1, 1, false), (2, 1, false), (3, 1, false)] [(.sl true 23 (.sl true 5 (.int .u8))), (.int .i64), .bool, (.int .i64)] false,
  .other,
  .other,
  .other,
  .other,
  .other,
  .other,
  .other,
  .other,
  .other,
  .other,
  .other,
  .other,
  .other,
  .other,
  .other,
  .other,
  .other,
  .other,
  .other,
  .other,
  .other,
  .other,
  .other,
  .slice 88 [(.int .i64), (.int .i64)] 16,
  .other,
  .other,
  .other,
  .other,
  .other,
  .struct [(0, 1, false), (1, 1, false)] [(.int .i64), (.int .i64)] true,
  .struct [(0, 1, false), (1, 1, false)] [(.int .i64), (.int .i64)] true,
  .other,
  .other,
  .other,
  .other,
  .other,
  .other,
  .other,
  .other,
  .other,
  .other,
  .other,
  .other,
  .other,
  .slice 183 [(.int .i64), (.int .i64)] 16,
  .other,
  .other,
  .other,
  .other,
  .other,
  .other,
  .other,
  .other,
  .other,
  .other,
  .other,
  .ptr 28,
  .other,
  .other,
  .other,
  .other,
  .other,
  .ptr 123,
  .cell (.int .u64),
  .struct [(0, 1, false), (1, 1, false), (2, 1, false)] [(.sl true 5 (.int .u8)), (.int .i64), (.int .u64)] false,
  .struct [(0, 1, false), (1, 1, false), (2, 1, false)] [(.sl true 5 (.int .u8)), (.int .i64), (.int .u64)] false,
  .other,
  .other,
  .other,
  .other,
  .other,
  .other,
  .other,
  .other,
  .other,
  .struct [(0, 1, false), (1, 1, false), (2, 1, false), (3, 1, false), (4, 1, false)] [(.int .i64), (.sl true 5 (.int .u8)), .bool, (.int .i64), (.int .i64)] false,
  .struct [(0, 1, false), (1, 1, false), (2, 1, false), (3, 1, false), (4, 1, false)] [(.int .i64), (.sl true 5 (.int .u8)), .bool, (.int .i64), (.int .i64)] false,
  .other,
  .other,
  .ptr 134,
  .other,
  .other,
  .other,
  .other,
  .other,
  .other,
  .other,
  .other,
  .other,
  .other,
  .other,
  .other,
  .other,
  .other,
  .other,
  .other,
  .other,
  .other,
  .other,
  .other,
  .other,
  .other,
  .slice 24 [(.sl true 3 (.int .i64))] 24,
  .struct [(0, 1, false), (1, 1, false), (2, 1, false)] [(.int .i64), (.sl true 3 (.int .i64)), (.sl true 24 (.sl true 3 (.int .i64)))] false,
  .struct [(0, 1, false), (1, 1, false), (2, 1, false)] [(.int .i64), (.sl true 3 (.int .i64)), (.sl true 24 (.sl true 3 (.int .i64)))] false,
  .other,
  .other,
  .other,
  .other,
  .other,
  .other,
  .other,
  .other,
  .other,
  .other,
  .other,
  .other,
  .other,
  .other,
  .other,
  .other,
  .other,
  .other,
  .other,
  .other,
  .struct [(0, 1, false), (1, 1, false)] [(.int .i64), (.int .i64)] true,
  .other,
  .other,
  .other,
  .other,
  .other,
  .other,
  .other,
  .other,
  .other,
  .other,
  .other,
  .other,
  .struct [(0, 1, false), (1, 1, false), (2, 1, false), (3, 1, false), (4, 1, false)] [(.int .i64), (.sl true 5 (.int .u8)), .bool, (.int .i64), (.int .i64)] false,
  .other,
  .ptr 57,
  .other,
  .other,
  .other,
  .other,
  .other,
  .other,
  .other,
  .other,
  .other,
  .other,
  .other,
  .other,
  .other,
  .slice 216 [(.int .i64), (.int .i64), .str] 32,
  .other,
  .other,
  .struct [(0, 1, false), (1, 1, false), (2, 1, false)] [(.int .i64), (.int .i64), .str] true,
  .struct [(0, 1, false), (1, 1, false), (2, 1, false)] [(.int .i64), (.int .i64), .str] true,
  .other,
  .other,
  .slice 9 [.str] 16,
  .other,
  .slice 4 [.bool] 1,
  .other,
  .other,
  .other,
  .other,
  .other,
  .other,
  .other,
  .other,
  .other,
  .other,
  .other,
  .other,
  .other,
  .other,
  .other,
  .other,
  .ptr 56,
  .other,
  .other,
  .other,
  .other,
  .other,
  .other,
  .other,
  .other,
  .other,
  .other,
  .other,
  .other,
  .other,
  .other,
  .other,
  .other,
  .other,
  .other,
  .other,
  .other,
  .other,
  .other,
  .other,
  .other,
  .other,
  .other,
  .other,
  .cell (.int .u32),
  .cell (.int .u8),
  .cell (.int .u8),
  .other,
  .ptr 5,
  .cell (.int .i32),
  .cell (.int .i32),
  .other,
  .other,
  .other]
def ti (t : TypeId) : TI := tiL.getD t .other
theorem tab : TabOk Try.prog ti := tabOf Try.prog tiL (by kernel_rfl)
theorem mix : Try.prog.follows .mixedOrders = true := by kernel_rfl
end Go.Proofs.Ytggpihbcaebpjaa

set_option maxRecDepth 100000
namespace Go.Proofs.Ytggpihbcaebpjaa
open Go.V
theorem own : ownKnob Try.prog.godebug = none := by kernel_rfl
theorem laidOut : laidOutB Try.prog = true := by kernel_rfl
theorem tab2 : ∀ t, tyOk2 Try.prog ti t (ti t) = true := tabOf2 Try.prog tiL (by kernel_rfl)
end Go.Proofs.Ytggpihbcaebpjaa

set_option linter.unusedVariables false
set_option maxRecDepth 100000
namespace Go.Proofs.Ytggpihbcaebpjaa
open Go.V
noncomputable section
def J_l_szByteS : Joins := [(.r, ⟨[.int .i64], [(4, .one (.h 0))], [], [], [], []⟩)]
def ann_l_szByteS : Ann := .nil
def env_l_szByteS : Env := envOf ti [] []
theorem eok_l_szByteS : EnvOk Try.prog env_l_szByteS := envOf_ok tab mix _ _ (by
  intro k hk; cases hk)
theorem v_l_szByteS (x0 : List Int) (x1 : Int) : (vfun env_l_szByteS Try.f71 J_l_szByteS ann_l_szByteS [] [.one ⟨.sl false 5 (.int .u8), x0⟩, .one ⟨.int .i64, x1⟩] []).run = (G.l_szByteS x0 x1).bind fun y => some (Res.mk [.one ⟨.int .i64, y⟩] [] []) := by kernel_rfl
def k_l_szByteS : Kn := ⟨71, [0, 0], fun args rows => match args, rows with
  | [.one ⟨.sl false 5 (.int .u8), x0⟩, .one ⟨.int .i64, x1⟩], [] => some ⟨_, G.l_szByteS x0 x1, fun y => ⟨[.one ⟨.int .i64, y⟩], [], []⟩⟩
  | _, _ => none, []⟩
theorem s_l_szByteS : KnOk Try.prog k_l_szByteS := by
  intro args rows a h y hy
  simp only [k_l_szByteS] at h
  split at h
  · injection h with h
    subst h
    exact vfun_ok eok_l_szByteS Try.func71 rfl (by rw [v_l_szByteS]; simp only at hy; rw [hy]; rfl)
  · cases h
def J_l_szByteSS : Joins := [(.r, ⟨[.int .i64], [(4, .one (.h 0))], [], [], [], []⟩)]
def ann_l_szByteSS : Ann := .seq .nil (.seq .nil (.seq .nil (.seq (.seq .nil (.block [] (.loop ⟨[.sl false 23 (.sl false 5 (.int .u8)), .int .i64, .int .i64], [(0, .one (.h 0)), (1, .one (.h 1)), (5, .one (.h 2))], [], [], [], []⟩ [(.x 0, ⟨[.int .i64], [(1, .one (.h 0))], [], [], [], []⟩), (.r, ⟨[.int .i64], [(4, .one (.h 0))], [], [], [], []⟩)] .nil))) .nil)))
def env_l_szByteSS : Env := envOf ti [k_l_szByteS] []
theorem eok_l_szByteSS : EnvOk Try.prog env_l_szByteSS := envOf_ok tab mix _ _ (by
  intro k hk
  simp only [List.mem_cons, List.not_mem_nil, or_false] at hk
  rcases hk with rfl
  · exact s_l_szByteS)
theorem v_l_szByteSS (x0 : List (List Int)) (x1 : Int) : (vfun env_l_szByteSS Try.f70 J_l_szByteSS ann_l_szByteSS [] [.one ⟨.sl false 23 (.sl false 5 (.int .u8)), x0⟩, .one ⟨.int .i64, x1⟩] []).run = (G.l_szByteSS x0 x1).bind fun y => some (Res.mk [.one ⟨.int .i64, y⟩] [] []) := by kernel_rfl
def k_l_szByteSS : Kn := ⟨70, [0, 0], fun args rows => match args, rows with
  | [.one ⟨.sl false 23 (.sl false 5 (.int .u8)), x0⟩, .one ⟨.int .i64, x1⟩], [] => some ⟨_, G.l_szByteSS x0 x1, fun y => ⟨[.one ⟨.int .i64, y⟩], [], []⟩⟩
  | _, _ => none, []⟩
theorem s_l_szByteSS : KnOk Try.prog k_l_szByteSS := by
  intro args rows a h y hy
  simp only [k_l_szByteSS] at h
  split at h
  · injection h with h
    subst h
    exact vfun_ok eok_l_szByteSS Try.func70 rfl (by rw [v_l_szByteSS]; simp only at hy; rw [hy]; rfl)
  · cases h
def J_l_szIntS : Joins := [(.r, ⟨[.int .i64], [(4, .one (.h 0))], [], [], [], []⟩)]
def ann_l_szIntS : Ann := .nil
def env_l_szIntS : Env := envOf ti [] []
theorem eok_l_szIntS : EnvOk Try.prog env_l_szIntS := envOf_ok tab mix _ _ (by
  intro k hk; cases hk)
theorem v_l_szIntS (x0 : List Int) (x1 : Int) : (vfun env_l_szIntS Try.f72 J_l_szIntS ann_l_szIntS [] [.one ⟨.sl false 3 (.int .i64), x0⟩, .one ⟨.int .i64, x1⟩] []).run = (G.l_szIntS x0 x1).bind fun y => some (Res.mk [.one ⟨.int .i64, y⟩] [] []) := by kernel_rfl
def k_l_szIntS : Kn := ⟨72, [0, 0], fun args rows => match args, rows with
  | [.one ⟨.sl false 3 (.int .i64), x0⟩, .one ⟨.int .i64, x1⟩], [] => some ⟨_, G.l_szIntS x0 x1, fun y => ⟨[.one ⟨.int .i64, y⟩], [], []⟩⟩
  | _, _ => none, []⟩
theorem s_l_szIntS : KnOk Try.prog k_l_szIntS := by
  intro args rows a h y hy
  simp only [k_l_szIntS] at h
  split at h
  · injection h with h
    subst h
    exact vfun_ok eok_l_szIntS Try.func72 rfl (by rw [v_l_szIntS]; simp only at hy; rw [hy]; rfl)
  · cases h
def J_l_szSpace : Joins := [(.r, ⟨[.int .i64], [(4, .one (.h 0))], [], [], [], []⟩)]
def ann_l_szSpace : Ann := .nil
def env_l_szSpace : Env := envOf ti [k_l_szByteSS, k_l_szByteS, k_l_szIntS] []
theorem eok_l_szSpace : EnvOk Try.prog env_l_szSpace := envOf_ok tab mix _ _ (by
  intro k hk
  simp only [List.mem_cons, List.not_mem_nil, or_false] at hk
  rcases hk with rfl | rfl | rfl
  · exact s_l_szByteSS
  · exact s_l_szByteS
  · exact s_l_szIntS)
theorem v_l_szSpace (x0 : List (List Int)) (x1 : List Int) (x2 : List Int) (x3 : List Int) (x4 : Int) : (vfun env_l_szSpace Try.f14 J_l_szSpace ann_l_szSpace [] [.ag [⟨.sl false 23 (.sl false 5 (.int .u8)), x0⟩, ⟨.sl false 5 (.int .u8), x1⟩, ⟨.sl false 3 (.int .i64), x2⟩, ⟨.sl false 3 (.int .i64), x3⟩], .one ⟨.int .i64, x4⟩] []).run = (G.l_szSpace x0 x1 x2 x3 x4).bind fun y => some (Res.mk [.one ⟨.int .i64, y⟩] [] []) := by kernel_rfl
def k_l_szSpace : Kn := ⟨14, [0, 0], fun args rows => match args, rows with
  | [.ag [⟨.sl false 23 (.sl false 5 (.int .u8)), x0⟩, ⟨.sl false 5 (.int .u8), x1⟩, ⟨.sl false 3 (.int .i64), x2⟩, ⟨.sl false 3 (.int .i64), x3⟩], .one ⟨.int .i64, x4⟩], [] => some ⟨_, G.l_szSpace x0 x1 x2 x3 x4, fun y => ⟨[.one ⟨.int .i64, y⟩], [], []⟩⟩
  | _, _ => none, []⟩
theorem s_l_szSpace : KnOk Try.prog k_l_szSpace := by
  intro args rows a h y hy
  simp only [k_l_szSpace] at h
  split at h
  · injection h with h
    subst h
    exact vfun_ok eok_l_szSpace Try.func14 rfl (by rw [v_l_szSpace]; simp only at hy; rw [hy]; rfl)
  · cases h
def J_l_toByteS : Joins := [(.r, ⟨[.sl true 5 (.int .u8)], [(2, .one (.vw 124993))], [], [(124993, 0)], [], []⟩)]
def ann_l_toByteS : Ann := .seq .nil (.seq .nil (.seq (.seq .nil (.block [] (.loop ⟨[.sl false 5 (.int .u8), .sl true 5 (.int .u8), .int .i64], [(0, .one (.h 0)), (3, .one (.vw 124928)), (4, .one (.h 2))], [], [(124928, 1)], [], []⟩ [(.x 0, ⟨[.sl true 5 (.int .u8)], [(3, .one (.vw 124992))], [], [(124992, 0)], [], []⟩)] .nil))) .nil))
def env_l_toByteS : Env := envOf ti [] []
theorem eok_l_toByteS : EnvOk Try.prog env_l_toByteS := envOf_ok tab mix _ _ (by
  intro k hk; cases hk)
theorem v_l_toByteS (x0 : List Int) : (vfun env_l_toByteS Try.f31 J_l_toByteS ann_l_toByteS [] [.one ⟨.sl false 5 (.int .u8), x0⟩] []).run = (G.l_toByteS x0).bind fun y => some (Res.mk [.one ⟨.sl true 5 (.int .u8), y⟩] [] []) := by kernel_rfl
def k_l_toByteS : Kn := ⟨31, [0], fun args rows => match args, rows with
  | [.one ⟨.sl false 5 (.int .u8), x0⟩], [] => some ⟨_, G.l_toByteS x0, fun y => ⟨[.one ⟨.sl true 5 (.int .u8), y⟩], [], []⟩⟩
  | _, _ => none, []⟩
theorem s_l_toByteS : KnOk Try.prog k_l_toByteS := by
  intro args rows a h y hy
  simp only [k_l_toByteS] at h
  split at h
  · injection h with h
    subst h
    exact vfun_ok eok_l_toByteS Try.func31 rfl (by rw [v_l_toByteS]; simp only at hy; rw [hy]; rfl)
  · cases h
def J_l_toByteSS : Joins := [(.r, ⟨[.sl true 23 (.sl true 5 (.int .u8))], [(2, .one (.vw 126017))], [], [(126017, 0)], [], []⟩)]
def ann_l_toByteSS : Ann := .seq .nil (.seq .nil (.seq (.seq .nil (.block [] (.loop ⟨[.sl false 23 (.sl false 5 (.int .u8)), .sl true 23 (.sl true 5 (.int .u8)), .int .i64], [(0, .one (.h 0)), (3, .one (.vw 125952)), (4, .one (.h 2))], [], [(125952, 1)], [], []⟩ [(.x 0, ⟨[.sl true 23 (.sl true 5 (.int .u8))], [(3, .one (.vw 126016))], [], [(126016, 0)], [], []⟩)] .nil))) .nil))
def env_l_toByteSS : Env := envOf ti [k_l_toByteS] []
theorem eok_l_toByteSS : EnvOk Try.prog env_l_toByteSS := envOf_ok tab mix _ _ (by
  intro k hk
  simp only [List.mem_cons, List.not_mem_nil, or_false] at hk
  rcases hk with rfl
  · exact s_l_toByteS)
theorem v_l_toByteSS (x0 : List (List Int)) : (vfun env_l_toByteSS Try.f77 J_l_toByteSS ann_l_toByteSS [] [.one ⟨.sl false 23 (.sl false 5 (.int .u8)), x0⟩] []).run = (G.l_toByteSS x0).bind fun y => some (Res.mk [.one ⟨.sl true 23 (.sl true 5 (.int .u8)), y⟩] [] []) := by kernel_rfl
def k_l_toByteSS : Kn := ⟨77, [0], fun args rows => match args, rows with
  | [.one ⟨.sl false 23 (.sl false 5 (.int .u8)), x0⟩], [] => some ⟨_, G.l_toByteSS x0, fun y => ⟨[.one ⟨.sl true 23 (.sl true 5 (.int .u8)), y⟩], [], []⟩⟩
  | _, _ => none, []⟩
theorem s_l_toByteSS : KnOk Try.prog k_l_toByteSS := by
  intro args rows a h y hy
  simp only [k_l_toByteSS] at h
  split at h
  · injection h with h
    subst h
    exact vfun_ok eok_l_toByteSS Try.func77 rfl (by rw [v_l_toByteSS]; simp only at hy; rw [hy]; rfl)
  · cases h
def J_l_toIntS : Joins := [(.r, ⟨[.sl true 3 (.int .i64)], [(2, .one (.vw 124993))], [], [(124993, 0)], [], []⟩)]
def ann_l_toIntS : Ann := .seq .nil (.seq .nil (.seq (.seq .nil (.block [] (.loop ⟨[.sl false 3 (.int .i64), .sl true 3 (.int .i64), .int .i64], [(0, .one (.h 0)), (3, .one (.vw 124928)), (4, .one (.h 2))], [], [(124928, 1)], [], []⟩ [(.x 0, ⟨[.sl true 3 (.int .i64)], [(3, .one (.vw 124992))], [], [(124992, 0)], [], []⟩)] .nil))) .nil))
def env_l_toIntS : Env := envOf ti [] []
theorem eok_l_toIntS : EnvOk Try.prog env_l_toIntS := envOf_ok tab mix _ _ (by
  intro k hk; cases hk)
theorem v_l_toIntS (x0 : List Int) : (vfun env_l_toIntS Try.f78 J_l_toIntS ann_l_toIntS [] [.one ⟨.sl false 3 (.int .i64), x0⟩] []).run = (G.l_toIntS x0).bind fun y => some (Res.mk [.one ⟨.sl true 3 (.int .i64), y⟩] [] []) := by kernel_rfl
def k_l_toIntS : Kn := ⟨78, [0], fun args rows => match args, rows with
  | [.one ⟨.sl false 3 (.int .i64), x0⟩], [] => some ⟨_, G.l_toIntS x0, fun y => ⟨[.one ⟨.sl true 3 (.int .i64), y⟩], [], []⟩⟩
  | _, _ => none, []⟩
theorem s_l_toIntS : KnOk Try.prog k_l_toIntS := by
  intro args rows a h y hy
  simp only [k_l_toIntS] at h
  split at h
  · injection h with h
    subst h
    exact vfun_ok eok_l_toIntS Try.func78 rfl (by rw [v_l_toIntS]; simp only at hy; rw [hy]; rfl)
  · cases h
def J_l_toSpace : Joins := [(.r, ⟨[.sl true 23 (.sl true 5 (.int .u8)), .sl true 5 (.int .u8), .sl true 3 (.int .i64), .sl true 3 (.int .i64)], [(2, .pl 2 0)], [(2, [.vw 123904, .vw 123905, .vw 123906, .vw 123907])], [(123904, 0), (123905, 1), (123906, 2), (123907, 3)], [], []⟩)]
def ann_l_toSpace : Ann := .nil
def env_l_toSpace : Env := envOf ti [k_l_toByteSS, k_l_toByteS, k_l_toIntS] []
theorem eok_l_toSpace : EnvOk Try.prog env_l_toSpace := envOf_ok tab mix _ _ (by
  intro k hk
  simp only [List.mem_cons, List.not_mem_nil, or_false] at hk
  rcases hk with rfl | rfl | rfl
  · exact s_l_toByteSS
  · exact s_l_toByteS
  · exact s_l_toIntS)
theorem v_l_toSpace (x0 : List (List Int)) (x1 : List Int) (x2 : List Int) (x3 : List Int) : (vfun env_l_toSpace Try.f16 J_l_toSpace ann_l_toSpace [] [.ag [⟨.sl false 23 (.sl false 5 (.int .u8)), x0⟩, ⟨.sl false 5 (.int .u8), x1⟩, ⟨.sl false 3 (.int .i64), x2⟩, ⟨.sl false 3 (.int .i64), x3⟩]] []).run = (G.l_toSpace x0 x1 x2 x3).bind fun y => some (Res.mk [.ag [⟨.sl true 23 (.sl true 5 (.int .u8)), y.1⟩, ⟨.sl true 5 (.int .u8), y.2.1⟩, ⟨.sl true 3 (.int .i64), y.2.2.1⟩, ⟨.sl true 3 (.int .i64), y.2.2.2⟩]] [] []) := by kernel_rfl
def k_l_toSpace : Kn := ⟨16, [0], fun args rows => match args, rows with
  | [.ag [⟨.sl false 23 (.sl false 5 (.int .u8)), x0⟩, ⟨.sl false 5 (.int .u8), x1⟩, ⟨.sl false 3 (.int .i64), x2⟩, ⟨.sl false 3 (.int .i64), x3⟩]], [] => some ⟨_, G.l_toSpace x0 x1 x2 x3, fun y => ⟨[.ag [⟨.sl true 23 (.sl true 5 (.int .u8)), y.1⟩, ⟨.sl true 5 (.int .u8), y.2.1⟩, ⟨.sl true 3 (.int .i64), y.2.2.1⟩, ⟨.sl true 3 (.int .i64), y.2.2.2⟩]], [], []⟩⟩
  | _, _ => none, []⟩
theorem s_l_toSpace : KnOk Try.prog k_l_toSpace := by
  intro args rows a h y hy
  simp only [k_l_toSpace] at h
  split at h
  · injection h with h
    subst h
    exact vfun_ok eok_l_toSpace Try.func16 rfl (by rw [v_l_toSpace]; simp only at hy; rw [hy]; rfl)
  · cases h
def J_s_l1In : Joins := [(.r, ⟨[.bool], [(6, .one (.h 0))], [], [], [], []⟩)]
def ann_s_l1In : Ann := .seq .nil (.seq (.reg [(.n, ⟨[.bool], [(6, .one (.h 0))], [], [], [], []⟩)]) .nil)
def env_s_l1In : Env := envOf ti [] []
theorem eok_s_l1In : EnvOk Try.prog env_s_l1In := envOf_ok tab mix _ _ (by
  intro k hk; cases hk)
theorem v_s_l1In (x0 : Int) (x1 : Int) (x2 : Int) : (vfun env_s_l1In Try.f148 J_s_l1In ann_s_l1In [] [.one ⟨.int .i64, x0⟩, .one ⟨.int .i64, x1⟩, .one ⟨.int .i64, x2⟩] []).run = (G.s_l1In x0 x1 x2).bind fun y => some (Res.mk [.one ⟨.bool, y⟩] [] []) := by kernel_rfl
def k_s_l1In : Kn := ⟨148, [0, 0, 0], fun args rows => match args, rows with
  | [.one ⟨.int .i64, x0⟩, .one ⟨.int .i64, x1⟩, .one ⟨.int .i64, x2⟩], [] => some ⟨_, G.s_l1In x0 x1 x2, fun y => ⟨[.one ⟨.bool, y⟩], [], []⟩⟩
  | _, _ => none, []⟩
theorem s_s_l1In : KnOk Try.prog k_s_l1In := by
  intro args rows a h y hy
  simp only [k_s_l1In] at h
  split at h
  · injection h with h
    subst h
    exact vfun_ok eok_s_l1In Try.func148 rfl (by rw [v_s_l1In]; simp only at hy; rw [hy]; rfl)
  · cases h
def J_s_l5Used : Joins := [(.r, ⟨[.bool], [(4, .one (.h 0))], [], [], [], []⟩)]
def ann_s_l5Used : Ann := .nil
def env_s_l5Used : Env := envOf ti [] []
theorem eok_s_l5Used : EnvOk Try.prog env_s_l5Used := envOf_ok tab mix _ _ (by
  intro k hk; cases hk)
theorem v_s_l5Used (x0 : List Int) (x1 : Int) : (vfun env_s_l5Used Try.f149 J_s_l5Used ann_s_l5Used [] [.one ⟨.sl false 5 (.int .u8), x0⟩, .one ⟨.int .i64, x1⟩] []).run = (G.s_l5Used x0 x1).bind fun y => some (Res.mk [.one ⟨.bool, y⟩] [] []) := by kernel_rfl
def k_s_l5Used : Kn := ⟨149, [0, 0], fun args rows => match args, rows with
  | [.one ⟨.sl false 5 (.int .u8), x0⟩, .one ⟨.int .i64, x1⟩], [] => some ⟨_, G.s_l5Used x0 x1, fun y => ⟨[.one ⟨.bool, y⟩], [], []⟩⟩
  | _, _ => none, []⟩
theorem s_s_l5Used : KnOk Try.prog k_s_l5Used := by
  intro args rows a h y hy
  simp only [k_s_l5Used] at h
  split at h
  · injection h with h
    subst h
    exact vfun_ok eok_s_l5Used Try.func149 rfl (by rw [v_s_l5Used]; simp only at hy; rw [hy]; rfl)
  · cases h
def J_s_GoodSpace : Joins := [(.r, ⟨[.bool], [(2, .one (.h 0))], [], [], [], []⟩)]
def ann_s_GoodSpace : Ann := .seq .nil (.seq .nil (.seq (.seq (.reg [(.n, ⟨[.int .i64, .bool, .sl false 23 (.sl false 5 (.int .u8)), .sl false 5 (.int .u8), .sl false 3 (.int .i64), .sl false 3 (.int .i64)], [(1, .pl 1 0), (3, .one (.h 0)), (23, .one (.h 1))], [(1, [.h 2, .h 3, .h 4, .h 5])], [], [], []⟩)]) .nil) (.seq (.seq .nil (.block [] (.loop ⟨[.int .i64, .sl false 23 (.sl false 5 (.int .u8)), .int .i64, .int .i64, .sl false 23 (.sl false 5 (.int .u8)), .sl false 5 (.int .u8), .sl false 3 (.int .i64), .sl false 3 (.int .i64)], [(1, .pl 1 0), (3, .one (.h 0)), (25, .one (.h 1)), (26, .one (.h 2)), (27, .one (.h 3))], [(1, [.h 4, .h 5, .h 6, .h 7])], [], [], []⟩ [(.x 0, ⟨[.int .i64, .sl false 23 (.sl false 5 (.int .u8)), .sl false 5 (.int .u8), .sl false 3 (.int .i64), .sl false 3 (.int .i64)], [(1, .pl 1 0), (3, .one (.h 0))], [(1, [.h 1, .h 2, .h 3, .h 4])], [], [], []⟩), (.r, ⟨[.bool], [(2, .one (.h 0))], [], [], [], []⟩)] .nil))) (.seq (.seq .nil (.block [] (.loop ⟨[.int .i64, .int .i64, .sl false 23 (.sl false 5 (.int .u8)), .sl false 5 (.int .u8), .sl false 3 (.int .i64), .sl false 3 (.int .i64)], [(1, .pl 1 0), (3, .one (.h 0)), (6, .one (.h 1))], [(1, [.h 2, .h 3, .h 4, .h 5])], [], [], []⟩ [(.x 2, ⟨[.int .i64, .sl false 23 (.sl false 5 (.int .u8)), .sl false 5 (.int .u8), .sl false 3 (.int .i64), .sl false 3 (.int .i64)], [(1, .pl 1 0), (3, .one (.h 0))], [(1, [.h 1, .h 2, .h 3, .h 4])], [], [], []⟩), (.r, ⟨[.bool], [(2, .one (.h 0))], [], [], [], []⟩)] (.seq .nil (.seq (.block [] (.seq .nil (.seq (.reg [(.n, ⟨[.int .i64, .int .i64, .bool, .sl false 23 (.sl false 5 (.int .u8)), .sl false 5 (.int .u8), .sl false 3 (.int .i64), .sl false 3 (.int .i64)], [(1, .pl 1 0), (3, .one (.h 0)), (6, .one (.h 1)), (56, .one (.h 2))], [(1, [.h 3, .h 4, .h 5, .h 6])], [], [], []⟩)]) .nil))) .nil))))) (.seq (.seq .nil (.block [] (.loop ⟨[.int .i64, .sl true 24 (.sl false 3 (.int .i64)), .int .i64, .int .i64, .sl false 23 (.sl false 5 (.int .u8)), .sl false 5 (.int .u8), .sl false 3 (.int .i64), .sl false 3 (.int .i64)], [(1, .pl 1 0), (3, .one (.h 0)), (61, .one (.vw 205952)), (62, .one (.h 2)), (63, .one (.h 3))], [(1, [.h 4, .h 5, .h 6, .h 7])], [(205952, 1)], [], []⟩ [(.x 4, ⟨[], [], [], [], [], []⟩), (.r, ⟨[.bool], [(2, .one (.h 0))], [], [], [], []⟩)] (.seq .nil (.seq .nil (.seq (.block [] (.seq .nil (.seq .nil (.block [] (.loop ⟨[.int .i64, .sl false 3 (.int .i64), .sl true 24 (.sl false 3 (.int .i64)), .int .i64, .int .i64, .sl false 3 (.int .i64), .int .i64, .int .i64, .sl false 23 (.sl false 5 (.int .u8)), .sl false 5 (.int .u8), .sl false 3 (.int .i64), .sl false 3 (.int .i64)], [(1, .pl 1 0), (3, .one (.h 0)), (9, .one (.h 1)), (61, .one (.vw 206016)), (62, .one (.h 3)), (63, .one (.h 4)), (67, .one (.h 5)), (68, .one (.h 6)), (69, .one (.h 7))], [(1, [.h 8, .h 9, .h 10, .h 11])], [(206016, 2)], [], []⟩ [(.x 6, ⟨[.int .i64, .sl true 24 (.sl false 3 (.int .i64)), .int .i64, .int .i64, .sl false 23 (.sl false 5 (.int .u8)), .sl false 5 (.int .u8), .sl false 3 (.int .i64), .sl false 3 (.int .i64)], [(1, .pl 1 0), (3, .one (.h 0)), (61, .one (.vw 206081)), (62, .one (.h 2)), (63, .one (.h 3))], [(1, [.h 4, .h 5, .h 6, .h 7])], [(206081, 1)], [], []⟩), (.r, ⟨[.bool], [(2, .one (.h 0))], [], [], [], []⟩)] (.seq .nil (.seq .nil (.seq (.block [] (.seq .nil (.seq (.reg [(.n, ⟨[.int .i64, .sl false 3 (.int .i64), .sl true 24 (.sl false 3 (.int .i64)), .int .i64, .int .i64, .sl false 3 (.int .i64), .int .i64, .int .i64, .bool, .sl false 23 (.sl false 5 (.int .u8)), .sl false 5 (.int .u8), .sl false 3 (.int .i64), .sl false 3 (.int .i64)], [(1, .pl 1 0), (3, .one (.h 0)), (9, .one (.h 1)), (61, .one (.vw 206080)), (62, .one (.h 3)), (63, .one (.h 4)), (67, .one (.h 5)), (68, .one (.h 6)), (69, .one (.h 7)), (98, .one (.h 8))], [(1, [.h 9, .h 10, .h 11, .h 12])], [(206080, 2)], [], []⟩)]) .nil))) .nil)))))))) .nil)))))) .nil)))))
def env_s_GoodSpace : Env := envOf ti [k_s_l1In, k_s_l5Used] []
theorem eok_s_GoodSpace : EnvOk Try.prog env_s_GoodSpace := envOf_ok tab mix _ _ (by
  intro k hk
  simp only [List.mem_cons, List.not_mem_nil, or_false] at hk
  rcases hk with rfl | rfl
  · exact s_s_l1In
  · exact s_s_l5Used)
theorem v_s_GoodSpace (x0 : List (List Int)) (x1 : List Int) (x2 : List Int) (x3 : List Int) : (vfun env_s_GoodSpace Try.f73 J_s_GoodSpace ann_s_GoodSpace [] [.ag [⟨.sl false 23 (.sl false 5 (.int .u8)), x0⟩, ⟨.sl false 5 (.int .u8), x1⟩, ⟨.sl false 3 (.int .i64), x2⟩, ⟨.sl false 3 (.int .i64), x3⟩]] []).run = (G.s_GoodSpace x0 x1 x2 x3).bind fun y => some (Res.mk [.one ⟨.bool, y⟩] [] []) := by kernel_rfl
def k_s_GoodSpace : Kn := ⟨73, [0], fun args rows => match args, rows with
  | [.ag [⟨.sl false 23 (.sl false 5 (.int .u8)), x0⟩, ⟨.sl false 5 (.int .u8), x1⟩, ⟨.sl false 3 (.int .i64), x2⟩, ⟨.sl false 3 (.int .i64), x3⟩]], [] => some ⟨_, G.s_GoodSpace x0 x1 x2 x3, fun y => ⟨[.one ⟨.bool, y⟩], [], []⟩⟩
  | _, _ => none, []⟩
theorem s_s_GoodSpace : KnOk Try.prog k_s_GoodSpace := by
  intro args rows a h y hy
  simp only [k_s_GoodSpace] at h
  split at h
  · injection h with h
    subst h
    exact vfun_ok eok_s_GoodSpace Try.func73 rfl (by rw [v_s_GoodSpace]; simp only at hy; rw [hy]; rfl)
  · cases h
def J_s_l5Free : Joins := [(.r, ⟨[.int .i64], [(2, .one (.h 0))], [], [], [], []⟩)]
def ann_s_l5Free : Ann := .seq .nil (.seq .nil (.seq (.seq .nil (.block [] (.loop ⟨[.int .i64, .int .i64, .int .i64, .sl false 23 (.sl false 5 (.int .u8)), .sl false 5 (.int .u8), .sl false 3 (.int .i64), .sl false 3 (.int .i64)], [(1, .pl 1 0), (3, .one (.h 0)), (7, .one (.h 1)), (8, .one (.h 2))], [(1, [.h 3, .h 4, .h 5, .h 6])], [], [], []⟩ [(.x 0, ⟨[.int .i64], [(3, .one (.h 0))], [], [], [], []⟩)] (.seq .nil (.seq .nil (.seq (.block [] (.seq .nil (.seq .nil (.cond [(.n, ⟨[.int .i64, .int .i64, .int .i64, .sl false 23 (.sl false 5 (.int .u8)), .sl false 5 (.int .u8), .sl false 3 (.int .i64), .sl false 3 (.int .i64)], [(1, .pl 1 0), (3, .one (.h 0)), (7, .one (.h 1)), (8, .one (.h 2))], [(1, [.h 3, .h 4, .h 5, .h 6])], [], [], []⟩)] .nil .nil)))) .nil)))))) .nil))
def env_s_l5Free : Env := envOf ti [k_s_l5Used] []
theorem eok_s_l5Free : EnvOk Try.prog env_s_l5Free := envOf_ok tab mix _ _ (by
  intro k hk
  simp only [List.mem_cons, List.not_mem_nil, or_false] at hk
  rcases hk with rfl
  · exact s_s_l5Used)
theorem v_s_l5Free (x0 : List (List Int)) (x1 : List Int) (x2 : List Int) (x3 : List Int) : (vfun env_s_l5Free Try.f74 J_s_l5Free ann_s_l5Free [] [.ag [⟨.sl false 23 (.sl false 5 (.int .u8)), x0⟩, ⟨.sl false 5 (.int .u8), x1⟩, ⟨.sl false 3 (.int .i64), x2⟩, ⟨.sl false 3 (.int .i64), x3⟩]] []).run = (G.s_l5Free x0 x1 x2 x3).bind fun y => some (Res.mk [.one ⟨.int .i64, y⟩] [] []) := by kernel_rfl
def k_s_l5Free : Kn := ⟨74, [0], fun args rows => match args, rows with
  | [.ag [⟨.sl false 23 (.sl false 5 (.int .u8)), x0⟩, ⟨.sl false 5 (.int .u8), x1⟩, ⟨.sl false 3 (.int .i64), x2⟩, ⟨.sl false 3 (.int .i64), x3⟩]], [] => some ⟨_, G.s_l5Free x0 x1 x2 x3, fun y => ⟨[.one ⟨.int .i64, y⟩], [], []⟩⟩
  | _, _ => none, []⟩
theorem s_s_l5Free : KnOk Try.prog k_s_l5Free := by
  intro args rows a h y hy
  simp only [k_s_l5Free] at h
  split at h
  · injection h with h
    subst h
    exact vfun_ok eok_s_l5Free Try.func74 rfl (by rw [v_s_l5Free]; simp only at hy; rw [hy]; rfl)
  · cases h
end
end Go.Proofs.Ytggpihbcaebpjaa

set_option linter.unusedVariables false
set_option maxRecDepth 100000
namespace Go.Proofs.Ytggpihbcaebpjaa
open Go.V
noncomputable section
def J_s_l7Need : Joins := [(.r, ⟨[.int .i64], [(2, .one (.h 0))], [], [], [], []⟩)]
def ann_s_l7Need : Ann := .nil
def env_s_l7Need : Env := envOf ti [] []
theorem eok_s_l7Need : EnvOk Try.prog env_s_l7Need := envOf_ok tab mix _ _ (by
  intro k hk; cases hk)
theorem v_s_l7Need (x0 : Int) : (vfun env_s_l7Need Try.f114 J_s_l7Need ann_s_l7Need [] [.one ⟨.int .i64, x0⟩] []).run = (G.s_l7Need x0).bind fun y => some (Res.mk [.one ⟨.int .i64, y⟩] [] []) := by kernel_rfl
def k_s_l7Need : Kn := ⟨114, [0], fun args rows => match args, rows with
  | [.one ⟨.int .i64, x0⟩], [] => some ⟨_, G.s_l7Need x0, fun y => ⟨[.one ⟨.int .i64, y⟩], [], []⟩⟩
  | _, _ => none, []⟩
theorem s_s_l7Need : KnOk Try.prog k_s_l7Need := by
  intro args rows a h y hy
  simp only [k_s_l7Need] at h
  split at h
  · injection h with h
    subst h
    exact vfun_ok eok_s_l7Need Try.func114 rfl (by rw [v_s_l7Need]; simp only at hy; rw [hy]; rfl)
  · cases h
def J_s_l5Own : Joins := [(.r, ⟨[.sl true 23 (.sl true 5 (.int .u8)), .sl true 5 (.int .u8), .sl true 3 (.int .i64), .sl true 3 (.int .i64)], [(2, .pl 2 0)], [(2, [.vw 137281, .vw 137282, .vw 137283, .vw 137284])], [(137281, 0), (137282, 1), (137283, 2), (137284, 3)], [], []⟩)]
def ann_s_l5Own : Ann := .seq .nil (.seq .nil (.seq (.seq .nil (.block [] (.loop ⟨[.sl true 23 (.sl true 5 (.int .u8)), .sl false 23 (.sl false 5 (.int .u8)), .int .i64, .int .i64, .sl false 23 (.sl false 5 (.int .u8)), .sl false 5 (.int .u8), .sl false 3 (.int .i64), .sl false 3 (.int .i64)], [(1, .pl 1 0), (2, .pl 2 0), (3, .one (.vw 137216)), (7, .one (.h 1)), (8, .one (.h 2)), (9, .one (.h 3))], [(1, [.h 4, .h 5, .h 6, .h 7]), (2, [.nil, .nil, .nil, .nil])], [(137216, 0)], [], []⟩ [(.x 0, ⟨[.sl true 23 (.sl true 5 (.int .u8)), .sl false 23 (.sl false 5 (.int .u8)), .sl false 5 (.int .u8), .sl false 3 (.int .i64), .sl false 3 (.int .i64)], [(1, .pl 1 0), (2, .pl 2 0), (3, .one (.vw 137280))], [(1, [.h 1, .h 2, .h 3, .h 4]), (2, [.nil, .nil, .nil, .nil])], [(137280, 0)], [], []⟩)] .nil))) .nil))
def env_s_l5Own : Env := envOf ti [] []
theorem eok_s_l5Own : EnvOk Try.prog env_s_l5Own := envOf_ok tab mix _ _ (by
  intro k hk; cases hk)
theorem v_s_l5Own (x0 : List (List Int)) (x1 : List Int) (x2 : List Int) (x3 : List Int) : (vfun env_s_l5Own Try.f75 J_s_l5Own ann_s_l5Own [] [.ag [⟨.sl false 23 (.sl false 5 (.int .u8)), x0⟩, ⟨.sl false 5 (.int .u8), x1⟩, ⟨.sl false 3 (.int .i64), x2⟩, ⟨.sl false 3 (.int .i64), x3⟩]] []).run = (G.s_l5Own x0 x1 x2 x3).bind fun y => some (Res.mk [.ag [⟨.sl true 23 (.sl true 5 (.int .u8)), y.1⟩, ⟨.sl true 5 (.int .u8), y.2.1⟩, ⟨.sl true 3 (.int .i64), y.2.2.1⟩, ⟨.sl true 3 (.int .i64), y.2.2.2⟩]] [] []) := by kernel_rfl
def k_s_l5Own : Kn := ⟨75, [0], fun args rows => match args, rows with
  | [.ag [⟨.sl false 23 (.sl false 5 (.int .u8)), x0⟩, ⟨.sl false 5 (.int .u8), x1⟩, ⟨.sl false 3 (.int .i64), x2⟩, ⟨.sl false 3 (.int .i64), x3⟩]], [] => some ⟨_, G.s_l5Own x0 x1 x2 x3, fun y => ⟨[.ag [⟨.sl true 23 (.sl true 5 (.int .u8)), y.1⟩, ⟨.sl true 5 (.int .u8), y.2.1⟩, ⟨.sl true 3 (.int .i64), y.2.2.1⟩, ⟨.sl true 3 (.int .i64), y.2.2.2⟩]], [], []⟩⟩
  | _, _ => none, []⟩
theorem s_s_l5Own : KnOk Try.prog k_s_l5Own := by
  intro args rows a h y hy
  simp only [k_s_l5Own] at h
  split at h
  · injection h with h
    subst h
    exact vfun_ok eok_s_l5Own Try.func75 rfl (by rw [v_s_l5Own]; simp only at hy; rw [hy]; rfl)
  · cases h
def J_s_l5Set_l : Joins := [(.n, ⟨[.sl true 5 (.int .u8)], [(0, .one (.vw 132097))], [], [(132097, 0)], [], []⟩)]
def ann_s_l5Set_l : Ann := .seq .nil (.cond [(.n, ⟨[.sl true 5 (.int .u8)], [(0, .one (.vw 132096))], [], [(132096, 0)], [], []⟩)] .nil .nil)
def env_s_l5Set_l : Env := envOf ti [] [0]
theorem eok_s_l5Set_l : EnvOk Try.prog env_s_l5Set_l := envOf_ok tab mix _ _ (by
  intro k hk; cases hk)
theorem v_s_l5Set_l (x0 : List Int) (x1 : Int) (x2 : Bool) : (vfun env_s_l5Set_l Try.f150 J_s_l5Set_l ann_s_l5Set_l [(0, 0)] [.one ⟨.sl true 5 (.int .u8), x0⟩, .one ⟨.int .i64, x1⟩, .one ⟨.bool, x2⟩] []).run = (G.s_l5Set_l x0 x1 x2).bind fun y => some (Res.mk [] [] [((0, 0), ⟨.sl true 5 (.int .u8), y⟩)]) := by kernel_rfl
def k_s_l5Set_l : Kn := ⟨150, [2, 0, 0], fun args rows => match args, rows with
  | [.one ⟨.sl true 5 (.int .u8), x0⟩, .one ⟨.int .i64, x1⟩, .one ⟨.bool, x2⟩], [] => some ⟨_, G.s_l5Set_l x0 x1 x2, fun y => ⟨[], [], [((0, 0), ⟨.sl true 5 (.int .u8), y⟩)]⟩⟩
  | _, _ => none, []⟩
theorem s_s_l5Set_l : KnOk Try.prog k_s_l5Set_l := by
  intro args rows a h y hy
  simp only [k_s_l5Set_l] at h
  split at h
  · injection h with h
    subst h
    exact vfun_ok eok_s_l5Set_l Try.func150 rfl (by rw [v_s_l5Set_l]; simp only at hy; rw [hy]; rfl)
  · cases h
def J_s_l5Put : Joins := [(.r, ⟨[.sl true 3 (.int .i64)], [(4, .one (.vw 151619))], [], [(151619, 0)], [], []⟩)]
def ann_s_l5Put : Ann := .seq .nil (.seq .nil (.seq (.block [] (.loop ⟨[.sl true 3 (.int .i64), .int .i64, .int .i64], [(0, .one (.vw 151552)), (1, .one (.h 1)), (5, .one (.h 2))], [], [(151552, 0)], [], []⟩ [(.x 0, ⟨[.sl true 3 (.int .i64), .int .i64, .int .i64], [(0, .one (.vw 151617)), (1, .one (.h 1)), (5, .one (.h 2))], [], [(151617, 0)], [], []⟩)] (.seq (.seq (.reg [(.n, ⟨[.sl true 3 (.int .i64), .int .i64, .int .i64, .bool], [(0, .one (.vw 151616)), (1, .one (.h 1)), (5, .one (.h 2)), (18, .one (.h 3))], [], [(151616, 0)], [], []⟩)]) .nil) .nil))) (.seq (.seq (.reg [(.n, ⟨[.sl true 3 (.int .i64), .int .i64, .int .i64, .bool], [(0, .one (.vw 151618)), (1, .one (.h 1)), (5, .one (.h 2)), (32, .one (.h 3))], [], [(151618, 0)], [], []⟩)]) .nil) .nil)))
def env_s_l5Put : Env := envOf ti [] []
theorem eok_s_l5Put : EnvOk Try.prog env_s_l5Put := envOf_ok tab mix _ _ (by
  intro k hk; cases hk)
theorem v_s_l5Put (x0 : List Int) (x1 : Int) : (vfun env_s_l5Put Try.f136 J_s_l5Put ann_s_l5Put [] [.one ⟨.sl true 3 (.int .i64), x0⟩, .one ⟨.int .i64, x1⟩] []).run = (G.s_l5Put x0 x1).bind fun y => some (Res.mk [.one ⟨.sl true 3 (.int .i64), y⟩] [] []) := by kernel_rfl
def k_s_l5Put : Kn := ⟨136, [1, 0], fun args rows => match args, rows with
  | [.one ⟨.sl true 3 (.int .i64), x0⟩, .one ⟨.int .i64, x1⟩], [] => some ⟨_, G.s_l5Put x0 x1, fun y => ⟨[.one ⟨.sl true 3 (.int .i64), y⟩], [], []⟩⟩
  | _, _ => none, []⟩
theorem s_s_l5Put : KnOk Try.prog k_s_l5Put := by
  intro args rows a h y hy
  simp only [k_s_l5Put] at h
  split at h
  · injection h with h
    subst h
    exact vfun_ok eok_s_l5Put Try.func136 rfl (by rw [v_s_l5Put]; simp only at hy; rw [hy]; rfl)
  · cases h
def J_s_l5Take_oooo : Joins := [(.r, ⟨[.int .i64, .sl true 23 (.sl true 5 (.int .u8)), .sl true 5 (.int .u8), .sl true 3 (.int .i64), .sl true 3 (.int .i64)], [(2, .one (.h 0))], [(44, [.vw 146504, .vw 146505, .vw 146506, .vw 146507])], [(146504, 1), (146505, 2), (146506, 3), (146507, 4)], [], []⟩)]
def ann_s_l5Take_oooo : Ann := .seq .nil (.seq (.seq .nil (.block [] (.loop ⟨[.int .i64, .sl true 23 (.sl true 5 (.int .u8)), .sl true 5 (.int .u8), .sl true 3 (.int .i64), .sl true 3 (.int .i64)], [(0, .pl 44 0), (3, .one (.h 0))], [(44, [.vw 146432, .vw 146433, .vw 146434, .vw 146435])], [(146432, 1), (146433, 2), (146434, 3), (146435, 4)], [], []⟩ [(.x 0, ⟨[.sl true 23 (.sl true 5 (.int .u8)), .sl true 5 (.int .u8), .sl true 3 (.int .i64), .sl true 3 (.int .i64)], [], [(44, [.vw 146496, .vw 146497, .vw 146498, .vw 146499])], [(146496, 0), (146497, 1), (146498, 2), (146499, 3)], [], []⟩), (.r, ⟨[.int .i64, .sl true 23 (.sl true 5 (.int .u8)), .sl true 5 (.int .u8), .sl true 3 (.int .i64), .sl true 3 (.int .i64)], [(2, .one (.h 0))], [(44, [.vw 146500, .vw 146501, .vw 146502, .vw 146503])], [(146500, 1), (146501, 2), (146502, 3), (146503, 4)], [], []⟩)] .nil))) .nil)
def env_s_l5Take_oooo : Env := envOf ti [k_s_l5Used, k_s_l5Set_l, k_s_l5Put] []
theorem eok_s_l5Take_oooo : EnvOk Try.prog env_s_l5Take_oooo := envOf_ok tab mix _ _ (by
  intro k hk
  simp only [List.mem_cons, List.not_mem_nil, or_false] at hk
  rcases hk with rfl | rfl | rfl
  · exact s_s_l5Used
  · exact s_s_l5Set_l
  · exact s_s_l5Put)
theorem v_s_l5Take_oooo (x0 : List (List Int)) (x1 : List Int) (x2 : List Int) (x3 : List Int) : (vfun env_s_l5Take_oooo Try.f76 J_s_l5Take_oooo ann_s_l5Take_oooo [] [.pl 0 0] [[⟨.sl true 23 (.sl true 5 (.int .u8)), x0⟩, ⟨.sl true 5 (.int .u8), x1⟩, ⟨.sl true 3 (.int .i64), x2⟩, ⟨.sl true 3 (.int .i64), x3⟩]]).run = (G.s_l5Take_oooo x0 x1 x2 x3).bind fun y => some (Res.mk [.one ⟨.int .i64, y.1⟩] [[⟨.sl true 23 (.sl true 5 (.int .u8)), y.2.1⟩, ⟨.sl true 5 (.int .u8), y.2.2.1⟩, ⟨.sl true 3 (.int .i64), y.2.2.2.1⟩, ⟨.sl true 3 (.int .i64), y.2.2.2.2⟩]] []) := by kernel_rfl
def k_s_l5Take_oooo : Kn := ⟨76, [0], fun args rows => match args, rows with
  | [.pl 0 0], [[⟨.sl true 23 (.sl true 5 (.int .u8)), x0⟩, ⟨.sl true 5 (.int .u8), x1⟩, ⟨.sl true 3 (.int .i64), x2⟩, ⟨.sl true 3 (.int .i64), x3⟩]] => some ⟨_, G.s_l5Take_oooo x0 x1 x2 x3, fun y => ⟨[.one ⟨.int .i64, y.1⟩], [[⟨.sl true 23 (.sl true 5 (.int .u8)), y.2.1⟩, ⟨.sl true 5 (.int .u8), y.2.2.1⟩, ⟨.sl true 3 (.int .i64), y.2.2.2.1⟩, ⟨.sl true 3 (.int .i64), y.2.2.2.2⟩]], []⟩⟩
  | _, _ => none, []⟩
theorem s_s_l5Take_oooo : KnOk Try.prog k_s_l5Take_oooo := by
  intro args rows a h y hy
  simp only [k_s_l5Take_oooo] at h
  split at h
  · injection h with h
    subst h
    exact vfun_ok eok_s_l5Take_oooo Try.func76 rfl (by rw [v_s_l5Take_oooo]; simp only at hy; rw [hy]; rfl)
  · cases h
def J_s_l5Lay_oooo : Joins := [(.n, ⟨[.sl true 23 (.sl true 5 (.int .u8)), .sl true 5 (.int .u8), .sl true 3 (.int .i64), .sl true 3 (.int .i64)], [], [(28, [.vw 130048, .vw 130049, .vw 130050, .vw 130051])], [(130048, 0), (130049, 1), (130050, 2), (130051, 3)], [], []⟩)]
def ann_s_l5Lay_oooo : Ann := .nil
def env_s_l5Lay_oooo : Env := envOf ti [k_s_l5Put] []
theorem eok_s_l5Lay_oooo : EnvOk Try.prog env_s_l5Lay_oooo := envOf_ok tab mix _ _ (by
  intro k hk
  simp only [List.mem_cons, List.not_mem_nil, or_false] at hk
  rcases hk with rfl
  · exact s_s_l5Put)
theorem v_s_l5Lay_oooo (x0 : Int) (x1 : List Int) (x2 : List (List Int)) (x3 : List Int) (x4 : List Int) (x5 : List Int) : (vfun env_s_l5Lay_oooo Try.f157 J_s_l5Lay_oooo ann_s_l5Lay_oooo [] [.pl 0 0, .one ⟨.int .i64, x0⟩, .one ⟨.sl false 5 (.int .u8), x1⟩] [[⟨.sl true 23 (.sl true 5 (.int .u8)), x2⟩, ⟨.sl true 5 (.int .u8), x3⟩, ⟨.sl true 3 (.int .i64), x4⟩, ⟨.sl true 3 (.int .i64), x5⟩]]).run = (G.s_l5Lay_oooo x0 x1 x2 x3 x4 x5).bind fun y => some (Res.mk [] [[⟨.sl true 23 (.sl true 5 (.int .u8)), y.1⟩, ⟨.sl true 5 (.int .u8), y.2.1⟩, ⟨.sl true 3 (.int .i64), y.2.2.1⟩, ⟨.sl true 3 (.int .i64), y.2.2.2⟩]] []) := by kernel_rfl
def k_s_l5Lay_oooo : Kn := ⟨157, [0, 0, 0], fun args rows => match args, rows with
  | [.pl 0 0, .one ⟨.int .i64, x0⟩, .one ⟨.sl false 5 (.int .u8), x1⟩], [[⟨.sl true 23 (.sl true 5 (.int .u8)), x2⟩, ⟨.sl true 5 (.int .u8), x3⟩, ⟨.sl true 3 (.int .i64), x4⟩, ⟨.sl true 3 (.int .i64), x5⟩]] => some ⟨_, G.s_l5Lay_oooo x0 x1 x2 x3 x4 x5, fun y => ⟨[], [[⟨.sl true 23 (.sl true 5 (.int .u8)), y.1⟩, ⟨.sl true 5 (.int .u8), y.2.1⟩, ⟨.sl true 3 (.int .i64), y.2.2.1⟩, ⟨.sl true 3 (.int .i64), y.2.2.2⟩]], []⟩⟩
  | _, _ => none, []⟩
theorem s_s_l5Lay_oooo : KnOk Try.prog k_s_l5Lay_oooo := by
  intro args rows a h y hy
  simp only [k_s_l5Lay_oooo] at h
  split at h
  · injection h with h
    subst h
    exact vfun_ok eok_s_l5Lay_oooo Try.func157 rfl (by rw [v_s_l5Lay_oooo]; simp only at hy; rw [hy]; rfl)
  · cases h
def J_s_l7Lay_oooo : Joins := [(.r, ⟨[.int .i64, .sl true 23 (.sl true 5 (.int .u8)), .sl true 5 (.int .u8), .sl true 3 (.int .i64), .sl true 3 (.int .i64)], [(4, .one (.h 0))], [(70, [.vw 173204, .vw 173205, .vw 173206, .vw 173207])], [(173204, 1), (173205, 2), (173206, 3), (173207, 4)], [], []⟩)]
def ann_s_l7Lay_oooo : Ann := .seq .nil (.seq .nil (.seq (.seq .nil (.block [] (.loop ⟨[.sl false 5 (.int .u8), .sl true 3 (.int .i64), .int .i64, .sl true 23 (.sl true 5 (.int .u8)), .sl true 5 (.int .u8), .sl true 3 (.int .i64), .sl true 3 (.int .i64)], [(0, .pl 70 0), (1, .one (.h 0)), (5, .one (.vw 173056)), (6, .one (.h 2))], [(70, [.vw 173057, .vw 173058, .vw 173059, .vw 173060])], [(173056, 1), (173057, 3), (173058, 4), (173059, 5), (173060, 6)], [], []⟩ [(.x 0, ⟨[.sl false 5 (.int .u8), .sl true 3 (.int .i64), .sl true 23 (.sl true 5 (.int .u8)), .sl true 5 (.int .u8), .sl true 3 (.int .i64), .sl true 3 (.int .i64)], [(0, .pl 70 0), (1, .one (.h 0)), (5, .one (.vw 173120))], [(70, [.vw 173121, .vw 173122, .vw 173123, .vw 173124])], [(173120, 1), (173121, 2), (173122, 3), (173123, 4), (173124, 5)], [], []⟩)] .nil))) (.seq (.seq .nil (.block [] (.loop ⟨[.sl false 5 (.int .u8), .sl true 3 (.int .i64), .int .i64, .int .i64, .sl true 23 (.sl true 5 (.int .u8)), .sl true 5 (.int .u8), .sl true 3 (.int .i64), .sl true 3 (.int .i64)], [(0, .pl 70 0), (1, .one (.h 0)), (5, .one (.vw 173125)), (24, .one (.vw 173125)), (25, .one (.h 2)), (26, .one (.h 3))], [(70, [.vw 173126, .vw 173127, .vw 173128, .vw 173129])], [(173125, 1), (173126, 4), (173127, 5), (173128, 6), (173129, 7)], [], []⟩ [(.x 2, ⟨[.sl true 3 (.int .i64), .sl true 23 (.sl true 5 (.int .u8)), .sl true 5 (.int .u8), .sl true 3 (.int .i64), .sl true 3 (.int .i64)], [(5, .one (.vw 173199))], [(70, [.vw 173200, .vw 173201, .vw 173202, .vw 173203])], [(173199, 0), (173200, 1), (173201, 2), (173202, 3), (173203, 4)], [], []⟩)] (.seq .nil (.seq .nil (.seq (.block [] (.seq .nil (.seq .nil (.seq (.seq .nil (.cond [(.n, ⟨[.sl false 5 (.int .u8), .sl true 3 (.int .i64), .int .i64, .int .i64, .int .i64, .int .i64, .int .i64, .sl true 23 (.sl true 5 (.int .u8)), .sl true 5 (.int .u8), .sl true 3 (.int .i64), .sl true 3 (.int .i64)], [(0, .pl 70 0), (1, .one (.h 0)), (5, .one (.vw 173189)), (7, .one (.h 2)), (8, .one (.h 3)), (9, .one (.h 4)), (24, .one (.vw 173189)), (25, .one (.h 5)), (26, .one (.h 6))], [(70, [.vw 173190, .vw 173191, .vw 173192, .vw 173193])], [(173189, 1), (173190, 7), (173191, 8), (173192, 9), (173193, 10)], [], []⟩)] .nil .nil)) (.seq .nil (.seq (.seq .nil (.cond [(.n, ⟨[.sl false 5 (.int .u8), .sl true 3 (.int .i64), .int .i64, .int .i64, .sl false 5 (.int .u8), .int .i64, .int .i64, .sl true 23 (.sl true 5 (.int .u8)), .sl true 5 (.int .u8), .sl true 3 (.int .i64), .sl true 3 (.int .i64)], [(0, .pl 70 0), (1, .one (.h 0)), (5, .one (.vw 173194)), (8, .one (.h 2)), (9, .one (.h 3)), (10, .one (.h 4)), (24, .one (.vw 173194)), (25, .one (.h 5)), (26, .one (.h 6))], [(70, [.vw 173195, .vw 173196, .vw 173197, .vw 173198])], [(173194, 1), (173195, 7), (173196, 8), (173197, 9), (173198, 10)], [], []⟩)] .nil .nil)) .nil)))))) .nil)))))) .nil)))
def env_s_l7Lay_oooo : Env := envOf ti [k_s_l7Need, k_s_l5Take_oooo, k_s_l5Lay_oooo] []
theorem eok_s_l7Lay_oooo : EnvOk Try.prog env_s_l7Lay_oooo := envOf_ok tab mix _ _ (by
  intro k hk
  simp only [List.mem_cons, List.not_mem_nil, or_false] at hk
  rcases hk with rfl | rfl | rfl
  · exact s_s_l7Need
  · exact s_s_l5Take_oooo
  · exact s_s_l5Lay_oooo)
theorem v_s_l7Lay_oooo (x0 : List Int) (x1 : List (List Int)) (x2 : List Int) (x3 : List Int) (x4 : List Int) : (vfun env_s_l7Lay_oooo Try.f115 J_s_l7Lay_oooo ann_s_l7Lay_oooo [] [.pl 0 0, .one ⟨.sl false 5 (.int .u8), x0⟩] [[⟨.sl true 23 (.sl true 5 (.int .u8)), x1⟩, ⟨.sl true 5 (.int .u8), x2⟩, ⟨.sl true 3 (.int .i64), x3⟩, ⟨.sl true 3 (.int .i64), x4⟩]]).run = (G.s_l7Lay_oooo x0 x1 x2 x3 x4).bind fun y => some (Res.mk [.one ⟨.int .i64, y.1⟩] [[⟨.sl true 23 (.sl true 5 (.int .u8)), y.2.1⟩, ⟨.sl true 5 (.int .u8), y.2.2.1⟩, ⟨.sl true 3 (.int .i64), y.2.2.2.1⟩, ⟨.sl true 3 (.int .i64), y.2.2.2.2⟩]] []) := by kernel_rfl
def k_s_l7Lay_oooo : Kn := ⟨115, [0, 0], fun args rows => match args, rows with
  | [.pl 0 0, .one ⟨.sl false 5 (.int .u8), x0⟩], [[⟨.sl true 23 (.sl true 5 (.int .u8)), x1⟩, ⟨.sl true 5 (.int .u8), x2⟩, ⟨.sl true 3 (.int .i64), x3⟩, ⟨.sl true 3 (.int .i64), x4⟩]] => some ⟨_, G.s_l7Lay_oooo x0 x1 x2 x3 x4, fun y => ⟨[.one ⟨.int .i64, y.1⟩], [[⟨.sl true 23 (.sl true 5 (.int .u8)), y.2.1⟩, ⟨.sl true 5 (.int .u8), y.2.2.1⟩, ⟨.sl true 3 (.int .i64), y.2.2.2.1⟩, ⟨.sl true 3 (.int .i64), y.2.2.2.2⟩]], []⟩⟩
  | _, _ => none, []⟩
theorem s_s_l7Lay_oooo : KnOk Try.prog k_s_l7Lay_oooo := by
  intro args rows a h y hy
  simp only [k_s_l7Lay_oooo] at h
  split at h
  · injection h with h
    subst h
    exact vfun_ok eok_s_l7Lay_oooo Try.func115 rfl (by rw [v_s_l7Lay_oooo]; simp only at hy; rw [hy]; rfl)
  · cases h
def J_s_LayRecord : Joins := [(.r, ⟨[.int .i64, .bool, .sl true 23 (.sl true 5 (.int .u8)), .sl true 5 (.int .u8), .sl true 3 (.int .i64), .sl true 3 (.int .i64)], [(4, .pl 4 0), (5, .one (.h 0)), (6, .one (.h 1))], [(4, [.vw 134144, .vw 134145, .vw 134146, .vw 134147])], [(134144, 2), (134145, 3), (134146, 4), (134147, 5)], [], []⟩)]
def ann_s_LayRecord : Ann := .seq .nil (.seq (.seq (.reg [(.n, ⟨[.sl false 5 (.int .u8), .bool, .sl false 23 (.sl false 5 (.int .u8)), .sl false 5 (.int .u8), .sl false 3 (.int .i64), .sl false 3 (.int .i64)], [(1, .one (.h 0)), (2, .pl 2 0), (4, .pl 4 0), (23, .one (.h 1))], [(2, [.h 2, .h 3, .h 4, .h 5]), (4, [.nil, .nil, .nil, .nil])], [], [], []⟩)]) .nil) .nil)
def env_s_LayRecord : Env := envOf ti [k_s_GoodSpace, k_s_l5Free, k_s_l7Need, k_s_l5Own, k_s_l7Lay_oooo] []
theorem eok_s_LayRecord : EnvOk Try.prog env_s_LayRecord := envOf_ok tab mix _ _ (by
  intro k hk
  simp only [List.mem_cons, List.not_mem_nil, or_false] at hk
  rcases hk with rfl | rfl | rfl | rfl | rfl
  · exact s_s_GoodSpace
  · exact s_s_l5Free
  · exact s_s_l7Need
  · exact s_s_l5Own
  · exact s_s_l7Lay_oooo)
theorem v_s_LayRecord (x0 : List (List Int)) (x1 : List Int) (x2 : List Int) (x3 : List Int) (x4 : List Int) : (vfun env_s_LayRecord Try.f46 J_s_LayRecord ann_s_LayRecord [] [.ag [⟨.sl false 23 (.sl false 5 (.int .u8)), x0⟩, ⟨.sl false 5 (.int .u8), x1⟩, ⟨.sl false 3 (.int .i64), x2⟩, ⟨.sl false 3 (.int .i64), x3⟩], .one ⟨.sl false 5 (.int .u8), x4⟩] []).run = (G.s_LayRecord x0 x1 x2 x3 x4).bind fun y => some (Res.mk [.ag [⟨.sl true 23 (.sl true 5 (.int .u8)), y.2.2.1⟩, ⟨.sl true 5 (.int .u8), y.2.2.2.1⟩, ⟨.sl true 3 (.int .i64), y.2.2.2.2.1⟩, ⟨.sl true 3 (.int .i64), y.2.2.2.2.2⟩], .one ⟨.int .i64, y.1⟩, .one ⟨.bool, y.2.1⟩] [] []) := by kernel_rfl
def k_s_LayRecord : Kn := ⟨46, [0, 0], fun args rows => match args, rows with
  | [.ag [⟨.sl false 23 (.sl false 5 (.int .u8)), x0⟩, ⟨.sl false 5 (.int .u8), x1⟩, ⟨.sl false 3 (.int .i64), x2⟩, ⟨.sl false 3 (.int .i64), x3⟩], .one ⟨.sl false 5 (.int .u8), x4⟩], [] => some ⟨_, G.s_LayRecord x0 x1 x2 x3 x4, fun y => ⟨[.ag [⟨.sl true 23 (.sl true 5 (.int .u8)), y.2.2.1⟩, ⟨.sl true 5 (.int .u8), y.2.2.2.1⟩, ⟨.sl true 3 (.int .i64), y.2.2.2.2.1⟩, ⟨.sl true 3 (.int .i64), y.2.2.2.2.2⟩], .one ⟨.int .i64, y.1⟩, .one ⟨.bool, y.2.1⟩], [], []⟩⟩
  | _, _ => none, []⟩
theorem s_s_LayRecord : KnOk Try.prog k_s_LayRecord := by
  intro args rows a h y hy
  simp only [k_s_LayRecord] at h
  split at h
  · injection h with h
    subst h
    exact vfun_ok eok_s_LayRecord Try.func46 rfl (by rw [v_s_LayRecord]; simp only at hy; rw [hy]; rfl)
  · cases h
def J_i_within : Joins := [(.r, ⟨[.bool], [(6, .one (.h 0))], [], [], [], []⟩)]
def ann_i_within : Ann := .seq .nil (.seq (.reg [(.n, ⟨[.bool], [(6, .one (.h 0))], [], [], [], []⟩)]) .nil)
def env_i_within : Env := envOf ti [] []
theorem eok_i_within : EnvOk Try.prog env_i_within := envOf_ok tab mix _ _ (by
  intro k hk; cases hk)
theorem v_i_within (x0 : Int) (x1 : Int) (x2 : Int) : (vfun env_i_within Try.f177 J_i_within ann_i_within [] [.one ⟨.int .i64, x0⟩, .one ⟨.int .i64, x1⟩, .one ⟨.int .i64, x2⟩] []).run = (G.i_within x0 x1 x2).bind fun y => some (Res.mk [.one ⟨.bool, y⟩] [] []) := by kernel_rfl
def k_i_within : Kn := ⟨177, [0, 0, 0], fun args rows => match args, rows with
  | [.one ⟨.int .i64, x0⟩, .one ⟨.int .i64, x1⟩, .one ⟨.int .i64, x2⟩], [] => some ⟨_, G.i_within x0 x1 x2, fun y => ⟨[.one ⟨.bool, y⟩], [], []⟩⟩
  | _, _ => none, []⟩
theorem s_i_within : KnOk Try.prog k_i_within := by
  intro args rows a h y hy
  simp only [k_i_within] at h
  split at h
  · injection h with h
    subst h
    exact vfun_ok eok_i_within Try.func177 rfl (by rw [v_i_within]; simp only at hy; rw [hy]; rfl)
  · cases h
def J_i_areBlocks_1 : Joins := [(.r, ⟨[.bool], [(2, .one (.h 0))], [], [], [], []⟩)]
def ann_i_areBlocks_1 : Ann := .nil
def env_i_areBlocks_1 : Env := envOf ti [] []
theorem eok_i_areBlocks_1 : EnvOk Try.prog env_i_areBlocks_1 := envOf_ok tab mix _ _ (by
  intro k hk; cases hk)
theorem v_i_areBlocks_1 (x0 : List Int) : (vfun env_i_areBlocks_1 Try.f204 J_i_areBlocks_1 ann_i_areBlocks_1 [] [.one ⟨.sl false 5 (.int .u8), x0⟩] []).run = (G.i_areBlocks_1 x0).bind fun y => some (Res.mk [.one ⟨.bool, y⟩] [] []) := by kernel_rfl
def k_i_areBlocks_1 : Kn := ⟨204, [0], fun args rows => match args, rows with
  | [.one ⟨.sl false 5 (.int .u8), x0⟩], [] => some ⟨_, G.i_areBlocks_1 x0, fun y => ⟨[.one ⟨.bool, y⟩], [], []⟩⟩
  | _, _ => none, []⟩
theorem s_i_areBlocks_1 : KnOk Try.prog k_i_areBlocks_1 := by
  intro args rows a h y hy
  simp only [k_i_areBlocks_1] at h
  split at h
  · injection h with h
    subst h
    exact vfun_ok eok_i_areBlocks_1 Try.func204 rfl (by rw [v_i_areBlocks_1]; simp only at hy; rw [hy]; rfl)
  · cases h
def J_slices_IndexFunc_byte_byte_i_areBlocks_1 : Joins := [(.r, ⟨[.int .i64], [(4, .one (.h 0))], [], [], [], []⟩)]
def ann_slices_IndexFunc_byte_byte_i_areBlocks_1 : Ann := .seq .nil (.seq (.seq .nil (.block [] (.loop ⟨[.sl false 23 (.sl false 5 (.int .u8)), .int .i64, .int .i64], [(0, .one (.h 0)), (1, .fv 204 []), (7, .one (.h 1)), (8, .one (.h 2))], [], [], [], []⟩ [(.x 0, ⟨[], [], [], [], [], []⟩), (.r, ⟨[.int .i64], [(4, .one (.h 0))], [], [], [], []⟩)] .nil))) .nil)
def env_slices_IndexFunc_byte_byte_i_areBlocks_1 : Env := envOf ti [k_i_areBlocks_1] []
theorem eok_slices_IndexFunc_byte_byte_i_areBlocks_1 : EnvOk Try.prog env_slices_IndexFunc_byte_byte_i_areBlocks_1 := envOf_ok tab mix _ _ (by
  intro k hk
  simp only [List.mem_cons, List.not_mem_nil, or_false] at hk
  rcases hk with rfl
  · exact s_i_areBlocks_1)
theorem v_slices_IndexFunc_byte_byte_i_areBlocks_1 (x0 : List (List Int)) : (vfun env_slices_IndexFunc_byte_byte_i_areBlocks_1 Try.f226 J_slices_IndexFunc_byte_byte_i_areBlocks_1 ann_slices_IndexFunc_byte_byte_i_areBlocks_1 [] [.one ⟨.sl false 23 (.sl false 5 (.int .u8)), x0⟩, .fv 204 []] []).run = (G.slices_IndexFunc_byte_byte_i_areBlocks_1 x0).bind fun y => some (Res.mk [.one ⟨.int .i64, y⟩] [] []) := by kernel_rfl
def k_slices_IndexFunc_byte_byte_i_areBlocks_1 : Kn := ⟨226, [0, 0], fun args rows => match args, rows with
  | [.one ⟨.sl false 23 (.sl false 5 (.int .u8)), x0⟩, .fv 204 []], [] => some ⟨_, G.slices_IndexFunc_byte_byte_i_areBlocks_1 x0, fun y => ⟨[.one ⟨.int .i64, y⟩], [], []⟩⟩
  | _, _ => none, []⟩
theorem s_slices_IndexFunc_byte_byte_i_areBlocks_1 : KnOk Try.prog k_slices_IndexFunc_byte_byte_i_areBlocks_1 := by
  intro args rows a h y hy
  simp only [k_slices_IndexFunc_byte_byte_i_areBlocks_1] at h
  split at h
  · injection h with h
    subst h
    exact vfun_ok eok_slices_IndexFunc_byte_byte_i_areBlocks_1 Try.func226 rfl (by rw [v_slices_IndexFunc_byte_byte_i_areBlocks_1]; simp only at hy; rw [hy]; rfl)
  · cases h
def J_slices_ContainsFunc_byte_byte_i_areBlocks_1 : Joins := [(.r, ⟨[.bool], [(4, .one (.h 0))], [], [], [], []⟩)]
def ann_slices_ContainsFunc_byte_byte_i_areBlocks_1 : Ann := .nil
def env_slices_ContainsFunc_byte_byte_i_areBlocks_1 : Env := envOf ti [k_slices_IndexFunc_byte_byte_i_areBlocks_1] []
theorem eok_slices_ContainsFunc_byte_byte_i_areBlocks_1 : EnvOk Try.prog env_slices_ContainsFunc_byte_byte_i_areBlocks_1 := envOf_ok tab mix _ _ (by
  intro k hk
  simp only [List.mem_cons, List.not_mem_nil, or_false] at hk
  rcases hk with rfl
  · exact s_slices_IndexFunc_byte_byte_i_areBlocks_1)
theorem v_slices_ContainsFunc_byte_byte_i_areBlocks_1 (x0 : List (List Int)) : (vfun env_slices_ContainsFunc_byte_byte_i_areBlocks_1 Try.f203 J_slices_ContainsFunc_byte_byte_i_areBlocks_1 ann_slices_ContainsFunc_byte_byte_i_areBlocks_1 [] [.one ⟨.sl false 23 (.sl false 5 (.int .u8)), x0⟩, .fv 204 []] []).run = (G.slices_ContainsFunc_byte_byte_i_areBlocks_1 x0).bind fun y => some (Res.mk [.one ⟨.bool, y⟩] [] []) := by kernel_rfl
def k_slices_ContainsFunc_byte_byte_i_areBlocks_1 : Kn := ⟨203, [0, 0], fun args rows => match args, rows with
  | [.one ⟨.sl false 23 (.sl false 5 (.int .u8)), x0⟩, .fv 204 []], [] => some ⟨_, G.slices_ContainsFunc_byte_byte_i_areBlocks_1 x0, fun y => ⟨[.one ⟨.bool, y⟩], [], []⟩⟩
  | _, _ => none, []⟩
theorem s_slices_ContainsFunc_byte_byte_i_areBlocks_1 : KnOk Try.prog k_slices_ContainsFunc_byte_byte_i_areBlocks_1 := by
  intro args rows a h y hy
  simp only [k_slices_ContainsFunc_byte_byte_i_areBlocks_1] at h
  split at h
  · injection h with h
    subst h
    exact vfun_ok eok_slices_ContainsFunc_byte_byte_i_areBlocks_1 Try.func203 rfl (by rw [v_slices_ContainsFunc_byte_byte_i_areBlocks_1]; simp only at hy; rw [hy]; rfl)
  · cases h
end
end Go.Proofs.Ytggpihbcaebpjaa

set_option linter.unusedVariables false
set_option maxRecDepth 100000
namespace Go.Proofs.Ytggpihbcaebpjaa
open Go.V
noncomputable section
def J_i_areBlocks : Joins := [(.r, ⟨[.bool], [(2, .one (.h 0))], [], [], [], []⟩)]
def ann_i_areBlocks : Ann := .seq .nil (.seq (.reg [(.n, ⟨[.bool], [(2, .one (.h 0))], [], [], [], []⟩)]) .nil)
def env_i_areBlocks : Env := envOf ti [k_i_within, k_slices_ContainsFunc_byte_byte_i_areBlocks_1] []
theorem eok_i_areBlocks : EnvOk Try.prog env_i_areBlocks := envOf_ok tab mix _ _ (by
  intro k hk
  simp only [List.mem_cons, List.not_mem_nil, or_false] at hk
  rcases hk with rfl | rfl
  · exact s_i_within
  · exact s_slices_ContainsFunc_byte_byte_i_areBlocks_1)
theorem v_i_areBlocks (x0 : List (List Int)) : (vfun env_i_areBlocks Try.f151 J_i_areBlocks ann_i_areBlocks [] [.one ⟨.sl false 23 (.sl false 5 (.int .u8)), x0⟩] []).run = (G.i_areBlocks x0).bind fun y => some (Res.mk [.one ⟨.bool, y⟩] [] []) := by kernel_rfl
def k_i_areBlocks : Kn := ⟨151, [0], fun args rows => match args, rows with
  | [.one ⟨.sl false 23 (.sl false 5 (.int .u8)), x0⟩], [] => some ⟨_, G.i_areBlocks x0, fun y => ⟨[.one ⟨.bool, y⟩], [], []⟩⟩
  | _, _ => none, []⟩
theorem s_i_areBlocks : KnOk Try.prog k_i_areBlocks := by
  intro args rows a h y hy
  simp only [k_i_areBlocks] at h
  split at h
  · injection h with h
    subst h
    exact vfun_ok eok_i_areBlocks Try.func151 rfl (by rw [v_i_areBlocks]; simp only at hy; rw [hy]; rfl)
  · cases h
def J_i_Space_used_ffff : Joins := [(.r, ⟨[.bool, .sl false 23 (.sl false 5 (.int .u8)), .sl false 5 (.int .u8), .sl false 3 (.int .i64), .sl false 3 (.int .i64)], [(4, .one (.h 0))], [(19, [.h 1, .h 2, .h 3, .h 4])], [], [], []⟩)]
def ann_i_Space_used_ffff : Ann := .nil
def env_i_Space_used_ffff : Env := envOf ti [] []
theorem eok_i_Space_used_ffff : EnvOk Try.prog env_i_Space_used_ffff := envOf_ok tab mix _ _ (by
  intro k hk; cases hk)
theorem v_i_Space_used_ffff (x0 : Int) (x1 : List (List Int)) (x2 : List Int) (x3 : List Int) (x4 : List Int) : (vfun env_i_Space_used_ffff Try.f90 J_i_Space_used_ffff ann_i_Space_used_ffff [] [.pl 0 0, .one ⟨.int .i64, x0⟩] [[⟨.sl false 23 (.sl false 5 (.int .u8)), x1⟩, ⟨.sl false 5 (.int .u8), x2⟩, ⟨.sl false 3 (.int .i64), x3⟩, ⟨.sl false 3 (.int .i64), x4⟩]]).run = (G.i_Space_used_ffff x0 x1 x2 x3 x4).bind fun y => some (Res.mk [.one ⟨.bool, y.1⟩] [[⟨.sl false 23 (.sl false 5 (.int .u8)), y.2.1⟩, ⟨.sl false 5 (.int .u8), y.2.2.1⟩, ⟨.sl false 3 (.int .i64), y.2.2.2.1⟩, ⟨.sl false 3 (.int .i64), y.2.2.2.2⟩]] []) := by kernel_rfl
def k_i_Space_used_ffff : Kn := ⟨90, [0, 0], fun args rows => match args, rows with
  | [.pl 0 0, .one ⟨.int .i64, x0⟩], [[⟨.sl false 23 (.sl false 5 (.int .u8)), x1⟩, ⟨.sl false 5 (.int .u8), x2⟩, ⟨.sl false 3 (.int .i64), x3⟩, ⟨.sl false 3 (.int .i64), x4⟩]] => some ⟨_, G.i_Space_used_ffff x0 x1 x2 x3 x4, fun y => ⟨[.one ⟨.bool, y.1⟩], [[⟨.sl false 23 (.sl false 5 (.int .u8)), y.2.1⟩, ⟨.sl false 5 (.int .u8), y.2.2.1⟩, ⟨.sl false 3 (.int .i64), y.2.2.2.1⟩, ⟨.sl false 3 (.int .i64), y.2.2.2.2⟩]], []⟩⟩
  | _, _ => none, []⟩
theorem s_i_Space_used_ffff : KnOk Try.prog k_i_Space_used_ffff := by
  intro args rows a h y hy
  simp only [k_i_Space_used_ffff] at h
  split at h
  · injection h with h
    subst h
    exact vfun_ok eok_i_Space_used_ffff Try.func90 rfl (by rw [v_i_Space_used_ffff]; simp only at hy; rw [hy]; rfl)
  · cases h
def J_i_Space_isBlock_ffff : Joins := [(.r, ⟨[.bool, .sl false 23 (.sl false 5 (.int .u8)), .sl false 5 (.int .u8), .sl false 3 (.int .i64), .sl false 3 (.int .i64)], [(4, .one (.h 0))], [(19, [.h 1, .h 2, .h 3, .h 4])], [], [], []⟩)]
def ann_i_Space_isBlock_ffff : Ann := .seq .nil (.seq (.reg [(.n, ⟨[.bool, .sl false 23 (.sl false 5 (.int .u8)), .sl false 5 (.int .u8), .sl false 3 (.int .i64), .sl false 3 (.int .i64)], [(4, .one (.h 0))], [(19, [.h 1, .h 2, .h 3, .h 4])], [], [], []⟩)]) .nil)
def env_i_Space_isBlock_ffff : Env := envOf ti [k_i_within, k_i_Space_used_ffff] []
theorem eok_i_Space_isBlock_ffff : EnvOk Try.prog env_i_Space_isBlock_ffff := envOf_ok tab mix _ _ (by
  intro k hk
  simp only [List.mem_cons, List.not_mem_nil, or_false] at hk
  rcases hk with rfl | rfl
  · exact s_i_within
  · exact s_i_Space_used_ffff)
theorem v_i_Space_isBlock_ffff (x0 : Int) (x1 : List (List Int)) (x2 : List Int) (x3 : List Int) (x4 : List Int) : (vfun env_i_Space_isBlock_ffff Try.f160 J_i_Space_isBlock_ffff ann_i_Space_isBlock_ffff [] [.pl 0 0, .one ⟨.int .i64, x0⟩] [[⟨.sl false 23 (.sl false 5 (.int .u8)), x1⟩, ⟨.sl false 5 (.int .u8), x2⟩, ⟨.sl false 3 (.int .i64), x3⟩, ⟨.sl false 3 (.int .i64), x4⟩]]).run = (G.i_Space_isBlock_ffff x0 x1 x2 x3 x4).bind fun y => some (Res.mk [.one ⟨.bool, y.1⟩] [[⟨.sl false 23 (.sl false 5 (.int .u8)), y.2.1⟩, ⟨.sl false 5 (.int .u8), y.2.2.1⟩, ⟨.sl false 3 (.int .i64), y.2.2.2.1⟩, ⟨.sl false 3 (.int .i64), y.2.2.2.2⟩]] []) := by kernel_rfl
def k_i_Space_isBlock_ffff : Kn := ⟨160, [0, 0], fun args rows => match args, rows with
  | [.pl 0 0, .one ⟨.int .i64, x0⟩], [[⟨.sl false 23 (.sl false 5 (.int .u8)), x1⟩, ⟨.sl false 5 (.int .u8), x2⟩, ⟨.sl false 3 (.int .i64), x3⟩, ⟨.sl false 3 (.int .i64), x4⟩]] => some ⟨_, G.i_Space_isBlock_ffff x0 x1 x2 x3 x4, fun y => ⟨[.one ⟨.bool, y.1⟩], [[⟨.sl false 23 (.sl false 5 (.int .u8)), y.2.1⟩, ⟨.sl false 5 (.int .u8), y.2.2.1⟩, ⟨.sl false 3 (.int .i64), y.2.2.2.1⟩, ⟨.sl false 3 (.int .i64), y.2.2.2.2⟩]], []⟩⟩
  | _, _ => none, []⟩
theorem s_i_Space_isBlock_ffff : KnOk Try.prog k_i_Space_isBlock_ffff := by
  intro args rows a h y hy
  simp only [k_i_Space_isBlock_ffff] at h
  split at h
  · injection h with h
    subst h
    exact vfun_ok eok_i_Space_isBlock_ffff Try.func160 rfl (by rw [v_i_Space_isBlock_ffff]; simp only at hy; rw [hy]; rfl)
  · cases h
def J_i_Space_areUsed_ffff : Joins := [(.r, ⟨[.bool, .sl false 23 (.sl false 5 (.int .u8)), .sl false 5 (.int .u8), .sl false 3 (.int .i64), .sl false 3 (.int .i64)], [(4, .one (.h 0))], [(33, [.h 1, .h 2, .h 3, .h 4])], [], [], []⟩)]
def ann_i_Space_areUsed_ffff : Ann := .seq .nil (.seq (.seq .nil (.block [] (.loop ⟨[.sl false 3 (.int .i64), .sl false 3 (.int .i64), .int .i64, .int .i64, .sl false 23 (.sl false 5 (.int .u8)), .sl false 5 (.int .u8), .sl false 3 (.int .i64), .sl false 3 (.int .i64)], [(0, .pl 33 0), (1, .one (.h 0)), (7, .one (.h 1)), (8, .one (.h 2)), (9, .one (.h 3))], [(33, [.h 4, .h 5, .h 6, .h 7])], [], [], []⟩ [(.x 0, ⟨[.sl false 23 (.sl false 5 (.int .u8)), .sl false 5 (.int .u8), .sl false 3 (.int .i64), .sl false 3 (.int .i64)], [], [(33, [.h 0, .h 1, .h 2, .h 3])], [], [], []⟩), (.r, ⟨[.bool, .sl false 23 (.sl false 5 (.int .u8)), .sl false 5 (.int .u8), .sl false 3 (.int .i64), .sl false 3 (.int .i64)], [(4, .one (.h 0))], [(33, [.h 1, .h 2, .h 3, .h 4])], [], [], []⟩)] (.seq .nil (.seq .nil (.seq (.block [] (.seq .nil (.seq (.reg [(.n, ⟨[.sl false 3 (.int .i64), .sl false 3 (.int .i64), .int .i64, .int .i64, .bool, .sl false 23 (.sl false 5 (.int .u8)), .sl false 5 (.int .u8), .sl false 3 (.int .i64), .sl false 3 (.int .i64)], [(0, .pl 33 0), (1, .one (.h 0)), (7, .one (.h 1)), (8, .one (.h 2)), (9, .one (.h 3)), (30, .one (.h 4))], [(33, [.h 5, .h 6, .h 7, .h 8])], [], [], []⟩)]) .nil))) .nil)))))) .nil)
def env_i_Space_areUsed_ffff : Env := envOf ti [k_i_Space_isBlock_ffff] []
theorem eok_i_Space_areUsed_ffff : EnvOk Try.prog env_i_Space_areUsed_ffff := envOf_ok tab mix _ _ (by
  intro k hk
  simp only [List.mem_cons, List.not_mem_nil, or_false] at hk
  rcases hk with rfl
  · exact s_i_Space_isBlock_ffff)
theorem v_i_Space_areUsed_ffff (x0 : List Int) (x1 : List (List Int)) (x2 : List Int) (x3 : List Int) (x4 : List Int) : (vfun env_i_Space_areUsed_ffff Try.f152 J_i_Space_areUsed_ffff ann_i_Space_areUsed_ffff [] [.pl 0 0, .one ⟨.sl false 3 (.int .i64), x0⟩] [[⟨.sl false 23 (.sl false 5 (.int .u8)), x1⟩, ⟨.sl false 5 (.int .u8), x2⟩, ⟨.sl false 3 (.int .i64), x3⟩, ⟨.sl false 3 (.int .i64), x4⟩]]).run = (G.i_Space_areUsed_ffff x0 x1 x2 x3 x4).bind fun y => some (Res.mk [.one ⟨.bool, y.1⟩] [[⟨.sl false 23 (.sl false 5 (.int .u8)), y.2.1⟩, ⟨.sl false 5 (.int .u8), y.2.2.1⟩, ⟨.sl false 3 (.int .i64), y.2.2.2.1⟩, ⟨.sl false 3 (.int .i64), y.2.2.2.2⟩]] []) := by kernel_rfl
def k_i_Space_areUsed_ffff : Kn := ⟨152, [0, 0], fun args rows => match args, rows with
  | [.pl 0 0, .one ⟨.sl false 3 (.int .i64), x0⟩], [[⟨.sl false 23 (.sl false 5 (.int .u8)), x1⟩, ⟨.sl false 5 (.int .u8), x2⟩, ⟨.sl false 3 (.int .i64), x3⟩, ⟨.sl false 3 (.int .i64), x4⟩]] => some ⟨_, G.i_Space_areUsed_ffff x0 x1 x2 x3 x4, fun y => ⟨[.one ⟨.bool, y.1⟩], [[⟨.sl false 23 (.sl false 5 (.int .u8)), y.2.1⟩, ⟨.sl false 5 (.int .u8), y.2.2.1⟩, ⟨.sl false 3 (.int .i64), y.2.2.2.1⟩, ⟨.sl false 3 (.int .i64), y.2.2.2.2⟩]], []⟩⟩
  | _, _ => none, []⟩
theorem s_i_Space_areUsed_ffff : KnOk Try.prog k_i_Space_areUsed_ffff := by
  intro args rows a h y hy
  simp only [k_i_Space_areUsed_ffff] at h
  split at h
  · injection h with h
    subst h
    exact vfun_ok eok_i_Space_areUsed_ffff Try.func152 rfl (by rw [v_i_Space_areUsed_ffff]; simp only at hy; rw [hy]; rfl)
  · cases h
def J_i_GoodSpace : Joins := [(.r, ⟨[.bool], [(2, .one (.h 0))], [], [], [], []⟩)]
def ann_i_GoodSpace : Ann := .seq .nil (.seq (.seq (.reg [(.n, ⟨[.bool, .sl false 23 (.sl false 5 (.int .u8)), .sl false 5 (.int .u8), .sl false 3 (.int .i64), .sl false 3 (.int .i64)], [(1, .pl 1 0), (14, .one (.h 0))], [(1, [.h 1, .h 2, .h 3, .h 4])], [], [], []⟩)]) .nil) (.seq (.seq .nil (.block [] (.loop ⟨[.int .i64, .sl false 23 (.sl false 5 (.int .u8)), .sl false 5 (.int .u8), .sl false 3 (.int .i64), .sl false 3 (.int .i64)], [(1, .pl 1 0), (15, .one (.h 0))], [(1, [.h 1, .h 2, .h 3, .h 4])], [], [], []⟩ [(.x 0, ⟨[.sl false 23 (.sl false 5 (.int .u8)), .sl false 5 (.int .u8), .sl false 3 (.int .i64), .sl false 3 (.int .i64)], [(1, .pl 1 0)], [(1, [.h 0, .h 1, .h 2, .h 3])], [], [], []⟩), (.r, ⟨[.bool], [(2, .one (.h 0))], [], [], [], []⟩)] (.seq .nil (.seq .nil (.seq (.block [] (.seq .nil (.seq .nil (.seq (.reg [(.n, ⟨[.int .i64, .bool, .sl false 23 (.sl false 5 (.int .u8)), .sl false 5 (.int .u8), .sl false 3 (.int .i64), .sl false 3 (.int .i64)], [(1, .pl 1 0), (15, .one (.h 0)), (35, .one (.h 1))], [(1, [.h 2, .h 3, .h 4, .h 5])], [], [], []⟩)]) .nil)))) .nil)))))) (.seq (.reg [(.n, ⟨[.bool], [(2, .one (.h 0))], [], [], [], []⟩)]) .nil)))
def env_i_GoodSpace : Env := envOf ti [k_i_areBlocks, k_i_Space_used_ffff, k_i_Space_areUsed_ffff] []
theorem eok_i_GoodSpace : EnvOk Try.prog env_i_GoodSpace := envOf_ok tab mix _ _ (by
  intro k hk
  simp only [List.mem_cons, List.not_mem_nil, or_false] at hk
  rcases hk with rfl | rfl | rfl
  · exact s_i_areBlocks
  · exact s_i_Space_used_ffff
  · exact s_i_Space_areUsed_ffff)
theorem v_i_GoodSpace (x0 : List (List Int)) (x1 : List Int) (x2 : List Int) (x3 : List Int) : (vfun env_i_GoodSpace Try.f79 J_i_GoodSpace ann_i_GoodSpace [] [.ag [⟨.sl false 23 (.sl false 5 (.int .u8)), x0⟩, ⟨.sl false 5 (.int .u8), x1⟩, ⟨.sl false 3 (.int .i64), x2⟩, ⟨.sl false 3 (.int .i64), x3⟩]] []).run = (G.i_GoodSpace x0 x1 x2 x3).bind fun y => some (Res.mk [.one ⟨.bool, y⟩] [] []) := by kernel_rfl
def k_i_GoodSpace : Kn := ⟨79, [0], fun args rows => match args, rows with
  | [.ag [⟨.sl false 23 (.sl false 5 (.int .u8)), x0⟩, ⟨.sl false 5 (.int .u8), x1⟩, ⟨.sl false 3 (.int .i64), x2⟩, ⟨.sl false 3 (.int .i64), x3⟩]], [] => some ⟨_, G.i_GoodSpace x0 x1 x2 x3, fun y => ⟨[.one ⟨.bool, y⟩], [], []⟩⟩
  | _, _ => none, []⟩
theorem s_i_GoodSpace : KnOk Try.prog k_i_GoodSpace := by
  intro args rows a h y hy
  simp only [k_i_GoodSpace] at h
  split at h
  · injection h with h
    subst h
    exact vfun_ok eok_i_GoodSpace Try.func79 rfl (by rw [v_i_GoodSpace]; simp only at hy; rw [hy]; rfl)
  · cases h
def J_slices_Clone_byte_byte : Joins := [(.r, ⟨[.sl true 5 (.int .u8)], [(2, .one (.vw 110593))], [], [(110593, 0)], [], []⟩)]
def ann_slices_Clone_byte_byte : Ann := .seq .nil (.both [(.r, ⟨[.sl true 5 (.int .u8)], [(2, .one (.vw 110592))], [], [(110592, 0)], [], []⟩)] .nil .nil .nil .nil .nil)
def env_slices_Clone_byte_byte : Env := envOf ti [] []
theorem eok_slices_Clone_byte_byte : EnvOk Try.prog env_slices_Clone_byte_byte := envOf_ok tab mix _ _ (by
  intro k hk; cases hk)
theorem v_slices_Clone_byte_byte (x0 : List Int) : (vfun env_slices_Clone_byte_byte Try.f102 J_slices_Clone_byte_byte ann_slices_Clone_byte_byte [] [.one ⟨.sl false 5 (.int .u8), x0⟩] []).run = (G.slices_Clone_byte_byte x0).bind fun y => some (Res.mk [.one ⟨.sl true 5 (.int .u8), y⟩] [] []) := by kernel_rfl
def k_slices_Clone_byte_byte : Kn := ⟨102, [0], fun args rows => match args, rows with
  | [.one ⟨.sl false 5 (.int .u8), x0⟩], [] => some ⟨_, G.slices_Clone_byte_byte x0, fun y => ⟨[.one ⟨.sl true 5 (.int .u8), y⟩], [], []⟩⟩
  | _, _ => none, []⟩
theorem s_slices_Clone_byte_byte : KnOk Try.prog k_slices_Clone_byte_byte := by
  intro args rows a h y hy
  simp only [k_slices_Clone_byte_byte] at h
  split at h
  · injection h with h
    subst h
    exact vfun_ok eok_slices_Clone_byte_byte Try.func102 rfl (by rw [v_slices_Clone_byte_byte]; simp only at hy; rw [hy]; rfl)
  · cases h
def J_i_copyBlocks : Joins := [(.r, ⟨[.sl true 23 (.sl true 5 (.int .u8))], [(2, .one (.vw 122945))], [], [(122945, 0)], [], []⟩)]
def ann_i_copyBlocks : Ann := .seq .nil (.seq .nil (.seq (.seq .nil (.block [] (.loop ⟨[.sl true 23 (.sl true 5 (.int .u8)), .sl false 23 (.sl false 5 (.int .u8)), .int .i64, .int .i64], [(3, .one (.vw 122880)), (7, .one (.h 1)), (8, .one (.h 2)), (9, .one (.h 3))], [], [(122880, 0)], [], []⟩ [(.x 0, ⟨[.sl true 23 (.sl true 5 (.int .u8))], [(3, .one (.vw 122944))], [], [(122944, 0)], [], []⟩)] .nil))) .nil))
def env_i_copyBlocks : Env := envOf ti [k_slices_Clone_byte_byte] []
theorem eok_i_copyBlocks : EnvOk Try.prog env_i_copyBlocks := envOf_ok tab mix _ _ (by
  intro k hk
  simp only [List.mem_cons, List.not_mem_nil, or_false] at hk
  rcases hk with rfl
  · exact s_slices_Clone_byte_byte)
theorem v_i_copyBlocks (x0 : List (List Int)) : (vfun env_i_copyBlocks Try.f153 J_i_copyBlocks ann_i_copyBlocks [] [.one ⟨.sl false 23 (.sl false 5 (.int .u8)), x0⟩] []).run = (G.i_copyBlocks x0).bind fun y => some (Res.mk [.one ⟨.sl true 23 (.sl true 5 (.int .u8)), y⟩] [] []) := by kernel_rfl
def k_i_copyBlocks : Kn := ⟨153, [0], fun args rows => match args, rows with
  | [.one ⟨.sl false 23 (.sl false 5 (.int .u8)), x0⟩], [] => some ⟨_, G.i_copyBlocks x0, fun y => ⟨[.one ⟨.sl true 23 (.sl true 5 (.int .u8)), y⟩], [], []⟩⟩
  | _, _ => none, []⟩
theorem s_i_copyBlocks : KnOk Try.prog k_i_copyBlocks := by
  intro args rows a h y hy
  simp only [k_i_copyBlocks] at h
  split at h
  · injection h with h
    subst h
    exact vfun_ok eok_i_copyBlocks Try.func153 rfl (by rw [v_i_copyBlocks]; simp only at hy; rw [hy]; rfl)
  · cases h
def J_slices_Clone_int_int : Joins := [(.r, ⟨[.sl true 3 (.int .i64)], [(2, .one (.vw 110593))], [], [(110593, 0)], [], []⟩)]
def ann_slices_Clone_int_int : Ann := .seq .nil (.both [(.r, ⟨[.sl true 3 (.int .i64)], [(2, .one (.vw 110592))], [], [(110592, 0)], [], []⟩)] .nil .nil .nil .nil .nil)
def env_slices_Clone_int_int : Env := envOf ti [] []
theorem eok_slices_Clone_int_int : EnvOk Try.prog env_slices_Clone_int_int := envOf_ok tab mix _ _ (by
  intro k hk; cases hk)
theorem v_slices_Clone_int_int (x0 : List Int) : (vfun env_slices_Clone_int_int Try.f154 J_slices_Clone_int_int ann_slices_Clone_int_int [] [.one ⟨.sl false 3 (.int .i64), x0⟩] []).run = (G.slices_Clone_int_int x0).bind fun y => some (Res.mk [.one ⟨.sl true 3 (.int .i64), y⟩] [] []) := by kernel_rfl
def k_slices_Clone_int_int : Kn := ⟨154, [0], fun args rows => match args, rows with
  | [.one ⟨.sl false 3 (.int .i64), x0⟩], [] => some ⟨_, G.slices_Clone_int_int x0, fun y => ⟨[.one ⟨.sl true 3 (.int .i64), y⟩], [], []⟩⟩
  | _, _ => none, []⟩
theorem s_slices_Clone_int_int : KnOk Try.prog k_slices_Clone_int_int := by
  intro args rows a h y hy
  simp only [k_slices_Clone_int_int] at h
  split at h
  · injection h with h
    subst h
    exact vfun_ok eok_slices_Clone_int_int Try.func154 rfl (by rw [v_slices_Clone_int_int]; simp only at hy; rw [hy]; rfl)
  · cases h
def J_i_Space_copied : Joins := [(.r, ⟨[.sl true 23 (.sl true 5 (.int .u8)), .sl true 5 (.int .u8), .sl true 3 (.int .i64), .sl true 3 (.int .i64)], [(2, .pl 2 0)], [(2, [.vw 118784, .vw 118785, .vw 118786, .vw 118787])], [(118784, 0), (118785, 1), (118786, 2), (118787, 3)], [], []⟩)]
def ann_i_Space_copied : Ann := .nil
def env_i_Space_copied : Env := envOf ti [k_i_copyBlocks, k_slices_Clone_byte_byte, k_slices_Clone_int_int] []
theorem eok_i_Space_copied : EnvOk Try.prog env_i_Space_copied := envOf_ok tab mix _ _ (by
  intro k hk
  simp only [List.mem_cons, List.not_mem_nil, or_false] at hk
  rcases hk with rfl | rfl | rfl
  · exact s_i_copyBlocks
  · exact s_slices_Clone_byte_byte
  · exact s_slices_Clone_int_int)
theorem v_i_Space_copied (x0 : List (List Int)) (x1 : List Int) (x2 : List Int) (x3 : List Int) : (vfun env_i_Space_copied Try.f80 J_i_Space_copied ann_i_Space_copied [] [.ag [⟨.sl false 23 (.sl false 5 (.int .u8)), x0⟩, ⟨.sl false 5 (.int .u8), x1⟩, ⟨.sl false 3 (.int .i64), x2⟩, ⟨.sl false 3 (.int .i64), x3⟩]] []).run = (G.i_Space_copied x0 x1 x2 x3).bind fun y => some (Res.mk [.ag [⟨.sl true 23 (.sl true 5 (.int .u8)), y.1⟩, ⟨.sl true 5 (.int .u8), y.2.1⟩, ⟨.sl true 3 (.int .i64), y.2.2.1⟩, ⟨.sl true 3 (.int .i64), y.2.2.2⟩]] [] []) := by kernel_rfl
def k_i_Space_copied : Kn := ⟨80, [0], fun args rows => match args, rows with
  | [.ag [⟨.sl false 23 (.sl false 5 (.int .u8)), x0⟩, ⟨.sl false 5 (.int .u8), x1⟩, ⟨.sl false 3 (.int .i64), x2⟩, ⟨.sl false 3 (.int .i64), x3⟩]], [] => some ⟨_, G.i_Space_copied x0 x1 x2 x3, fun y => ⟨[.ag [⟨.sl true 23 (.sl true 5 (.int .u8)), y.1⟩, ⟨.sl true 5 (.int .u8), y.2.1⟩, ⟨.sl true 3 (.int .i64), y.2.2.1⟩, ⟨.sl true 3 (.int .i64), y.2.2.2⟩]], [], []⟩⟩
  | _, _ => none, []⟩
theorem s_i_Space_copied : KnOk Try.prog k_i_Space_copied := by
  intro args rows a h y hy
  simp only [k_i_Space_copied] at h
  split at h
  · injection h with h
    subst h
    exact vfun_ok eok_i_Space_copied Try.func80 rfl (by rw [v_i_Space_copied]; simp only at hy; rw [hy]; rfl)
  · cases h
def J_i_needRecord : Joins := [(.r, ⟨[.int .i64], [(2, .one (.h 0))], [], [], [], []⟩)]
def ann_i_needRecord : Ann := .nil
def env_i_needRecord : Env := envOf ti [] []
theorem eok_i_needRecord : EnvOk Try.prog env_i_needRecord := envOf_ok tab mix _ _ (by
  intro k hk; cases hk)
theorem v_i_needRecord (x0 : Int) : (vfun env_i_needRecord Try.f141 J_i_needRecord ann_i_needRecord [] [.one ⟨.int .i64, x0⟩] []).run = (G.i_needRecord x0).bind fun y => some (Res.mk [.one ⟨.int .i64, y⟩] [] []) := by kernel_rfl
def k_i_needRecord : Kn := ⟨141, [0], fun args rows => match args, rows with
  | [.one ⟨.int .i64, x0⟩], [] => some ⟨_, G.i_needRecord x0, fun y => ⟨[.one ⟨.int .i64, y⟩], [], []⟩⟩
  | _, _ => none, []⟩
theorem s_i_needRecord : KnOk Try.prog k_i_needRecord := by
  intro args rows a h y hy
  simp only [k_i_needRecord] at h
  split at h
  · injection h with h
    subst h
    exact vfun_ok eok_i_needRecord Try.func141 rfl (by rw [v_i_needRecord]; simp only at hy; rw [hy]; rfl)
  · cases h
def J_cmp_isNaN_int : Joins := [(.r, ⟨[.bool], [(2, .one (.h 0))], [], [], [], []⟩)]
def ann_cmp_isNaN_int : Ann := .nil
def env_cmp_isNaN_int : Env := envOf ti [] []
theorem eok_cmp_isNaN_int : EnvOk Try.prog env_cmp_isNaN_int := envOf_ok tab mix _ _ (by
  intro k hk; cases hk)
theorem v_cmp_isNaN_int (x0 : Int) : (vfun env_cmp_isNaN_int Try.f240 J_cmp_isNaN_int ann_cmp_isNaN_int [] [.one ⟨.int .i64, x0⟩] []).run = (G.cmp_isNaN_int x0).bind fun y => some (Res.mk [.one ⟨.bool, y⟩] [] []) := by kernel_rfl
def k_cmp_isNaN_int : Kn := ⟨240, [0], fun args rows => match args, rows with
  | [.one ⟨.int .i64, x0⟩], [] => some ⟨_, G.cmp_isNaN_int x0, fun y => ⟨[.one ⟨.bool, y⟩], [], []⟩⟩
  | _, _ => none, []⟩
theorem s_cmp_isNaN_int : KnOk Try.prog k_cmp_isNaN_int := by
  intro args rows a h y hy
  simp only [k_cmp_isNaN_int] at h
  split at h
  · injection h with h
    subst h
    exact vfun_ok eok_cmp_isNaN_int Try.func240 rfl (by rw [v_cmp_isNaN_int]; simp only at hy; rw [hy]; rfl)
  · cases h
def J_cmp_Less_int : Joins := [(.r, ⟨[.bool], [(4, .one (.h 0))], [], [], [], []⟩)]
def ann_cmp_Less_int : Ann := .seq .nil (.seq (.reg [(.n, ⟨[.bool], [(4, .one (.h 0))], [], [], [], []⟩)]) .nil)
def env_cmp_Less_int : Env := envOf ti [k_cmp_isNaN_int] []
theorem eok_cmp_Less_int : EnvOk Try.prog env_cmp_Less_int := envOf_ok tab mix _ _ (by
  intro k hk
  simp only [List.mem_cons, List.not_mem_nil, or_false] at hk
  rcases hk with rfl
  · exact s_cmp_isNaN_int)
theorem v_cmp_Less_int (x0 : Int) (x1 : Int) : (vfun env_cmp_Less_int Try.f227 J_cmp_Less_int ann_cmp_Less_int [] [.one ⟨.int .i64, x0⟩, .one ⟨.int .i64, x1⟩] []).run = (G.cmp_Less_int x0 x1).bind fun y => some (Res.mk [.one ⟨.bool, y⟩] [] []) := by kernel_rfl
def k_cmp_Less_int : Kn := ⟨227, [0, 0], fun args rows => match args, rows with
  | [.one ⟨.int .i64, x0⟩, .one ⟨.int .i64, x1⟩], [] => some ⟨_, G.cmp_Less_int x0 x1, fun y => ⟨[.one ⟨.bool, y⟩], [], []⟩⟩
  | _, _ => none, []⟩
theorem s_cmp_Less_int : KnOk Try.prog k_cmp_Less_int := by
  intro args rows a h y hy
  simp only [k_cmp_Less_int] at h
  split at h
  · injection h with h
    subst h
    exact vfun_ok eok_cmp_Less_int Try.func227 rfl (by rw [v_cmp_Less_int]; simp only at hy; rw [hy]; rfl)
  · cases h
end
end Go.Proofs.Ytggpihbcaebpjaa

set_option linter.unusedVariables false
set_option maxRecDepth 100000
namespace Go.Proofs.Ytggpihbcaebpjaa
open Go.V
noncomputable section
def J_slices_isNaN_int : Joins := [(.r, ⟨[.bool], [(2, .one (.h 0))], [], [], [], []⟩)]
def ann_slices_isNaN_int : Ann := .nil
def env_slices_isNaN_int : Env := envOf ti [] []
theorem eok_slices_isNaN_int : EnvOk Try.prog env_slices_isNaN_int := envOf_ok tab mix _ _ (by
  intro k hk; cases hk)
theorem v_slices_isNaN_int (x0 : Int) : (vfun env_slices_isNaN_int Try.f228 J_slices_isNaN_int ann_slices_isNaN_int [] [.one ⟨.int .i64, x0⟩] []).run = (G.slices_isNaN_int x0).bind fun y => some (Res.mk [.one ⟨.bool, y⟩] [] []) := by kernel_rfl
def k_slices_isNaN_int : Kn := ⟨228, [0], fun args rows => match args, rows with
  | [.one ⟨.int .i64, x0⟩], [] => some ⟨_, G.slices_isNaN_int x0, fun y => ⟨[.one ⟨.bool, y⟩], [], []⟩⟩
  | _, _ => none, []⟩
theorem s_slices_isNaN_int : KnOk Try.prog k_slices_isNaN_int := by
  intro args rows a h y hy
  simp only [k_slices_isNaN_int] at h
  split at h
  · injection h with h
    subst h
    exact vfun_ok eok_slices_isNaN_int Try.func228 rfl (by rw [v_slices_isNaN_int]; simp only at hy; rw [hy]; rfl)
  · cases h
def J_slices_BinarySearch_int_int : Joins := [(.r, ⟨[.int .i64, .bool], [(4, .one (.h 0)), (5, .one (.h 1))], [], [], [], []⟩)]
def ann_slices_BinarySearch_int_int : Ann := .seq .nil (.seq .nil (.seq .nil (.seq (.block [] (.loop ⟨[.sl false 3 (.int .i64), .int .i64, .int .i64, .int .i64, .int .i64], [(0, .one (.h 0)), (1, .one (.h 1)), (6, .one (.h 2)), (7, .one (.h 3)), (8, .one (.h 4))], [], [], [], []⟩ [(.x 0, ⟨[.sl false 3 (.int .i64), .int .i64, .int .i64, .int .i64], [(0, .one (.h 0)), (1, .one (.h 1)), (6, .one (.h 2)), (7, .one (.h 3))], [], [], [], []⟩)] (.seq .nil (.block [] (.seq .nil (.seq .nil (.cond [(.n, ⟨[.sl false 3 (.int .i64), .int .i64, .int .i64, .int .i64, .int .i64], [(0, .one (.h 0)), (1, .one (.h 1)), (6, .one (.h 2)), (7, .one (.h 3)), (8, .one (.h 4))], [], [], [], []⟩)] .nil .nil))))))) (.seq (.reg [(.n, ⟨[.int .i64, .bool], [(4, .one (.h 0)), (5, .one (.h 1))], [], [], [], []⟩)]) .nil))))
def env_slices_BinarySearch_int_int : Env := envOf ti [k_cmp_Less_int, k_slices_isNaN_int] []
theorem eok_slices_BinarySearch_int_int : EnvOk Try.prog env_slices_BinarySearch_int_int := envOf_ok tab mix _ _ (by
  intro k hk
  simp only [List.mem_cons, List.not_mem_nil, or_false] at hk
  rcases hk with rfl | rfl
  · exact s_cmp_Less_int
  · exact s_slices_isNaN_int)
theorem v_slices_BinarySearch_int_int (x0 : List Int) (x1 : Int) : (vfun env_slices_BinarySearch_int_int Try.f208 J_slices_BinarySearch_int_int ann_slices_BinarySearch_int_int [] [.one ⟨.sl false 3 (.int .i64), x0⟩, .one ⟨.int .i64, x1⟩] []).run = (G.slices_BinarySearch_int_int x0 x1).bind fun y => some (Res.mk [.one ⟨.int .i64, y.1⟩, .one ⟨.bool, y.2⟩] [] []) := by kernel_rfl
def k_slices_BinarySearch_int_int : Kn := ⟨208, [0, 0], fun args rows => match args, rows with
  | [.one ⟨.sl false 3 (.int .i64), x0⟩, .one ⟨.int .i64, x1⟩], [] => some ⟨_, G.slices_BinarySearch_int_int x0 x1, fun y => ⟨[.one ⟨.int .i64, y.1⟩, .one ⟨.bool, y.2⟩], [], []⟩⟩
  | _, _ => none, []⟩
theorem s_slices_BinarySearch_int_int : KnOk Try.prog k_slices_BinarySearch_int_int := by
  intro args rows a h y hy
  simp only [k_slices_BinarySearch_int_int] at h
  split at h
  · injection h with h
    subst h
    exact vfun_ok eok_slices_BinarySearch_int_int Try.func208 rfl (by rw [v_slices_BinarySearch_int_int]; simp only at hy; rw [hy]; rfl)
  · cases h
def rho : Go.Shelf.Ren := ⟨fun x => match x with | 21 => 209 | 27 => 229 | 28 => 230 | 35 => 241 | 39 => 243 | n => n, fun x => match x with | 22 => 24 | 3 => 3 | 4 => 4 | 0 => 0 | n => n, fun n => n⟩
theorem insL : Go.Proofs.Lays2.n21 Try.prog rho := lays_of mix (by kernel_rfl) (by kernel_rfl) (by kernel_rfl) (by kernel_rfl) (by kernel_rfl) (by kernel_rfl) (by kernel_rfl) (by kernel_rfl) (by kernel_rfl) (by kernel_rfl) (by kernel_rfl) (by kernel_rfl) (by kernel_rfl)
def k_slices_Insert_int_int : Kn := ⟨209, [1, 0, 1], fun args rows => match args, rows with
  | [.one ⟨.sl true 3 (.int .i64), x0⟩, .one ⟨.int .i64, x1⟩, .one ⟨.sl true 3 (.int .i64), x2⟩], [] => some ⟨_, G.slices_Insert_int_int x0 x1 x2, fun y => ⟨[.one ⟨.sl true 3 (.int .i64), y⟩], [], []⟩⟩
  | _, _ => none, []⟩
theorem s_slices_Insert_int_int : KnOk Try.prog k_slices_Insert_int_int := by
  intro args rows a h y hy
  simp only [k_slices_Insert_int_int] at h
  split at h
  · injection h with h
    subst h
    exact ins_known insL hy
  · cases h
def J_i_insert : Joins := [(.r, ⟨[.sl true 3 (.int .i64)], [(4, .one (.vw 122880))], [], [(122880, 0)], [], []⟩)]
def ann_i_insert : Ann := .nil
def env_i_insert : Env := envOf ti [k_slices_BinarySearch_int_int, k_slices_Insert_int_int] []
theorem eok_i_insert : EnvOk Try.prog env_i_insert := envOf_ok tab mix _ _ (by
  intro k hk
  simp only [List.mem_cons, List.not_mem_nil, or_false] at hk
  rcases hk with rfl | rfl
  · exact s_slices_BinarySearch_int_int
  · exact s_slices_Insert_int_int)
theorem v_i_insert (x0 : List Int) (x1 : Int) : (vfun env_i_insert Try.f162 J_i_insert ann_i_insert [] [.one ⟨.sl true 3 (.int .i64), x0⟩, .one ⟨.int .i64, x1⟩] []).run = (G.i_insert x0 x1).bind fun y => some (Res.mk [.one ⟨.sl true 3 (.int .i64), y⟩] [] []) := by kernel_rfl
def k_i_insert : Kn := ⟨162, [1, 0], fun args rows => match args, rows with
  | [.one ⟨.sl true 3 (.int .i64), x0⟩, .one ⟨.int .i64, x1⟩], [] => some ⟨_, G.i_insert x0 x1, fun y => ⟨[.one ⟨.sl true 3 (.int .i64), y⟩], [], []⟩⟩
  | _, _ => none, []⟩
theorem s_i_insert : KnOk Try.prog k_i_insert := by
  intro args rows a h y hy
  simp only [k_i_insert] at h
  split at h
  · injection h with h
    subst h
    exact vfun_ok eok_i_insert Try.func162 rfl (by rw [v_i_insert]; simp only at hy; rw [hy]; rfl)
  · cases h
def J_i_Space_lay_oooo : Joins := [(.n, ⟨[.sl true 23 (.sl true 5 (.int .u8)), .sl true 5 (.int .u8), .sl true 3 (.int .i64), .sl true 3 (.int .i64)], [], [(24, [.vw 125952, .vw 125953, .vw 125954, .vw 125955])], [(125952, 0), (125953, 1), (125954, 2), (125955, 3)], [], []⟩)]
def ann_i_Space_lay_oooo : Ann := .nil
def env_i_Space_lay_oooo : Env := envOf ti [k_slices_Clone_byte_byte, k_i_insert] []
theorem eok_i_Space_lay_oooo : EnvOk Try.prog env_i_Space_lay_oooo := envOf_ok tab mix _ _ (by
  intro k hk
  simp only [List.mem_cons, List.not_mem_nil, or_false] at hk
  rcases hk with rfl | rfl
  · exact s_slices_Clone_byte_byte
  · exact s_i_insert)
theorem v_i_Space_lay_oooo (x0 : Int) (x1 : List Int) (x2 : List (List Int)) (x3 : List Int) (x4 : List Int) (x5 : List Int) : (vfun env_i_Space_lay_oooo Try.f155 J_i_Space_lay_oooo ann_i_Space_lay_oooo [] [.pl 0 0, .one ⟨.int .i64, x0⟩, .one ⟨.sl false 5 (.int .u8), x1⟩] [[⟨.sl true 23 (.sl true 5 (.int .u8)), x2⟩, ⟨.sl true 5 (.int .u8), x3⟩, ⟨.sl true 3 (.int .i64), x4⟩, ⟨.sl true 3 (.int .i64), x5⟩]]).run = (G.i_Space_lay_oooo x0 x1 x2 x3 x4 x5).bind fun y => some (Res.mk [] [[⟨.sl true 23 (.sl true 5 (.int .u8)), y.1⟩, ⟨.sl true 5 (.int .u8), y.2.1⟩, ⟨.sl true 3 (.int .i64), y.2.2.1⟩, ⟨.sl true 3 (.int .i64), y.2.2.2⟩]] []) := by kernel_rfl
def k_i_Space_lay_oooo : Kn := ⟨155, [0, 0, 0], fun args rows => match args, rows with
  | [.pl 0 0, .one ⟨.int .i64, x0⟩, .one ⟨.sl false 5 (.int .u8), x1⟩], [[⟨.sl true 23 (.sl true 5 (.int .u8)), x2⟩, ⟨.sl true 5 (.int .u8), x3⟩, ⟨.sl true 3 (.int .i64), x4⟩, ⟨.sl true 3 (.int .i64), x5⟩]] => some ⟨_, G.i_Space_lay_oooo x0 x1 x2 x3 x4 x5, fun y => ⟨[], [[⟨.sl true 23 (.sl true 5 (.int .u8)), y.1⟩, ⟨.sl true 5 (.int .u8), y.2.1⟩, ⟨.sl true 3 (.int .i64), y.2.2.1⟩, ⟨.sl true 3 (.int .i64), y.2.2.2⟩]], []⟩⟩
  | _, _ => none, []⟩
theorem s_i_Space_lay_oooo : KnOk Try.prog k_i_Space_lay_oooo := by
  intro args rows a h y hy
  simp only [k_i_Space_lay_oooo] at h
  split at h
  · injection h with h
    subst h
    exact vfun_ok eok_i_Space_lay_oooo Try.func155 rfl (by rw [v_i_Space_lay_oooo]; simp only at hy; rw [hy]; rfl)
  · cases h
def J_i_Space_used_oooo : Joins := [(.r, ⟨[.bool, .sl true 23 (.sl true 5 (.int .u8)), .sl true 5 (.int .u8), .sl true 3 (.int .i64), .sl true 3 (.int .i64)], [(4, .one (.h 0))], [(19, [.vw 120832, .vw 120833, .vw 120834, .vw 120835])], [(120832, 1), (120833, 2), (120834, 3), (120835, 4)], [], []⟩)]
def ann_i_Space_used_oooo : Ann := .nil
def env_i_Space_used_oooo : Env := envOf ti [] []
theorem eok_i_Space_used_oooo : EnvOk Try.prog env_i_Space_used_oooo := envOf_ok tab mix _ _ (by
  intro k hk; cases hk)
theorem v_i_Space_used_oooo (x0 : Int) (x1 : List (List Int)) (x2 : List Int) (x3 : List Int) (x4 : List Int) : (vfun env_i_Space_used_oooo Try.f90 J_i_Space_used_oooo ann_i_Space_used_oooo [] [.pl 0 0, .one ⟨.int .i64, x0⟩] [[⟨.sl true 23 (.sl true 5 (.int .u8)), x1⟩, ⟨.sl true 5 (.int .u8), x2⟩, ⟨.sl true 3 (.int .i64), x3⟩, ⟨.sl true 3 (.int .i64), x4⟩]]).run = (G.i_Space_used_oooo x0 x1 x2 x3 x4).bind fun y => some (Res.mk [.one ⟨.bool, y.1⟩] [[⟨.sl true 23 (.sl true 5 (.int .u8)), y.2.1⟩, ⟨.sl true 5 (.int .u8), y.2.2.1⟩, ⟨.sl true 3 (.int .i64), y.2.2.2.1⟩, ⟨.sl true 3 (.int .i64), y.2.2.2.2⟩]] []) := by kernel_rfl
def k_i_Space_used_oooo : Kn := ⟨90, [0, 0], fun args rows => match args, rows with
  | [.pl 0 0, .one ⟨.int .i64, x0⟩], [[⟨.sl true 23 (.sl true 5 (.int .u8)), x1⟩, ⟨.sl true 5 (.int .u8), x2⟩, ⟨.sl true 3 (.int .i64), x3⟩, ⟨.sl true 3 (.int .i64), x4⟩]] => some ⟨_, G.i_Space_used_oooo x0 x1 x2 x3 x4, fun y => ⟨[.one ⟨.bool, y.1⟩], [[⟨.sl true 23 (.sl true 5 (.int .u8)), y.2.1⟩, ⟨.sl true 5 (.int .u8), y.2.2.1⟩, ⟨.sl true 3 (.int .i64), y.2.2.2.1⟩, ⟨.sl true 3 (.int .i64), y.2.2.2.2⟩]], []⟩⟩
  | _, _ => none, []⟩
theorem s_i_Space_used_oooo : KnOk Try.prog k_i_Space_used_oooo := by
  intro args rows a h y hy
  simp only [k_i_Space_used_oooo] at h
  split at h
  · injection h with h
    subst h
    exact vfun_ok eok_i_Space_used_oooo Try.func90 rfl (by rw [v_i_Space_used_oooo]; simp only at hy; rw [hy]; rfl)
  · cases h
def J_i_Space_take_oooo : Joins := [(.r, ⟨[.int .i64, .bool, .sl true 23 (.sl true 5 (.int .u8)), .sl true 5 (.int .u8), .sl true 3 (.int .i64), .sl true 3 (.int .i64)], [(2, .one (.h 0)), (3, .one (.h 1))], [(37, [.vw 139336, .vw 139337, .vw 139338, .vw 139339])], [(139336, 2), (139337, 3), (139338, 4), (139339, 5)], [], []⟩)]
def ann_i_Space_take_oooo : Ann := .seq .nil (.seq (.seq .nil (.block [] (.loop ⟨[.int .i64, .int .i64, .sl true 23 (.sl true 5 (.int .u8)), .sl true 5 (.int .u8), .sl true 3 (.int .i64), .sl true 3 (.int .i64)], [(0, .pl 37 0), (9, .one (.h 0)), (10, .one (.h 1))], [(37, [.vw 139264, .vw 139265, .vw 139266, .vw 139267])], [(139264, 2), (139265, 3), (139266, 4), (139267, 5)], [], []⟩ [(.x 0, ⟨[.sl true 23 (.sl true 5 (.int .u8)), .sl true 5 (.int .u8), .sl true 3 (.int .i64), .sl true 3 (.int .i64)], [], [(37, [.vw 139328, .vw 139329, .vw 139330, .vw 139331])], [(139328, 0), (139329, 1), (139330, 2), (139331, 3)], [], []⟩), (.r, ⟨[.int .i64, .bool, .sl true 23 (.sl true 5 (.int .u8)), .sl true 5 (.int .u8), .sl true 3 (.int .i64), .sl true 3 (.int .i64)], [(2, .one (.h 0)), (3, .one (.h 1))], [(37, [.vw 139332, .vw 139333, .vw 139334, .vw 139335])], [(139332, 2), (139333, 3), (139334, 4), (139335, 5)], [], []⟩)] .nil))) .nil)
def env_i_Space_take_oooo : Env := envOf ti [k_i_Space_used_oooo, k_i_Space_lay_oooo] []
theorem eok_i_Space_take_oooo : EnvOk Try.prog env_i_Space_take_oooo := envOf_ok tab mix _ _ (by
  intro k hk
  simp only [List.mem_cons, List.not_mem_nil, or_false] at hk
  rcases hk with rfl | rfl
  · exact s_i_Space_used_oooo
  · exact s_i_Space_lay_oooo)
theorem v_i_Space_take_oooo (x0 : List (List Int)) (x1 : List Int) (x2 : List Int) (x3 : List Int) : (vfun env_i_Space_take_oooo Try.f81 J_i_Space_take_oooo ann_i_Space_take_oooo [] [.pl 0 0] [[⟨.sl true 23 (.sl true 5 (.int .u8)), x0⟩, ⟨.sl true 5 (.int .u8), x1⟩, ⟨.sl true 3 (.int .i64), x2⟩, ⟨.sl true 3 (.int .i64), x3⟩]]).run = (G.i_Space_take_oooo x0 x1 x2 x3).bind fun y => some (Res.mk [.one ⟨.int .i64, y.1⟩, .one ⟨.bool, y.2.1⟩] [[⟨.sl true 23 (.sl true 5 (.int .u8)), y.2.2.1⟩, ⟨.sl true 5 (.int .u8), y.2.2.2.1⟩, ⟨.sl true 3 (.int .i64), y.2.2.2.2.1⟩, ⟨.sl true 3 (.int .i64), y.2.2.2.2.2⟩]] []) := by kernel_rfl
def k_i_Space_take_oooo : Kn := ⟨81, [0], fun args rows => match args, rows with
  | [.pl 0 0], [[⟨.sl true 23 (.sl true 5 (.int .u8)), x0⟩, ⟨.sl true 5 (.int .u8), x1⟩, ⟨.sl true 3 (.int .i64), x2⟩, ⟨.sl true 3 (.int .i64), x3⟩]] => some ⟨_, G.i_Space_take_oooo x0 x1 x2 x3, fun y => ⟨[.one ⟨.int .i64, y.1⟩, .one ⟨.bool, y.2.1⟩], [[⟨.sl true 23 (.sl true 5 (.int .u8)), y.2.2.1⟩, ⟨.sl true 5 (.int .u8), y.2.2.2.1⟩, ⟨.sl true 3 (.int .i64), y.2.2.2.2.1⟩, ⟨.sl true 3 (.int .i64), y.2.2.2.2.2⟩]], []⟩⟩
  | _, _ => none, []⟩
theorem s_i_Space_take_oooo : KnOk Try.prog k_i_Space_take_oooo := by
  intro args rows a h y hy
  simp only [k_i_Space_take_oooo] at h
  split at h
  · injection h with h
    subst h
    exact vfun_ok eok_i_Space_take_oooo Try.func81 rfl (by rw [v_i_Space_take_oooo]; simp only at hy; rw [hy]; rfl)
  · cases h
def J_i_Space_takeMany_oooo : Joins := [(.r, ⟨[.sl true 3 (.int .i64), .bool, .sl true 23 (.sl true 5 (.int .u8)), .sl true 5 (.int .u8), .sl true 3 (.int .i64), .sl true 3 (.int .i64)], [(4, .one (.vw 129097)), (5, .one (.h 1))], [(27, [.vw 129098, .vw 129099, .vw 129100, .vw 129101])], [(129097, 0), (129098, 2), (129099, 3), (129100, 4), (129101, 5)], [], []⟩)]
def ann_i_Space_takeMany_oooo : Ann := .seq .nil (.seq .nil (.seq (.seq .nil (.block [] (.loop ⟨[.sl true 3 (.int .i64), .int .i64, .int .i64, .sl true 23 (.sl true 5 (.int .u8)), .sl true 5 (.int .u8), .sl true 3 (.int .i64), .sl true 3 (.int .i64)], [(0, .pl 27 0), (6, .one (.vw 129024)), (10, .one (.h 1)), (11, .one (.h 2))], [(27, [.vw 129025, .vw 129026, .vw 129027, .vw 129028])], [(129024, 0), (129025, 3), (129026, 4), (129027, 5), (129028, 6)], [], []⟩ [(.x 0, ⟨[.sl true 3 (.int .i64), .sl true 23 (.sl true 5 (.int .u8)), .sl true 5 (.int .u8), .sl true 3 (.int .i64), .sl true 3 (.int .i64)], [(6, .one (.vw 129088))], [(27, [.vw 129089, .vw 129090, .vw 129091, .vw 129092])], [(129088, 0), (129089, 1), (129090, 2), (129091, 3), (129092, 4)], [], []⟩), (.r, ⟨[.bool, .sl true 23 (.sl true 5 (.int .u8)), .sl true 5 (.int .u8), .sl true 3 (.int .i64), .sl true 3 (.int .i64)], [(4, .one (.nil)), (5, .one (.h 0))], [(27, [.vw 129093, .vw 129094, .vw 129095, .vw 129096])], [(129093, 1), (129094, 2), (129095, 3), (129096, 4)], [], []⟩)] .nil))) .nil))
def env_i_Space_takeMany_oooo : Env := envOf ti [k_i_Space_take_oooo] []
theorem eok_i_Space_takeMany_oooo : EnvOk Try.prog env_i_Space_takeMany_oooo := envOf_ok tab mix _ _ (by
  intro k hk
  simp only [List.mem_cons, List.not_mem_nil, or_false] at hk
  rcases hk with rfl
  · exact s_i_Space_take_oooo)
theorem v_i_Space_takeMany_oooo (x0 : Int) (x1 : List (List Int)) (x2 : List Int) (x3 : List Int) (x4 : List Int) : (vfun env_i_Space_takeMany_oooo Try.f182 J_i_Space_takeMany_oooo ann_i_Space_takeMany_oooo [] [.pl 0 0, .one ⟨.int .i64, x0⟩] [[⟨.sl true 23 (.sl true 5 (.int .u8)), x1⟩, ⟨.sl true 5 (.int .u8), x2⟩, ⟨.sl true 3 (.int .i64), x3⟩, ⟨.sl true 3 (.int .i64), x4⟩]]).run = (G.i_Space_takeMany_oooo x0 x1 x2 x3 x4).bind fun y => some (Res.mk [.one ⟨.sl true 3 (.int .i64), y.1⟩, .one ⟨.bool, y.2.1⟩] [[⟨.sl true 23 (.sl true 5 (.int .u8)), y.2.2.1⟩, ⟨.sl true 5 (.int .u8), y.2.2.2.1⟩, ⟨.sl true 3 (.int .i64), y.2.2.2.2.1⟩, ⟨.sl true 3 (.int .i64), y.2.2.2.2.2⟩]] []) := by kernel_rfl
def k_i_Space_takeMany_oooo : Kn := ⟨182, [0, 0], fun args rows => match args, rows with
  | [.pl 0 0, .one ⟨.int .i64, x0⟩], [[⟨.sl true 23 (.sl true 5 (.int .u8)), x1⟩, ⟨.sl true 5 (.int .u8), x2⟩, ⟨.sl true 3 (.int .i64), x3⟩, ⟨.sl true 3 (.int .i64), x4⟩]] => some ⟨_, G.i_Space_takeMany_oooo x0 x1 x2 x3 x4, fun y => ⟨[.one ⟨.sl true 3 (.int .i64), y.1⟩, .one ⟨.bool, y.2.1⟩], [[⟨.sl true 23 (.sl true 5 (.int .u8)), y.2.2.1⟩, ⟨.sl true 5 (.int .u8), y.2.2.2.1⟩, ⟨.sl true 3 (.int .i64), y.2.2.2.2.1⟩, ⟨.sl true 3 (.int .i64), y.2.2.2.2.2⟩]], []⟩⟩
  | _, _ => none, []⟩
theorem s_i_Space_takeMany_oooo : KnOk Try.prog k_i_Space_takeMany_oooo := by
  intro args rows a h y hy
  simp only [k_i_Space_takeMany_oooo] at h
  split at h
  · injection h with h
    subst h
    exact vfun_ok eok_i_Space_takeMany_oooo Try.func182 rfl (by rw [v_i_Space_takeMany_oooo]; simp only at hy; rw [hy]; rfl)
  · cases h
def J_i_two : Joins := [(.r, ⟨[.sl true 5 (.int .u8)], [(2, .one (.vw 111616))], [], [(111616, 0)], [], []⟩)]
def ann_i_two : Ann := .nil
def env_i_two : Env := envOf ti [] []
theorem eok_i_two : EnvOk Try.prog env_i_two := envOf_ok tab mix _ _ (by
  intro k hk; cases hk)
theorem v_i_two (x0 : Int) : (vfun env_i_two Try.f183 J_i_two ann_i_two [] [.one ⟨.int .i64, x0⟩] []).run = (G.i_two x0).bind fun y => some (Res.mk [.one ⟨.sl true 5 (.int .u8), y⟩] [] []) := by kernel_rfl
def k_i_two : Kn := ⟨183, [0], fun args rows => match args, rows with
  | [.one ⟨.int .i64, x0⟩], [] => some ⟨_, G.i_two x0, fun y => ⟨[.one ⟨.sl true 5 (.int .u8), y⟩], [], []⟩⟩
  | _, _ => none, []⟩
theorem s_i_two : KnOk Try.prog k_i_two := by
  intro args rows a h y hy
  simp only [k_i_two] at h
  split at h
  · injection h with h
    subst h
    exact vfun_ok eok_i_two Try.func183 rfl (by rw [v_i_two]; simp only at hy; rw [hy]; rfl)
  · cases h
def J_i_padded : Joins := [(.r, ⟨[.sl true 5 (.int .u8)], [(4, .one (.vw 113664))], [], [(113664, 0)], [], []⟩)]
def ann_i_padded : Ann := .nil
def env_i_padded : Env := envOf ti [] []
theorem eok_i_padded : EnvOk Try.prog env_i_padded := envOf_ok tab mix _ _ (by
  intro k hk; cases hk)
theorem v_i_padded (x0 : List Int) (x1 : Int) : (vfun env_i_padded Try.f163 J_i_padded ann_i_padded [] [.one ⟨.sl true 5 (.int .u8), x0⟩, .one ⟨.int .i64, x1⟩] []).run = (G.i_padded x0 x1).bind fun y => some (Res.mk [.one ⟨.sl true 5 (.int .u8), y⟩] [] []) := by kernel_rfl
def k_i_padded : Kn := ⟨163, [1, 0], fun args rows => match args, rows with
  | [.one ⟨.sl true 5 (.int .u8), x0⟩, .one ⟨.int .i64, x1⟩], [] => some ⟨_, G.i_padded x0 x1, fun y => ⟨[.one ⟨.sl true 5 (.int .u8), y⟩], [], []⟩⟩
  | _, _ => none, []⟩
theorem s_i_padded : KnOk Try.prog k_i_padded := by
  intro args rows a h y hy
  simp only [k_i_padded] at h
  split at h
  · injection h with h
    subst h
    exact vfun_ok eok_i_padded Try.func163 rfl (by rw [v_i_padded]; simp only at hy; rw [hy]; rfl)
  · cases h
def J_i_Space_layRecord_oooo : Joins := [(.r, ⟨[.int .i64, .bool, .sl true 23 (.sl true 5 (.int .u8)), .sl true 5 (.int .u8), .sl true 3 (.int .i64), .sl true 3 (.int .i64)], [(4, .one (.h 0)), (5, .one (.h 1))], [(71, [.vw 174154, .vw 174155, .vw 174156, .vw 174157])], [(174154, 2), (174155, 3), (174156, 4), (174157, 5)], [], []⟩)]
def ann_i_Space_layRecord_oooo : Ann := .seq .nil (.seq .nil (.seq .nil (.seq (.seq .nil (.block [] (.loop ⟨[.sl false 5 (.int .u8), .sl true 3 (.int .i64), .int .i64, .int .i64, .sl true 23 (.sl true 5 (.int .u8)), .sl true 5 (.int .u8), .sl true 3 (.int .i64), .sl true 3 (.int .i64)], [(0, .pl 71 0), (1, .one (.h 0)), (6, .one (.vw 174080)), (23, .one (.vw 174080)), (24, .one (.h 2)), (25, .one (.h 3))], [(71, [.vw 174081, .vw 174082, .vw 174083, .vw 174084])], [(174080, 1), (174081, 4), (174082, 5), (174083, 6), (174084, 7)], [], []⟩ [(.x 0, ⟨[.sl true 3 (.int .i64), .sl true 23 (.sl true 5 (.int .u8)), .sl true 5 (.int .u8), .sl true 3 (.int .i64), .sl true 3 (.int .i64)], [(6, .one (.vw 174149))], [(71, [.vw 174150, .vw 174151, .vw 174152, .vw 174153])], [(174149, 0), (174150, 1), (174151, 2), (174152, 3), (174153, 4)], [], []⟩)] (.seq .nil (.seq .nil (.seq (.block [] (.seq .nil (.seq .nil (.seq .nil (.seq (.seq .nil (.cond [(.n, ⟨[.sl false 5 (.int .u8), .sl true 3 (.int .i64), .int .i64, .sl false 5 (.int .u8), .int .i64, .int .i64, .int .i64, .sl true 23 (.sl true 5 (.int .u8)), .sl true 5 (.int .u8), .sl true 3 (.int .i64), .sl true 3 (.int .i64)], [(0, .pl 71 0), (1, .one (.h 0)), (6, .one (.vw 174144)), (9, .one (.h 2)), (10, .one (.h 3)), (11, .one (.h 4)), (23, .one (.vw 174144)), (24, .one (.h 5)), (25, .one (.h 6))], [(71, [.vw 174145, .vw 174146, .vw 174147, .vw 174148])], [(174144, 1), (174145, 7), (174146, 8), (174147, 9), (174148, 10)], [], []⟩)] .nil .nil)) .nil))))) .nil)))))) .nil)))
def env_i_Space_layRecord_oooo : Env := envOf ti [k_i_needRecord, k_i_Space_takeMany_oooo, k_i_two, k_i_padded, k_i_Space_lay_oooo] []
theorem eok_i_Space_layRecord_oooo : EnvOk Try.prog env_i_Space_layRecord_oooo := envOf_ok tab mix _ _ (by
  intro k hk
  simp only [List.mem_cons, List.not_mem_nil, or_false] at hk
  rcases hk with rfl | rfl | rfl | rfl | rfl
  · exact s_i_needRecord
  · exact s_i_Space_takeMany_oooo
  · exact s_i_two
  · exact s_i_padded
  · exact s_i_Space_lay_oooo)
theorem v_i_Space_layRecord_oooo (x0 : List Int) (x1 : List (List Int)) (x2 : List Int) (x3 : List Int) (x4 : List Int) : (vfun env_i_Space_layRecord_oooo Try.f116 J_i_Space_layRecord_oooo ann_i_Space_layRecord_oooo [] [.pl 0 0, .one ⟨.sl false 5 (.int .u8), x0⟩] [[⟨.sl true 23 (.sl true 5 (.int .u8)), x1⟩, ⟨.sl true 5 (.int .u8), x2⟩, ⟨.sl true 3 (.int .i64), x3⟩, ⟨.sl true 3 (.int .i64), x4⟩]]).run = (G.i_Space_layRecord_oooo x0 x1 x2 x3 x4).bind fun y => some (Res.mk [.one ⟨.int .i64, y.1⟩, .one ⟨.bool, y.2.1⟩] [[⟨.sl true 23 (.sl true 5 (.int .u8)), y.2.2.1⟩, ⟨.sl true 5 (.int .u8), y.2.2.2.1⟩, ⟨.sl true 3 (.int .i64), y.2.2.2.2.1⟩, ⟨.sl true 3 (.int .i64), y.2.2.2.2.2⟩]] []) := by kernel_rfl
def k_i_Space_layRecord_oooo : Kn := ⟨116, [0, 0], fun args rows => match args, rows with
  | [.pl 0 0, .one ⟨.sl false 5 (.int .u8), x0⟩], [[⟨.sl true 23 (.sl true 5 (.int .u8)), x1⟩, ⟨.sl true 5 (.int .u8), x2⟩, ⟨.sl true 3 (.int .i64), x3⟩, ⟨.sl true 3 (.int .i64), x4⟩]] => some ⟨_, G.i_Space_layRecord_oooo x0 x1 x2 x3 x4, fun y => ⟨[.one ⟨.int .i64, y.1⟩, .one ⟨.bool, y.2.1⟩], [[⟨.sl true 23 (.sl true 5 (.int .u8)), y.2.2.1⟩, ⟨.sl true 5 (.int .u8), y.2.2.2.1⟩, ⟨.sl true 3 (.int .i64), y.2.2.2.2.1⟩, ⟨.sl true 3 (.int .i64), y.2.2.2.2.2⟩]], []⟩⟩
  | _, _ => none, []⟩
theorem s_i_Space_layRecord_oooo : KnOk Try.prog k_i_Space_layRecord_oooo := by
  intro args rows a h y hy
  simp only [k_i_Space_layRecord_oooo] at h
  split at h
  · injection h with h
    subst h
    exact vfun_ok eok_i_Space_layRecord_oooo Try.func116 rfl (by rw [v_i_Space_layRecord_oooo]; simp only at hy; rw [hy]; rfl)
  · cases h
def J_i_LayRecord : Joins := [(.r, ⟨[.int .i64, .bool, .sl true 23 (.sl true 5 (.int .u8)), .sl true 5 (.int .u8), .sl true 3 (.int .i64), .sl true 3 (.int .i64)], [(4, .pl 4 0), (5, .one (.h 0)), (6, .one (.h 1))], [(4, [.vw 134144, .vw 134145, .vw 134146, .vw 134147])], [(134144, 2), (134145, 3), (134146, 4), (134147, 5)], [], []⟩)]
def ann_i_LayRecord : Ann := .seq .nil (.seq (.seq (.reg [(.n, ⟨[.sl false 5 (.int .u8), .bool, .sl false 23 (.sl false 5 (.int .u8)), .sl false 5 (.int .u8), .sl false 3 (.int .i64), .sl false 3 (.int .i64)], [(1, .one (.h 0)), (2, .pl 2 0), (4, .pl 4 0), (17, .one (.h 1))], [(2, [.h 2, .h 3, .h 4, .h 5]), (4, [.nil, .nil, .nil, .nil])], [], [], []⟩)]) .nil) .nil)
def env_i_LayRecord : Env := envOf ti [k_i_GoodSpace, k_i_Space_copied, k_i_Space_layRecord_oooo] []
theorem eok_i_LayRecord : EnvOk Try.prog env_i_LayRecord := envOf_ok tab mix _ _ (by
  intro k hk
  simp only [List.mem_cons, List.not_mem_nil, or_false] at hk
  rcases hk with rfl | rfl | rfl
  · exact s_i_GoodSpace
  · exact s_i_Space_copied
  · exact s_i_Space_layRecord_oooo)
theorem v_i_LayRecord (x0 : List (List Int)) (x1 : List Int) (x2 : List Int) (x3 : List Int) (x4 : List Int) : (vfun env_i_LayRecord Try.f47 J_i_LayRecord ann_i_LayRecord [] [.ag [⟨.sl false 23 (.sl false 5 (.int .u8)), x0⟩, ⟨.sl false 5 (.int .u8), x1⟩, ⟨.sl false 3 (.int .i64), x2⟩, ⟨.sl false 3 (.int .i64), x3⟩], .one ⟨.sl false 5 (.int .u8), x4⟩] []).run = (G.i_LayRecord x0 x1 x2 x3 x4).bind fun y => some (Res.mk [.ag [⟨.sl true 23 (.sl true 5 (.int .u8)), y.2.2.1⟩, ⟨.sl true 5 (.int .u8), y.2.2.2.1⟩, ⟨.sl true 3 (.int .i64), y.2.2.2.2.1⟩, ⟨.sl true 3 (.int .i64), y.2.2.2.2.2⟩], .one ⟨.int .i64, y.1⟩, .one ⟨.bool, y.2.1⟩] [] []) := by kernel_rfl
def k_i_LayRecord : Kn := ⟨47, [0, 0], fun args rows => match args, rows with
  | [.ag [⟨.sl false 23 (.sl false 5 (.int .u8)), x0⟩, ⟨.sl false 5 (.int .u8), x1⟩, ⟨.sl false 3 (.int .i64), x2⟩, ⟨.sl false 3 (.int .i64), x3⟩], .one ⟨.sl false 5 (.int .u8), x4⟩], [] => some ⟨_, G.i_LayRecord x0 x1 x2 x3 x4, fun y => ⟨[.ag [⟨.sl true 23 (.sl true 5 (.int .u8)), y.2.2.1⟩, ⟨.sl true 5 (.int .u8), y.2.2.2.1⟩, ⟨.sl true 3 (.int .i64), y.2.2.2.2.1⟩, ⟨.sl true 3 (.int .i64), y.2.2.2.2.2⟩], .one ⟨.int .i64, y.1⟩, .one ⟨.bool, y.2.1⟩], [], []⟩⟩
  | _, _ => none, []⟩
theorem s_i_LayRecord : KnOk Try.prog k_i_LayRecord := by
  intro args rows a h y hy
  simp only [k_i_LayRecord] at h
  split at h
  · injection h with h
    subst h
    exact vfun_ok eok_i_LayRecord Try.func47 rfl (by rw [v_i_LayRecord]; simp only at hy; rw [hy]; rfl)
  · cases h
end
end Go.Proofs.Ytggpihbcaebpjaa

set_option linter.unusedVariables false
set_option maxRecDepth 100000
namespace Go.Proofs.Ytggpihbcaebpjaa
open Go.V
noncomputable section
def J_l_eqByteS : Joins := [(.r, ⟨[.bool], [(4, .one (.h 0))], [], [], [], []⟩)]
def ann_l_eqByteS : Ann := .seq .nil (.seq .nil (.seq (.seq .nil (.block [] (.loop ⟨[.sl false 5 (.int .u8), .sl false 5 (.int .u8), .int .i64], [(0, .one (.h 0)), (1, .one (.h 1)), (5, .one (.h 2))], [], [], [], []⟩ [(.x 0, ⟨[], [], [], [], [], []⟩), (.r, ⟨[.bool], [(4, .one (.h 0))], [], [], [], []⟩)] .nil))) .nil))
def env_l_eqByteS : Env := envOf ti [] []
theorem eok_l_eqByteS : EnvOk Try.prog env_l_eqByteS := envOf_ok tab mix _ _ (by
  intro k hk; cases hk)
theorem v_l_eqByteS (x0 : List Int) (x1 : List Int) : (vfun env_l_eqByteS Try.f35 J_l_eqByteS ann_l_eqByteS [] [.one ⟨.sl false 5 (.int .u8), x0⟩, .one ⟨.sl false 5 (.int .u8), x1⟩] []).run = (G.l_eqByteS x0 x1).bind fun y => some (Res.mk [.one ⟨.bool, y⟩] [] []) := by kernel_rfl
def k_l_eqByteS : Kn := ⟨35, [0, 0], fun args rows => match args, rows with
  | [.one ⟨.sl false 5 (.int .u8), x0⟩, .one ⟨.sl false 5 (.int .u8), x1⟩], [] => some ⟨_, G.l_eqByteS x0 x1, fun y => ⟨[.one ⟨.bool, y⟩], [], []⟩⟩
  | _, _ => none, []⟩
theorem s_l_eqByteS : KnOk Try.prog k_l_eqByteS := by
  intro args rows a h y hy
  simp only [k_l_eqByteS] at h
  split at h
  · injection h with h
    subst h
    exact vfun_ok eok_l_eqByteS Try.func35 rfl (by rw [v_l_eqByteS]; simp only at hy; rw [hy]; rfl)
  · cases h
def J_l_eqByteSS : Joins := [(.r, ⟨[.bool], [(4, .one (.h 0))], [], [], [], []⟩)]
def ann_l_eqByteSS : Ann := .seq .nil (.seq .nil (.seq (.seq .nil (.block [] (.loop ⟨[.sl false 23 (.sl false 5 (.int .u8)), .sl false 23 (.sl false 5 (.int .u8)), .int .i64], [(0, .one (.h 0)), (1, .one (.h 1)), (5, .one (.h 2))], [], [], [], []⟩ [(.x 0, ⟨[], [], [], [], [], []⟩), (.r, ⟨[.bool], [(4, .one (.h 0))], [], [], [], []⟩)] .nil))) .nil))
def env_l_eqByteSS : Env := envOf ti [k_l_eqByteS] []
theorem eok_l_eqByteSS : EnvOk Try.prog env_l_eqByteSS := envOf_ok tab mix _ _ (by
  intro k hk
  simp only [List.mem_cons, List.not_mem_nil, or_false] at hk
  rcases hk with rfl
  · exact s_l_eqByteS)
theorem v_l_eqByteSS (x0 : List (List Int)) (x1 : List (List Int)) : (vfun env_l_eqByteSS Try.f82 J_l_eqByteSS ann_l_eqByteSS [] [.one ⟨.sl false 23 (.sl false 5 (.int .u8)), x0⟩, .one ⟨.sl false 23 (.sl false 5 (.int .u8)), x1⟩] []).run = (G.l_eqByteSS x0 x1).bind fun y => some (Res.mk [.one ⟨.bool, y⟩] [] []) := by kernel_rfl
def k_l_eqByteSS : Kn := ⟨82, [0, 0], fun args rows => match args, rows with
  | [.one ⟨.sl false 23 (.sl false 5 (.int .u8)), x0⟩, .one ⟨.sl false 23 (.sl false 5 (.int .u8)), x1⟩], [] => some ⟨_, G.l_eqByteSS x0 x1, fun y => ⟨[.one ⟨.bool, y⟩], [], []⟩⟩
  | _, _ => none, []⟩
theorem s_l_eqByteSS : KnOk Try.prog k_l_eqByteSS := by
  intro args rows a h y hy
  simp only [k_l_eqByteSS] at h
  split at h
  · injection h with h
    subst h
    exact vfun_ok eok_l_eqByteSS Try.func82 rfl (by rw [v_l_eqByteSS]; simp only at hy; rw [hy]; rfl)
  · cases h
def J_l_eqIntS : Joins := [(.r, ⟨[.bool], [(4, .one (.h 0))], [], [], [], []⟩)]
def ann_l_eqIntS : Ann := .seq .nil (.seq .nil (.seq (.seq .nil (.block [] (.loop ⟨[.sl false 3 (.int .i64), .sl false 3 (.int .i64), .int .i64], [(0, .one (.h 0)), (1, .one (.h 1)), (5, .one (.h 2))], [], [], [], []⟩ [(.x 0, ⟨[], [], [], [], [], []⟩), (.r, ⟨[.bool], [(4, .one (.h 0))], [], [], [], []⟩)] .nil))) .nil))
def env_l_eqIntS : Env := envOf ti [] []
theorem eok_l_eqIntS : EnvOk Try.prog env_l_eqIntS := envOf_ok tab mix _ _ (by
  intro k hk; cases hk)
theorem v_l_eqIntS (x0 : List Int) (x1 : List Int) : (vfun env_l_eqIntS Try.f83 J_l_eqIntS ann_l_eqIntS [] [.one ⟨.sl false 3 (.int .i64), x0⟩, .one ⟨.sl false 3 (.int .i64), x1⟩] []).run = (G.l_eqIntS x0 x1).bind fun y => some (Res.mk [.one ⟨.bool, y⟩] [] []) := by kernel_rfl
def k_l_eqIntS : Kn := ⟨83, [0, 0], fun args rows => match args, rows with
  | [.one ⟨.sl false 3 (.int .i64), x0⟩, .one ⟨.sl false 3 (.int .i64), x1⟩], [] => some ⟨_, G.l_eqIntS x0 x1, fun y => ⟨[.one ⟨.bool, y⟩], [], []⟩⟩
  | _, _ => none, []⟩
theorem s_l_eqIntS : KnOk Try.prog k_l_eqIntS := by
  intro args rows a h y hy
  simp only [k_l_eqIntS] at h
  split at h
  · injection h with h
    subst h
    exact vfun_ok eok_l_eqIntS Try.func83 rfl (by rw [v_l_eqIntS]; simp only at hy; rw [hy]; rfl)
  · cases h
def J_l_eqSpace : Joins := [(.r, ⟨[.bool], [(4, .one (.h 0))], [], [], [], []⟩)]
def ann_l_eqSpace : Ann := .nil
def env_l_eqSpace : Env := envOf ti [k_l_eqByteSS, k_l_eqByteS, k_l_eqIntS] []
theorem eok_l_eqSpace : EnvOk Try.prog env_l_eqSpace := envOf_ok tab mix _ _ (by
  intro k hk
  simp only [List.mem_cons, List.not_mem_nil, or_false] at hk
  rcases hk with rfl | rfl | rfl
  · exact s_l_eqByteSS
  · exact s_l_eqByteS
  · exact s_l_eqIntS)
theorem v_l_eqSpace (x0 : List (List Int)) (x1 : List Int) (x2 : List Int) (x3 : List Int) (x4 : List (List Int)) (x5 : List Int) (x6 : List Int) (x7 : List Int) : (vfun env_l_eqSpace Try.f18 J_l_eqSpace ann_l_eqSpace [] [.ag [⟨.sl false 23 (.sl false 5 (.int .u8)), x0⟩, ⟨.sl false 5 (.int .u8), x1⟩, ⟨.sl false 3 (.int .i64), x2⟩, ⟨.sl false 3 (.int .i64), x3⟩], .ag [⟨.sl false 23 (.sl false 5 (.int .u8)), x4⟩, ⟨.sl false 5 (.int .u8), x5⟩, ⟨.sl false 3 (.int .i64), x6⟩, ⟨.sl false 3 (.int .i64), x7⟩]] []).run = (G.l_eqSpace x0 x1 x2 x3 x4 x5 x6 x7).bind fun y => some (Res.mk [.one ⟨.bool, y⟩] [] []) := by kernel_rfl
def k_l_eqSpace : Kn := ⟨18, [0, 0], fun args rows => match args, rows with
  | [.ag [⟨.sl false 23 (.sl false 5 (.int .u8)), x0⟩, ⟨.sl false 5 (.int .u8), x1⟩, ⟨.sl false 3 (.int .i64), x2⟩, ⟨.sl false 3 (.int .i64), x3⟩], .ag [⟨.sl false 23 (.sl false 5 (.int .u8)), x4⟩, ⟨.sl false 5 (.int .u8), x5⟩, ⟨.sl false 3 (.int .i64), x6⟩, ⟨.sl false 3 (.int .i64), x7⟩]], [] => some ⟨_, G.l_eqSpace x0 x1 x2 x3 x4 x5 x6 x7, fun y => ⟨[.one ⟨.bool, y⟩], [], []⟩⟩
  | _, _ => none, []⟩
theorem s_l_eqSpace : KnOk Try.prog k_l_eqSpace := by
  intro args rows a h y hy
  simp only [k_l_eqSpace] at h
  split at h
  · injection h with h
    subst h
    exact vfun_ok eok_l_eqSpace Try.func18 rfl (by rw [v_l_eqSpace]; simp only at hy; rw [hy]; rfl)
  · cases h
def J_l_markByteS_l : Joins := [(.r, ⟨[.sl true 5 (.int .u8), .int .i64], [(0, .one (.vw 122945)), (4, .one (.h 1))], [], [(122945, 0)], [], []⟩)]
def ann_l_markByteS_l : Ann := .seq .nil (.seq (.seq .nil (.block [] (.loop ⟨[.sl true 5 (.int .u8), .int .i64, .int .i64], [(0, .one (.vw 122880)), (1, .one (.h 1)), (5, .one (.h 2))], [], [(122880, 0)], [], []⟩ [(.x 0, ⟨[.sl true 5 (.int .u8), .int .i64], [(0, .one (.vw 122944)), (1, .one (.h 1))], [], [(122944, 0)], [], []⟩)] .nil))) .nil)
def env_l_markByteS_l : Env := envOf ti [] [0]
theorem eok_l_markByteS_l : EnvOk Try.prog env_l_markByteS_l := envOf_ok tab mix _ _ (by
  intro k hk; cases hk)
theorem v_l_markByteS_l (x0 : List Int) (x1 : Int) : (vfun env_l_markByteS_l Try.f38 J_l_markByteS_l ann_l_markByteS_l [(0, 0)] [.one ⟨.sl true 5 (.int .u8), x0⟩, .one ⟨.int .i64, x1⟩] []).run = (G.l_markByteS_l x0 x1).bind fun y => some (Res.mk [.one ⟨.int .i64, y.2⟩] [] [((0, 0), ⟨.sl true 5 (.int .u8), y.1⟩)]) := by kernel_rfl
def k_l_markByteS_l : Kn := ⟨38, [2, 0], fun args rows => match args, rows with
  | [.one ⟨.sl true 5 (.int .u8), x0⟩, .one ⟨.int .i64, x1⟩], [] => some ⟨_, G.l_markByteS_l x0 x1, fun y => ⟨[.one ⟨.int .i64, y.2⟩], [], [((0, 0), ⟨.sl true 5 (.int .u8), y.1⟩)]⟩⟩
  | _, _ => none, []⟩
theorem s_l_markByteS_l : KnOk Try.prog k_l_markByteS_l := by
  intro args rows a h y hy
  simp only [k_l_markByteS_l] at h
  split at h
  · injection h with h
    subst h
    exact vfun_ok eok_l_markByteS_l Try.func38 rfl (by rw [v_l_markByteS_l]; simp only at hy; rw [hy]; rfl)
  · cases h
def J_l_markByteSS_l : Joins := [(.r, ⟨[.sl true 23 (.sl true 5 (.int .u8)), .int .i64], [(0, .one (.vw 121921)), (4, .one (.h 1))], [], [(121921, 0)], [], []⟩)]
def ann_l_markByteSS_l : Ann := .seq .nil (.seq (.seq .nil (.block [] (.loop ⟨[.sl true 23 (.sl true 5 (.int .u8)), .int .i64, .int .i64], [(0, .one (.vw 121856)), (1, .one (.h 1)), (5, .one (.h 2))], [], [(121856, 0)], [], []⟩ [(.x 0, ⟨[.sl true 23 (.sl true 5 (.int .u8)), .int .i64], [(0, .one (.vw 121920)), (1, .one (.h 1))], [], [(121920, 0)], [], []⟩)] .nil))) .nil)
def env_l_markByteSS_l : Env := envOf ti [k_l_markByteS_l] [0]
theorem eok_l_markByteSS_l : EnvOk Try.prog env_l_markByteSS_l := envOf_ok tab mix _ _ (by
  intro k hk
  simp only [List.mem_cons, List.not_mem_nil, or_false] at hk
  rcases hk with rfl
  · exact s_l_markByteS_l)
theorem v_l_markByteSS_l (x0 : List (List Int)) (x1 : Int) : (vfun env_l_markByteSS_l Try.f84 J_l_markByteSS_l ann_l_markByteSS_l [(0, 0)] [.one ⟨.sl true 23 (.sl true 5 (.int .u8)), x0⟩, .one ⟨.int .i64, x1⟩] []).run = (G.l_markByteSS_l x0 x1).bind fun y => some (Res.mk [.one ⟨.int .i64, y.2⟩] [] [((0, 0), ⟨.sl true 23 (.sl true 5 (.int .u8)), y.1⟩)]) := by kernel_rfl
def k_l_markByteSS_l : Kn := ⟨84, [2, 0], fun args rows => match args, rows with
  | [.one ⟨.sl true 23 (.sl true 5 (.int .u8)), x0⟩, .one ⟨.int .i64, x1⟩], [] => some ⟨_, G.l_markByteSS_l x0 x1, fun y => ⟨[.one ⟨.int .i64, y.2⟩], [], [((0, 0), ⟨.sl true 23 (.sl true 5 (.int .u8)), y.1⟩)]⟩⟩
  | _, _ => none, []⟩
theorem s_l_markByteSS_l : KnOk Try.prog k_l_markByteSS_l := by
  intro args rows a h y hy
  simp only [k_l_markByteSS_l] at h
  split at h
  · injection h with h
    subst h
    exact vfun_ok eok_l_markByteSS_l Try.func84 rfl (by rw [v_l_markByteSS_l]; simp only at hy; rw [hy]; rfl)
  · cases h
def J_l_markIntS_l : Joins := [(.r, ⟨[.sl true 3 (.int .i64), .int .i64], [(0, .one (.vw 121921)), (4, .one (.h 1))], [], [(121921, 0)], [], []⟩)]
def ann_l_markIntS_l : Ann := .seq .nil (.seq (.seq .nil (.block [] (.loop ⟨[.sl true 3 (.int .i64), .int .i64, .int .i64], [(0, .one (.vw 121856)), (1, .one (.h 1)), (5, .one (.h 2))], [], [(121856, 0)], [], []⟩ [(.x 0, ⟨[.sl true 3 (.int .i64), .int .i64], [(0, .one (.vw 121920)), (1, .one (.h 1))], [], [(121920, 0)], [], []⟩)] .nil))) .nil)
def env_l_markIntS_l : Env := envOf ti [] [0]
theorem eok_l_markIntS_l : EnvOk Try.prog env_l_markIntS_l := envOf_ok tab mix _ _ (by
  intro k hk; cases hk)
theorem v_l_markIntS_l (x0 : List Int) (x1 : Int) : (vfun env_l_markIntS_l Try.f85 J_l_markIntS_l ann_l_markIntS_l [(0, 0)] [.one ⟨.sl true 3 (.int .i64), x0⟩, .one ⟨.int .i64, x1⟩] []).run = (G.l_markIntS_l x0 x1).bind fun y => some (Res.mk [.one ⟨.int .i64, y.2⟩] [] [((0, 0), ⟨.sl true 3 (.int .i64), y.1⟩)]) := by kernel_rfl
def k_l_markIntS_l : Kn := ⟨85, [2, 0], fun args rows => match args, rows with
  | [.one ⟨.sl true 3 (.int .i64), x0⟩, .one ⟨.int .i64, x1⟩], [] => some ⟨_, G.l_markIntS_l x0 x1, fun y => ⟨[.one ⟨.int .i64, y.2⟩], [], [((0, 0), ⟨.sl true 3 (.int .i64), y.1⟩)]⟩⟩
  | _, _ => none, []⟩
theorem s_l_markIntS_l : KnOk Try.prog k_l_markIntS_l := by
  intro args rows a h y hy
  simp only [k_l_markIntS_l] at h
  split at h
  · injection h with h
    subst h
    exact vfun_ok eok_l_markIntS_l Try.func85 rfl (by rw [v_l_markIntS_l]; simp only at hy; rw [hy]; rfl)
  · cases h
def J_l_markSpace_l : Joins := [(.r, ⟨[.sl true 23 (.sl true 5 (.int .u8)), .sl true 5 (.int .u8), .sl true 3 (.int .i64), .sl true 3 (.int .i64), .int .i64], [(0, .ag [.vw 124928, .vw 124929, .vw 124930, .vw 124931]), (4, .one (.h 4))], [], [(124928, 0), (124929, 1), (124930, 2), (124931, 3)], [], []⟩)]
def ann_l_markSpace_l : Ann := .nil
def env_l_markSpace_l : Env := envOf ti [k_l_markByteSS_l, k_l_markByteS_l, k_l_markIntS_l] [0]
theorem eok_l_markSpace_l : EnvOk Try.prog env_l_markSpace_l := envOf_ok tab mix _ _ (by
  intro k hk
  simp only [List.mem_cons, List.not_mem_nil, or_false] at hk
  rcases hk with rfl | rfl | rfl
  · exact s_l_markByteSS_l
  · exact s_l_markByteS_l
  · exact s_l_markIntS_l)
theorem v_l_markSpace_l (x0 : List (List Int)) (x1 : List Int) (x2 : List Int) (x3 : List Int) (x4 : Int) : (vfun env_l_markSpace_l Try.f19 J_l_markSpace_l ann_l_markSpace_l [(0, 0), (0, 1), (0, 2), (0, 3)] [.ag [⟨.sl true 23 (.sl true 5 (.int .u8)), x0⟩, ⟨.sl true 5 (.int .u8), x1⟩, ⟨.sl true 3 (.int .i64), x2⟩, ⟨.sl true 3 (.int .i64), x3⟩], .one ⟨.int .i64, x4⟩] []).run = (G.l_markSpace_l x0 x1 x2 x3 x4).bind fun y => some (Res.mk [.one ⟨.int .i64, y.2.2.2.2⟩] [] [((0, 0), ⟨.sl true 23 (.sl true 5 (.int .u8)), y.1⟩), ((0, 1), ⟨.sl true 5 (.int .u8), y.2.1⟩), ((0, 2), ⟨.sl true 3 (.int .i64), y.2.2.1⟩), ((0, 3), ⟨.sl true 3 (.int .i64), y.2.2.2.1⟩)]) := by kernel_rfl
def k_l_markSpace_l : Kn := ⟨19, [2, 0], fun args rows => match args, rows with
  | [.ag [⟨.sl true 23 (.sl true 5 (.int .u8)), x0⟩, ⟨.sl true 5 (.int .u8), x1⟩, ⟨.sl true 3 (.int .i64), x2⟩, ⟨.sl true 3 (.int .i64), x3⟩], .one ⟨.int .i64, x4⟩], [] => some ⟨_, G.l_markSpace_l x0 x1 x2 x3 x4, fun y => ⟨[.one ⟨.int .i64, y.2.2.2.2⟩], [], [((0, 0), ⟨.sl true 23 (.sl true 5 (.int .u8)), y.1⟩), ((0, 1), ⟨.sl true 5 (.int .u8), y.2.1⟩), ((0, 2), ⟨.sl true 3 (.int .i64), y.2.2.1⟩), ((0, 3), ⟨.sl true 3 (.int .i64), y.2.2.2.1⟩)]⟩⟩
  | _, _ => none, []⟩
theorem s_l_markSpace_l : KnOk Try.prog k_l_markSpace_l := by
  intro args rows a h y hy
  simp only [k_l_markSpace_l] at h
  split at h
  · injection h with h
    subst h
    exact vfun_ok eok_l_markSpace_l Try.func19 rfl (by rw [v_l_markSpace_l]; simp only at hy; rw [hy]; rfl)
  · cases h
def J_l_heldByteS : Joins := [(.r, ⟨[.int .i64], [(4, .one (.h 0))], [], [], [], []⟩)]
def ann_l_heldByteS : Ann := .seq .nil (.seq (.seq .nil (.block [] (.loop ⟨[.sl false 5 (.int .u8), .int .i64, .int .i64], [(0, .one (.h 0)), (1, .one (.h 1)), (5, .one (.h 2))], [], [], [], []⟩ [(.x 0, ⟨[.int .i64], [(1, .one (.h 0))], [], [], [], []⟩), (.r, ⟨[.int .i64], [(4, .one (.h 0))], [], [], [], []⟩)] .nil))) .nil)
def env_l_heldByteS : Env := envOf ti [] []
theorem eok_l_heldByteS : EnvOk Try.prog env_l_heldByteS := envOf_ok tab mix _ _ (by
  intro k hk; cases hk)
theorem v_l_heldByteS (x0 : List Int) (x1 : Int) : (vfun env_l_heldByteS Try.f43 J_l_heldByteS ann_l_heldByteS [] [.one ⟨.sl false 5 (.int .u8), x0⟩, .one ⟨.int .i64, x1⟩] []).run = (G.l_heldByteS x0 x1).bind fun y => some (Res.mk [.one ⟨.int .i64, y⟩] [] []) := by kernel_rfl
def k_l_heldByteS : Kn := ⟨43, [0, 0], fun args rows => match args, rows with
  | [.one ⟨.sl false 5 (.int .u8), x0⟩, .one ⟨.int .i64, x1⟩], [] => some ⟨_, G.l_heldByteS x0 x1, fun y => ⟨[.one ⟨.int .i64, y⟩], [], []⟩⟩
  | _, _ => none, []⟩
theorem s_l_heldByteS : KnOk Try.prog k_l_heldByteS := by
  intro args rows a h y hy
  simp only [k_l_heldByteS] at h
  split at h
  · injection h with h
    subst h
    exact vfun_ok eok_l_heldByteS Try.func43 rfl (by rw [v_l_heldByteS]; simp only at hy; rw [hy]; rfl)
  · cases h
def J_l_heldByteSS : Joins := [(.r, ⟨[.int .i64], [(4, .one (.h 0))], [], [], [], []⟩)]
def ann_l_heldByteSS : Ann := .seq .nil (.seq (.seq .nil (.block [] (.loop ⟨[.sl false 23 (.sl false 5 (.int .u8)), .int .i64, .int .i64], [(0, .one (.h 0)), (1, .one (.h 1)), (5, .one (.h 2))], [], [], [], []⟩ [(.x 0, ⟨[.int .i64], [(1, .one (.h 0))], [], [], [], []⟩), (.r, ⟨[.int .i64], [(4, .one (.h 0))], [], [], [], []⟩)] .nil))) .nil)
def env_l_heldByteSS : Env := envOf ti [k_l_heldByteS] []
theorem eok_l_heldByteSS : EnvOk Try.prog env_l_heldByteSS := envOf_ok tab mix _ _ (by
  intro k hk
  simp only [List.mem_cons, List.not_mem_nil, or_false] at hk
  rcases hk with rfl
  · exact s_l_heldByteS)
theorem v_l_heldByteSS (x0 : List (List Int)) (x1 : Int) : (vfun env_l_heldByteSS Try.f86 J_l_heldByteSS ann_l_heldByteSS [] [.one ⟨.sl false 23 (.sl false 5 (.int .u8)), x0⟩, .one ⟨.int .i64, x1⟩] []).run = (G.l_heldByteSS x0 x1).bind fun y => some (Res.mk [.one ⟨.int .i64, y⟩] [] []) := by kernel_rfl
def k_l_heldByteSS : Kn := ⟨86, [0, 0], fun args rows => match args, rows with
  | [.one ⟨.sl false 23 (.sl false 5 (.int .u8)), x0⟩, .one ⟨.int .i64, x1⟩], [] => some ⟨_, G.l_heldByteSS x0 x1, fun y => ⟨[.one ⟨.int .i64, y⟩], [], []⟩⟩
  | _, _ => none, []⟩
theorem s_l_heldByteSS : KnOk Try.prog k_l_heldByteSS := by
  intro args rows a h y hy
  simp only [k_l_heldByteSS] at h
  split at h
  · injection h with h
    subst h
    exact vfun_ok eok_l_heldByteSS Try.func86 rfl (by rw [v_l_heldByteSS]; simp only at hy; rw [hy]; rfl)
  · cases h
def J_l_heldIntS : Joins := [(.r, ⟨[.int .i64], [(4, .one (.h 0))], [], [], [], []⟩)]
def ann_l_heldIntS : Ann := .seq .nil (.seq (.seq .nil (.block [] (.loop ⟨[.sl false 3 (.int .i64), .int .i64, .int .i64], [(0, .one (.h 0)), (1, .one (.h 1)), (5, .one (.h 2))], [], [], [], []⟩ [(.x 0, ⟨[.int .i64], [(1, .one (.h 0))], [], [], [], []⟩), (.r, ⟨[.int .i64], [(4, .one (.h 0))], [], [], [], []⟩)] .nil))) .nil)
def env_l_heldIntS : Env := envOf ti [] []
theorem eok_l_heldIntS : EnvOk Try.prog env_l_heldIntS := envOf_ok tab mix _ _ (by
  intro k hk; cases hk)
theorem v_l_heldIntS (x0 : List Int) (x1 : Int) : (vfun env_l_heldIntS Try.f87 J_l_heldIntS ann_l_heldIntS [] [.one ⟨.sl false 3 (.int .i64), x0⟩, .one ⟨.int .i64, x1⟩] []).run = (G.l_heldIntS x0 x1).bind fun y => some (Res.mk [.one ⟨.int .i64, y⟩] [] []) := by kernel_rfl
def k_l_heldIntS : Kn := ⟨87, [0, 0], fun args rows => match args, rows with
  | [.one ⟨.sl false 3 (.int .i64), x0⟩, .one ⟨.int .i64, x1⟩], [] => some ⟨_, G.l_heldIntS x0 x1, fun y => ⟨[.one ⟨.int .i64, y⟩], [], []⟩⟩
  | _, _ => none, []⟩
theorem s_l_heldIntS : KnOk Try.prog k_l_heldIntS := by
  intro args rows a h y hy
  simp only [k_l_heldIntS] at h
  split at h
  · injection h with h
    subst h
    exact vfun_ok eok_l_heldIntS Try.func87 rfl (by rw [v_l_heldIntS]; simp only at hy; rw [hy]; rfl)
  · cases h
def J_l_heldSpace : Joins := [(.r, ⟨[.int .i64], [(4, .one (.h 0))], [], [], [], []⟩)]
def ann_l_heldSpace : Ann := .nil
def env_l_heldSpace : Env := envOf ti [k_l_heldByteSS, k_l_heldByteS, k_l_heldIntS] []
theorem eok_l_heldSpace : EnvOk Try.prog env_l_heldSpace := envOf_ok tab mix _ _ (by
  intro k hk
  simp only [List.mem_cons, List.not_mem_nil, or_false] at hk
  rcases hk with rfl | rfl | rfl
  · exact s_l_heldByteSS
  · exact s_l_heldByteS
  · exact s_l_heldIntS)
theorem v_l_heldSpace (x0 : List (List Int)) (x1 : List Int) (x2 : List Int) (x3 : List Int) (x4 : Int) : (vfun env_l_heldSpace Try.f20 J_l_heldSpace ann_l_heldSpace [] [.ag [⟨.sl false 23 (.sl false 5 (.int .u8)), x0⟩, ⟨.sl false 5 (.int .u8), x1⟩, ⟨.sl false 3 (.int .i64), x2⟩, ⟨.sl false 3 (.int .i64), x3⟩], .one ⟨.int .i64, x4⟩] []).run = (G.l_heldSpace x0 x1 x2 x3 x4).bind fun y => some (Res.mk [.one ⟨.int .i64, y⟩] [] []) := by kernel_rfl
def k_l_heldSpace : Kn := ⟨20, [0, 0], fun args rows => match args, rows with
  | [.ag [⟨.sl false 23 (.sl false 5 (.int .u8)), x0⟩, ⟨.sl false 5 (.int .u8), x1⟩, ⟨.sl false 3 (.int .i64), x2⟩, ⟨.sl false 3 (.int .i64), x3⟩], .one ⟨.int .i64, x4⟩], [] => some ⟨_, G.l_heldSpace x0 x1 x2 x3 x4, fun y => ⟨[.one ⟨.int .i64, y⟩], [], []⟩⟩
  | _, _ => none, []⟩
theorem s_l_heldSpace : KnOk Try.prog k_l_heldSpace := by
  intro args rows a h y hy
  simp only [k_l_heldSpace] at h
  split at h
  · injection h with h
    subst h
    exact vfun_ok eok_l_heldSpace Try.func20 rfl (by rw [v_l_heldSpace]; simp only at hy; rw [hy]; rfl)
  · cases h
end
end Go.Proofs.Ytggpihbcaebpjaa

set_option linter.unusedVariables false
set_option maxRecDepth 100000
namespace Go.Proofs.Ytggpihbcaebpjaa
open Go.V
noncomputable section
def J_l_FnExactLayRecord : Joins := [(.r, ⟨[.bool], [(4, .one (.h 0))], [], [], [], []⟩)]
def ann_l_FnExactLayRecord : Ann := .seq .nil (.seq .nil (.seq .nil (.seq .nil (.seq .nil (.seq .nil (.seq .nil (.seq .nil (.seq .nil (.seq (.seq (.reg [(.n, ⟨[.sl false 5 (.int .u8), .int .i64, .bool, .sl true 5 (.int .u8), .int .i64, .bool, .bool, .sl false 23 (.sl false 5 (.int .u8)), .sl false 5 (.int .u8), .sl false 3 (.int .i64), .sl false 3 (.int .i64), .sl true 23 (.sl true 5 (.int .u8)), .sl true 5 (.int .u8), .sl true 3 (.int .i64), .sl true 3 (.int .i64), .sl true 23 (.sl true 5 (.int .u8)), .sl true 5 (.int .u8), .sl true 3 (.int .i64), .sl true 3 (.int .i64), .sl true 23 (.sl true 5 (.int .u8)), .sl true 5 (.int .u8), .sl true 3 (.int .i64), .sl true 3 (.int .i64)], [(1, .one (.h 0)), (2, .pl 2 0), (6, .pl 6 0), (7, .one (.h 1)), (8, .one (.h 2)), (9, .pl 9 0), (10, .one (.vw 243712)), (11, .pl 11 0), (12, .one (.h 4)), (13, .one (.h 5)), (61, .one (.h 6))], [(2, [.h 7, .h 8, .h 9, .h 10]), (6, [.vw 243713, .vw 243714, .vw 243715, .vw 243716]), (9, [.vw 243717, .vw 243718, .vw 243719, .vw 243720]), (11, [.vw 243721, .vw 243722, .vw 243723, .vw 243724])], [(243712, 3), (243713, 11), (243714, 12), (243715, 13), (243716, 14), (243717, 15), (243718, 16), (243719, 17), (243720, 18), (243721, 19), (243722, 20), (243723, 21), (243724, 22)], [], []⟩)]) .nil) (.seq .nil (.seq .nil (.seq .nil (.seq .nil (.seq .nil (.seq (.seq (.reg [(.n, ⟨[.sl false 5 (.int .u8), .int .i64, .bool, .bool, .sl false 23 (.sl false 5 (.int .u8)), .sl false 5 (.int .u8), .sl false 3 (.int .i64), .sl false 3 (.int .i64), .sl true 23 (.sl true 5 (.int .u8)), .sl true 5 (.int .u8), .sl true 3 (.int .i64), .sl true 3 (.int .i64), .sl true 23 (.sl true 5 (.int .u8)), .sl true 5 (.int .u8), .sl true 3 (.int .i64), .sl true 3 (.int .i64)], [(1, .one (.h 0)), (2, .pl 2 0), (6, .pl 6 0), (7, .one (.h 1)), (8, .one (.h 2)), (11, .pl 11 0), (95, .one (.h 3))], [(2, [.h 4, .h 5, .h 6, .h 7]), (6, [.vw 243725, .vw 243726, .vw 243727, .vw 243728]), (11, [.vw 243729, .vw 243730, .vw 243731, .vw 243732])], [(243725, 8), (243726, 9), (243727, 10), (243728, 11), (243729, 12), (243730, 13), (243731, 14), (243732, 15)], [], []⟩)]) .nil) (.seq .nil (.seq .nil (.seq .nil (.seq .nil (.seq .nil (.seq .nil (.seq .nil (.seq (.seq (.reg [(.n, ⟨[.int .i64, .bool, .sl true 23 (.sl true 5 (.int .u8)), .sl true 5 (.int .u8), .sl true 3 (.int .i64), .sl true 3 (.int .i64)], [(11, .pl 11 0), (15, .one (.h 0)), (129, .one (.h 1))], [(11, [.vw 243733, .vw 243734, .vw 243735, .vw 243736])], [(243733, 2), (243734, 3), (243735, 4), (243736, 5)], [], []⟩)]) .nil) .nil)))))))))))))))))))))))
def env_l_FnExactLayRecord : Env := envOf ti [k_l_szSpace, k_l_toSpace, k_l_toByteS, k_s_LayRecord, k_i_LayRecord, k_l_eqSpace, k_l_eqByteS, k_l_markSpace_l, k_l_markByteS_l, k_l_heldSpace] []
theorem eok_l_FnExactLayRecord : EnvOk Try.prog env_l_FnExactLayRecord := envOf_ok tab mix _ _ (by
  intro k hk
  simp only [List.mem_cons, List.not_mem_nil, or_false] at hk
  rcases hk with rfl | rfl | rfl | rfl | rfl | rfl | rfl | rfl | rfl | rfl
  · exact s_l_szSpace
  · exact s_l_toSpace
  · exact s_l_toByteS
  · exact s_s_LayRecord
  · exact s_i_LayRecord
  · exact s_l_eqSpace
  · exact s_l_eqByteS
  · exact s_l_markSpace_l
  · exact s_l_markByteS_l
  · exact s_l_heldSpace)
theorem v_l_FnExactLayRecord (x0 : List (List Int)) (x1 : List Int) (x2 : List Int) (x3 : List Int) (x4 : List Int) : (vfun env_l_FnExactLayRecord Try.f8 J_l_FnExactLayRecord ann_l_FnExactLayRecord [] [.ag [⟨.sl false 23 (.sl false 5 (.int .u8)), x0⟩, ⟨.sl false 5 (.int .u8), x1⟩, ⟨.sl false 3 (.int .i64), x2⟩, ⟨.sl false 3 (.int .i64), x3⟩], .one ⟨.sl false 5 (.int .u8), x4⟩] []).run = (G.l_FnExactLayRecord x0 x1 x2 x3 x4).bind fun y => some (Res.mk [.one ⟨.bool, y⟩] [] []) := by kernel_rfl
def k_l_FnExactLayRecord : Kn := ⟨8, [0, 0], fun args rows => match args, rows with
  | [.ag [⟨.sl false 23 (.sl false 5 (.int .u8)), x0⟩, ⟨.sl false 5 (.int .u8), x1⟩, ⟨.sl false 3 (.int .i64), x2⟩, ⟨.sl false 3 (.int .i64), x3⟩], .one ⟨.sl false 5 (.int .u8), x4⟩], [] => some ⟨_, G.l_FnExactLayRecord x0 x1 x2 x3 x4, fun y => ⟨[.one ⟨.bool, y⟩], [], []⟩⟩
  | _, _ => none, []⟩
theorem s_l_FnExactLayRecord : KnOk Try.prog k_l_FnExactLayRecord := by
  intro args rows a h y hy
  simp only [k_l_FnExactLayRecord] at h
  split at h
  · injection h with h
    subst h
    exact vfun_ok eok_l_FnExactLayRecord Try.func8 rfl (by rw [v_l_FnExactLayRecord]; simp only at hy; rw [hy]; rfl)
  · cases h
end
end Go.Proofs.Ytggpihbcaebpjaa
