import Derived.Test.YtggpihbcaebpjaaQSsD
import Derived.Test.YtggpihbcaebpjaaProg
import Derived.KernelRfl
import Derived.Test.YtggpihbcaebpjaaRows
import Derived.WalkKit
import Derived.ProofKit
import Derived.OpenShut
import Derived.ShutString
import Derived.ChangeOld
import Derived.Below
set_option linter.unusedVariables false
set_option maxRecDepth 100000
namespace Go.Proofs.Ytggpihbcaebpjaa
open Go.V
def tiL : List TI := [
  .other,
  .other,
  .cell (.int .i64),
  .cell (.int .i64),
  .cell .bool,
  .cell (.int .u8),
  .cell (.int .u8),
  .other,
  .other,
  .cell .str,
  .cell .str,
  .cell .str,
  .cell (.int .u64),
  .other,
  .other,
  .ptr 262,
  .ptr 265,
  .ptr 274,
  .other,
  .other,
  .other,
  .cell (.int .i32),
  .slice 23 [(.sl true 5 (.int .u8))] 24,
  .slice 5 [(.int .u8)] 1,
  .slice 3 [(.int .i64)] 8,
  .struct [(0, 1, false), (1, 1, false), (2, 1, false), (3, 1, false)] [(.sl true 23 (.sl true 5 (.int .u8))), (.sl true 5 (.int .u8)), (.sl true 3 (.int .i64)), (.sl true 3 (.int .i64))] false,
  .struct [(0, 1, false), (1, 1, false), (2, 1, false), (3, 1, false)] [(.sl true 23 (.sl true 5 (.int .u8))), (.sl true 5 (.int .u8)), (.sl true 3 (.int .i64)), (.sl true 3 (.int .i64))] false,
  .other,
  .struct [(0, 1, false), (1, 1, false), (2, 1, false), (3, 1, false)] [(.sl true 23 (.sl true 5 (.int .u8))), (.sl true 5 (.int .u8)), (.sl true 3 (.int .i64)), (.sl true 3 (.int .i64))] false,
  .other,
  .other,
  .other,
  .other,
  .other,
  .other,
  .other,
  .other,
  .other,
  .other,
  .other,
  .slice 44 [(.int .i64), (.sl true 5 (.int .u8))] 32,
  .other,
  .other,
  .struct [(0, 1, false), (1, 1, false)] [(.int .i64), (.sl true 5 (.int .u8))] false,
  .struct [(0, 1, false), (1, 1, false)] [(.int .i64), (.sl true 5 (.int .u8))] false,
  .cell (.int .u64),
  .other,
  .slice 196 [(.int .i64), (.sl true 5 (.int .u8)), .bool, (.int .i64), (.int .i64)] 56,
  .struct [(0, 1, false), (1, 1, false), (2, 1, false)] [(.int .i64), (.int .i64), (.sl true 196 (.pair (.int .i64) (.pair (.sl true 5 (.int .u8)) (.pair .bool (.pair (.int .i64) (.int .i64))))))] false,
  .struct [(0, 1, false), (1, 1, false), (2, 1, false)] [(.int .i64), (.int .i64), (.sl true 196 (.pair (.int .i64) (.pair (.sl true 5 (.int .u8)) (.pair .bool (.pair (.int .i64) (.int .i64))))))] false,
  .struct [(0, 1, false), (1, 1, false), (2, 1, false), (3, 1, false)] [(.sl true 23 (.sl true 5 (.int .u8))), (.int .i64), .bool, (.int .i64)] false,
  .struct [(0, 1, false), (1, 1, false), (2, 1, false), (3, 1, false)] [(.sl true 23 (.sl true 5 (.int .u8))), (.int .i64), .bool, (.int .i64)] false,
  .other,
  .other,
  .slice 134 [(.int .i64), (.sl true 5 (.int .u8)), .bool, (.int .i64), (.int .i64)] 56,
  .struct [(0, 1, false), (1, 1, false), (2, 1, false)] [(.int .i64), (.int .i64), (.sl true 134 (.pair (.int .i64) (.pair (.sl true 5 (.int .u8)) (.pair .bool (.pair (.int .i64) (.int .i64))))))] false,
  .struct [(0, 1, false), (1, 1, false), (2, 1, false)] [(.int .i64), (.int .i64), (.sl true 134 (.pair (.int .i64) (.pair (.sl true 5 (.int .u8)) (.pair .bool (.pair (.int .i64) (.int .i64))))))] false,
  .struct [(0, 1, false), (1, 1, false), (2, 1, false), (3, 1, false)] [(.sl true 23 (.sl true 5 (.int .u8))), (.int .i64), .bool, (.int .i64)] false,
  .other,
  .other,
  .other,
  .other,
  .other,
  .other,
  .other,
  .other,
  .other,
  .other,
  .other,
  .other,
  .other,
  .other,
  .other,
  .other,
  .other,
  .other,
  .other,
  .other,
  .other,
  .other,
  .other,
  .slice 88 [(.int .i64), (.int .i64)] 16,
  .other,
  .other,
  .other,
  .other,
  .other,
  .struct [(0, 1, false), (1, 1, false)] [(.int .i64), (.int .i64)] true,
  .struct [(0, 1, false), (1, 1, false)] [(.int .i64), (.int .i64)] true,
  .other,
  .other,
  .other,
  .other,
  .other,
  .other,
  .other,
  .other,
  .other,
  .other,
  .other,
  .other,
  .other,
  .slice 183 [(.int .i64), (.int .i64)] 16,
  .other,
  .other,
  .other,
  .other,
  .other,
  .other,
  .other,
  .other,
  .other,
  .other,
  .other,
  .ptr 28,
  .other,
  .other,
  .other,
  .other,
  .other,
  .ptr 123,
  .cell (.int .u64),
  .struct [(0, 1, false), (1, 1, false), (2, 1, false)] [(.sl true 5 (.int .u8)), (.int .i64), (.int .u64)] false,
  .struct [(0, 1, false), (1, 1, false), (2, 1, false)] [(.sl true 5 (.int .u8)), (.int .i64), (.int .u64)] false,
  .other,
  .other,
  .other,
  .other,
  .other,
  .other,
  .other,
  .other,
  .other,
  .struct [(0, 1, false), (1, 1, false), (2, 1, false), (3, 1, false), (4, 1, false)] [(.int .i64), (.sl true 5 (.int .u8)), .bool, (.int .i64), (.int .i64)] false,
  .struct [(0, 1, false), (1, 1, false), (2, 1, false), (3, 1, false), (4, 1, false)] [(.int .i64), (.sl true 5 (.int .u8)), .bool, (.int .i64), (.int .i64)] false,
  .other,
  .other,
  .ptr 134,
  .other,
  .other,
  .other,
  .other,
  .other,
  .other,
  .other,
  .other,
  .other,
  .other,
  .other,
  .other,
  .other,
  .other,
  .other,
  .other,
  .other,
  .other,
  .other,
  .other,
  .other,
  .other,
  .slice 24 [(.sl true 3 (.int .i64))] 24,
  .struct [(0, 1, false), (1, 1, false), (2, 1, false)] [(.int .i64), (.sl true 3 (.int .i64)), (.sl true 24 (.sl true 3 (.int .i64)))] false,
  .struct [(0, 1, false), (1, 1, false), (2, 1, false)] [(.int .i64), (.sl true 3 (.int .i64)), (.sl true 24 (.sl true 3 (.int .i64)))] false,
  .other,
  .other,
  .other,
  .other,
  .other,
  .other,
  .other,
  .other,
  .other,
  .other,
  .other,
  .other,
  .other,
  .other,
  .other,
  .other,
  .other,
  .other,
  .other,
  .other,
  .struct [(0, 1, false), (1, 1, false)] [(.int .i64), (.int .i64)] true,
  .other,
  .other,
  .other,
  .other,
  .other,
  .other,
  .other,
  .other,
  .other,
  .other,
  .other,
  .other,
  .struct [(0, 1, false), (1, 1, false), (2, 1, false), (3, 1, false), (4, 1, false)] [(.int .i64), (.sl true 5 (.int .u8)), .bool, (.int .i64), (.int .i64)] false,
  .other,
  .ptr 57,
  .other,
  .other,
  .other,
  .other,
  .other,
  .other,
  .other,
  .other,
  .other,
  .other,
  .other,
  .other,
  .other,
  .slice 216 [(.int .i64), (.int .i64), .str] 32,
  .other,
  .other,
  .struct [(0, 1, false), (1, 1, false), (2, 1, false)] [(.int .i64), (.int .i64), .str] true,
  .struct [(0, 1, false), (1, 1, false), (2, 1, false)] [(.int .i64), (.int .i64), .str] true,
  .other,
  .other,
  .slice 9 [.str] 16,
  .other,
  .slice 4 [.bool] 1,
  .other,
  .other,
  .other,
  .other,
  .other,
  .other,
  .other,
  .other,
  .other,
  .other,
  .other,
  .other,
  .other,
  .other,
  .other,
  .other,
  .ptr 56,
  .other,
  .other,
  .other,
  .other,
  .other,
  .other,
  .other,
  .other,
  .other,
  .other,
  .other,
  .other,
  .other,
  .other,
  .other,
  .other,
  .other,
  .other,
  .other,
  .other,
  .other,
  .other,
  .other,
  .other,
  .other,
  .other,
  .other,
  .cell (.int .u32),
  .cell (.int .u8),
  .cell (.int .u8),
  .other,
  .ptr 5,
  .cell (.int .i32),
  .cell (.int .i32),
  .other,
  .other,
  .other]
def ti (t : TypeId) : TI := tiL.getD t .other
theorem tab : TabOk Try.prog ti := tabOf Try.prog tiL (by kernel_rfl)
theorem mix : Try.prog.follows .mixedOrders = true := by kernel_rfl
end Go.Proofs.Ytggpihbcaebpjaa

set_option maxRecDepth 100000
namespace Go.Proofs.Ytggpihbcaebpjaa
open Go.V
theorem own : ownKnob Try.prog.godebug = none := by kernel_rfl
theorem laidOut : laidOutB Try.prog = true := by kernel_rfl
theorem tab2 : ∀ t, tyOk2 Try.prog ti t (ti t) = true := tabOf2 Try.prog tiL (by kernel_rfl)
end Go.Proofs.Ytggpihbcaebpjaa

set_option linter.unusedVariables false
set_option maxRecDepth 100000
namespace Go.Proofs.Ytggpihbcaebpjaa
open Go.V
noncomputable section
def J_s_l1Cur_next_f : Joins := [(.r, ⟨[.int .i64, .sl false 5 (.int .u8), .int .i64, .int .u64], [(2, .one (.h 0))], [(63, [.h 1, .h 2, .h 3])], [], [], []⟩)]
def ann_s_l1Cur_next_f : Ann := .seq .nil (.seq .nil (.seq (.seq .nil (.cond [(.n, ⟨[.int .i64, .sl false 5 (.int .u8), .int .i64, .int .u64], [(0, .pl 63 0), (3, .one (.h 0))], [(63, [.h 1, .h 2, .h 3])], [], [], []⟩)] .nil .nil)) .nil))
def env_s_l1Cur_next_f : Env := envOf ti [] []
theorem eok_s_l1Cur_next_f : EnvOk Try.prog env_s_l1Cur_next_f := envOf_ok tab mix _ _ (by
  intro k hk; cases hk)
theorem v_s_l1Cur_next_f (x0 : List Int) (x1 : Int) (x2 : Int) : (vfun env_s_l1Cur_next_f Try.f175 J_s_l1Cur_next_f ann_s_l1Cur_next_f [] [.pl 0 0] [[⟨.sl false 5 (.int .u8), x0⟩, ⟨.int .i64, x1⟩, ⟨.int .u64, x2⟩]]).run = (G.s_l1Cur_next_f x0 x1 x2).bind fun y => some (Res.mk [.one ⟨.int .i64, y.1⟩] [[⟨.sl false 5 (.int .u8), y.2.1⟩, ⟨.int .i64, y.2.2.1⟩, ⟨.int .u64, y.2.2.2⟩]] []) := by kernel_rfl
def k_s_l1Cur_next_f : Kn := ⟨175, [0], fun args rows => match args, rows with
  | [.pl 0 0], [[⟨.sl false 5 (.int .u8), x0⟩, ⟨.int .i64, x1⟩, ⟨.int .u64, x2⟩]] => some ⟨_, G.s_l1Cur_next_f x0 x1 x2, fun y => ⟨[.one ⟨.int .i64, y.1⟩], [[⟨.sl false 5 (.int .u8), y.2.1⟩, ⟨.int .i64, y.2.2.1⟩, ⟨.int .u64, y.2.2.2⟩]], []⟩⟩
  | _, _ => none, []⟩
theorem s_s_l1Cur_next_f : KnOk Try.prog k_s_l1Cur_next_f := by
  intro args rows a h y hy
  simp only [k_s_l1Cur_next_f] at h
  split at h
  · injection h with h
    subst h
    exact vfun_ok eok_s_l1Cur_next_f Try.func175 rfl (by rw [v_s_l1Cur_next_f]; simp only at hy; rw [hy]; rfl)
  · cases h
def J_s_l1Cur_pick_f : Joins := [(.r, ⟨[.int .i64, .sl false 5 (.int .u8), .int .i64, .int .u64], [(4, .one (.h 0))], [(21, [.h 1, .h 2, .h 3])], [], [], []⟩)]
def ann_s_l1Cur_pick_f : Ann := .seq .nil (.seq .nil (.seq .nil (.seq (.seq .nil (.cond [(.n, ⟨[.int .i64, .int .i64, .sl false 5 (.int .u8), .int .i64, .int .u64], [(1, .one (.h 0)), (5, .one (.h 1))], [(21, [.h 2, .h 3, .h 4])], [], [], []⟩)] .nil .nil)) .nil)))
def env_s_l1Cur_pick_f : Env := envOf ti [k_s_l1Cur_next_f] []
theorem eok_s_l1Cur_pick_f : EnvOk Try.prog env_s_l1Cur_pick_f := envOf_ok tab mix _ _ (by
  intro k hk
  simp only [List.mem_cons, List.not_mem_nil, or_false] at hk
  rcases hk with rfl
  · exact s_s_l1Cur_next_f)
theorem v_s_l1Cur_pick_f (x0 : Int) (x1 : List Int) (x2 : Int) (x3 : Int) : (vfun env_s_l1Cur_pick_f Try.f126 J_s_l1Cur_pick_f ann_s_l1Cur_pick_f [] [.pl 0 0, .one ⟨.int .i64, x0⟩] [[⟨.sl false 5 (.int .u8), x1⟩, ⟨.int .i64, x2⟩, ⟨.int .u64, x3⟩]]).run = (G.s_l1Cur_pick_f x0 x1 x2 x3).bind fun y => some (Res.mk [.one ⟨.int .i64, y.1⟩] [[⟨.sl false 5 (.int .u8), y.2.1⟩, ⟨.int .i64, y.2.2.1⟩, ⟨.int .u64, y.2.2.2⟩]] []) := by kernel_rfl
def k_s_l1Cur_pick_f : Kn := ⟨126, [0, 0], fun args rows => match args, rows with
  | [.pl 0 0, .one ⟨.int .i64, x0⟩], [[⟨.sl false 5 (.int .u8), x1⟩, ⟨.int .i64, x2⟩, ⟨.int .u64, x3⟩]] => some ⟨_, G.s_l1Cur_pick_f x0 x1 x2 x3, fun y => ⟨[.one ⟨.int .i64, y.1⟩], [[⟨.sl false 5 (.int .u8), y.2.1⟩, ⟨.int .i64, y.2.2.1⟩, ⟨.int .u64, y.2.2.2⟩]], []⟩⟩
  | _, _ => none, []⟩
theorem s_s_l1Cur_pick_f : KnOk Try.prog k_s_l1Cur_pick_f := by
  intro args rows a h y hy
  simp only [k_s_l1Cur_pick_f] at h
  split at h
  · injection h with h
    subst h
    exact vfun_ok eok_s_l1Cur_pick_f Try.func126 rfl (by rw [v_s_l1Cur_pick_f]; simp only at hy; rw [hy]; rfl)
  · cases h
def J_s_l1In : Joins := [(.r, ⟨[.bool], [(6, .one (.h 0))], [], [], [], []⟩)]
def ann_s_l1In : Ann := .seq .nil (.seq (.reg [(.n, ⟨[.bool], [(6, .one (.h 0))], [], [], [], []⟩)]) .nil)
def env_s_l1In : Env := envOf ti [] []
theorem eok_s_l1In : EnvOk Try.prog env_s_l1In := envOf_ok tab mix _ _ (by
  intro k hk; cases hk)
theorem v_s_l1In (x0 : Int) (x1 : Int) (x2 : Int) : (vfun env_s_l1In Try.f148 J_s_l1In ann_s_l1In [] [.one ⟨.int .i64, x0⟩, .one ⟨.int .i64, x1⟩, .one ⟨.int .i64, x2⟩] []).run = (G.s_l1In x0 x1 x2).bind fun y => some (Res.mk [.one ⟨.bool, y⟩] [] []) := by kernel_rfl
def k_s_l1In : Kn := ⟨148, [0, 0, 0], fun args rows => match args, rows with
  | [.one ⟨.int .i64, x0⟩, .one ⟨.int .i64, x1⟩, .one ⟨.int .i64, x2⟩], [] => some ⟨_, G.s_l1In x0 x1 x2, fun y => ⟨[.one ⟨.bool, y⟩], [], []⟩⟩
  | _, _ => none, []⟩
theorem s_s_l1In : KnOk Try.prog k_s_l1In := by
  intro args rows a h y hy
  simp only [k_s_l1In] at h
  split at h
  · injection h with h
    subst h
    exact vfun_ok eok_s_l1In Try.func148 rfl (by rw [v_s_l1In]; simp only at hy; rw [hy]; rfl)
  · cases h
def J_s_NewDisk : Joins := [(.r, ⟨[.bool, .sl true 23 (.sl true 5 (.int .u8)), .int .i64, .bool, .int .i64], [(2, .pl 2 0), (3, .one (.h 0))], [(2, [.vw 123969, .h 2, .h 3, .h 4])], [(123969, 1)], [], []⟩)]
def ann_s_NewDisk : Ann := .seq .nil (.seq .nil (.seq .nil (.seq (.block [] (.loop ⟨[.int .i64, .int .i64, .bool, .int .i64, .sl true 23 (.sl true 5 (.int .u8)), .int .i64, .bool, .int .i64], [(0, .one (.h 0)), (2, .pl 2 0), (4, .pl 4 0)], [(2, [.nil, .h 1, .h 2, .h 3]), (4, [.vw 123904, .h 5, .h 6, .h 7])], [(123904, 4)], [], []⟩ [(.x 0, ⟨[.int .i64, .bool, .int .i64, .sl true 23 (.sl true 5 (.int .u8)), .int .i64, .bool, .int .i64], [(2, .pl 2 0), (4, .pl 4 0)], [(2, [.nil, .h 0, .h 1, .h 2]), (4, [.vw 123968, .h 4, .h 5, .h 6])], [(123968, 3)], [], []⟩)] .nil)) .nil)))
def env_s_NewDisk : Env := envOf ti [k_s_l1In] []
theorem eok_s_NewDisk : EnvOk Try.prog env_s_NewDisk := envOf_ok tab mix _ _ (by
  intro k hk
  simp only [List.mem_cons, List.not_mem_nil, or_false] at hk
  rcases hk with rfl
  · exact s_s_l1In)
theorem v_s_NewDisk (x0 : Int) : (vfun env_s_NewDisk Try.f205 J_s_NewDisk ann_s_NewDisk [] [.one ⟨.int .i64, x0⟩] []).run = (G.s_NewDisk x0).bind fun y => some (Res.mk [.ag [⟨.sl true 23 (.sl true 5 (.int .u8)), y.2.1⟩, ⟨.int .i64, y.2.2.1⟩, ⟨.bool, y.2.2.2.1⟩, ⟨.int .i64, y.2.2.2.2⟩], .one ⟨.bool, y.1⟩] [] []) := by kernel_rfl
def k_s_NewDisk : Kn := ⟨205, [0], fun args rows => match args, rows with
  | [.one ⟨.int .i64, x0⟩], [] => some ⟨_, G.s_NewDisk x0, fun y => ⟨[.ag [⟨.sl true 23 (.sl true 5 (.int .u8)), y.2.1⟩, ⟨.int .i64, y.2.2.1⟩, ⟨.bool, y.2.2.2.1⟩, ⟨.int .i64, y.2.2.2.2⟩], .one ⟨.bool, y.1⟩], [], []⟩⟩
  | _, _ => none, []⟩
theorem s_s_NewDisk : KnOk Try.prog k_s_NewDisk := by
  intro args rows a h y hy
  simp only [k_s_NewDisk] at h
  split at h
  · injection h with h
    subst h
    exact vfun_ok eok_s_NewDisk Try.func205 rfl (by rw [v_s_NewDisk]; simp only at hy; rw [hy]; rfl)
  · cases h
def J_s_l5Set_l : Joins := [(.n, ⟨[.sl true 5 (.int .u8)], [(0, .one (.vw 132097))], [], [(132097, 0)], [], []⟩)]
def ann_s_l5Set_l : Ann := .seq .nil (.cond [(.n, ⟨[.sl true 5 (.int .u8)], [(0, .one (.vw 132096))], [], [(132096, 0)], [], []⟩)] .nil .nil)
def env_s_l5Set_l : Env := envOf ti [] [0]
theorem eok_s_l5Set_l : EnvOk Try.prog env_s_l5Set_l := envOf_ok tab mix _ _ (by
  intro k hk; cases hk)
theorem v_s_l5Set_l (x0 : List Int) (x1 : Int) (x2 : Bool) : (vfun env_s_l5Set_l Try.f150 J_s_l5Set_l ann_s_l5Set_l [(0, 0)] [.one ⟨.sl true 5 (.int .u8), x0⟩, .one ⟨.int .i64, x1⟩, .one ⟨.bool, x2⟩] []).run = (G.s_l5Set_l x0 x1 x2).bind fun y => some (Res.mk [] [] [((0, 0), ⟨.sl true 5 (.int .u8), y⟩)]) := by kernel_rfl
def k_s_l5Set_l : Kn := ⟨150, [2, 0, 0], fun args rows => match args, rows with
  | [.one ⟨.sl true 5 (.int .u8), x0⟩, .one ⟨.int .i64, x1⟩, .one ⟨.bool, x2⟩], [] => some ⟨_, G.s_l5Set_l x0 x1 x2, fun y => ⟨[], [], [((0, 0), ⟨.sl true 5 (.int .u8), y⟩)]⟩⟩
  | _, _ => none, []⟩
theorem s_s_l5Set_l : KnOk Try.prog k_s_l5Set_l := by
  intro args rows a h y hy
  simp only [k_s_l5Set_l] at h
  split at h
  · injection h with h
    subst h
    exact vfun_ok eok_s_l5Set_l Try.func150 rfl (by rw [v_s_l5Set_l]; simp only at hy; rw [hy]; rfl)
  · cases h
def J_s_l5Fresh : Joins := [(.r, ⟨[.sl true 23 (.sl true 5 (.int .u8)), .sl true 5 (.int .u8)], [(2, .pl 2 0)], [(2, [.vw 128066, .vw 128067, .nil, .nil])], [(128066, 0), (128067, 1)], [], []⟩)]
def ann_s_l5Fresh : Ann := .seq .nil (.seq .nil (.seq .nil (.seq (.seq .nil (.block [] (.loop ⟨[.int .i64, .sl true 23 (.sl true 5 (.int .u8)), .sl true 5 (.int .u8)], [(2, .pl 2 0), (5, .pl 5 0), (6, .one (.h 0))], [(2, [.nil, .nil, .nil, .nil]), (5, [.vw 128000, .vw 128001, .nil, .nil])], [(128000, 1), (128001, 2)], [], []⟩ [(.x 0, ⟨[.sl true 23 (.sl true 5 (.int .u8)), .sl true 5 (.int .u8)], [(2, .pl 2 0), (5, .pl 5 0)], [(2, [.nil, .nil, .nil, .nil]), (5, [.vw 128064, .vw 128065, .nil, .nil])], [(128064, 0), (128065, 1)], [], []⟩)] .nil))) .nil)))
def env_s_l5Fresh : Env := envOf ti [k_s_NewDisk, k_s_l5Set_l] []
theorem eok_s_l5Fresh : EnvOk Try.prog env_s_l5Fresh := envOf_ok tab mix _ _ (by
  intro k hk
  simp only [List.mem_cons, List.not_mem_nil, or_false] at hk
  rcases hk with rfl | rfl
  · exact s_s_NewDisk
  · exact s_s_l5Set_l)
theorem v_s_l5Fresh (x0 : Int) : (vfun env_s_l5Fresh Try.f156 J_s_l5Fresh ann_s_l5Fresh [] [.one ⟨.int .i64, x0⟩] []).run = (G.s_l5Fresh x0).bind fun y => some (Res.mk [.ag [⟨.sl true 23 (.sl true 5 (.int .u8)), y.1⟩, ⟨.sl true 5 (.int .u8), y.2⟩, ⟨.sl true 3 (.int .i64), []⟩, ⟨.sl true 3 (.int .i64), []⟩]] [] []) := by kernel_rfl
def k_s_l5Fresh : Kn := ⟨156, [0], fun args rows => match args, rows with
  | [.one ⟨.int .i64, x0⟩], [] => some ⟨_, G.s_l5Fresh x0, fun y => ⟨[.ag [⟨.sl true 23 (.sl true 5 (.int .u8)), y.1⟩, ⟨.sl true 5 (.int .u8), y.2⟩, ⟨.sl true 3 (.int .i64), []⟩, ⟨.sl true 3 (.int .i64), []⟩]], [], []⟩⟩
  | _, _ => none, []⟩
theorem s_s_l5Fresh : KnOk Try.prog k_s_l5Fresh := by
  intro args rows a h y hy
  simp only [k_s_l5Fresh] at h
  split at h
  · injection h with h
    subst h
    exact vfun_ok eok_s_l5Fresh Try.func156 rfl (by rw [v_s_l5Fresh]; simp only at hy; rw [hy]; rfl)
  · cases h
def J_s_l5Used : Joins := [(.r, ⟨[.bool], [(4, .one (.h 0))], [], [], [], []⟩)]
def ann_s_l5Used : Ann := .nil
def env_s_l5Used : Env := envOf ti [] []
theorem eok_s_l5Used : EnvOk Try.prog env_s_l5Used := envOf_ok tab mix _ _ (by
  intro k hk; cases hk)
theorem v_s_l5Used (x0 : List Int) (x1 : Int) : (vfun env_s_l5Used Try.f149 J_s_l5Used ann_s_l5Used [] [.one ⟨.sl false 5 (.int .u8), x0⟩, .one ⟨.int .i64, x1⟩] []).run = (G.s_l5Used x0 x1).bind fun y => some (Res.mk [.one ⟨.bool, y⟩] [] []) := by kernel_rfl
def k_s_l5Used : Kn := ⟨149, [0, 0], fun args rows => match args, rows with
  | [.one ⟨.sl false 5 (.int .u8), x0⟩, .one ⟨.int .i64, x1⟩], [] => some ⟨_, G.s_l5Used x0 x1, fun y => ⟨[.one ⟨.bool, y⟩], [], []⟩⟩
  | _, _ => none, []⟩
theorem s_s_l5Used : KnOk Try.prog k_s_l5Used := by
  intro args rows a h y hy
  simp only [k_s_l5Used] at h
  split at h
  · injection h with h
    subst h
    exact vfun_ok eok_s_l5Used Try.func149 rfl (by rw [v_s_l5Used]; simp only at hy; rw [hy]; rfl)
  · cases h
def J_s_l5Put : Joins := [(.r, ⟨[.sl true 3 (.int .i64)], [(4, .one (.vw 151619))], [], [(151619, 0)], [], []⟩)]
def ann_s_l5Put : Ann := .seq .nil (.seq .nil (.seq (.block [] (.loop ⟨[.sl true 3 (.int .i64), .int .i64, .int .i64], [(0, .one (.vw 151552)), (1, .one (.h 1)), (5, .one (.h 2))], [], [(151552, 0)], [], []⟩ [(.x 0, ⟨[.sl true 3 (.int .i64), .int .i64, .int .i64], [(0, .one (.vw 151617)), (1, .one (.h 1)), (5, .one (.h 2))], [], [(151617, 0)], [], []⟩)] (.seq (.seq (.reg [(.n, ⟨[.sl true 3 (.int .i64), .int .i64, .int .i64, .bool], [(0, .one (.vw 151616)), (1, .one (.h 1)), (5, .one (.h 2)), (18, .one (.h 3))], [], [(151616, 0)], [], []⟩)]) .nil) .nil))) (.seq (.seq (.reg [(.n, ⟨[.sl true 3 (.int .i64), .int .i64, .int .i64, .bool], [(0, .one (.vw 151618)), (1, .one (.h 1)), (5, .one (.h 2)), (32, .one (.h 3))], [], [(151618, 0)], [], []⟩)]) .nil) .nil)))
def env_s_l5Put : Env := envOf ti [] []
theorem eok_s_l5Put : EnvOk Try.prog env_s_l5Put := envOf_ok tab mix _ _ (by
  intro k hk; cases hk)
theorem v_s_l5Put (x0 : List Int) (x1 : Int) : (vfun env_s_l5Put Try.f136 J_s_l5Put ann_s_l5Put [] [.one ⟨.sl true 3 (.int .i64), x0⟩, .one ⟨.int .i64, x1⟩] []).run = (G.s_l5Put x0 x1).bind fun y => some (Res.mk [.one ⟨.sl true 3 (.int .i64), y⟩] [] []) := by kernel_rfl
def k_s_l5Put : Kn := ⟨136, [1, 0], fun args rows => match args, rows with
  | [.one ⟨.sl true 3 (.int .i64), x0⟩, .one ⟨.int .i64, x1⟩], [] => some ⟨_, G.s_l5Put x0 x1, fun y => ⟨[.one ⟨.sl true 3 (.int .i64), y⟩], [], []⟩⟩
  | _, _ => none, []⟩
theorem s_s_l5Put : KnOk Try.prog k_s_l5Put := by
  intro args rows a h y hy
  simp only [k_s_l5Put] at h
  split at h
  · injection h with h
    subst h
    exact vfun_ok eok_s_l5Put Try.func136 rfl (by rw [v_s_l5Put]; simp only at hy; rw [hy]; rfl)
  · cases h
def J_s_l5Take_oooo : Joins := [(.r, ⟨[.int .i64, .sl true 23 (.sl true 5 (.int .u8)), .sl true 5 (.int .u8), .sl true 3 (.int .i64), .sl true 3 (.int .i64)], [(2, .one (.h 0))], [(44, [.vw 146504, .vw 146505, .vw 146506, .vw 146507])], [(146504, 1), (146505, 2), (146506, 3), (146507, 4)], [], []⟩)]
def ann_s_l5Take_oooo : Ann := .seq .nil (.seq (.seq .nil (.block [] (.loop ⟨[.int .i64, .sl true 23 (.sl true 5 (.int .u8)), .sl true 5 (.int .u8), .sl true 3 (.int .i64), .sl true 3 (.int .i64)], [(0, .pl 44 0), (3, .one (.h 0))], [(44, [.vw 146432, .vw 146433, .vw 146434, .vw 146435])], [(146432, 1), (146433, 2), (146434, 3), (146435, 4)], [], []⟩ [(.x 0, ⟨[.sl true 23 (.sl true 5 (.int .u8)), .sl true 5 (.int .u8), .sl true 3 (.int .i64), .sl true 3 (.int .i64)], [], [(44, [.vw 146496, .vw 146497, .vw 146498, .vw 146499])], [(146496, 0), (146497, 1), (146498, 2), (146499, 3)], [], []⟩), (.r, ⟨[.int .i64, .sl true 23 (.sl true 5 (.int .u8)), .sl true 5 (.int .u8), .sl true 3 (.int .i64), .sl true 3 (.int .i64)], [(2, .one (.h 0))], [(44, [.vw 146500, .vw 146501, .vw 146502, .vw 146503])], [(146500, 1), (146501, 2), (146502, 3), (146503, 4)], [], []⟩)] .nil))) .nil)
def env_s_l5Take_oooo : Env := envOf ti [k_s_l5Used, k_s_l5Set_l, k_s_l5Put] []
theorem eok_s_l5Take_oooo : EnvOk Try.prog env_s_l5Take_oooo := envOf_ok tab mix _ _ (by
  intro k hk
  simp only [List.mem_cons, List.not_mem_nil, or_false] at hk
  rcases hk with rfl | rfl | rfl
  · exact s_s_l5Used
  · exact s_s_l5Set_l
  · exact s_s_l5Put)
theorem v_s_l5Take_oooo (x0 : List (List Int)) (x1 : List Int) (x2 : List Int) (x3 : List Int) : (vfun env_s_l5Take_oooo Try.f76 J_s_l5Take_oooo ann_s_l5Take_oooo [] [.pl 0 0] [[⟨.sl true 23 (.sl true 5 (.int .u8)), x0⟩, ⟨.sl true 5 (.int .u8), x1⟩, ⟨.sl true 3 (.int .i64), x2⟩, ⟨.sl true 3 (.int .i64), x3⟩]]).run = (G.s_l5Take_oooo x0 x1 x2 x3).bind fun y => some (Res.mk [.one ⟨.int .i64, y.1⟩] [[⟨.sl true 23 (.sl true 5 (.int .u8)), y.2.1⟩, ⟨.sl true 5 (.int .u8), y.2.2.1⟩, ⟨.sl true 3 (.int .i64), y.2.2.2.1⟩, ⟨.sl true 3 (.int .i64), y.2.2.2.2⟩]] []) := by kernel_rfl
def k_s_l5Take_oooo : Kn := ⟨76, [0], fun args rows => match args, rows with
  | [.pl 0 0], [[⟨.sl true 23 (.sl true 5 (.int .u8)), x0⟩, ⟨.sl true 5 (.int .u8), x1⟩, ⟨.sl true 3 (.int .i64), x2⟩, ⟨.sl true 3 (.int .i64), x3⟩]] => some ⟨_, G.s_l5Take_oooo x0 x1 x2 x3, fun y => ⟨[.one ⟨.int .i64, y.1⟩], [[⟨.sl true 23 (.sl true 5 (.int .u8)), y.2.1⟩, ⟨.sl true 5 (.int .u8), y.2.2.1⟩, ⟨.sl true 3 (.int .i64), y.2.2.2.1⟩, ⟨.sl true 3 (.int .i64), y.2.2.2.2⟩]], []⟩⟩
  | _, _ => none, []⟩
theorem s_s_l5Take_oooo : KnOk Try.prog k_s_l5Take_oooo := by
  intro args rows a h y hy
  simp only [k_s_l5Take_oooo] at h
  split at h
  · injection h with h
    subst h
    exact vfun_ok eok_s_l5Take_oooo Try.func76 rfl (by rw [v_s_l5Take_oooo]; simp only at hy; rw [hy]; rfl)
  · cases h
def J_s_l1Cur_one_f : Joins := [(.r, ⟨[.bool, .sl false 5 (.int .u8), .int .i64, .int .u64], [(4, .one (.h 0))], [(10, [.h 1, .h 2, .h 3])], [], [], []⟩)]
def ann_s_l1Cur_one_f : Ann := .nil
def env_s_l1Cur_one_f : Env := envOf ti [k_s_l1Cur_pick_f] []
theorem eok_s_l1Cur_one_f : EnvOk Try.prog env_s_l1Cur_one_f := envOf_ok tab mix _ _ (by
  intro k hk
  simp only [List.mem_cons, List.not_mem_nil, or_false] at hk
  rcases hk with rfl
  · exact s_s_l1Cur_pick_f)
theorem v_s_l1Cur_one_f (x0 : Int) (x1 : List Int) (x2 : Int) (x3 : Int) : (vfun env_s_l1Cur_one_f Try.f89 J_s_l1Cur_one_f ann_s_l1Cur_one_f [] [.pl 0 0, .one ⟨.int .i64, x0⟩] [[⟨.sl false 5 (.int .u8), x1⟩, ⟨.int .i64, x2⟩, ⟨.int .u64, x3⟩]]).run = (G.s_l1Cur_one_f x0 x1 x2 x3).bind fun y => some (Res.mk [.one ⟨.bool, y.1⟩] [[⟨.sl false 5 (.int .u8), y.2.1⟩, ⟨.int .i64, y.2.2.1⟩, ⟨.int .u64, y.2.2.2⟩]] []) := by kernel_rfl
def k_s_l1Cur_one_f : Kn := ⟨89, [0, 0], fun args rows => match args, rows with
  | [.pl 0 0, .one ⟨.int .i64, x0⟩], [[⟨.sl false 5 (.int .u8), x1⟩, ⟨.int .i64, x2⟩, ⟨.int .u64, x3⟩]] => some ⟨_, G.s_l1Cur_one_f x0 x1 x2 x3, fun y => ⟨[.one ⟨.bool, y.1⟩], [[⟨.sl false 5 (.int .u8), y.2.1⟩, ⟨.int .i64, y.2.2.1⟩, ⟨.int .u64, y.2.2.2⟩]], []⟩⟩
  | _, _ => none, []⟩
theorem s_s_l1Cur_one_f : KnOk Try.prog k_s_l1Cur_one_f := by
  intro args rows a h y hy
  simp only [k_s_l1Cur_one_f] at h
  split at h
  · injection h with h
    subst h
    exact vfun_ok eok_s_l1Cur_one_f Try.func89 rfl (by rw [v_s_l1Cur_one_f]; simp only at hy; rw [hy]; rfl)
  · cases h
def J_s_l1Cur_block_f : Joins := [(.r, ⟨[.sl true 5 (.int .u8), .sl false 5 (.int .u8), .int .i64, .int .u64], [(2, .one (.vw 122945))], [(21, [.h 1, .h 2, .h 3])], [(122945, 0)], [], []⟩)]
def ann_s_l1Cur_block_f : Ann := .seq .nil (.seq .nil (.seq (.seq .nil (.block [] (.loop ⟨[.sl true 5 (.int .u8), .int .i64, .sl false 5 (.int .u8), .int .i64, .int .u64], [(0, .pl 21 0), (3, .one (.vw 122880)), (4, .one (.h 1))], [(21, [.h 2, .h 3, .h 4])], [(122880, 0)], [], []⟩ [(.x 0, ⟨[.sl true 5 (.int .u8), .sl false 5 (.int .u8), .int .i64, .int .u64], [(3, .one (.vw 122944))], [(21, [.h 1, .h 2, .h 3])], [(122944, 0)], [], []⟩)] .nil))) .nil))
def env_s_l1Cur_block_f : Env := envOf ti [k_s_l1Cur_pick_f, k_s_l1Cur_next_f] []
theorem eok_s_l1Cur_block_f : EnvOk Try.prog env_s_l1Cur_block_f := envOf_ok tab mix _ _ (by
  intro k hk
  simp only [List.mem_cons, List.not_mem_nil, or_false] at hk
  rcases hk with rfl | rfl
  · exact s_s_l1Cur_pick_f
  · exact s_s_l1Cur_next_f)
theorem v_s_l1Cur_block_f (x0 : List Int) (x1 : Int) (x2 : Int) : (vfun env_s_l1Cur_block_f Try.f108 J_s_l1Cur_block_f ann_s_l1Cur_block_f [] [.pl 0 0] [[⟨.sl false 5 (.int .u8), x0⟩, ⟨.int .i64, x1⟩, ⟨.int .u64, x2⟩]]).run = (G.s_l1Cur_block_f x0 x1 x2).bind fun y => some (Res.mk [.one ⟨.sl true 5 (.int .u8), y.1⟩] [[⟨.sl false 5 (.int .u8), y.2.1⟩, ⟨.int .i64, y.2.2.1⟩, ⟨.int .u64, y.2.2.2⟩]] []) := by kernel_rfl
def k_s_l1Cur_block_f : Kn := ⟨108, [0], fun args rows => match args, rows with
  | [.pl 0 0], [[⟨.sl false 5 (.int .u8), x0⟩, ⟨.int .i64, x1⟩, ⟨.int .u64, x2⟩]] => some ⟨_, G.s_l1Cur_block_f x0 x1 x2, fun y => ⟨[.one ⟨.sl true 5 (.int .u8), y.1⟩], [[⟨.sl false 5 (.int .u8), y.2.1⟩, ⟨.int .i64, y.2.2.1⟩, ⟨.int .u64, y.2.2.2⟩]], []⟩⟩
  | _, _ => none, []⟩
theorem s_s_l1Cur_block_f : KnOk Try.prog k_s_l1Cur_block_f := by
  intro args rows a h y hy
  simp only [k_s_l1Cur_block_f] at h
  split at h
  · injection h with h
    subst h
    exact vfun_ok eok_s_l1Cur_block_f Try.func108 rfl (by rw [v_s_l1Cur_block_f]; simp only at hy; rw [hy]; rfl)
  · cases h
def J_s_l5Lay_oooo : Joins := [(.n, ⟨[.sl true 23 (.sl true 5 (.int .u8)), .sl true 5 (.int .u8), .sl true 3 (.int .i64), .sl true 3 (.int .i64)], [], [(28, [.vw 130048, .vw 130049, .vw 130050, .vw 130051])], [(130048, 0), (130049, 1), (130050, 2), (130051, 3)], [], []⟩)]
def ann_s_l5Lay_oooo : Ann := .nil
def env_s_l5Lay_oooo : Env := envOf ti [k_s_l5Put] []
theorem eok_s_l5Lay_oooo : EnvOk Try.prog env_s_l5Lay_oooo := envOf_ok tab mix _ _ (by
  intro k hk
  simp only [List.mem_cons, List.not_mem_nil, or_false] at hk
  rcases hk with rfl
  · exact s_s_l5Put)
theorem v_s_l5Lay_oooo (x0 : Int) (x1 : List Int) (x2 : List (List Int)) (x3 : List Int) (x4 : List Int) (x5 : List Int) : (vfun env_s_l5Lay_oooo Try.f157 J_s_l5Lay_oooo ann_s_l5Lay_oooo [] [.pl 0 0, .one ⟨.int .i64, x0⟩, .one ⟨.sl false 5 (.int .u8), x1⟩] [[⟨.sl true 23 (.sl true 5 (.int .u8)), x2⟩, ⟨.sl true 5 (.int .u8), x3⟩, ⟨.sl true 3 (.int .i64), x4⟩, ⟨.sl true 3 (.int .i64), x5⟩]]).run = (G.s_l5Lay_oooo x0 x1 x2 x3 x4 x5).bind fun y => some (Res.mk [] [[⟨.sl true 23 (.sl true 5 (.int .u8)), y.1⟩, ⟨.sl true 5 (.int .u8), y.2.1⟩, ⟨.sl true 3 (.int .i64), y.2.2.1⟩, ⟨.sl true 3 (.int .i64), y.2.2.2⟩]] []) := by kernel_rfl
def k_s_l5Lay_oooo : Kn := ⟨157, [0, 0, 0], fun args rows => match args, rows with
  | [.pl 0 0, .one ⟨.int .i64, x0⟩, .one ⟨.sl false 5 (.int .u8), x1⟩], [[⟨.sl true 23 (.sl true 5 (.int .u8)), x2⟩, ⟨.sl true 5 (.int .u8), x3⟩, ⟨.sl true 3 (.int .i64), x4⟩, ⟨.sl true 3 (.int .i64), x5⟩]] => some ⟨_, G.s_l5Lay_oooo x0 x1 x2 x3 x4 x5, fun y => ⟨[], [[⟨.sl true 23 (.sl true 5 (.int .u8)), y.1⟩, ⟨.sl true 5 (.int .u8), y.2.1⟩, ⟨.sl true 3 (.int .i64), y.2.2.1⟩, ⟨.sl true 3 (.int .i64), y.2.2.2⟩]], []⟩⟩
  | _, _ => none, []⟩
theorem s_s_l5Lay_oooo : KnOk Try.prog k_s_l5Lay_oooo := by
  intro args rows a h y hy
  simp only [k_s_l5Lay_oooo] at h
  split at h
  · injection h with h
    subst h
    exact vfun_ok eok_s_l5Lay_oooo Try.func157 rfl (by rw [v_s_l5Lay_oooo]; simp only at hy; rw [hy]; rfl)
  · cases h
end
end Go.Proofs.Ytggpihbcaebpjaa

set_option linter.unusedVariables false
set_option maxRecDepth 100000
namespace Go.Proofs.Ytggpihbcaebpjaa
open Go.V
noncomputable section
def J_s_l5Has : Joins := [(.r, ⟨[.bool], [(4, .one (.h 0))], [], [], [], []⟩)]
def ann_s_l5Has : Ann := .seq .nil (.seq (.seq .nil (.block [] (.loop ⟨[.int .i64, .sl false 3 (.int .i64), .int .i64, .int .i64], [(1, .one (.h 0)), (7, .one (.h 1)), (8, .one (.h 2)), (9, .one (.h 3))], [], [], [], []⟩ [(.x 0, ⟨[], [], [], [], [], []⟩), (.r, ⟨[.bool], [(4, .one (.h 0))], [], [], [], []⟩)] .nil))) .nil)
def env_s_l5Has : Env := envOf ti [] []
theorem eok_s_l5Has : EnvOk Try.prog env_s_l5Has := envOf_ok tab mix _ _ (by
  intro k hk; cases hk)
theorem v_s_l5Has (x0 : List Int) (x1 : Int) : (vfun env_s_l5Has Try.f206 J_s_l5Has ann_s_l5Has [] [.one ⟨.sl false 3 (.int .i64), x0⟩, .one ⟨.int .i64, x1⟩] []).run = (G.s_l5Has x0 x1).bind fun y => some (Res.mk [.one ⟨.bool, y⟩] [] []) := by kernel_rfl
def k_s_l5Has : Kn := ⟨206, [0, 0], fun args rows => match args, rows with
  | [.one ⟨.sl false 3 (.int .i64), x0⟩, .one ⟨.int .i64, x1⟩], [] => some ⟨_, G.s_l5Has x0 x1, fun y => ⟨[.one ⟨.bool, y⟩], [], []⟩⟩
  | _, _ => none, []⟩
theorem s_s_l5Has : KnOk Try.prog k_s_l5Has := by
  intro args rows a h y hy
  simp only [k_s_l5Has] at h
  split at h
  · injection h with h
    subst h
    exact vfun_ok eok_s_l5Has Try.func206 rfl (by rw [v_s_l5Has]; simp only at hy; rw [hy]; rfl)
  · cases h
def J_s_l5Live : Joins := [(.r, ⟨[.bool], [(4, .one (.h 0))], [], [], [], []⟩)]
def ann_s_l5Live : Ann := .seq .nil (.seq (.reg [(.n, ⟨[.bool], [(4, .one (.h 0))], [], [], [], []⟩)]) .nil)
def env_s_l5Live : Env := envOf ti [k_s_l1In, k_s_l5Used, k_s_l5Has] []
theorem eok_s_l5Live : EnvOk Try.prog env_s_l5Live := envOf_ok tab mix _ _ (by
  intro k hk
  simp only [List.mem_cons, List.not_mem_nil, or_false] at hk
  rcases hk with rfl | rfl | rfl
  · exact s_s_l1In
  · exact s_s_l5Used
  · exact s_s_l5Has)
theorem v_s_l5Live (x0 : List (List Int)) (x1 : List Int) (x2 : List Int) (x3 : List Int) (x4 : Int) : (vfun env_s_l5Live Try.f158 J_s_l5Live ann_s_l5Live [] [.ag [⟨.sl false 23 (.sl false 5 (.int .u8)), x0⟩, ⟨.sl false 5 (.int .u8), x1⟩, ⟨.sl false 3 (.int .i64), x2⟩, ⟨.sl false 3 (.int .i64), x3⟩], .one ⟨.int .i64, x4⟩] []).run = (G.s_l5Live x0 x1 x2 x3 x4).bind fun y => some (Res.mk [.one ⟨.bool, y⟩] [] []) := by kernel_rfl
def k_s_l5Live : Kn := ⟨158, [0, 0], fun args rows => match args, rows with
  | [.ag [⟨.sl false 23 (.sl false 5 (.int .u8)), x0⟩, ⟨.sl false 5 (.int .u8), x1⟩, ⟨.sl false 3 (.int .i64), x2⟩, ⟨.sl false 3 (.int .i64), x3⟩], .one ⟨.int .i64, x4⟩], [] => some ⟨_, G.s_l5Live x0 x1 x2 x3 x4, fun y => ⟨[.one ⟨.bool, y⟩], [], []⟩⟩
  | _, _ => none, []⟩
theorem s_s_l5Live : KnOk Try.prog k_s_l5Live := by
  intro args rows a h y hy
  simp only [k_s_l5Live] at h
  split at h
  · injection h with h
    subst h
    exact vfun_ok eok_s_l5Live Try.func158 rfl (by rw [v_s_l5Live]; simp only at hy; rw [hy]; rfl)
  · cases h
def J_s_l1Cur_among_f : Joins := [(.r, ⟨[.int .i64, .sl false 5 (.int .u8), .int .i64, .int .u64], [(4, .one (.h 0))], [(13, [.h 1, .h 2, .h 3])], [], [], []⟩)]
def ann_s_l1Cur_among_f : Ann := .nil
def env_s_l1Cur_among_f : Env := envOf ti [k_s_l1Cur_pick_f] []
theorem eok_s_l1Cur_among_f : EnvOk Try.prog env_s_l1Cur_among_f := envOf_ok tab mix _ _ (by
  intro k hk
  simp only [List.mem_cons, List.not_mem_nil, or_false] at hk
  rcases hk with rfl
  · exact s_s_l1Cur_pick_f)
theorem v_s_l1Cur_among_f (x0 : List Int) (x1 : List Int) (x2 : Int) (x3 : Int) : (vfun env_s_l1Cur_among_f Try.f159 J_s_l1Cur_among_f ann_s_l1Cur_among_f [] [.pl 0 0, .one ⟨.sl true 3 (.int .i64), x0⟩] [[⟨.sl false 5 (.int .u8), x1⟩, ⟨.int .i64, x2⟩, ⟨.int .u64, x3⟩]]).run = (G.s_l1Cur_among_f x0 x1 x2 x3).bind fun y => some (Res.mk [.one ⟨.int .i64, y.1⟩] [[⟨.sl false 5 (.int .u8), y.2.1⟩, ⟨.int .i64, y.2.2.1⟩, ⟨.int .u64, y.2.2.2⟩]] []) := by kernel_rfl
def k_s_l1Cur_among_f : Kn := ⟨159, [0, 1], fun args rows => match args, rows with
  | [.pl 0 0, .one ⟨.sl true 3 (.int .i64), x0⟩], [[⟨.sl false 5 (.int .u8), x1⟩, ⟨.int .i64, x2⟩, ⟨.int .u64, x3⟩]] => some ⟨_, G.s_l1Cur_among_f x0 x1 x2 x3, fun y => ⟨[.one ⟨.int .i64, y.1⟩], [[⟨.sl false 5 (.int .u8), y.2.1⟩, ⟨.int .i64, y.2.2.1⟩, ⟨.int .u64, y.2.2.2⟩]], []⟩⟩
  | _, _ => none, []⟩
theorem s_s_l1Cur_among_f : KnOk Try.prog k_s_l1Cur_among_f := by
  intro args rows a h y hy
  simp only [k_s_l1Cur_among_f] at h
  split at h
  · injection h with h
    subst h
    exact vfun_ok eok_s_l1Cur_among_f Try.func159 rfl (by rw [v_s_l1Cur_among_f]; simp only at hy; rw [hy]; rfl)
  · cases h
def J_s_l1Cur_space_f : Joins := [(.r, ⟨[.sl true 23 (.sl true 5 (.int .u8)), .sl true 5 (.int .u8), .sl true 3 (.int .i64), .sl true 3 (.int .i64), .sl false 5 (.int .u8), .int .i64, .int .u64], [(2, .pl 2 0)], [(2, [.vw 183464, .vw 183465, .vw 183466, .vw 183467]), (80, [.h 4, .h 5, .h 6])], [(183464, 0), (183465, 1), (183466, 2), (183467, 3)], [], []⟩)]
def ann_s_l1Cur_space_f : Ann := .seq .nil (.seq .nil (.seq (.seq .nil (.block [] (.loop ⟨[.int .i64, .sl true 23 (.sl true 5 (.int .u8)), .sl true 5 (.int .u8), .sl true 3 (.int .i64), .sl true 3 (.int .i64), .sl false 5 (.int .u8), .int .i64, .int .u64], [(0, .pl 80 0), (2, .pl 2 0), (3, .pl 3 0), (4, .one (.h 0))], [(2, [.nil, .nil, .nil, .nil]), (3, [.vw 183296, .vw 183297, .vw 183298, .vw 183299]), (80, [.h 5, .h 6, .h 7])], [(183296, 1), (183297, 2), (183298, 3), (183299, 4)], [], []⟩ [(.x 0, ⟨[.sl true 23 (.sl true 5 (.int .u8)), .sl true 5 (.int .u8), .sl true 3 (.int .i64), .sl true 3 (.int .i64), .sl false 5 (.int .u8), .int .i64, .int .u64], [(0, .pl 80 0), (2, .pl 2 0), (3, .pl 3 0)], [(2, [.nil, .nil, .nil, .nil]), (3, [.vw 183368, .vw 183369, .vw 183370, .vw 183371]), (80, [.h 4, .h 5, .h 6])], [(183368, 0), (183369, 1), (183370, 2), (183371, 3)], [], []⟩)] (.seq .nil (.seq (.block [] (.seq .nil (.seq (.reg [(.n, ⟨[.int .i64, .int .i64, .bool, .sl true 23 (.sl true 5 (.int .u8)), .sl true 5 (.int .u8), .sl true 3 (.int .i64), .sl true 3 (.int .i64), .sl false 5 (.int .u8), .int .i64, .int .u64], [(0, .pl 80 0), (2, .pl 2 0), (3, .pl 3 0), (4, .one (.h 0)), (5, .one (.h 1)), (23, .one (.h 2))], [(2, [.nil, .nil, .nil, .nil]), (3, [.vw 183360, .vw 183361, .vw 183362, .vw 183363]), (80, [.h 7, .h 8, .h 9])], [(183360, 3), (183361, 4), (183362, 5), (183363, 6)], [], []⟩)]) (.cond [(.n, ⟨[.int .i64, .sl true 23 (.sl true 5 (.int .u8)), .sl true 5 (.int .u8), .sl true 3 (.int .i64), .sl true 3 (.int .i64), .sl false 5 (.int .u8), .int .i64, .int .u64], [(0, .pl 80 0), (2, .pl 2 0), (3, .pl 3 0), (4, .one (.h 0))], [(2, [.nil, .nil, .nil, .nil]), (3, [.vw 183364, .vw 183365, .vw 183366, .vw 183367]), (80, [.h 5, .h 6, .h 7])], [(183364, 1), (183365, 2), (183366, 3), (183367, 4)], [], []⟩)] .nil .nil)))) .nil))))) (.seq (.seq .nil (.cond [(.n, ⟨[.sl true 23 (.sl true 5 (.int .u8)), .sl true 5 (.int .u8), .sl true 3 (.int .i64), .sl true 3 (.int .i64), .sl false 5 (.int .u8), .int .i64, .int .u64], [(0, .pl 80 0), (2, .pl 2 0), (3, .pl 3 0)], [(2, [.nil, .nil, .nil, .nil]), (3, [.vw 183372, .vw 183373, .vw 183374, .vw 183375]), (80, [.h 4, .h 5, .h 6])], [(183372, 0), (183373, 1), (183374, 2), (183375, 3)], [], []⟩)] .nil .nil)) (.seq (.seq .nil (.block [] (.loop ⟨[.int .i64, .sl true 23 (.sl true 5 (.int .u8)), .sl true 5 (.int .u8), .sl true 3 (.int .i64), .sl true 3 (.int .i64), .sl false 5 (.int .u8), .int .i64, .int .u64], [(0, .pl 80 0), (2, .pl 2 0), (3, .pl 3 0), (6, .one (.h 0))], [(2, [.nil, .nil, .nil, .nil]), (3, [.vw 183376, .vw 183377, .vw 183378, .vw 183379]), (80, [.h 5, .h 6, .h 7])], [(183376, 1), (183377, 2), (183378, 3), (183379, 4)], [], []⟩ [(.x 2, ⟨[.sl true 23 (.sl true 5 (.int .u8)), .sl true 5 (.int .u8), .sl true 3 (.int .i64), .sl true 3 (.int .i64), .sl false 5 (.int .u8), .int .i64, .int .u64], [(0, .pl 80 0), (2, .pl 2 0), (3, .pl 3 0)], [(2, [.nil, .nil, .nil, .nil]), (3, [.vw 183448, .vw 183449, .vw 183450, .vw 183451]), (80, [.h 4, .h 5, .h 6])], [(183448, 0), (183449, 1), (183450, 2), (183451, 3)], [], []⟩)] (.seq .nil (.seq (.block [] (.seq (.reg [(.n, ⟨[.int .i64, .bool, .sl true 23 (.sl true 5 (.int .u8)), .sl true 5 (.int .u8), .sl true 3 (.int .i64), .sl true 3 (.int .i64), .sl false 5 (.int .u8), .int .i64, .int .u64], [(0, .pl 80 0), (2, .pl 2 0), (3, .pl 3 0), (6, .one (.h 0)), (44, .one (.h 1))], [(2, [.nil, .nil, .nil, .nil]), (3, [.vw 183440, .vw 183441, .vw 183442, .vw 183443]), (80, [.h 6, .h 7, .h 8])], [(183440, 2), (183441, 3), (183442, 4), (183443, 5)], [], []⟩)]) (.cond [(.n, ⟨[.int .i64, .sl true 23 (.sl true 5 (.int .u8)), .sl true 5 (.int .u8), .sl true 3 (.int .i64), .sl true 3 (.int .i64), .sl false 5 (.int .u8), .int .i64, .int .u64], [(0, .pl 80 0), (2, .pl 2 0), (3, .pl 3 0), (6, .one (.h 0))], [(2, [.nil, .nil, .nil, .nil]), (3, [.vw 183444, .vw 183445, .vw 183446, .vw 183447]), (80, [.h 5, .h 6, .h 7])], [(183444, 1), (183445, 2), (183446, 3), (183447, 4)], [], []⟩)] .nil .nil))) .nil))))) (.seq (.seq .nil (.block [] (.seq .nil (.cond [(.n, ⟨[.sl true 23 (.sl true 5 (.int .u8)), .sl true 5 (.int .u8), .sl true 3 (.int .i64), .sl true 3 (.int .i64), .sl false 5 (.int .u8), .int .i64, .int .u64], [(2, .pl 2 0), (3, .pl 3 0)], [(2, [.nil, .nil, .nil, .nil]), (3, [.vw 183460, .vw 183461, .vw 183462, .vw 183463]), (80, [.h 4, .h 5, .h 6])], [(183460, 0), (183461, 1), (183462, 2), (183463, 3)], [], []⟩)] .nil (.seq .nil (.cond [(.n, ⟨[.sl true 23 (.sl true 5 (.int .u8)), .sl true 5 (.int .u8), .sl true 3 (.int .i64), .sl true 3 (.int .i64), .sl false 5 (.int .u8), .int .i64, .int .u64], [(2, .pl 2 0), (3, .pl 3 0)], [(2, [.nil, .nil, .nil, .nil]), (3, [.vw 183456, .vw 183457, .vw 183458, .vw 183459]), (80, [.h 4, .h 5, .h 6])], [(183456, 0), (183457, 1), (183458, 2), (183459, 3)], [], []⟩)] .nil (.seq .nil (.cond [(.n, ⟨[.sl true 23 (.sl true 5 (.int .u8)), .sl true 5 (.int .u8), .sl true 3 (.int .i64), .sl true 3 (.int .i64), .sl false 5 (.int .u8), .int .i64, .int .u64], [(2, .pl 2 0), (3, .pl 3 0)], [(2, [.nil, .nil, .nil, .nil]), (3, [.vw 183452, .vw 183453, .vw 183454, .vw 183455]), (80, [.h 4, .h 5, .h 6])], [(183452, 0), (183453, 1), (183454, 2), (183455, 3)], [.mc 3 0], []⟩)] .nil .nil)))))))) .nil)))))
def env_s_l1Cur_space_f : Env := envOf ti [k_s_l1Cur_pick_f, k_s_l5Fresh, k_s_l5Take_oooo, k_s_l1Cur_one_f, k_s_l1Cur_block_f, k_s_l5Lay_oooo, k_s_l5Live, k_s_l5Put, k_s_l1Cur_among_f] []
theorem eok_s_l1Cur_space_f : EnvOk Try.prog env_s_l1Cur_space_f := envOf_ok tab mix _ _ (by
  intro k hk
  simp only [List.mem_cons, List.not_mem_nil, or_false] at hk
  rcases hk with rfl | rfl | rfl | rfl | rfl | rfl | rfl | rfl | rfl
  · exact s_s_l1Cur_pick_f
  · exact s_s_l5Fresh
  · exact s_s_l5Take_oooo
  · exact s_s_l1Cur_one_f
  · exact s_s_l1Cur_block_f
  · exact s_s_l5Lay_oooo
  · exact s_s_l5Live
  · exact s_s_l5Put
  · exact s_s_l1Cur_among_f)
theorem v_s_l1Cur_space_f (x0 : List Int) (x1 : Int) (x2 : Int) : (vfun env_s_l1Cur_space_f Try.f88 J_s_l1Cur_space_f ann_s_l1Cur_space_f [] [.pl 0 0] [[⟨.sl false 5 (.int .u8), x0⟩, ⟨.int .i64, x1⟩, ⟨.int .u64, x2⟩]]).run = (G.s_l1Cur_space_f x0 x1 x2).bind fun y => some (Res.mk [.ag [⟨.sl true 23 (.sl true 5 (.int .u8)), y.1⟩, ⟨.sl true 5 (.int .u8), y.2.1⟩, ⟨.sl true 3 (.int .i64), y.2.2.1⟩, ⟨.sl true 3 (.int .i64), y.2.2.2.1⟩]] [[⟨.sl false 5 (.int .u8), y.2.2.2.2.1⟩, ⟨.int .i64, y.2.2.2.2.2.1⟩, ⟨.int .u64, y.2.2.2.2.2.2⟩]] []) := by kernel_rfl
def k_s_l1Cur_space_f : Kn := ⟨88, [0], fun args rows => match args, rows with
  | [.pl 0 0], [[⟨.sl false 5 (.int .u8), x0⟩, ⟨.int .i64, x1⟩, ⟨.int .u64, x2⟩]] => some ⟨_, G.s_l1Cur_space_f x0 x1 x2, fun y => ⟨[.ag [⟨.sl true 23 (.sl true 5 (.int .u8)), y.1⟩, ⟨.sl true 5 (.int .u8), y.2.1⟩, ⟨.sl true 3 (.int .i64), y.2.2.1⟩, ⟨.sl true 3 (.int .i64), y.2.2.2.1⟩]], [[⟨.sl false 5 (.int .u8), y.2.2.2.2.1⟩, ⟨.int .i64, y.2.2.2.2.2.1⟩, ⟨.int .u64, y.2.2.2.2.2.2⟩]], []⟩⟩
  | _, _ => none, []⟩
theorem s_s_l1Cur_space_f : KnOk Try.prog k_s_l1Cur_space_f := by
  intro args rows a h y hy
  simp only [k_s_l1Cur_space_f] at h
  split at h
  · injection h with h
    subst h
    exact vfun_ok eok_s_l1Cur_space_f Try.func88 rfl (by rw [v_s_l1Cur_space_f]; simp only at hy; rw [hy]; rfl)
  · cases h
def J_s_DrawTakeBlock : Joins := [(.r, ⟨[.sl true 23 (.sl true 5 (.int .u8)), .sl true 5 (.int .u8), .sl true 3 (.int .i64), .sl true 3 (.int .i64)], [(2, .pl 2 0)], [(2, [.vw 118856, .vw 118857, .vw 118858, .vw 118859])], [(118856, 0), (118857, 1), (118858, 2), (118859, 3)], [], []⟩)]
def ann_s_DrawTakeBlock : Ann := .seq .nil (.seq .nil (.seq .nil (.seq (.seq .nil (.cond [(.n, ⟨[.sl true 23 (.sl true 5 (.int .u8)), .sl true 5 (.int .u8), .sl true 3 (.int .i64), .sl true 3 (.int .i64)], [(2, .pl 2 0), (4, .pl 4 0)], [(2, [.nil, .nil, .nil, .nil]), (4, [.vw 118852, .vw 118853, .vw 118854, .vw 118855])], [(118852, 0), (118853, 1), (118854, 2), (118855, 3)], [], []⟩)] (.block [] (.loop ⟨[.sl true 23 (.sl true 5 (.int .u8)), .sl true 5 (.int .u8), .sl true 3 (.int .i64), .sl true 3 (.int .i64)], [(2, .pl 2 0), (4, .pl 4 0)], [(2, [.nil, .nil, .nil, .nil]), (4, [.vw 118784, .vw 118785, .vw 118786, .vw 118787])], [(118784, 0), (118785, 1), (118786, 2), (118787, 3)], [], []⟩ [(.x 0, ⟨[.sl true 23 (.sl true 5 (.int .u8)), .sl true 5 (.int .u8), .sl true 3 (.int .i64), .sl true 3 (.int .i64)], [(2, .pl 2 0), (4, .pl 4 0)], [(2, [.nil, .nil, .nil, .nil]), (4, [.vw 118848, .vw 118849, .vw 118850, .vw 118851])], [(118848, 0), (118849, 1), (118850, 2), (118851, 3)], [], []⟩)] .nil)) .nil)) .nil)))
def env_s_DrawTakeBlock : Env := envOf ti [k_s_l1Cur_space_f, k_s_l1Cur_one_f, k_s_l5Take_oooo] []
theorem eok_s_DrawTakeBlock : EnvOk Try.prog env_s_DrawTakeBlock := envOf_ok tab mix _ _ (by
  intro k hk
  simp only [List.mem_cons, List.not_mem_nil, or_false] at hk
  rcases hk with rfl | rfl | rfl
  · exact s_s_l1Cur_space_f
  · exact s_s_l1Cur_one_f
  · exact s_s_l5Take_oooo)
theorem v_s_DrawTakeBlock (x0 : List Int) : (vfun env_s_DrawTakeBlock Try.f21 J_s_DrawTakeBlock ann_s_DrawTakeBlock [] [.one ⟨.sl false 5 (.int .u8), x0⟩] []).run = (G.s_DrawTakeBlock x0).bind fun y => some (Res.mk [.ag [⟨.sl true 23 (.sl true 5 (.int .u8)), y.1⟩, ⟨.sl true 5 (.int .u8), y.2.1⟩, ⟨.sl true 3 (.int .i64), y.2.2.1⟩, ⟨.sl true 3 (.int .i64), y.2.2.2⟩]] [] []) := by kernel_rfl
def k_s_DrawTakeBlock : Kn := ⟨21, [0], fun args rows => match args, rows with
  | [.one ⟨.sl false 5 (.int .u8), x0⟩], [] => some ⟨_, G.s_DrawTakeBlock x0, fun y => ⟨[.ag [⟨.sl true 23 (.sl true 5 (.int .u8)), y.1⟩, ⟨.sl true 5 (.int .u8), y.2.1⟩, ⟨.sl true 3 (.int .i64), y.2.2.1⟩, ⟨.sl true 3 (.int .i64), y.2.2.2⟩]], [], []⟩⟩
  | _, _ => none, []⟩
theorem s_s_DrawTakeBlock : KnOk Try.prog k_s_DrawTakeBlock := by
  intro args rows a h y hy
  simp only [k_s_DrawTakeBlock] at h
  split at h
  · injection h with h
    subst h
    exact vfun_ok eok_s_DrawTakeBlock Try.func21 rfl (by rw [v_s_DrawTakeBlock]; simp only at hy; rw [hy]; rfl)
  · cases h
def J_i_within : Joins := [(.r, ⟨[.bool], [(6, .one (.h 0))], [], [], [], []⟩)]
def ann_i_within : Ann := .seq .nil (.seq (.reg [(.n, ⟨[.bool], [(6, .one (.h 0))], [], [], [], []⟩)]) .nil)
def env_i_within : Env := envOf ti [] []
theorem eok_i_within : EnvOk Try.prog env_i_within := envOf_ok tab mix _ _ (by
  intro k hk; cases hk)
theorem v_i_within (x0 : Int) (x1 : Int) (x2 : Int) : (vfun env_i_within Try.f177 J_i_within ann_i_within [] [.one ⟨.int .i64, x0⟩, .one ⟨.int .i64, x1⟩, .one ⟨.int .i64, x2⟩] []).run = (G.i_within x0 x1 x2).bind fun y => some (Res.mk [.one ⟨.bool, y⟩] [] []) := by kernel_rfl
def k_i_within : Kn := ⟨177, [0, 0, 0], fun args rows => match args, rows with
  | [.one ⟨.int .i64, x0⟩, .one ⟨.int .i64, x1⟩, .one ⟨.int .i64, x2⟩], [] => some ⟨_, G.i_within x0 x1 x2, fun y => ⟨[.one ⟨.bool, y⟩], [], []⟩⟩
  | _, _ => none, []⟩
theorem s_i_within : KnOk Try.prog k_i_within := by
  intro args rows a h y hy
  simp only [k_i_within] at h
  split at h
  · injection h with h
    subst h
    exact vfun_ok eok_i_within Try.func177 rfl (by rw [v_i_within]; simp only at hy; rw [hy]; rfl)
  · cases h
def J_i_areBlocks_1 : Joins := [(.r, ⟨[.bool], [(2, .one (.h 0))], [], [], [], []⟩)]
def ann_i_areBlocks_1 : Ann := .nil
def env_i_areBlocks_1 : Env := envOf ti [] []
theorem eok_i_areBlocks_1 : EnvOk Try.prog env_i_areBlocks_1 := envOf_ok tab mix _ _ (by
  intro k hk; cases hk)
theorem v_i_areBlocks_1 (x0 : List Int) : (vfun env_i_areBlocks_1 Try.f204 J_i_areBlocks_1 ann_i_areBlocks_1 [] [.one ⟨.sl false 5 (.int .u8), x0⟩] []).run = (G.i_areBlocks_1 x0).bind fun y => some (Res.mk [.one ⟨.bool, y⟩] [] []) := by kernel_rfl
def k_i_areBlocks_1 : Kn := ⟨204, [0], fun args rows => match args, rows with
  | [.one ⟨.sl false 5 (.int .u8), x0⟩], [] => some ⟨_, G.i_areBlocks_1 x0, fun y => ⟨[.one ⟨.bool, y⟩], [], []⟩⟩
  | _, _ => none, []⟩
theorem s_i_areBlocks_1 : KnOk Try.prog k_i_areBlocks_1 := by
  intro args rows a h y hy
  simp only [k_i_areBlocks_1] at h
  split at h
  · injection h with h
    subst h
    exact vfun_ok eok_i_areBlocks_1 Try.func204 rfl (by rw [v_i_areBlocks_1]; simp only at hy; rw [hy]; rfl)
  · cases h
def J_slices_IndexFunc_byte_byte_i_areBlocks_1 : Joins := [(.r, ⟨[.int .i64], [(4, .one (.h 0))], [], [], [], []⟩)]
def ann_slices_IndexFunc_byte_byte_i_areBlocks_1 : Ann := .seq .nil (.seq (.seq .nil (.block [] (.loop ⟨[.sl false 23 (.sl false 5 (.int .u8)), .int .i64, .int .i64], [(0, .one (.h 0)), (1, .fv 204 []), (7, .one (.h 1)), (8, .one (.h 2))], [], [], [], []⟩ [(.x 0, ⟨[], [], [], [], [], []⟩), (.r, ⟨[.int .i64], [(4, .one (.h 0))], [], [], [], []⟩)] .nil))) .nil)
def env_slices_IndexFunc_byte_byte_i_areBlocks_1 : Env := envOf ti [k_i_areBlocks_1] []
theorem eok_slices_IndexFunc_byte_byte_i_areBlocks_1 : EnvOk Try.prog env_slices_IndexFunc_byte_byte_i_areBlocks_1 := envOf_ok tab mix _ _ (by
  intro k hk
  simp only [List.mem_cons, List.not_mem_nil, or_false] at hk
  rcases hk with rfl
  · exact s_i_areBlocks_1)
theorem v_slices_IndexFunc_byte_byte_i_areBlocks_1 (x0 : List (List Int)) : (vfun env_slices_IndexFunc_byte_byte_i_areBlocks_1 Try.f226 J_slices_IndexFunc_byte_byte_i_areBlocks_1 ann_slices_IndexFunc_byte_byte_i_areBlocks_1 [] [.one ⟨.sl false 23 (.sl false 5 (.int .u8)), x0⟩, .fv 204 []] []).run = (G.slices_IndexFunc_byte_byte_i_areBlocks_1 x0).bind fun y => some (Res.mk [.one ⟨.int .i64, y⟩] [] []) := by kernel_rfl
def k_slices_IndexFunc_byte_byte_i_areBlocks_1 : Kn := ⟨226, [0, 0], fun args rows => match args, rows with
  | [.one ⟨.sl false 23 (.sl false 5 (.int .u8)), x0⟩, .fv 204 []], [] => some ⟨_, G.slices_IndexFunc_byte_byte_i_areBlocks_1 x0, fun y => ⟨[.one ⟨.int .i64, y⟩], [], []⟩⟩
  | _, _ => none, []⟩
theorem s_slices_IndexFunc_byte_byte_i_areBlocks_1 : KnOk Try.prog k_slices_IndexFunc_byte_byte_i_areBlocks_1 := by
  intro args rows a h y hy
  simp only [k_slices_IndexFunc_byte_byte_i_areBlocks_1] at h
  split at h
  · injection h with h
    subst h
    exact vfun_ok eok_slices_IndexFunc_byte_byte_i_areBlocks_1 Try.func226 rfl (by rw [v_slices_IndexFunc_byte_byte_i_areBlocks_1]; simp only at hy; rw [hy]; rfl)
  · cases h
def J_slices_ContainsFunc_byte_byte_i_areBlocks_1 : Joins := [(.r, ⟨[.bool], [(4, .one (.h 0))], [], [], [], []⟩)]
def ann_slices_ContainsFunc_byte_byte_i_areBlocks_1 : Ann := .nil
def env_slices_ContainsFunc_byte_byte_i_areBlocks_1 : Env := envOf ti [k_slices_IndexFunc_byte_byte_i_areBlocks_1] []
theorem eok_slices_ContainsFunc_byte_byte_i_areBlocks_1 : EnvOk Try.prog env_slices_ContainsFunc_byte_byte_i_areBlocks_1 := envOf_ok tab mix _ _ (by
  intro k hk
  simp only [List.mem_cons, List.not_mem_nil, or_false] at hk
  rcases hk with rfl
  · exact s_slices_IndexFunc_byte_byte_i_areBlocks_1)
theorem v_slices_ContainsFunc_byte_byte_i_areBlocks_1 (x0 : List (List Int)) : (vfun env_slices_ContainsFunc_byte_byte_i_areBlocks_1 Try.f203 J_slices_ContainsFunc_byte_byte_i_areBlocks_1 ann_slices_ContainsFunc_byte_byte_i_areBlocks_1 [] [.one ⟨.sl false 23 (.sl false 5 (.int .u8)), x0⟩, .fv 204 []] []).run = (G.slices_ContainsFunc_byte_byte_i_areBlocks_1 x0).bind fun y => some (Res.mk [.one ⟨.bool, y⟩] [] []) := by kernel_rfl
def k_slices_ContainsFunc_byte_byte_i_areBlocks_1 : Kn := ⟨203, [0, 0], fun args rows => match args, rows with
  | [.one ⟨.sl false 23 (.sl false 5 (.int .u8)), x0⟩, .fv 204 []], [] => some ⟨_, G.slices_ContainsFunc_byte_byte_i_areBlocks_1 x0, fun y => ⟨[.one ⟨.bool, y⟩], [], []⟩⟩
  | _, _ => none, []⟩
theorem s_slices_ContainsFunc_byte_byte_i_areBlocks_1 : KnOk Try.prog k_slices_ContainsFunc_byte_byte_i_areBlocks_1 := by
  intro args rows a h y hy
  simp only [k_slices_ContainsFunc_byte_byte_i_areBlocks_1] at h
  split at h
  · injection h with h
    subst h
    exact vfun_ok eok_slices_ContainsFunc_byte_byte_i_areBlocks_1 Try.func203 rfl (by rw [v_slices_ContainsFunc_byte_byte_i_areBlocks_1]; simp only at hy; rw [hy]; rfl)
  · cases h
def J_i_areBlocks : Joins := [(.r, ⟨[.bool], [(2, .one (.h 0))], [], [], [], []⟩)]
def ann_i_areBlocks : Ann := .seq .nil (.seq (.reg [(.n, ⟨[.bool], [(2, .one (.h 0))], [], [], [], []⟩)]) .nil)
def env_i_areBlocks : Env := envOf ti [k_i_within, k_slices_ContainsFunc_byte_byte_i_areBlocks_1] []
theorem eok_i_areBlocks : EnvOk Try.prog env_i_areBlocks := envOf_ok tab mix _ _ (by
  intro k hk
  simp only [List.mem_cons, List.not_mem_nil, or_false] at hk
  rcases hk with rfl | rfl
  · exact s_i_within
  · exact s_slices_ContainsFunc_byte_byte_i_areBlocks_1)
theorem v_i_areBlocks (x0 : List (List Int)) : (vfun env_i_areBlocks Try.f151 J_i_areBlocks ann_i_areBlocks [] [.one ⟨.sl false 23 (.sl false 5 (.int .u8)), x0⟩] []).run = (G.i_areBlocks x0).bind fun y => some (Res.mk [.one ⟨.bool, y⟩] [] []) := by kernel_rfl
def k_i_areBlocks : Kn := ⟨151, [0], fun args rows => match args, rows with
  | [.one ⟨.sl false 23 (.sl false 5 (.int .u8)), x0⟩], [] => some ⟨_, G.i_areBlocks x0, fun y => ⟨[.one ⟨.bool, y⟩], [], []⟩⟩
  | _, _ => none, []⟩
theorem s_i_areBlocks : KnOk Try.prog k_i_areBlocks := by
  intro args rows a h y hy
  simp only [k_i_areBlocks] at h
  split at h
  · injection h with h
    subst h
    exact vfun_ok eok_i_areBlocks Try.func151 rfl (by rw [v_i_areBlocks]; simp only at hy; rw [hy]; rfl)
  · cases h
def J_i_Space_used_ffff : Joins := [(.r, ⟨[.bool, .sl false 23 (.sl false 5 (.int .u8)), .sl false 5 (.int .u8), .sl false 3 (.int .i64), .sl false 3 (.int .i64)], [(4, .one (.h 0))], [(19, [.h 1, .h 2, .h 3, .h 4])], [], [], []⟩)]
def ann_i_Space_used_ffff : Ann := .nil
def env_i_Space_used_ffff : Env := envOf ti [] []
theorem eok_i_Space_used_ffff : EnvOk Try.prog env_i_Space_used_ffff := envOf_ok tab mix _ _ (by
  intro k hk; cases hk)
theorem v_i_Space_used_ffff (x0 : Int) (x1 : List (List Int)) (x2 : List Int) (x3 : List Int) (x4 : List Int) : (vfun env_i_Space_used_ffff Try.f90 J_i_Space_used_ffff ann_i_Space_used_ffff [] [.pl 0 0, .one ⟨.int .i64, x0⟩] [[⟨.sl false 23 (.sl false 5 (.int .u8)), x1⟩, ⟨.sl false 5 (.int .u8), x2⟩, ⟨.sl false 3 (.int .i64), x3⟩, ⟨.sl false 3 (.int .i64), x4⟩]]).run = (G.i_Space_used_ffff x0 x1 x2 x3 x4).bind fun y => some (Res.mk [.one ⟨.bool, y.1⟩] [[⟨.sl false 23 (.sl false 5 (.int .u8)), y.2.1⟩, ⟨.sl false 5 (.int .u8), y.2.2.1⟩, ⟨.sl false 3 (.int .i64), y.2.2.2.1⟩, ⟨.sl false 3 (.int .i64), y.2.2.2.2⟩]] []) := by kernel_rfl
def k_i_Space_used_ffff : Kn := ⟨90, [0, 0], fun args rows => match args, rows with
  | [.pl 0 0, .one ⟨.int .i64, x0⟩], [[⟨.sl false 23 (.sl false 5 (.int .u8)), x1⟩, ⟨.sl false 5 (.int .u8), x2⟩, ⟨.sl false 3 (.int .i64), x3⟩, ⟨.sl false 3 (.int .i64), x4⟩]] => some ⟨_, G.i_Space_used_ffff x0 x1 x2 x3 x4, fun y => ⟨[.one ⟨.bool, y.1⟩], [[⟨.sl false 23 (.sl false 5 (.int .u8)), y.2.1⟩, ⟨.sl false 5 (.int .u8), y.2.2.1⟩, ⟨.sl false 3 (.int .i64), y.2.2.2.1⟩, ⟨.sl false 3 (.int .i64), y.2.2.2.2⟩]], []⟩⟩
  | _, _ => none, []⟩
theorem s_i_Space_used_ffff : KnOk Try.prog k_i_Space_used_ffff := by
  intro args rows a h y hy
  simp only [k_i_Space_used_ffff] at h
  split at h
  · injection h with h
    subst h
    exact vfun_ok eok_i_Space_used_ffff Try.func90 rfl (by rw [v_i_Space_used_ffff]; simp only at hy; rw [hy]; rfl)
  · cases h
def J_i_Space_isBlock_ffff : Joins := [(.r, ⟨[.bool, .sl false 23 (.sl false 5 (.int .u8)), .sl false 5 (.int .u8), .sl false 3 (.int .i64), .sl false 3 (.int .i64)], [(4, .one (.h 0))], [(19, [.h 1, .h 2, .h 3, .h 4])], [], [], []⟩)]
def ann_i_Space_isBlock_ffff : Ann := .seq .nil (.seq (.reg [(.n, ⟨[.bool, .sl false 23 (.sl false 5 (.int .u8)), .sl false 5 (.int .u8), .sl false 3 (.int .i64), .sl false 3 (.int .i64)], [(4, .one (.h 0))], [(19, [.h 1, .h 2, .h 3, .h 4])], [], [], []⟩)]) .nil)
def env_i_Space_isBlock_ffff : Env := envOf ti [k_i_within, k_i_Space_used_ffff] []
theorem eok_i_Space_isBlock_ffff : EnvOk Try.prog env_i_Space_isBlock_ffff := envOf_ok tab mix _ _ (by
  intro k hk
  simp only [List.mem_cons, List.not_mem_nil, or_false] at hk
  rcases hk with rfl | rfl
  · exact s_i_within
  · exact s_i_Space_used_ffff)
theorem v_i_Space_isBlock_ffff (x0 : Int) (x1 : List (List Int)) (x2 : List Int) (x3 : List Int) (x4 : List Int) : (vfun env_i_Space_isBlock_ffff Try.f160 J_i_Space_isBlock_ffff ann_i_Space_isBlock_ffff [] [.pl 0 0, .one ⟨.int .i64, x0⟩] [[⟨.sl false 23 (.sl false 5 (.int .u8)), x1⟩, ⟨.sl false 5 (.int .u8), x2⟩, ⟨.sl false 3 (.int .i64), x3⟩, ⟨.sl false 3 (.int .i64), x4⟩]]).run = (G.i_Space_isBlock_ffff x0 x1 x2 x3 x4).bind fun y => some (Res.mk [.one ⟨.bool, y.1⟩] [[⟨.sl false 23 (.sl false 5 (.int .u8)), y.2.1⟩, ⟨.sl false 5 (.int .u8), y.2.2.1⟩, ⟨.sl false 3 (.int .i64), y.2.2.2.1⟩, ⟨.sl false 3 (.int .i64), y.2.2.2.2⟩]] []) := by kernel_rfl
def k_i_Space_isBlock_ffff : Kn := ⟨160, [0, 0], fun args rows => match args, rows with
  | [.pl 0 0, .one ⟨.int .i64, x0⟩], [[⟨.sl false 23 (.sl false 5 (.int .u8)), x1⟩, ⟨.sl false 5 (.int .u8), x2⟩, ⟨.sl false 3 (.int .i64), x3⟩, ⟨.sl false 3 (.int .i64), x4⟩]] => some ⟨_, G.i_Space_isBlock_ffff x0 x1 x2 x3 x4, fun y => ⟨[.one ⟨.bool, y.1⟩], [[⟨.sl false 23 (.sl false 5 (.int .u8)), y.2.1⟩, ⟨.sl false 5 (.int .u8), y.2.2.1⟩, ⟨.sl false 3 (.int .i64), y.2.2.2.1⟩, ⟨.sl false 3 (.int .i64), y.2.2.2.2⟩]], []⟩⟩
  | _, _ => none, []⟩
theorem s_i_Space_isBlock_ffff : KnOk Try.prog k_i_Space_isBlock_ffff := by
  intro args rows a h y hy
  simp only [k_i_Space_isBlock_ffff] at h
  split at h
  · injection h with h
    subst h
    exact vfun_ok eok_i_Space_isBlock_ffff Try.func160 rfl (by rw [v_i_Space_isBlock_ffff]; simp only at hy; rw [hy]; rfl)
  · cases h
end
end Go.Proofs.Ytggpihbcaebpjaa

set_option linter.unusedVariables false
set_option maxRecDepth 100000
namespace Go.Proofs.Ytggpihbcaebpjaa
open Go.V
noncomputable section
def J_i_Space_areUsed_ffff : Joins := [(.r, ⟨[.bool, .sl false 23 (.sl false 5 (.int .u8)), .sl false 5 (.int .u8), .sl false 3 (.int .i64), .sl false 3 (.int .i64)], [(4, .one (.h 0))], [(33, [.h 1, .h 2, .h 3, .h 4])], [], [], []⟩)]
def ann_i_Space_areUsed_ffff : Ann := .seq .nil (.seq (.seq .nil (.block [] (.loop ⟨[.sl false 3 (.int .i64), .sl false 3 (.int .i64), .int .i64, .int .i64, .sl false 23 (.sl false 5 (.int .u8)), .sl false 5 (.int .u8), .sl false 3 (.int .i64), .sl false 3 (.int .i64)], [(0, .pl 33 0), (1, .one (.h 0)), (7, .one (.h 1)), (8, .one (.h 2)), (9, .one (.h 3))], [(33, [.h 4, .h 5, .h 6, .h 7])], [], [], []⟩ [(.x 0, ⟨[.sl false 23 (.sl false 5 (.int .u8)), .sl false 5 (.int .u8), .sl false 3 (.int .i64), .sl false 3 (.int .i64)], [], [(33, [.h 0, .h 1, .h 2, .h 3])], [], [], []⟩), (.r, ⟨[.bool, .sl false 23 (.sl false 5 (.int .u8)), .sl false 5 (.int .u8), .sl false 3 (.int .i64), .sl false 3 (.int .i64)], [(4, .one (.h 0))], [(33, [.h 1, .h 2, .h 3, .h 4])], [], [], []⟩)] (.seq .nil (.seq .nil (.seq (.block [] (.seq .nil (.seq (.reg [(.n, ⟨[.sl false 3 (.int .i64), .sl false 3 (.int .i64), .int .i64, .int .i64, .bool, .sl false 23 (.sl false 5 (.int .u8)), .sl false 5 (.int .u8), .sl false 3 (.int .i64), .sl false 3 (.int .i64)], [(0, .pl 33 0), (1, .one (.h 0)), (7, .one (.h 1)), (8, .one (.h 2)), (9, .one (.h 3)), (30, .one (.h 4))], [(33, [.h 5, .h 6, .h 7, .h 8])], [], [], []⟩)]) .nil))) .nil)))))) .nil)
def env_i_Space_areUsed_ffff : Env := envOf ti [k_i_Space_isBlock_ffff] []
theorem eok_i_Space_areUsed_ffff : EnvOk Try.prog env_i_Space_areUsed_ffff := envOf_ok tab mix _ _ (by
  intro k hk
  simp only [List.mem_cons, List.not_mem_nil, or_false] at hk
  rcases hk with rfl
  · exact s_i_Space_isBlock_ffff)
theorem v_i_Space_areUsed_ffff (x0 : List Int) (x1 : List (List Int)) (x2 : List Int) (x3 : List Int) (x4 : List Int) : (vfun env_i_Space_areUsed_ffff Try.f152 J_i_Space_areUsed_ffff ann_i_Space_areUsed_ffff [] [.pl 0 0, .one ⟨.sl false 3 (.int .i64), x0⟩] [[⟨.sl false 23 (.sl false 5 (.int .u8)), x1⟩, ⟨.sl false 5 (.int .u8), x2⟩, ⟨.sl false 3 (.int .i64), x3⟩, ⟨.sl false 3 (.int .i64), x4⟩]]).run = (G.i_Space_areUsed_ffff x0 x1 x2 x3 x4).bind fun y => some (Res.mk [.one ⟨.bool, y.1⟩] [[⟨.sl false 23 (.sl false 5 (.int .u8)), y.2.1⟩, ⟨.sl false 5 (.int .u8), y.2.2.1⟩, ⟨.sl false 3 (.int .i64), y.2.2.2.1⟩, ⟨.sl false 3 (.int .i64), y.2.2.2.2⟩]] []) := by kernel_rfl
def k_i_Space_areUsed_ffff : Kn := ⟨152, [0, 0], fun args rows => match args, rows with
  | [.pl 0 0, .one ⟨.sl false 3 (.int .i64), x0⟩], [[⟨.sl false 23 (.sl false 5 (.int .u8)), x1⟩, ⟨.sl false 5 (.int .u8), x2⟩, ⟨.sl false 3 (.int .i64), x3⟩, ⟨.sl false 3 (.int .i64), x4⟩]] => some ⟨_, G.i_Space_areUsed_ffff x0 x1 x2 x3 x4, fun y => ⟨[.one ⟨.bool, y.1⟩], [[⟨.sl false 23 (.sl false 5 (.int .u8)), y.2.1⟩, ⟨.sl false 5 (.int .u8), y.2.2.1⟩, ⟨.sl false 3 (.int .i64), y.2.2.2.1⟩, ⟨.sl false 3 (.int .i64), y.2.2.2.2⟩]], []⟩⟩
  | _, _ => none, []⟩
theorem s_i_Space_areUsed_ffff : KnOk Try.prog k_i_Space_areUsed_ffff := by
  intro args rows a h y hy
  simp only [k_i_Space_areUsed_ffff] at h
  split at h
  · injection h with h
    subst h
    exact vfun_ok eok_i_Space_areUsed_ffff Try.func152 rfl (by rw [v_i_Space_areUsed_ffff]; simp only at hy; rw [hy]; rfl)
  · cases h
def J_i_GoodSpace : Joins := [(.r, ⟨[.bool], [(2, .one (.h 0))], [], [], [], []⟩)]
def ann_i_GoodSpace : Ann := .seq .nil (.seq (.seq (.reg [(.n, ⟨[.bool, .sl false 23 (.sl false 5 (.int .u8)), .sl false 5 (.int .u8), .sl false 3 (.int .i64), .sl false 3 (.int .i64)], [(1, .pl 1 0), (14, .one (.h 0))], [(1, [.h 1, .h 2, .h 3, .h 4])], [], [], []⟩)]) .nil) (.seq (.seq .nil (.block [] (.loop ⟨[.int .i64, .sl false 23 (.sl false 5 (.int .u8)), .sl false 5 (.int .u8), .sl false 3 (.int .i64), .sl false 3 (.int .i64)], [(1, .pl 1 0), (15, .one (.h 0))], [(1, [.h 1, .h 2, .h 3, .h 4])], [], [], []⟩ [(.x 0, ⟨[.sl false 23 (.sl false 5 (.int .u8)), .sl false 5 (.int .u8), .sl false 3 (.int .i64), .sl false 3 (.int .i64)], [(1, .pl 1 0)], [(1, [.h 0, .h 1, .h 2, .h 3])], [], [], []⟩), (.r, ⟨[.bool], [(2, .one (.h 0))], [], [], [], []⟩)] (.seq .nil (.seq .nil (.seq (.block [] (.seq .nil (.seq .nil (.seq (.reg [(.n, ⟨[.int .i64, .bool, .sl false 23 (.sl false 5 (.int .u8)), .sl false 5 (.int .u8), .sl false 3 (.int .i64), .sl false 3 (.int .i64)], [(1, .pl 1 0), (15, .one (.h 0)), (35, .one (.h 1))], [(1, [.h 2, .h 3, .h 4, .h 5])], [], [], []⟩)]) .nil)))) .nil)))))) (.seq (.reg [(.n, ⟨[.bool], [(2, .one (.h 0))], [], [], [], []⟩)]) .nil)))
def env_i_GoodSpace : Env := envOf ti [k_i_areBlocks, k_i_Space_used_ffff, k_i_Space_areUsed_ffff] []
theorem eok_i_GoodSpace : EnvOk Try.prog env_i_GoodSpace := envOf_ok tab mix _ _ (by
  intro k hk
  simp only [List.mem_cons, List.not_mem_nil, or_false] at hk
  rcases hk with rfl | rfl | rfl
  · exact s_i_areBlocks
  · exact s_i_Space_used_ffff
  · exact s_i_Space_areUsed_ffff)
theorem v_i_GoodSpace (x0 : List (List Int)) (x1 : List Int) (x2 : List Int) (x3 : List Int) : (vfun env_i_GoodSpace Try.f79 J_i_GoodSpace ann_i_GoodSpace [] [.ag [⟨.sl false 23 (.sl false 5 (.int .u8)), x0⟩, ⟨.sl false 5 (.int .u8), x1⟩, ⟨.sl false 3 (.int .i64), x2⟩, ⟨.sl false 3 (.int .i64), x3⟩]] []).run = (G.i_GoodSpace x0 x1 x2 x3).bind fun y => some (Res.mk [.one ⟨.bool, y⟩] [] []) := by kernel_rfl
def k_i_GoodSpace : Kn := ⟨79, [0], fun args rows => match args, rows with
  | [.ag [⟨.sl false 23 (.sl false 5 (.int .u8)), x0⟩, ⟨.sl false 5 (.int .u8), x1⟩, ⟨.sl false 3 (.int .i64), x2⟩, ⟨.sl false 3 (.int .i64), x3⟩]], [] => some ⟨_, G.i_GoodSpace x0 x1 x2 x3, fun y => ⟨[.one ⟨.bool, y⟩], [], []⟩⟩
  | _, _ => none, []⟩
theorem s_i_GoodSpace : KnOk Try.prog k_i_GoodSpace := by
  intro args rows a h y hy
  simp only [k_i_GoodSpace] at h
  split at h
  · injection h with h
    subst h
    exact vfun_ok eok_i_GoodSpace Try.func79 rfl (by rw [v_i_GoodSpace]; simp only at hy; rw [hy]; rfl)
  · cases h
def J_i_FreeIn : Joins := [(.r, ⟨[.int .i64, .bool], [(2, .one (.h 0)), (3, .one (.h 1))], [], [], [], []⟩)]
def ann_i_FreeIn : Ann := .seq .nil (.seq .nil (.seq .nil (.seq (.seq .nil (.block [] (.loop ⟨[.int .i64, .int .i64, .int .i64, .sl false 23 (.sl false 5 (.int .u8)), .sl false 5 (.int .u8), .sl false 3 (.int .i64), .sl false 3 (.int .i64)], [(1, .pl 1 0), (4, .one (.h 0)), (11, .one (.h 1)), (12, .one (.h 2))], [(1, [.h 3, .h 4, .h 5, .h 6])], [], [], []⟩ [(.x 0, ⟨[.int .i64], [(4, .one (.h 0))], [], [], [], []⟩)] (.seq .nil (.seq .nil (.seq (.block [] (.seq .nil (.seq .nil (.cond [(.n, ⟨[.int .i64, .int .i64, .int .i64, .sl false 23 (.sl false 5 (.int .u8)), .sl false 5 (.int .u8), .sl false 3 (.int .i64), .sl false 3 (.int .i64)], [(1, .pl 1 0), (4, .one (.h 0)), (11, .one (.h 1)), (12, .one (.h 2))], [(1, [.h 3, .h 4, .h 5, .h 6])], [], [], []⟩)] .nil .nil)))) .nil)))))) .nil)))
def env_i_FreeIn : Env := envOf ti [k_i_GoodSpace, k_i_Space_used_ffff] []
theorem eok_i_FreeIn : EnvOk Try.prog env_i_FreeIn := envOf_ok tab mix _ _ (by
  intro k hk
  simp only [List.mem_cons, List.not_mem_nil, or_false] at hk
  rcases hk with rfl | rfl
  · exact s_i_GoodSpace
  · exact s_i_Space_used_ffff)
theorem v_i_FreeIn (x0 : List (List Int)) (x1 : List Int) (x2 : List Int) (x3 : List Int) : (vfun env_i_FreeIn Try.f22 J_i_FreeIn ann_i_FreeIn [] [.ag [⟨.sl false 23 (.sl false 5 (.int .u8)), x0⟩, ⟨.sl false 5 (.int .u8), x1⟩, ⟨.sl false 3 (.int .i64), x2⟩, ⟨.sl false 3 (.int .i64), x3⟩]] []).run = (G.i_FreeIn x0 x1 x2 x3).bind fun y => some (Res.mk [.one ⟨.int .i64, y.1⟩, .one ⟨.bool, y.2⟩] [] []) := by kernel_rfl
def k_i_FreeIn : Kn := ⟨22, [0], fun args rows => match args, rows with
  | [.ag [⟨.sl false 23 (.sl false 5 (.int .u8)), x0⟩, ⟨.sl false 5 (.int .u8), x1⟩, ⟨.sl false 3 (.int .i64), x2⟩, ⟨.sl false 3 (.int .i64), x3⟩]], [] => some ⟨_, G.i_FreeIn x0 x1 x2 x3, fun y => ⟨[.one ⟨.int .i64, y.1⟩, .one ⟨.bool, y.2⟩], [], []⟩⟩
  | _, _ => none, []⟩
theorem s_i_FreeIn : KnOk Try.prog k_i_FreeIn := by
  intro args rows a h y hy
  simp only [k_i_FreeIn] at h
  split at h
  · injection h with h
    subst h
    exact vfun_ok eok_i_FreeIn Try.func22 rfl (by rw [v_i_FreeIn]; simp only at hy; rw [hy]; rfl)
  · cases h
def J_s_GoodSpace : Joins := [(.r, ⟨[.bool], [(2, .one (.h 0))], [], [], [], []⟩)]
def ann_s_GoodSpace : Ann := .seq .nil (.seq .nil (.seq (.seq (.reg [(.n, ⟨[.int .i64, .bool, .sl false 23 (.sl false 5 (.int .u8)), .sl false 5 (.int .u8), .sl false 3 (.int .i64), .sl false 3 (.int .i64)], [(1, .pl 1 0), (3, .one (.h 0)), (23, .one (.h 1))], [(1, [.h 2, .h 3, .h 4, .h 5])], [], [], []⟩)]) .nil) (.seq (.seq .nil (.block [] (.loop ⟨[.int .i64, .sl false 23 (.sl false 5 (.int .u8)), .int .i64, .int .i64, .sl false 23 (.sl false 5 (.int .u8)), .sl false 5 (.int .u8), .sl false 3 (.int .i64), .sl false 3 (.int .i64)], [(1, .pl 1 0), (3, .one (.h 0)), (25, .one (.h 1)), (26, .one (.h 2)), (27, .one (.h 3))], [(1, [.h 4, .h 5, .h 6, .h 7])], [], [], []⟩ [(.x 0, ⟨[.int .i64, .sl false 23 (.sl false 5 (.int .u8)), .sl false 5 (.int .u8), .sl false 3 (.int .i64), .sl false 3 (.int .i64)], [(1, .pl 1 0), (3, .one (.h 0))], [(1, [.h 1, .h 2, .h 3, .h 4])], [], [], []⟩), (.r, ⟨[.bool], [(2, .one (.h 0))], [], [], [], []⟩)] .nil))) (.seq (.seq .nil (.block [] (.loop ⟨[.int .i64, .int .i64, .sl false 23 (.sl false 5 (.int .u8)), .sl false 5 (.int .u8), .sl false 3 (.int .i64), .sl false 3 (.int .i64)], [(1, .pl 1 0), (3, .one (.h 0)), (6, .one (.h 1))], [(1, [.h 2, .h 3, .h 4, .h 5])], [], [], []⟩ [(.x 2, ⟨[.int .i64, .sl false 23 (.sl false 5 (.int .u8)), .sl false 5 (.int .u8), .sl false 3 (.int .i64), .sl false 3 (.int .i64)], [(1, .pl 1 0), (3, .one (.h 0))], [(1, [.h 1, .h 2, .h 3, .h 4])], [], [], []⟩), (.r, ⟨[.bool], [(2, .one (.h 0))], [], [], [], []⟩)] (.seq .nil (.seq (.block [] (.seq .nil (.seq (.reg [(.n, ⟨[.int .i64, .int .i64, .bool, .sl false 23 (.sl false 5 (.int .u8)), .sl false 5 (.int .u8), .sl false 3 (.int .i64), .sl false 3 (.int .i64)], [(1, .pl 1 0), (3, .one (.h 0)), (6, .one (.h 1)), (56, .one (.h 2))], [(1, [.h 3, .h 4, .h 5, .h 6])], [], [], []⟩)]) .nil))) .nil))))) (.seq (.seq .nil (.block [] (.loop ⟨[.int .i64, .sl true 24 (.sl false 3 (.int .i64)), .int .i64, .int .i64, .sl false 23 (.sl false 5 (.int .u8)), .sl false 5 (.int .u8), .sl false 3 (.int .i64), .sl false 3 (.int .i64)], [(1, .pl 1 0), (3, .one (.h 0)), (61, .one (.vw 205952)), (62, .one (.h 2)), (63, .one (.h 3))], [(1, [.h 4, .h 5, .h 6, .h 7])], [(205952, 1)], [], []⟩ [(.x 4, ⟨[], [], [], [], [], []⟩), (.r, ⟨[.bool], [(2, .one (.h 0))], [], [], [], []⟩)] (.seq .nil (.seq .nil (.seq (.block [] (.seq .nil (.seq .nil (.block [] (.loop ⟨[.int .i64, .sl false 3 (.int .i64), .sl true 24 (.sl false 3 (.int .i64)), .int .i64, .int .i64, .sl false 3 (.int .i64), .int .i64, .int .i64, .sl false 23 (.sl false 5 (.int .u8)), .sl false 5 (.int .u8), .sl false 3 (.int .i64), .sl false 3 (.int .i64)], [(1, .pl 1 0), (3, .one (.h 0)), (9, .one (.h 1)), (61, .one (.vw 206016)), (62, .one (.h 3)), (63, .one (.h 4)), (67, .one (.h 5)), (68, .one (.h 6)), (69, .one (.h 7))], [(1, [.h 8, .h 9, .h 10, .h 11])], [(206016, 2)], [], []⟩ [(.x 6, ⟨[.int .i64, .sl true 24 (.sl false 3 (.int .i64)), .int .i64, .int .i64, .sl false 23 (.sl false 5 (.int .u8)), .sl false 5 (.int .u8), .sl false 3 (.int .i64), .sl false 3 (.int .i64)], [(1, .pl 1 0), (3, .one (.h 0)), (61, .one (.vw 206081)), (62, .one (.h 2)), (63, .one (.h 3))], [(1, [.h 4, .h 5, .h 6, .h 7])], [(206081, 1)], [], []⟩), (.r, ⟨[.bool], [(2, .one (.h 0))], [], [], [], []⟩)] (.seq .nil (.seq .nil (.seq (.block [] (.seq .nil (.seq (.reg [(.n, ⟨[.int .i64, .sl false 3 (.int .i64), .sl true 24 (.sl false 3 (.int .i64)), .int .i64, .int .i64, .sl false 3 (.int .i64), .int .i64, .int .i64, .bool, .sl false 23 (.sl false 5 (.int .u8)), .sl false 5 (.int .u8), .sl false 3 (.int .i64), .sl false 3 (.int .i64)], [(1, .pl 1 0), (3, .one (.h 0)), (9, .one (.h 1)), (61, .one (.vw 206080)), (62, .one (.h 3)), (63, .one (.h 4)), (67, .one (.h 5)), (68, .one (.h 6)), (69, .one (.h 7)), (98, .one (.h 8))], [(1, [.h 9, .h 10, .h 11, .h 12])], [(206080, 2)], [], []⟩)]) .nil))) .nil)))))))) .nil)))))) .nil)))))
def env_s_GoodSpace : Env := envOf ti [k_s_l1In, k_s_l5Used] []
theorem eok_s_GoodSpace : EnvOk Try.prog env_s_GoodSpace := envOf_ok tab mix _ _ (by
  intro k hk
  simp only [List.mem_cons, List.not_mem_nil, or_false] at hk
  rcases hk with rfl | rfl
  · exact s_s_l1In
  · exact s_s_l5Used)
theorem v_s_GoodSpace (x0 : List (List Int)) (x1 : List Int) (x2 : List Int) (x3 : List Int) : (vfun env_s_GoodSpace Try.f73 J_s_GoodSpace ann_s_GoodSpace [] [.ag [⟨.sl false 23 (.sl false 5 (.int .u8)), x0⟩, ⟨.sl false 5 (.int .u8), x1⟩, ⟨.sl false 3 (.int .i64), x2⟩, ⟨.sl false 3 (.int .i64), x3⟩]] []).run = (G.s_GoodSpace x0 x1 x2 x3).bind fun y => some (Res.mk [.one ⟨.bool, y⟩] [] []) := by kernel_rfl
def k_s_GoodSpace : Kn := ⟨73, [0], fun args rows => match args, rows with
  | [.ag [⟨.sl false 23 (.sl false 5 (.int .u8)), x0⟩, ⟨.sl false 5 (.int .u8), x1⟩, ⟨.sl false 3 (.int .i64), x2⟩, ⟨.sl false 3 (.int .i64), x3⟩]], [] => some ⟨_, G.s_GoodSpace x0 x1 x2 x3, fun y => ⟨[.one ⟨.bool, y⟩], [], []⟩⟩
  | _, _ => none, []⟩
theorem s_s_GoodSpace : KnOk Try.prog k_s_GoodSpace := by
  intro args rows a h y hy
  simp only [k_s_GoodSpace] at h
  split at h
  · injection h with h
    subst h
    exact vfun_ok eok_s_GoodSpace Try.func73 rfl (by rw [v_s_GoodSpace]; simp only at hy; rw [hy]; rfl)
  · cases h
def J_s_l5Free : Joins := [(.r, ⟨[.int .i64], [(2, .one (.h 0))], [], [], [], []⟩)]
def ann_s_l5Free : Ann := .seq .nil (.seq .nil (.seq (.seq .nil (.block [] (.loop ⟨[.int .i64, .int .i64, .int .i64, .sl false 23 (.sl false 5 (.int .u8)), .sl false 5 (.int .u8), .sl false 3 (.int .i64), .sl false 3 (.int .i64)], [(1, .pl 1 0), (3, .one (.h 0)), (7, .one (.h 1)), (8, .one (.h 2))], [(1, [.h 3, .h 4, .h 5, .h 6])], [], [], []⟩ [(.x 0, ⟨[.int .i64], [(3, .one (.h 0))], [], [], [], []⟩)] (.seq .nil (.seq .nil (.seq (.block [] (.seq .nil (.seq .nil (.cond [(.n, ⟨[.int .i64, .int .i64, .int .i64, .sl false 23 (.sl false 5 (.int .u8)), .sl false 5 (.int .u8), .sl false 3 (.int .i64), .sl false 3 (.int .i64)], [(1, .pl 1 0), (3, .one (.h 0)), (7, .one (.h 1)), (8, .one (.h 2))], [(1, [.h 3, .h 4, .h 5, .h 6])], [], [], []⟩)] .nil .nil)))) .nil)))))) .nil))
def env_s_l5Free : Env := envOf ti [k_s_l5Used] []
theorem eok_s_l5Free : EnvOk Try.prog env_s_l5Free := envOf_ok tab mix _ _ (by
  intro k hk
  simp only [List.mem_cons, List.not_mem_nil, or_false] at hk
  rcases hk with rfl
  · exact s_s_l5Used)
theorem v_s_l5Free (x0 : List (List Int)) (x1 : List Int) (x2 : List Int) (x3 : List Int) : (vfun env_s_l5Free Try.f74 J_s_l5Free ann_s_l5Free [] [.ag [⟨.sl false 23 (.sl false 5 (.int .u8)), x0⟩, ⟨.sl false 5 (.int .u8), x1⟩, ⟨.sl false 3 (.int .i64), x2⟩, ⟨.sl false 3 (.int .i64), x3⟩]] []).run = (G.s_l5Free x0 x1 x2 x3).bind fun y => some (Res.mk [.one ⟨.int .i64, y⟩] [] []) := by kernel_rfl
def k_s_l5Free : Kn := ⟨74, [0], fun args rows => match args, rows with
  | [.ag [⟨.sl false 23 (.sl false 5 (.int .u8)), x0⟩, ⟨.sl false 5 (.int .u8), x1⟩, ⟨.sl false 3 (.int .i64), x2⟩, ⟨.sl false 3 (.int .i64), x3⟩]], [] => some ⟨_, G.s_l5Free x0 x1 x2 x3, fun y => ⟨[.one ⟨.int .i64, y⟩], [], []⟩⟩
  | _, _ => none, []⟩
theorem s_s_l5Free : KnOk Try.prog k_s_l5Free := by
  intro args rows a h y hy
  simp only [k_s_l5Free] at h
  split at h
  · injection h with h
    subst h
    exact vfun_ok eok_s_l5Free Try.func74 rfl (by rw [v_s_l5Free]; simp only at hy; rw [hy]; rfl)
  · cases h
def J_s_FreeIn : Joins := [(.r, ⟨[.int .i64, .bool], [(2, .one (.h 0)), (3, .one (.h 1))], [], [], [], []⟩)]
def ann_s_FreeIn : Ann := .nil
def env_s_FreeIn : Env := envOf ti [k_s_GoodSpace, k_s_l5Free] []
theorem eok_s_FreeIn : EnvOk Try.prog env_s_FreeIn := envOf_ok tab mix _ _ (by
  intro k hk
  simp only [List.mem_cons, List.not_mem_nil, or_false] at hk
  rcases hk with rfl | rfl
  · exact s_s_GoodSpace
  · exact s_s_l5Free)
theorem v_s_FreeIn (x0 : List (List Int)) (x1 : List Int) (x2 : List Int) (x3 : List Int) : (vfun env_s_FreeIn Try.f23 J_s_FreeIn ann_s_FreeIn [] [.ag [⟨.sl false 23 (.sl false 5 (.int .u8)), x0⟩, ⟨.sl false 5 (.int .u8), x1⟩, ⟨.sl false 3 (.int .i64), x2⟩, ⟨.sl false 3 (.int .i64), x3⟩]] []).run = (G.s_FreeIn x0 x1 x2 x3).bind fun y => some (Res.mk [.one ⟨.int .i64, y.1⟩, .one ⟨.bool, y.2⟩] [] []) := by kernel_rfl
def k_s_FreeIn : Kn := ⟨23, [0], fun args rows => match args, rows with
  | [.ag [⟨.sl false 23 (.sl false 5 (.int .u8)), x0⟩, ⟨.sl false 5 (.int .u8), x1⟩, ⟨.sl false 3 (.int .i64), x2⟩, ⟨.sl false 3 (.int .i64), x3⟩]], [] => some ⟨_, G.s_FreeIn x0 x1 x2 x3, fun y => ⟨[.one ⟨.int .i64, y.1⟩, .one ⟨.bool, y.2⟩], [], []⟩⟩
  | _, _ => none, []⟩
theorem s_s_FreeIn : KnOk Try.prog k_s_FreeIn := by
  intro args rows a h y hy
  simp only [k_s_FreeIn] at h
  split at h
  · injection h with h
    subst h
    exact vfun_ok eok_s_FreeIn Try.func23 rfl (by rw [v_s_FreeIn]; simp only at hy; rw [hy]; rfl)
  · cases h
def J_slices_Clone_byte_byte : Joins := [(.r, ⟨[.sl true 5 (.int .u8)], [(2, .one (.vw 110593))], [], [(110593, 0)], [], []⟩)]
def ann_slices_Clone_byte_byte : Ann := .seq .nil (.both [(.r, ⟨[.sl true 5 (.int .u8)], [(2, .one (.vw 110592))], [], [(110592, 0)], [], []⟩)] .nil .nil .nil .nil .nil)
def env_slices_Clone_byte_byte : Env := envOf ti [] []
theorem eok_slices_Clone_byte_byte : EnvOk Try.prog env_slices_Clone_byte_byte := envOf_ok tab mix _ _ (by
  intro k hk; cases hk)
theorem v_slices_Clone_byte_byte (x0 : List Int) : (vfun env_slices_Clone_byte_byte Try.f102 J_slices_Clone_byte_byte ann_slices_Clone_byte_byte [] [.one ⟨.sl false 5 (.int .u8), x0⟩] []).run = (G.slices_Clone_byte_byte x0).bind fun y => some (Res.mk [.one ⟨.sl true 5 (.int .u8), y⟩] [] []) := by kernel_rfl
def k_slices_Clone_byte_byte : Kn := ⟨102, [0], fun args rows => match args, rows with
  | [.one ⟨.sl false 5 (.int .u8), x0⟩], [] => some ⟨_, G.slices_Clone_byte_byte x0, fun y => ⟨[.one ⟨.sl true 5 (.int .u8), y⟩], [], []⟩⟩
  | _, _ => none, []⟩
theorem s_slices_Clone_byte_byte : KnOk Try.prog k_slices_Clone_byte_byte := by
  intro args rows a h y hy
  simp only [k_slices_Clone_byte_byte] at h
  split at h
  · injection h with h
    subst h
    exact vfun_ok eok_slices_Clone_byte_byte Try.func102 rfl (by rw [v_slices_Clone_byte_byte]; simp only at hy; rw [hy]; rfl)
  · cases h
def J_i_copyBlocks : Joins := [(.r, ⟨[.sl true 23 (.sl true 5 (.int .u8))], [(2, .one (.vw 122945))], [], [(122945, 0)], [], []⟩)]
def ann_i_copyBlocks : Ann := .seq .nil (.seq .nil (.seq (.seq .nil (.block [] (.loop ⟨[.sl true 23 (.sl true 5 (.int .u8)), .sl false 23 (.sl false 5 (.int .u8)), .int .i64, .int .i64], [(3, .one (.vw 122880)), (7, .one (.h 1)), (8, .one (.h 2)), (9, .one (.h 3))], [], [(122880, 0)], [], []⟩ [(.x 0, ⟨[.sl true 23 (.sl true 5 (.int .u8))], [(3, .one (.vw 122944))], [], [(122944, 0)], [], []⟩)] .nil))) .nil))
def env_i_copyBlocks : Env := envOf ti [k_slices_Clone_byte_byte] []
theorem eok_i_copyBlocks : EnvOk Try.prog env_i_copyBlocks := envOf_ok tab mix _ _ (by
  intro k hk
  simp only [List.mem_cons, List.not_mem_nil, or_false] at hk
  rcases hk with rfl
  · exact s_slices_Clone_byte_byte)
theorem v_i_copyBlocks (x0 : List (List Int)) : (vfun env_i_copyBlocks Try.f153 J_i_copyBlocks ann_i_copyBlocks [] [.one ⟨.sl false 23 (.sl false 5 (.int .u8)), x0⟩] []).run = (G.i_copyBlocks x0).bind fun y => some (Res.mk [.one ⟨.sl true 23 (.sl true 5 (.int .u8)), y⟩] [] []) := by kernel_rfl
def k_i_copyBlocks : Kn := ⟨153, [0], fun args rows => match args, rows with
  | [.one ⟨.sl false 23 (.sl false 5 (.int .u8)), x0⟩], [] => some ⟨_, G.i_copyBlocks x0, fun y => ⟨[.one ⟨.sl true 23 (.sl true 5 (.int .u8)), y⟩], [], []⟩⟩
  | _, _ => none, []⟩
theorem s_i_copyBlocks : KnOk Try.prog k_i_copyBlocks := by
  intro args rows a h y hy
  simp only [k_i_copyBlocks] at h
  split at h
  · injection h with h
    subst h
    exact vfun_ok eok_i_copyBlocks Try.func153 rfl (by rw [v_i_copyBlocks]; simp only at hy; rw [hy]; rfl)
  · cases h
def J_slices_Clone_int_int : Joins := [(.r, ⟨[.sl true 3 (.int .i64)], [(2, .one (.vw 110593))], [], [(110593, 0)], [], []⟩)]
def ann_slices_Clone_int_int : Ann := .seq .nil (.both [(.r, ⟨[.sl true 3 (.int .i64)], [(2, .one (.vw 110592))], [], [(110592, 0)], [], []⟩)] .nil .nil .nil .nil .nil)
def env_slices_Clone_int_int : Env := envOf ti [] []
theorem eok_slices_Clone_int_int : EnvOk Try.prog env_slices_Clone_int_int := envOf_ok tab mix _ _ (by
  intro k hk; cases hk)
theorem v_slices_Clone_int_int (x0 : List Int) : (vfun env_slices_Clone_int_int Try.f154 J_slices_Clone_int_int ann_slices_Clone_int_int [] [.one ⟨.sl false 3 (.int .i64), x0⟩] []).run = (G.slices_Clone_int_int x0).bind fun y => some (Res.mk [.one ⟨.sl true 3 (.int .i64), y⟩] [] []) := by kernel_rfl
def k_slices_Clone_int_int : Kn := ⟨154, [0], fun args rows => match args, rows with
  | [.one ⟨.sl false 3 (.int .i64), x0⟩], [] => some ⟨_, G.slices_Clone_int_int x0, fun y => ⟨[.one ⟨.sl true 3 (.int .i64), y⟩], [], []⟩⟩
  | _, _ => none, []⟩
theorem s_slices_Clone_int_int : KnOk Try.prog k_slices_Clone_int_int := by
  intro args rows a h y hy
  simp only [k_slices_Clone_int_int] at h
  split at h
  · injection h with h
    subst h
    exact vfun_ok eok_slices_Clone_int_int Try.func154 rfl (by rw [v_slices_Clone_int_int]; simp only at hy; rw [hy]; rfl)
  · cases h
def J_i_Space_copied : Joins := [(.r, ⟨[.sl true 23 (.sl true 5 (.int .u8)), .sl true 5 (.int .u8), .sl true 3 (.int .i64), .sl true 3 (.int .i64)], [(2, .pl 2 0)], [(2, [.vw 118784, .vw 118785, .vw 118786, .vw 118787])], [(118784, 0), (118785, 1), (118786, 2), (118787, 3)], [], []⟩)]
def ann_i_Space_copied : Ann := .nil
def env_i_Space_copied : Env := envOf ti [k_i_copyBlocks, k_slices_Clone_byte_byte, k_slices_Clone_int_int] []
theorem eok_i_Space_copied : EnvOk Try.prog env_i_Space_copied := envOf_ok tab mix _ _ (by
  intro k hk
  simp only [List.mem_cons, List.not_mem_nil, or_false] at hk
  rcases hk with rfl | rfl | rfl
  · exact s_i_copyBlocks
  · exact s_slices_Clone_byte_byte
  · exact s_slices_Clone_int_int)
theorem v_i_Space_copied (x0 : List (List Int)) (x1 : List Int) (x2 : List Int) (x3 : List Int) : (vfun env_i_Space_copied Try.f80 J_i_Space_copied ann_i_Space_copied [] [.ag [⟨.sl false 23 (.sl false 5 (.int .u8)), x0⟩, ⟨.sl false 5 (.int .u8), x1⟩, ⟨.sl false 3 (.int .i64), x2⟩, ⟨.sl false 3 (.int .i64), x3⟩]] []).run = (G.i_Space_copied x0 x1 x2 x3).bind fun y => some (Res.mk [.ag [⟨.sl true 23 (.sl true 5 (.int .u8)), y.1⟩, ⟨.sl true 5 (.int .u8), y.2.1⟩, ⟨.sl true 3 (.int .i64), y.2.2.1⟩, ⟨.sl true 3 (.int .i64), y.2.2.2⟩]] [] []) := by kernel_rfl
def k_i_Space_copied : Kn := ⟨80, [0], fun args rows => match args, rows with
  | [.ag [⟨.sl false 23 (.sl false 5 (.int .u8)), x0⟩, ⟨.sl false 5 (.int .u8), x1⟩, ⟨.sl false 3 (.int .i64), x2⟩, ⟨.sl false 3 (.int .i64), x3⟩]], [] => some ⟨_, G.i_Space_copied x0 x1 x2 x3, fun y => ⟨[.ag [⟨.sl true 23 (.sl true 5 (.int .u8)), y.1⟩, ⟨.sl true 5 (.int .u8), y.2.1⟩, ⟨.sl true 3 (.int .i64), y.2.2.1⟩, ⟨.sl true 3 (.int .i64), y.2.2.2⟩]], [], []⟩⟩
  | _, _ => none, []⟩
theorem s_i_Space_copied : KnOk Try.prog k_i_Space_copied := by
  intro args rows a h y hy
  simp only [k_i_Space_copied] at h
  split at h
  · injection h with h
    subst h
    exact vfun_ok eok_i_Space_copied Try.func80 rfl (by rw [v_i_Space_copied]; simp only at hy; rw [hy]; rfl)
  · cases h
def J_cmp_isNaN_int : Joins := [(.r, ⟨[.bool], [(2, .one (.h 0))], [], [], [], []⟩)]
def ann_cmp_isNaN_int : Ann := .nil
def env_cmp_isNaN_int : Env := envOf ti [] []
theorem eok_cmp_isNaN_int : EnvOk Try.prog env_cmp_isNaN_int := envOf_ok tab mix _ _ (by
  intro k hk; cases hk)
theorem v_cmp_isNaN_int (x0 : Int) : (vfun env_cmp_isNaN_int Try.f240 J_cmp_isNaN_int ann_cmp_isNaN_int [] [.one ⟨.int .i64, x0⟩] []).run = (G.cmp_isNaN_int x0).bind fun y => some (Res.mk [.one ⟨.bool, y⟩] [] []) := by kernel_rfl
def k_cmp_isNaN_int : Kn := ⟨240, [0], fun args rows => match args, rows with
  | [.one ⟨.int .i64, x0⟩], [] => some ⟨_, G.cmp_isNaN_int x0, fun y => ⟨[.one ⟨.bool, y⟩], [], []⟩⟩
  | _, _ => none, []⟩
theorem s_cmp_isNaN_int : KnOk Try.prog k_cmp_isNaN_int := by
  intro args rows a h y hy
  simp only [k_cmp_isNaN_int] at h
  split at h
  · injection h with h
    subst h
    exact vfun_ok eok_cmp_isNaN_int Try.func240 rfl (by rw [v_cmp_isNaN_int]; simp only at hy; rw [hy]; rfl)
  · cases h
def J_cmp_Less_int : Joins := [(.r, ⟨[.bool], [(4, .one (.h 0))], [], [], [], []⟩)]
def ann_cmp_Less_int : Ann := .seq .nil (.seq (.reg [(.n, ⟨[.bool], [(4, .one (.h 0))], [], [], [], []⟩)]) .nil)
def env_cmp_Less_int : Env := envOf ti [k_cmp_isNaN_int] []
theorem eok_cmp_Less_int : EnvOk Try.prog env_cmp_Less_int := envOf_ok tab mix _ _ (by
  intro k hk
  simp only [List.mem_cons, List.not_mem_nil, or_false] at hk
  rcases hk with rfl
  · exact s_cmp_isNaN_int)
theorem v_cmp_Less_int (x0 : Int) (x1 : Int) : (vfun env_cmp_Less_int Try.f227 J_cmp_Less_int ann_cmp_Less_int [] [.one ⟨.int .i64, x0⟩, .one ⟨.int .i64, x1⟩] []).run = (G.cmp_Less_int x0 x1).bind fun y => some (Res.mk [.one ⟨.bool, y⟩] [] []) := by kernel_rfl
def k_cmp_Less_int : Kn := ⟨227, [0, 0], fun args rows => match args, rows with
  | [.one ⟨.int .i64, x0⟩, .one ⟨.int .i64, x1⟩], [] => some ⟨_, G.cmp_Less_int x0 x1, fun y => ⟨[.one ⟨.bool, y⟩], [], []⟩⟩
  | _, _ => none, []⟩
theorem s_cmp_Less_int : KnOk Try.prog k_cmp_Less_int := by
  intro args rows a h y hy
  simp only [k_cmp_Less_int] at h
  split at h
  · injection h with h
    subst h
    exact vfun_ok eok_cmp_Less_int Try.func227 rfl (by rw [v_cmp_Less_int]; simp only at hy; rw [hy]; rfl)
  · cases h
end
end Go.Proofs.Ytggpihbcaebpjaa

set_option linter.unusedVariables false
set_option maxRecDepth 100000
namespace Go.Proofs.Ytggpihbcaebpjaa
open Go.V
noncomputable section
def J_slices_isNaN_int : Joins := [(.r, ⟨[.bool], [(2, .one (.h 0))], [], [], [], []⟩)]
def ann_slices_isNaN_int : Ann := .nil
def env_slices_isNaN_int : Env := envOf ti [] []
theorem eok_slices_isNaN_int : EnvOk Try.prog env_slices_isNaN_int := envOf_ok tab mix _ _ (by
  intro k hk; cases hk)
theorem v_slices_isNaN_int (x0 : Int) : (vfun env_slices_isNaN_int Try.f228 J_slices_isNaN_int ann_slices_isNaN_int [] [.one ⟨.int .i64, x0⟩] []).run = (G.slices_isNaN_int x0).bind fun y => some (Res.mk [.one ⟨.bool, y⟩] [] []) := by kernel_rfl
def k_slices_isNaN_int : Kn := ⟨228, [0], fun args rows => match args, rows with
  | [.one ⟨.int .i64, x0⟩], [] => some ⟨_, G.slices_isNaN_int x0, fun y => ⟨[.one ⟨.bool, y⟩], [], []⟩⟩
  | _, _ => none, []⟩
theorem s_slices_isNaN_int : KnOk Try.prog k_slices_isNaN_int := by
  intro args rows a h y hy
  simp only [k_slices_isNaN_int] at h
  split at h
  · injection h with h
    subst h
    exact vfun_ok eok_slices_isNaN_int Try.func228 rfl (by rw [v_slices_isNaN_int]; simp only at hy; rw [hy]; rfl)
  · cases h
def J_slices_BinarySearch_int_int : Joins := [(.r, ⟨[.int .i64, .bool], [(4, .one (.h 0)), (5, .one (.h 1))], [], [], [], []⟩)]
def ann_slices_BinarySearch_int_int : Ann := .seq .nil (.seq .nil (.seq .nil (.seq (.block [] (.loop ⟨[.sl false 3 (.int .i64), .int .i64, .int .i64, .int .i64, .int .i64], [(0, .one (.h 0)), (1, .one (.h 1)), (6, .one (.h 2)), (7, .one (.h 3)), (8, .one (.h 4))], [], [], [], []⟩ [(.x 0, ⟨[.sl false 3 (.int .i64), .int .i64, .int .i64, .int .i64], [(0, .one (.h 0)), (1, .one (.h 1)), (6, .one (.h 2)), (7, .one (.h 3))], [], [], [], []⟩)] (.seq .nil (.block [] (.seq .nil (.seq .nil (.cond [(.n, ⟨[.sl false 3 (.int .i64), .int .i64, .int .i64, .int .i64, .int .i64], [(0, .one (.h 0)), (1, .one (.h 1)), (6, .one (.h 2)), (7, .one (.h 3)), (8, .one (.h 4))], [], [], [], []⟩)] .nil .nil))))))) (.seq (.reg [(.n, ⟨[.int .i64, .bool], [(4, .one (.h 0)), (5, .one (.h 1))], [], [], [], []⟩)]) .nil))))
def env_slices_BinarySearch_int_int : Env := envOf ti [k_cmp_Less_int, k_slices_isNaN_int] []
theorem eok_slices_BinarySearch_int_int : EnvOk Try.prog env_slices_BinarySearch_int_int := envOf_ok tab mix _ _ (by
  intro k hk
  simp only [List.mem_cons, List.not_mem_nil, or_false] at hk
  rcases hk with rfl | rfl
  · exact s_cmp_Less_int
  · exact s_slices_isNaN_int)
theorem v_slices_BinarySearch_int_int (x0 : List Int) (x1 : Int) : (vfun env_slices_BinarySearch_int_int Try.f208 J_slices_BinarySearch_int_int ann_slices_BinarySearch_int_int [] [.one ⟨.sl false 3 (.int .i64), x0⟩, .one ⟨.int .i64, x1⟩] []).run = (G.slices_BinarySearch_int_int x0 x1).bind fun y => some (Res.mk [.one ⟨.int .i64, y.1⟩, .one ⟨.bool, y.2⟩] [] []) := by kernel_rfl
def k_slices_BinarySearch_int_int : Kn := ⟨208, [0, 0], fun args rows => match args, rows with
  | [.one ⟨.sl false 3 (.int .i64), x0⟩, .one ⟨.int .i64, x1⟩], [] => some ⟨_, G.slices_BinarySearch_int_int x0 x1, fun y => ⟨[.one ⟨.int .i64, y.1⟩, .one ⟨.bool, y.2⟩], [], []⟩⟩
  | _, _ => none, []⟩
theorem s_slices_BinarySearch_int_int : KnOk Try.prog k_slices_BinarySearch_int_int := by
  intro args rows a h y hy
  simp only [k_slices_BinarySearch_int_int] at h
  split at h
  · injection h with h
    subst h
    exact vfun_ok eok_slices_BinarySearch_int_int Try.func208 rfl (by rw [v_slices_BinarySearch_int_int]; simp only at hy; rw [hy]; rfl)
  · cases h
def rho : Go.Shelf.Ren := ⟨fun x => match x with | 21 => 209 | 27 => 229 | 28 => 230 | 35 => 241 | 39 => 243 | n => n, fun x => match x with | 22 => 24 | 3 => 3 | 4 => 4 | 0 => 0 | n => n, fun n => n⟩
theorem insL : Go.Proofs.Lays2.n21 Try.prog rho := lays_of mix (by kernel_rfl) (by kernel_rfl) (by kernel_rfl) (by kernel_rfl) (by kernel_rfl) (by kernel_rfl) (by kernel_rfl) (by kernel_rfl) (by kernel_rfl) (by kernel_rfl) (by kernel_rfl) (by kernel_rfl) (by kernel_rfl)
def k_slices_Insert_int_int : Kn := ⟨209, [1, 0, 1], fun args rows => match args, rows with
  | [.one ⟨.sl true 3 (.int .i64), x0⟩, .one ⟨.int .i64, x1⟩, .one ⟨.sl true 3 (.int .i64), x2⟩], [] => some ⟨_, G.slices_Insert_int_int x0 x1 x2, fun y => ⟨[.one ⟨.sl true 3 (.int .i64), y⟩], [], []⟩⟩
  | _, _ => none, []⟩
theorem s_slices_Insert_int_int : KnOk Try.prog k_slices_Insert_int_int := by
  intro args rows a h y hy
  simp only [k_slices_Insert_int_int] at h
  split at h
  · injection h with h
    subst h
    exact ins_known insL hy
  · cases h
def J_i_insert : Joins := [(.r, ⟨[.sl true 3 (.int .i64)], [(4, .one (.vw 122880))], [], [(122880, 0)], [], []⟩)]
def ann_i_insert : Ann := .nil
def env_i_insert : Env := envOf ti [k_slices_BinarySearch_int_int, k_slices_Insert_int_int] []
theorem eok_i_insert : EnvOk Try.prog env_i_insert := envOf_ok tab mix _ _ (by
  intro k hk
  simp only [List.mem_cons, List.not_mem_nil, or_false] at hk
  rcases hk with rfl | rfl
  · exact s_slices_BinarySearch_int_int
  · exact s_slices_Insert_int_int)
theorem v_i_insert (x0 : List Int) (x1 : Int) : (vfun env_i_insert Try.f162 J_i_insert ann_i_insert [] [.one ⟨.sl true 3 (.int .i64), x0⟩, .one ⟨.int .i64, x1⟩] []).run = (G.i_insert x0 x1).bind fun y => some (Res.mk [.one ⟨.sl true 3 (.int .i64), y⟩] [] []) := by kernel_rfl
def k_i_insert : Kn := ⟨162, [1, 0], fun args rows => match args, rows with
  | [.one ⟨.sl true 3 (.int .i64), x0⟩, .one ⟨.int .i64, x1⟩], [] => some ⟨_, G.i_insert x0 x1, fun y => ⟨[.one ⟨.sl true 3 (.int .i64), y⟩], [], []⟩⟩
  | _, _ => none, []⟩
theorem s_i_insert : KnOk Try.prog k_i_insert := by
  intro args rows a h y hy
  simp only [k_i_insert] at h
  split at h
  · injection h with h
    subst h
    exact vfun_ok eok_i_insert Try.func162 rfl (by rw [v_i_insert]; simp only at hy; rw [hy]; rfl)
  · cases h
def J_i_Space_lay_oooo : Joins := [(.n, ⟨[.sl true 23 (.sl true 5 (.int .u8)), .sl true 5 (.int .u8), .sl true 3 (.int .i64), .sl true 3 (.int .i64)], [], [(24, [.vw 125952, .vw 125953, .vw 125954, .vw 125955])], [(125952, 0), (125953, 1), (125954, 2), (125955, 3)], [], []⟩)]
def ann_i_Space_lay_oooo : Ann := .nil
def env_i_Space_lay_oooo : Env := envOf ti [k_slices_Clone_byte_byte, k_i_insert] []
theorem eok_i_Space_lay_oooo : EnvOk Try.prog env_i_Space_lay_oooo := envOf_ok tab mix _ _ (by
  intro k hk
  simp only [List.mem_cons, List.not_mem_nil, or_false] at hk
  rcases hk with rfl | rfl
  · exact s_slices_Clone_byte_byte
  · exact s_i_insert)
theorem v_i_Space_lay_oooo (x0 : Int) (x1 : List Int) (x2 : List (List Int)) (x3 : List Int) (x4 : List Int) (x5 : List Int) : (vfun env_i_Space_lay_oooo Try.f155 J_i_Space_lay_oooo ann_i_Space_lay_oooo [] [.pl 0 0, .one ⟨.int .i64, x0⟩, .one ⟨.sl false 5 (.int .u8), x1⟩] [[⟨.sl true 23 (.sl true 5 (.int .u8)), x2⟩, ⟨.sl true 5 (.int .u8), x3⟩, ⟨.sl true 3 (.int .i64), x4⟩, ⟨.sl true 3 (.int .i64), x5⟩]]).run = (G.i_Space_lay_oooo x0 x1 x2 x3 x4 x5).bind fun y => some (Res.mk [] [[⟨.sl true 23 (.sl true 5 (.int .u8)), y.1⟩, ⟨.sl true 5 (.int .u8), y.2.1⟩, ⟨.sl true 3 (.int .i64), y.2.2.1⟩, ⟨.sl true 3 (.int .i64), y.2.2.2⟩]] []) := by kernel_rfl
def k_i_Space_lay_oooo : Kn := ⟨155, [0, 0, 0], fun args rows => match args, rows with
  | [.pl 0 0, .one ⟨.int .i64, x0⟩, .one ⟨.sl false 5 (.int .u8), x1⟩], [[⟨.sl true 23 (.sl true 5 (.int .u8)), x2⟩, ⟨.sl true 5 (.int .u8), x3⟩, ⟨.sl true 3 (.int .i64), x4⟩, ⟨.sl true 3 (.int .i64), x5⟩]] => some ⟨_, G.i_Space_lay_oooo x0 x1 x2 x3 x4 x5, fun y => ⟨[], [[⟨.sl true 23 (.sl true 5 (.int .u8)), y.1⟩, ⟨.sl true 5 (.int .u8), y.2.1⟩, ⟨.sl true 3 (.int .i64), y.2.2.1⟩, ⟨.sl true 3 (.int .i64), y.2.2.2⟩]], []⟩⟩
  | _, _ => none, []⟩
theorem s_i_Space_lay_oooo : KnOk Try.prog k_i_Space_lay_oooo := by
  intro args rows a h y hy
  simp only [k_i_Space_lay_oooo] at h
  split at h
  · injection h with h
    subst h
    exact vfun_ok eok_i_Space_lay_oooo Try.func155 rfl (by rw [v_i_Space_lay_oooo]; simp only at hy; rw [hy]; rfl)
  · cases h
def J_i_Space_used_oooo : Joins := [(.r, ⟨[.bool, .sl true 23 (.sl true 5 (.int .u8)), .sl true 5 (.int .u8), .sl true 3 (.int .i64), .sl true 3 (.int .i64)], [(4, .one (.h 0))], [(19, [.vw 120832, .vw 120833, .vw 120834, .vw 120835])], [(120832, 1), (120833, 2), (120834, 3), (120835, 4)], [], []⟩)]
def ann_i_Space_used_oooo : Ann := .nil
def env_i_Space_used_oooo : Env := envOf ti [] []
theorem eok_i_Space_used_oooo : EnvOk Try.prog env_i_Space_used_oooo := envOf_ok tab mix _ _ (by
  intro k hk; cases hk)
theorem v_i_Space_used_oooo (x0 : Int) (x1 : List (List Int)) (x2 : List Int) (x3 : List Int) (x4 : List Int) : (vfun env_i_Space_used_oooo Try.f90 J_i_Space_used_oooo ann_i_Space_used_oooo [] [.pl 0 0, .one ⟨.int .i64, x0⟩] [[⟨.sl true 23 (.sl true 5 (.int .u8)), x1⟩, ⟨.sl true 5 (.int .u8), x2⟩, ⟨.sl true 3 (.int .i64), x3⟩, ⟨.sl true 3 (.int .i64), x4⟩]]).run = (G.i_Space_used_oooo x0 x1 x2 x3 x4).bind fun y => some (Res.mk [.one ⟨.bool, y.1⟩] [[⟨.sl true 23 (.sl true 5 (.int .u8)), y.2.1⟩, ⟨.sl true 5 (.int .u8), y.2.2.1⟩, ⟨.sl true 3 (.int .i64), y.2.2.2.1⟩, ⟨.sl true 3 (.int .i64), y.2.2.2.2⟩]] []) := by kernel_rfl
def k_i_Space_used_oooo : Kn := ⟨90, [0, 0], fun args rows => match args, rows with
  | [.pl 0 0, .one ⟨.int .i64, x0⟩], [[⟨.sl true 23 (.sl true 5 (.int .u8)), x1⟩, ⟨.sl true 5 (.int .u8), x2⟩, ⟨.sl true 3 (.int .i64), x3⟩, ⟨.sl true 3 (.int .i64), x4⟩]] => some ⟨_, G.i_Space_used_oooo x0 x1 x2 x3 x4, fun y => ⟨[.one ⟨.bool, y.1⟩], [[⟨.sl true 23 (.sl true 5 (.int .u8)), y.2.1⟩, ⟨.sl true 5 (.int .u8), y.2.2.1⟩, ⟨.sl true 3 (.int .i64), y.2.2.2.1⟩, ⟨.sl true 3 (.int .i64), y.2.2.2.2⟩]], []⟩⟩
  | _, _ => none, []⟩
theorem s_i_Space_used_oooo : KnOk Try.prog k_i_Space_used_oooo := by
  intro args rows a h y hy
  simp only [k_i_Space_used_oooo] at h
  split at h
  · injection h with h
    subst h
    exact vfun_ok eok_i_Space_used_oooo Try.func90 rfl (by rw [v_i_Space_used_oooo]; simp only at hy; rw [hy]; rfl)
  · cases h
def J_i_Space_take_oooo : Joins := [(.r, ⟨[.int .i64, .bool, .sl true 23 (.sl true 5 (.int .u8)), .sl true 5 (.int .u8), .sl true 3 (.int .i64), .sl true 3 (.int .i64)], [(2, .one (.h 0)), (3, .one (.h 1))], [(37, [.vw 139336, .vw 139337, .vw 139338, .vw 139339])], [(139336, 2), (139337, 3), (139338, 4), (139339, 5)], [], []⟩)]
def ann_i_Space_take_oooo : Ann := .seq .nil (.seq (.seq .nil (.block [] (.loop ⟨[.int .i64, .int .i64, .sl true 23 (.sl true 5 (.int .u8)), .sl true 5 (.int .u8), .sl true 3 (.int .i64), .sl true 3 (.int .i64)], [(0, .pl 37 0), (9, .one (.h 0)), (10, .one (.h 1))], [(37, [.vw 139264, .vw 139265, .vw 139266, .vw 139267])], [(139264, 2), (139265, 3), (139266, 4), (139267, 5)], [], []⟩ [(.x 0, ⟨[.sl true 23 (.sl true 5 (.int .u8)), .sl true 5 (.int .u8), .sl true 3 (.int .i64), .sl true 3 (.int .i64)], [], [(37, [.vw 139328, .vw 139329, .vw 139330, .vw 139331])], [(139328, 0), (139329, 1), (139330, 2), (139331, 3)], [], []⟩), (.r, ⟨[.int .i64, .bool, .sl true 23 (.sl true 5 (.int .u8)), .sl true 5 (.int .u8), .sl true 3 (.int .i64), .sl true 3 (.int .i64)], [(2, .one (.h 0)), (3, .one (.h 1))], [(37, [.vw 139332, .vw 139333, .vw 139334, .vw 139335])], [(139332, 2), (139333, 3), (139334, 4), (139335, 5)], [], []⟩)] .nil))) .nil)
def env_i_Space_take_oooo : Env := envOf ti [k_i_Space_used_oooo, k_i_Space_lay_oooo] []
theorem eok_i_Space_take_oooo : EnvOk Try.prog env_i_Space_take_oooo := envOf_ok tab mix _ _ (by
  intro k hk
  simp only [List.mem_cons, List.not_mem_nil, or_false] at hk
  rcases hk with rfl | rfl
  · exact s_i_Space_used_oooo
  · exact s_i_Space_lay_oooo)
theorem v_i_Space_take_oooo (x0 : List (List Int)) (x1 : List Int) (x2 : List Int) (x3 : List Int) : (vfun env_i_Space_take_oooo Try.f81 J_i_Space_take_oooo ann_i_Space_take_oooo [] [.pl 0 0] [[⟨.sl true 23 (.sl true 5 (.int .u8)), x0⟩, ⟨.sl true 5 (.int .u8), x1⟩, ⟨.sl true 3 (.int .i64), x2⟩, ⟨.sl true 3 (.int .i64), x3⟩]]).run = (G.i_Space_take_oooo x0 x1 x2 x3).bind fun y => some (Res.mk [.one ⟨.int .i64, y.1⟩, .one ⟨.bool, y.2.1⟩] [[⟨.sl true 23 (.sl true 5 (.int .u8)), y.2.2.1⟩, ⟨.sl true 5 (.int .u8), y.2.2.2.1⟩, ⟨.sl true 3 (.int .i64), y.2.2.2.2.1⟩, ⟨.sl true 3 (.int .i64), y.2.2.2.2.2⟩]] []) := by kernel_rfl
def k_i_Space_take_oooo : Kn := ⟨81, [0], fun args rows => match args, rows with
  | [.pl 0 0], [[⟨.sl true 23 (.sl true 5 (.int .u8)), x0⟩, ⟨.sl true 5 (.int .u8), x1⟩, ⟨.sl true 3 (.int .i64), x2⟩, ⟨.sl true 3 (.int .i64), x3⟩]] => some ⟨_, G.i_Space_take_oooo x0 x1 x2 x3, fun y => ⟨[.one ⟨.int .i64, y.1⟩, .one ⟨.bool, y.2.1⟩], [[⟨.sl true 23 (.sl true 5 (.int .u8)), y.2.2.1⟩, ⟨.sl true 5 (.int .u8), y.2.2.2.1⟩, ⟨.sl true 3 (.int .i64), y.2.2.2.2.1⟩, ⟨.sl true 3 (.int .i64), y.2.2.2.2.2⟩]], []⟩⟩
  | _, _ => none, []⟩
theorem s_i_Space_take_oooo : KnOk Try.prog k_i_Space_take_oooo := by
  intro args rows a h y hy
  simp only [k_i_Space_take_oooo] at h
  split at h
  · injection h with h
    subst h
    exact vfun_ok eok_i_Space_take_oooo Try.func81 rfl (by rw [v_i_Space_take_oooo]; simp only at hy; rw [hy]; rfl)
  · cases h
def J_i_TakeBlock : Joins := [(.r, ⟨[.int .i64, .bool, .sl true 23 (.sl true 5 (.int .u8)), .sl true 5 (.int .u8), .sl true 3 (.int .i64), .sl true 3 (.int .i64)], [(2, .pl 2 0), (3, .one (.h 0)), (4, .one (.h 1))], [(2, [.vw 125952, .vw 125953, .vw 125954, .vw 125955])], [(125952, 2), (125953, 3), (125954, 4), (125955, 5)], [], []⟩)]
def ann_i_TakeBlock : Ann := .nil
def env_i_TakeBlock : Env := envOf ti [k_i_GoodSpace, k_i_Space_copied, k_i_Space_take_oooo] []
theorem eok_i_TakeBlock : EnvOk Try.prog env_i_TakeBlock := envOf_ok tab mix _ _ (by
  intro k hk
  simp only [List.mem_cons, List.not_mem_nil, or_false] at hk
  rcases hk with rfl | rfl | rfl
  · exact s_i_GoodSpace
  · exact s_i_Space_copied
  · exact s_i_Space_take_oooo)
theorem v_i_TakeBlock (x0 : List (List Int)) (x1 : List Int) (x2 : List Int) (x3 : List Int) : (vfun env_i_TakeBlock Try.f17 J_i_TakeBlock ann_i_TakeBlock [] [.ag [⟨.sl false 23 (.sl false 5 (.int .u8)), x0⟩, ⟨.sl false 5 (.int .u8), x1⟩, ⟨.sl false 3 (.int .i64), x2⟩, ⟨.sl false 3 (.int .i64), x3⟩]] []).run = (G.i_TakeBlock x0 x1 x2 x3).bind fun y => some (Res.mk [.ag [⟨.sl true 23 (.sl true 5 (.int .u8)), y.2.2.1⟩, ⟨.sl true 5 (.int .u8), y.2.2.2.1⟩, ⟨.sl true 3 (.int .i64), y.2.2.2.2.1⟩, ⟨.sl true 3 (.int .i64), y.2.2.2.2.2⟩], .one ⟨.int .i64, y.1⟩, .one ⟨.bool, y.2.1⟩] [] []) := by kernel_rfl
def k_i_TakeBlock : Kn := ⟨17, [0], fun args rows => match args, rows with
  | [.ag [⟨.sl false 23 (.sl false 5 (.int .u8)), x0⟩, ⟨.sl false 5 (.int .u8), x1⟩, ⟨.sl false 3 (.int .i64), x2⟩, ⟨.sl false 3 (.int .i64), x3⟩]], [] => some ⟨_, G.i_TakeBlock x0 x1 x2 x3, fun y => ⟨[.ag [⟨.sl true 23 (.sl true 5 (.int .u8)), y.2.2.1⟩, ⟨.sl true 5 (.int .u8), y.2.2.2.1⟩, ⟨.sl true 3 (.int .i64), y.2.2.2.2.1⟩, ⟨.sl true 3 (.int .i64), y.2.2.2.2.2⟩], .one ⟨.int .i64, y.1⟩, .one ⟨.bool, y.2.1⟩], [], []⟩⟩
  | _, _ => none, []⟩
theorem s_i_TakeBlock : KnOk Try.prog k_i_TakeBlock := by
  intro args rows a h y hy
  simp only [k_i_TakeBlock] at h
  split at h
  · injection h with h
    subst h
    exact vfun_ok eok_i_TakeBlock Try.func17 rfl (by rw [v_i_TakeBlock]; simp only at hy; rw [hy]; rfl)
  · cases h
def J_slices_Index_int_int : Joins := [(.r, ⟨[.int .i64], [(4, .one (.h 0))], [], [], [], []⟩)]
def ann_slices_Index_int_int : Ann := .seq .nil (.seq (.seq .nil (.block [] (.loop ⟨[.sl false 3 (.int .i64), .int .i64, .int .i64, .int .i64], [(0, .one (.h 0)), (1, .one (.h 1)), (7, .one (.h 2)), (8, .one (.h 3))], [], [], [], []⟩ [(.x 0, ⟨[], [], [], [], [], []⟩), (.r, ⟨[.int .i64], [(4, .one (.h 0))], [], [], [], []⟩)] .nil))) .nil)
def env_slices_Index_int_int : Env := envOf ti [] []
theorem eok_slices_Index_int_int : EnvOk Try.prog env_slices_Index_int_int := envOf_ok tab mix _ _ (by
  intro k hk; cases hk)
theorem v_slices_Index_int_int (x0 : List Int) (x1 : Int) : (vfun env_slices_Index_int_int Try.f207 J_slices_Index_int_int ann_slices_Index_int_int [] [.one ⟨.sl false 3 (.int .i64), x0⟩, .one ⟨.int .i64, x1⟩] []).run = (G.slices_Index_int_int x0 x1).bind fun y => some (Res.mk [.one ⟨.int .i64, y⟩] [] []) := by kernel_rfl
def k_slices_Index_int_int : Kn := ⟨207, [0, 0], fun args rows => match args, rows with
  | [.one ⟨.sl false 3 (.int .i64), x0⟩, .one ⟨.int .i64, x1⟩], [] => some ⟨_, G.slices_Index_int_int x0 x1, fun y => ⟨[.one ⟨.int .i64, y⟩], [], []⟩⟩
  | _, _ => none, []⟩
theorem s_slices_Index_int_int : KnOk Try.prog k_slices_Index_int_int := by
  intro args rows a h y hy
  simp only [k_slices_Index_int_int] at h
  split at h
  · injection h with h
    subst h
    exact vfun_ok eok_slices_Index_int_int Try.func207 rfl (by rw [v_slices_Index_int_int]; simp only at hy; rw [hy]; rfl)
  · cases h
def J_slices_Contains_int_int : Joins := [(.r, ⟨[.bool], [(4, .one (.h 0))], [], [], [], []⟩)]
def ann_slices_Contains_int_int : Ann := .nil
def env_slices_Contains_int_int : Env := envOf ti [k_slices_Index_int_int] []
theorem eok_slices_Contains_int_int : EnvOk Try.prog env_slices_Contains_int_int := envOf_ok tab mix _ _ (by
  intro k hk
  simp only [List.mem_cons, List.not_mem_nil, or_false] at hk
  rcases hk with rfl
  · exact s_slices_Index_int_int)
theorem v_slices_Contains_int_int (x0 : List Int) (x1 : Int) : (vfun env_slices_Contains_int_int Try.f161 J_slices_Contains_int_int ann_slices_Contains_int_int [] [.one ⟨.sl false 3 (.int .i64), x0⟩, .one ⟨.int .i64, x1⟩] []).run = (G.slices_Contains_int_int x0 x1).bind fun y => some (Res.mk [.one ⟨.bool, y⟩] [] []) := by kernel_rfl
def k_slices_Contains_int_int : Kn := ⟨161, [0, 0], fun args rows => match args, rows with
  | [.one ⟨.sl false 3 (.int .i64), x0⟩, .one ⟨.int .i64, x1⟩], [] => some ⟨_, G.slices_Contains_int_int x0 x1, fun y => ⟨[.one ⟨.bool, y⟩], [], []⟩⟩
  | _, _ => none, []⟩
theorem s_slices_Contains_int_int : KnOk Try.prog k_slices_Contains_int_int := by
  intro args rows a h y hy
  simp only [k_slices_Contains_int_int] at h
  split at h
  · injection h with h
    subst h
    exact vfun_ok eok_slices_Contains_int_int Try.func161 rfl (by rw [v_slices_Contains_int_int]; simp only at hy; rw [hy]; rfl)
  · cases h
def J_i_Space_isHere_ffff : Joins := [(.r, ⟨[.bool, .sl false 23 (.sl false 5 (.int .u8)), .sl false 5 (.int .u8), .sl false 3 (.int .i64), .sl false 3 (.int .i64)], [(4, .one (.h 0))], [(18, [.h 1, .h 2, .h 3, .h 4])], [], [], []⟩)]
def ann_i_Space_isHere_ffff : Ann := .seq .nil (.seq (.reg [(.n, ⟨[.bool, .sl false 23 (.sl false 5 (.int .u8)), .sl false 5 (.int .u8), .sl false 3 (.int .i64), .sl false 3 (.int .i64)], [(4, .one (.h 0))], [(18, [.h 1, .h 2, .h 3, .h 4])], [], [], []⟩)]) .nil)
def env_i_Space_isHere_ffff : Env := envOf ti [k_i_Space_isBlock_ffff, k_slices_Contains_int_int] []
theorem eok_i_Space_isHere_ffff : EnvOk Try.prog env_i_Space_isHere_ffff := envOf_ok tab mix _ _ (by
  intro k hk
  simp only [List.mem_cons, List.not_mem_nil, or_false] at hk
  rcases hk with rfl | rfl
  · exact s_i_Space_isBlock_ffff
  · exact s_slices_Contains_int_int)
theorem v_i_Space_isHere_ffff (x0 : Int) (x1 : List (List Int)) (x2 : List Int) (x3 : List Int) (x4 : List Int) : (vfun env_i_Space_isHere_ffff Try.f91 J_i_Space_isHere_ffff ann_i_Space_isHere_ffff [] [.pl 0 0, .one ⟨.int .i64, x0⟩] [[⟨.sl false 23 (.sl false 5 (.int .u8)), x1⟩, ⟨.sl false 5 (.int .u8), x2⟩, ⟨.sl false 3 (.int .i64), x3⟩, ⟨.sl false 3 (.int .i64), x4⟩]]).run = (G.i_Space_isHere_ffff x0 x1 x2 x3 x4).bind fun y => some (Res.mk [.one ⟨.bool, y.1⟩] [[⟨.sl false 23 (.sl false 5 (.int .u8)), y.2.1⟩, ⟨.sl false 5 (.int .u8), y.2.2.1⟩, ⟨.sl false 3 (.int .i64), y.2.2.2.1⟩, ⟨.sl false 3 (.int .i64), y.2.2.2.2⟩]] []) := by kernel_rfl
def k_i_Space_isHere_ffff : Kn := ⟨91, [0, 0], fun args rows => match args, rows with
  | [.pl 0 0, .one ⟨.int .i64, x0⟩], [[⟨.sl false 23 (.sl false 5 (.int .u8)), x1⟩, ⟨.sl false 5 (.int .u8), x2⟩, ⟨.sl false 3 (.int .i64), x3⟩, ⟨.sl false 3 (.int .i64), x4⟩]] => some ⟨_, G.i_Space_isHere_ffff x0 x1 x2 x3 x4, fun y => ⟨[.one ⟨.bool, y.1⟩], [[⟨.sl false 23 (.sl false 5 (.int .u8)), y.2.1⟩, ⟨.sl false 5 (.int .u8), y.2.2.1⟩, ⟨.sl false 3 (.int .i64), y.2.2.2.1⟩, ⟨.sl false 3 (.int .i64), y.2.2.2.2⟩]], []⟩⟩
  | _, _ => none, []⟩
theorem s_i_Space_isHere_ffff : KnOk Try.prog k_i_Space_isHere_ffff := by
  intro args rows a h y hy
  simp only [k_i_Space_isHere_ffff] at h
  split at h
  · injection h with h
    subst h
    exact vfun_ok eok_i_Space_isHere_ffff Try.func91 rfl (by rw [v_i_Space_isHere_ffff]; simp only at hy; rw [hy]; rfl)
  · cases h
def J_i_Space_give_oooo : Joins := [(.n, ⟨[.sl true 23 (.sl true 5 (.int .u8)), .sl true 5 (.int .u8), .sl true 3 (.int .i64), .sl true 3 (.int .i64)], [], [(14, [.vw 115712, .vw 115713, .vw 115714, .vw 115715])], [(115712, 0), (115713, 1), (115714, 2), (115715, 3)], [], []⟩)]
def ann_i_Space_give_oooo : Ann := .nil
def env_i_Space_give_oooo : Env := envOf ti [k_i_insert] []
theorem eok_i_Space_give_oooo : EnvOk Try.prog env_i_Space_give_oooo := envOf_ok tab mix _ _ (by
  intro k hk
  simp only [List.mem_cons, List.not_mem_nil, or_false] at hk
  rcases hk with rfl
  · exact s_i_insert)
theorem v_i_Space_give_oooo (x0 : Int) (x1 : List (List Int)) (x2 : List Int) (x3 : List Int) (x4 : List Int) : (vfun env_i_Space_give_oooo Try.f92 J_i_Space_give_oooo ann_i_Space_give_oooo [] [.pl 0 0, .one ⟨.int .i64, x0⟩] [[⟨.sl true 23 (.sl true 5 (.int .u8)), x1⟩, ⟨.sl true 5 (.int .u8), x2⟩, ⟨.sl true 3 (.int .i64), x3⟩, ⟨.sl true 3 (.int .i64), x4⟩]]).run = (G.i_Space_give_oooo x0 x1 x2 x3 x4).bind fun y => some (Res.mk [] [[⟨.sl true 23 (.sl true 5 (.int .u8)), y.1⟩, ⟨.sl true 5 (.int .u8), y.2.1⟩, ⟨.sl true 3 (.int .i64), y.2.2.1⟩, ⟨.sl true 3 (.int .i64), y.2.2.2⟩]] []) := by kernel_rfl
def k_i_Space_give_oooo : Kn := ⟨92, [0, 0], fun args rows => match args, rows with
  | [.pl 0 0, .one ⟨.int .i64, x0⟩], [[⟨.sl true 23 (.sl true 5 (.int .u8)), x1⟩, ⟨.sl true 5 (.int .u8), x2⟩, ⟨.sl true 3 (.int .i64), x3⟩, ⟨.sl true 3 (.int .i64), x4⟩]] => some ⟨_, G.i_Space_give_oooo x0 x1 x2 x3 x4, fun y => ⟨[], [[⟨.sl true 23 (.sl true 5 (.int .u8)), y.1⟩, ⟨.sl true 5 (.int .u8), y.2.1⟩, ⟨.sl true 3 (.int .i64), y.2.2.1⟩, ⟨.sl true 3 (.int .i64), y.2.2.2⟩]], []⟩⟩
  | _, _ => none, []⟩
theorem s_i_Space_give_oooo : KnOk Try.prog k_i_Space_give_oooo := by
  intro args rows a h y hy
  simp only [k_i_Space_give_oooo] at h
  split at h
  · injection h with h
    subst h
    exact vfun_ok eok_i_Space_give_oooo Try.func92 rfl (by rw [v_i_Space_give_oooo]; simp only at hy; rw [hy]; rfl)
  · cases h
end
end Go.Proofs.Ytggpihbcaebpjaa

set_option linter.unusedVariables false
set_option maxRecDepth 100000
namespace Go.Proofs.Ytggpihbcaebpjaa
open Go.V
noncomputable section
def J_i_GiveBack : Joins := [(.r, ⟨[.bool, .sl true 23 (.sl true 5 (.int .u8)), .sl true 5 (.int .u8), .sl true 3 (.int .i64), .sl true 3 (.int .i64)], [(4, .pl 4 0), (5, .one (.h 0))], [(4, [.vw 123904, .vw 123905, .vw 123906, .vw 123907])], [(123904, 1), (123905, 2), (123906, 3), (123907, 4)], [], []⟩)]
def ann_i_GiveBack : Ann := .seq .nil (.seq (.seq (.reg [(.n, ⟨[.int .i64, .bool, .sl false 23 (.sl false 5 (.int .u8)), .sl false 5 (.int .u8), .sl false 3 (.int .i64), .sl false 3 (.int .i64)], [(1, .one (.h 0)), (2, .pl 2 0), (4, .pl 4 0), (14, .one (.h 1))], [(2, [.h 2, .h 3, .h 4, .h 5]), (4, [.nil, .nil, .nil, .nil])], [], [], []⟩)]) .nil) .nil)
def env_i_GiveBack : Env := envOf ti [k_i_GoodSpace, k_i_Space_isHere_ffff, k_i_Space_copied, k_i_Space_give_oooo] []
theorem eok_i_GiveBack : EnvOk Try.prog env_i_GiveBack := envOf_ok tab mix _ _ (by
  intro k hk
  simp only [List.mem_cons, List.not_mem_nil, or_false] at hk
  rcases hk with rfl | rfl | rfl | rfl
  · exact s_i_GoodSpace
  · exact s_i_Space_isHere_ffff
  · exact s_i_Space_copied
  · exact s_i_Space_give_oooo)
theorem v_i_GiveBack (x0 : List (List Int)) (x1 : List Int) (x2 : List Int) (x3 : List Int) (x4 : Int) : (vfun env_i_GiveBack Try.f24 J_i_GiveBack ann_i_GiveBack [] [.ag [⟨.sl false 23 (.sl false 5 (.int .u8)), x0⟩, ⟨.sl false 5 (.int .u8), x1⟩, ⟨.sl false 3 (.int .i64), x2⟩, ⟨.sl false 3 (.int .i64), x3⟩], .one ⟨.int .i64, x4⟩] []).run = (G.i_GiveBack x0 x1 x2 x3 x4).bind fun y => some (Res.mk [.ag [⟨.sl true 23 (.sl true 5 (.int .u8)), y.2.1⟩, ⟨.sl true 5 (.int .u8), y.2.2.1⟩, ⟨.sl true 3 (.int .i64), y.2.2.2.1⟩, ⟨.sl true 3 (.int .i64), y.2.2.2.2⟩], .one ⟨.bool, y.1⟩] [] []) := by kernel_rfl
def k_i_GiveBack : Kn := ⟨24, [0, 0], fun args rows => match args, rows with
  | [.ag [⟨.sl false 23 (.sl false 5 (.int .u8)), x0⟩, ⟨.sl false 5 (.int .u8), x1⟩, ⟨.sl false 3 (.int .i64), x2⟩, ⟨.sl false 3 (.int .i64), x3⟩], .one ⟨.int .i64, x4⟩], [] => some ⟨_, G.i_GiveBack x0 x1 x2 x3 x4, fun y => ⟨[.ag [⟨.sl true 23 (.sl true 5 (.int .u8)), y.2.1⟩, ⟨.sl true 5 (.int .u8), y.2.2.1⟩, ⟨.sl true 3 (.int .i64), y.2.2.2.1⟩, ⟨.sl true 3 (.int .i64), y.2.2.2.2⟩], .one ⟨.bool, y.1⟩], [], []⟩⟩
  | _, _ => none, []⟩
theorem s_i_GiveBack : KnOk Try.prog k_i_GiveBack := by
  intro args rows a h y hy
  simp only [k_i_GiveBack] at h
  split at h
  · injection h with h
    subst h
    exact vfun_ok eok_i_GiveBack Try.func24 rfl (by rw [v_i_GiveBack]; simp only at hy; rw [hy]; rfl)
  · cases h
def J_i_padded : Joins := [(.r, ⟨[.sl true 5 (.int .u8)], [(4, .one (.vw 113664))], [], [(113664, 0)], [], []⟩)]
def ann_i_padded : Ann := .nil
def env_i_padded : Env := envOf ti [] []
theorem eok_i_padded : EnvOk Try.prog env_i_padded := envOf_ok tab mix _ _ (by
  intro k hk; cases hk)
theorem v_i_padded (x0 : List Int) (x1 : Int) : (vfun env_i_padded Try.f163 J_i_padded ann_i_padded [] [.one ⟨.sl true 5 (.int .u8), x0⟩, .one ⟨.int .i64, x1⟩] []).run = (G.i_padded x0 x1).bind fun y => some (Res.mk [.one ⟨.sl true 5 (.int .u8), y⟩] [] []) := by kernel_rfl
def k_i_padded : Kn := ⟨163, [1, 0], fun args rows => match args, rows with
  | [.one ⟨.sl true 5 (.int .u8), x0⟩, .one ⟨.int .i64, x1⟩], [] => some ⟨_, G.i_padded x0 x1, fun y => ⟨[.one ⟨.sl true 5 (.int .u8), y⟩], [], []⟩⟩
  | _, _ => none, []⟩
theorem s_i_padded : KnOk Try.prog k_i_padded := by
  intro args rows a h y hy
  simp only [k_i_padded] at h
  split at h
  · injection h with h
    subst h
    exact vfun_ok eok_i_padded Try.func163 rfl (by rw [v_i_padded]; simp only at hy; rw [hy]; rfl)
  · cases h
def J_i_Space_close_ffff : Joins := [(.r, ⟨[.sl true 44 (.pair (.int .i64) (.sl true 5 (.int .u8))), .bool, .sl false 23 (.sl false 5 (.int .u8)), .sl false 5 (.int .u8), .sl false 3 (.int .i64), .sl false 3 (.int .i64)], [(4, .one (.vw 182403)), (5, .one (.h 1))], [(79, [.h 2, .h 3, .h 4, .h 5])], [(182403, 0)], [], []⟩)]
def ann_i_Space_close_ffff : Ann := .seq .nil (.seq .nil (.seq (.seq .nil (.block [] (.loop ⟨[.sl false 5 (.int .u8), .sl true 5 (.int .u8), .sl false 3 (.int .i64), .int .i64, .int .i64, .sl false 23 (.sl false 5 (.int .u8)), .sl false 5 (.int .u8), .sl false 3 (.int .i64), .sl false 3 (.int .i64)], [(0, .pl 79 0), (1, .one (.h 0)), (6, .one (.vw 182272)), (20, .one (.h 2)), (21, .one (.h 3)), (22, .one (.h 4))], [(79, [.h 5, .h 6, .h 7, .h 8])], [(182272, 1)], [], []⟩ [(.x 0, ⟨[.sl false 5 (.int .u8), .sl true 5 (.int .u8), .sl false 23 (.sl false 5 (.int .u8)), .sl false 5 (.int .u8), .sl false 3 (.int .i64), .sl false 3 (.int .i64)], [(0, .pl 79 0), (1, .one (.h 0)), (6, .one (.vw 182336))], [(79, [.h 2, .h 3, .h 4, .h 5])], [(182336, 1)], [], []⟩)] .nil))) (.seq .nil (.seq (.seq .nil (.block [] (.loop ⟨[.sl true 44 (.pair (.int .i64) (.sl true 5 (.int .u8))), .sl false 3 (.int .i64), .int .i64, .int .i64, .sl false 23 (.sl false 5 (.int .u8)), .sl false 5 (.int .u8), .sl false 3 (.int .i64), .sl false 3 (.int .i64)], [(0, .pl 79 0), (9, .one (.vw 182337)), (47, .one (.h 1)), (48, .one (.h 2)), (49, .one (.h 3))], [(79, [.h 4, .h 5, .h 6, .h 7])], [(182337, 0)], [], []⟩ [(.x 2, ⟨[.sl true 44 (.pair (.int .i64) (.sl true 5 (.int .u8))), .sl false 23 (.sl false 5 (.int .u8)), .sl false 5 (.int .u8), .sl false 3 (.int .i64), .sl false 3 (.int .i64)], [(9, .one (.vw 182402))], [(79, [.h 1, .h 2, .h 3, .h 4])], [(182402, 0)], [], []⟩)] (.seq .nil (.seq .nil (.seq (.block [] (.seq .nil (.seq .nil (.cond [(.n, ⟨[.sl true 44 (.pair (.int .i64) (.sl true 5 (.int .u8))), .sl false 3 (.int .i64), .int .i64, .int .i64, .sl false 23 (.sl false 5 (.int .u8)), .sl false 5 (.int .u8), .sl false 3 (.int .i64), .sl false 3 (.int .i64)], [(0, .pl 79 0), (9, .one (.vw 182401)), (47, .one (.h 1)), (48, .one (.h 2)), (49, .one (.h 3))], [(79, [.h 4, .h 5, .h 6, .h 7])], [(182401, 0)], [], []⟩)] .nil .nil)))) .nil)))))) .nil))))
def env_i_Space_close_ffff : Env := envOf ti [k_slices_Clone_byte_byte, k_i_padded, k_slices_Contains_int_int] []
theorem eok_i_Space_close_ffff : EnvOk Try.prog env_i_Space_close_ffff := envOf_ok tab mix _ _ (by
  intro k hk
  simp only [List.mem_cons, List.not_mem_nil, or_false] at hk
  rcases hk with rfl | rfl | rfl
  · exact s_slices_Clone_byte_byte
  · exact s_i_padded
  · exact s_slices_Contains_int_int)
theorem v_i_Space_close_ffff (x0 : List Int) (x1 : List (List Int)) (x2 : List Int) (x3 : List Int) (x4 : List Int) : (vfun env_i_Space_close_ffff Try.f93 J_i_Space_close_ffff ann_i_Space_close_ffff [] [.pl 0 0, .one ⟨.sl false 5 (.int .u8), x0⟩] [[⟨.sl false 23 (.sl false 5 (.int .u8)), x1⟩, ⟨.sl false 5 (.int .u8), x2⟩, ⟨.sl false 3 (.int .i64), x3⟩, ⟨.sl false 3 (.int .i64), x4⟩]]).run = (G.i_Space_close_ffff x0 x1 x2 x3 x4).bind fun y => some (Res.mk [.one ⟨.sl true 44 (.pair (.int .i64) (.sl true 5 (.int .u8))), y.1⟩, .one ⟨.bool, y.2.1⟩] [[⟨.sl false 23 (.sl false 5 (.int .u8)), y.2.2.1⟩, ⟨.sl false 5 (.int .u8), y.2.2.2.1⟩, ⟨.sl false 3 (.int .i64), y.2.2.2.2.1⟩, ⟨.sl false 3 (.int .i64), y.2.2.2.2.2⟩]] []) := by kernel_rfl
def k_i_Space_close_ffff : Kn := ⟨93, [0, 0], fun args rows => match args, rows with
  | [.pl 0 0, .one ⟨.sl false 5 (.int .u8), x0⟩], [[⟨.sl false 23 (.sl false 5 (.int .u8)), x1⟩, ⟨.sl false 5 (.int .u8), x2⟩, ⟨.sl false 3 (.int .i64), x3⟩, ⟨.sl false 3 (.int .i64), x4⟩]] => some ⟨_, G.i_Space_close_ffff x0 x1 x2 x3 x4, fun y => ⟨[.one ⟨.sl true 44 (.pair (.int .i64) (.sl true 5 (.int .u8))), y.1⟩, .one ⟨.bool, y.2.1⟩], [[⟨.sl false 23 (.sl false 5 (.int .u8)), y.2.2.1⟩, ⟨.sl false 5 (.int .u8), y.2.2.2.1⟩, ⟨.sl false 3 (.int .i64), y.2.2.2.2.1⟩, ⟨.sl false 3 (.int .i64), y.2.2.2.2.2⟩]], []⟩⟩
  | _, _ => none, []⟩
theorem s_i_Space_close_ffff : KnOk Try.prog k_i_Space_close_ffff := by
  intro args rows a h y hy
  simp only [k_i_Space_close_ffff] at h
  split at h
  · injection h with h
    subst h
    exact vfun_ok eok_i_Space_close_ffff Try.func93 rfl (by rw [v_i_Space_close_ffff]; simp only at hy; rw [hy]; rfl)
  · cases h
def J_i_CloseSpace : Joins := [(.r, ⟨[.sl true 44 (.pair (.int .i64) (.sl true 5 (.int .u8))), .bool], [(4, .one (.vw 126976)), (5, .one (.h 1))], [], [(126976, 0)], [], []⟩)]
def ann_i_CloseSpace : Ann := .seq .nil (.seq (.seq (.reg [(.n, ⟨[.sl false 5 (.int .u8), .bool, .sl false 23 (.sl false 5 (.int .u8)), .sl false 5 (.int .u8), .sl false 3 (.int .i64), .sl false 3 (.int .i64)], [(1, .one (.h 0)), (2, .pl 2 0), (15, .one (.h 1))], [(2, [.h 2, .h 3, .h 4, .h 5])], [], [], []⟩)]) .nil) .nil)
def env_i_CloseSpace : Env := envOf ti [k_i_GoodSpace, k_i_Space_close_ffff] []
theorem eok_i_CloseSpace : EnvOk Try.prog env_i_CloseSpace := envOf_ok tab mix _ _ (by
  intro k hk
  simp only [List.mem_cons, List.not_mem_nil, or_false] at hk
  rcases hk with rfl | rfl
  · exact s_i_GoodSpace
  · exact s_i_Space_close_ffff)
theorem v_i_CloseSpace (x0 : List (List Int)) (x1 : List Int) (x2 : List Int) (x3 : List Int) (x4 : List Int) : (vfun env_i_CloseSpace Try.f25 J_i_CloseSpace ann_i_CloseSpace [] [.ag [⟨.sl false 23 (.sl false 5 (.int .u8)), x0⟩, ⟨.sl false 5 (.int .u8), x1⟩, ⟨.sl false 3 (.int .i64), x2⟩, ⟨.sl false 3 (.int .i64), x3⟩], .one ⟨.sl false 5 (.int .u8), x4⟩] []).run = (G.i_CloseSpace x0 x1 x2 x3 x4).bind fun y => some (Res.mk [.one ⟨.sl true 44 (.pair (.int .i64) (.sl true 5 (.int .u8))), y.1⟩, .one ⟨.bool, y.2⟩] [] []) := by kernel_rfl
def k_i_CloseSpace : Kn := ⟨25, [0, 0], fun args rows => match args, rows with
  | [.ag [⟨.sl false 23 (.sl false 5 (.int .u8)), x0⟩, ⟨.sl false 5 (.int .u8), x1⟩, ⟨.sl false 3 (.int .i64), x2⟩, ⟨.sl false 3 (.int .i64), x3⟩], .one ⟨.sl false 5 (.int .u8), x4⟩], [] => some ⟨_, G.i_CloseSpace x0 x1 x2 x3 x4, fun y => ⟨[.one ⟨.sl true 44 (.pair (.int .i64) (.sl true 5 (.int .u8))), y.1⟩, .one ⟨.bool, y.2⟩], [], []⟩⟩
  | _, _ => none, []⟩
theorem s_i_CloseSpace : KnOk Try.prog k_i_CloseSpace := by
  intro args rows a h y hy
  simp only [k_i_CloseSpace] at h
  split at h
  · injection h with h
    subst h
    exact vfun_ok eok_i_CloseSpace Try.func25 rfl (by rw [v_i_CloseSpace]; simp only at hy; rw [hy]; rfl)
  · cases h
def J_l_FnSpaces : Joins := [(.r, ⟨[.bool], [(2, .one (.h 0))], [], [], [], []⟩)]
def ann_l_FnSpaces : Ann := .seq .nil (.seq .nil (.seq .nil (.seq .nil (.seq .nil (.seq (.seq (.reg [(.n, ⟨[.int .i64, .bool, .bool, .sl true 23 (.sl true 5 (.int .u8)), .sl true 5 (.int .u8), .sl true 3 (.int .i64), .sl true 3 (.int .i64)], [(3, .pl 3 0), (4, .one (.h 0)), (5, .one (.h 1)), (41, .one (.h 2))], [(3, [.vw 228352, .vw 228353, .vw 228354, .vw 228355])], [(228352, 3), (228353, 4), (228354, 5), (228355, 6)], [], []⟩)]) .nil) (.seq .nil (.seq .nil (.seq .nil (.seq .nil (.seq .nil (.seq .nil (.seq .nil (.seq (.seq (.reg [(.n, ⟨[.int .i64, .bool, .sl true 23 (.sl true 5 (.int .u8)), .sl true 5 (.int .u8), .sl true 3 (.int .i64), .sl true 3 (.int .i64)], [(9, .one (.h 0)), (13, .pl 13 0), (84, .one (.h 1))], [(13, [.vw 228356, .vw 228357, .vw 228358, .vw 228359])], [(228356, 2), (228357, 3), (228358, 4), (228359, 5)], [], []⟩)]) .nil) (.seq .nil (.seq .nil (.seq (.reg [(.n, ⟨[.bool], [(2, .one (.h 0))], [], [], [], []⟩)]) .nil))))))))))))))))
def env_l_FnSpaces : Env := envOf ti [k_s_DrawTakeBlock, k_i_FreeIn, k_s_FreeIn, k_i_TakeBlock, k_i_GiveBack, k_i_CloseSpace] []
theorem eok_l_FnSpaces : EnvOk Try.prog env_l_FnSpaces := envOf_ok tab mix _ _ (by
  intro k hk
  simp only [List.mem_cons, List.not_mem_nil, or_false] at hk
  rcases hk with rfl | rfl | rfl | rfl | rfl | rfl
  · exact s_s_DrawTakeBlock
  · exact s_i_FreeIn
  · exact s_s_FreeIn
  · exact s_i_TakeBlock
  · exact s_i_GiveBack
  · exact s_i_CloseSpace)
theorem v_l_FnSpaces (x0 : List Int) : (vfun env_l_FnSpaces Try.f4 J_l_FnSpaces ann_l_FnSpaces [] [.one ⟨.sl false 5 (.int .u8), x0⟩] []).run = (G.l_FnSpaces x0).bind fun y => some (Res.mk [.one ⟨.bool, y⟩] [] []) := by kernel_rfl
def k_l_FnSpaces : Kn := ⟨4, [0], fun args rows => match args, rows with
  | [.one ⟨.sl false 5 (.int .u8), x0⟩], [] => some ⟨_, G.l_FnSpaces x0, fun y => ⟨[.one ⟨.bool, y⟩], [], []⟩⟩
  | _, _ => none, []⟩
theorem s_l_FnSpaces : KnOk Try.prog k_l_FnSpaces := by
  intro args rows a h y hy
  simp only [k_l_FnSpaces] at h
  split at h
  · injection h with h
    subst h
    exact vfun_ok eok_l_FnSpaces Try.func4 rfl (by rw [v_l_FnSpaces]; simp only at hy; rw [hy]; rfl)
  · cases h
end
end Go.Proofs.Ytggpihbcaebpjaa
