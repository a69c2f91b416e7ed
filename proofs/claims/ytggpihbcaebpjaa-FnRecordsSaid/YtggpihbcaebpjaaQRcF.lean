import Derived.Test.YtggpihbcaebpjaaQRcE
import Derived.Test.YtggpihbcaebpjaaProg
import Derived.KernelRfl
import Derived.Test.YtggpihbcaebpjaaRows
import Derived.WalkKit
import Derived.ProofKit
import Derived.OpenShut
import Derived.ShutString
import Derived.ChangeOld
import Derived.Below
set_option linter.unusedVariables false
set_option maxRecDepth 100000
namespace Go.Proofs.Ytggpihbcaebpjaa
open Go.V
def tiL : List TI := [
  .other,
  .other,
  .cell (.int .i64),
  .cell (.int .i64),
  .cell .bool,
  .cell (.int .u8),
  .cell (.int .u8),
  .other,
  .other,
  .cell .str,
  .cell .str,
  .cell .str,
  .cell (.int .u64),
  .other,
  .other,
  .ptr 262,
  .ptr 265,
  .ptr 274,
  .other,
  .other,
  .other,
  .cell (.int .i32),
  .slice 23 [(.sl true 5 (.int .u8))] 24,
  .slice 5 [(.int .u8)] 1,
  .slice 3 [(.int .i64)] 8,
  .struct [(0, 1, false), (1, 1, false), (2, 1, false), (3, 1, false)] [(.sl true 23 (.sl true 5 (.int .u8))), (.sl true 5 (.int .u8)), (.sl true 3 (.int .i64)), (.sl true 3 (.int .i64))] false,
  .struct [(0, 1, false), (1, 1, false), (2, 1, false), (3, 1, false)] [(.sl true 23 (.sl true 5 (.int .u8))), (.sl true 5 (.int .u8)), (.sl true 3 (.int .i64)), (.sl true 3 (.int .i64))] false,
  .other,
  .struct [(0, 1, false), (1, 1, false), (2, 1, false), (3, 1, false)] [(.sl true 23 (.sl true 5 (.int .u8))), (.sl true 5 (.int .u8)), (.sl true 3 (.int .i64)), (.sl true 3 (.int .i64))] false,
  .other,
  .other,
  .other,
  .other,
  .other,
  .other,
  .other,
  .other,
  .other,
  .other,
  .other,
  .slice 44 [(.int .i64), (.sl true 5 (.int .u8))] 32,
  .other,
  .other,
  .struct [(0, 1, false), (1, 1, false)] [(.int .i64), (.sl true 5 (.int .u8))] false,
  .struct [(0, 1, false), (1, 1, false)] [(.int .i64), (.sl true 5 (.int .u8))] false,
  .cell (.int .u64),
  .other,
  .slice 196 [(.int .i64), (.sl true 5 (.int .u8)), .bool, (.int .i64), (.int .i64)] 56,
  .struct [(0, 1, false), (1, 1, false), (2, 1, false)] [(.int .i64), (.int .i64), (.sl true 196 (.pair (.int .i64) (.pair (.sl true 5 (.int .u8)) (.pair .bool (.pair (.int .i64) (.int .i64))))))] false,
  .struct [(0, 1, false), (1, 1, false), (2, 1, false)] [(.int .i64), (.int .i64), (.sl true 196 (.pair (.int .i64) (.pair (.sl true 5 (.int .u8)) (.pair .bool (.pair (.int .i64) (.int .i64))))))] false,
  .struct [(0, 1, false), (1, 1, false), (2, 1, false), (3, 1, false)] [(.sl true 23 (.sl true 5 (.int .u8))), (.int .i64), .bool, (.int .i64)] false,
  .struct [(0, 1, false), (1, 1, false), (2, 1, false), (3, 1, false)] [(.sl true 23 (.sl true 5 (.int .u8))), (.int .i64), .bool, (.int .i64)] false,
  .other,
  .other,
  .slice 134 [(.int .i64), (.sl true 5 (.int .u8)), .bool, (.int .i64), (.int .i64)] 56,
  .struct [(0, 1, false), (1, 1, false), (2, 1, false)] [(.int .i64), (.int .i64), (.sl true 134 (.pair (.int .i64) (.pair (.sl true 5 (.int .u8)) (.pair .bool (.pair (.int .i64) (.int .i64))))))] false,
  .struct [(0, 1, false), (1, 1, false), (2, 1, false)] [(.int .i64), (.int .i64), (.sl true 134 (.pair (.int .i64) (.pair (.sl true 5 (.int .u8)) (.pair .bool (.pair (.int .i64) (.int .i64))))))] false,
  .struct [(0, 1, false), (1, 1, false), (2, 1, false), (3, 1, false)] [(.sl true 23 (.sl true 5 (.int .u8))), (.int .i64), .bool, (.int .i64)] false,
  .other,
  .other,
  .other,
  .other,
  .other,
  .other,
  .other,
  .other,
  .other,
  .other,
  .other,
  .other,
  .other,
  .other,
  .other,
  .other,
  .other,
  .other,
  .other,
  .other,
  .other,
  .other,
  .other,
  .slice 88 [(.int .i64), (.int .i64)] 16,
  .other,
  .other,
  .other,
  .other,
  .other,
  .struct [(0, 1, false), (1, 1, false)] [(.int .i64), (.int .i64)] true,
  .struct [(0, 1, false), (1, 1, false)] [(.int .i64), (.int .i64)] true,
  .other,
  .other,
  .other,
  .other,
  .other,
  .other,
  .other,
  .other,
  .other,
  .other,
  .other,
  .other,
  .other,
  .slice 183 [(.int .i64), (.int .i64)] 16,
  .other,
  .other,
  .other,
  .other,
  .other,
  .other,
  .other,
  .other,
  .other,
  .other,
  .other,
  .ptr 28,
  .other,
  .other,
  .other,
  .other,
  .other,
  .ptr 123,
  .cell (.int .u64),
  .struct [(0, 1, false), (1, 1, false), (2, 1, false)] [(.sl true 5 (.int .u8)), (.int .i64), (.int .u64)] false,
  .struct [(0, 1, false), (1, 1, false), (2, 1, false)] [(.sl true 5 (.int .u8)), (.int .i64), (.int .u64)] false,
  .other,
  .other,
  .other,
  .other,
  .other,
  .other,
  .other,
  .other,
  .other,
  .struct [(0, 1, false), (1, 1, false), (2, 1, false), (3, 1, false), (4, 1, false)] [(.int .i64), (.sl true 5 (.int .u8)), .bool, (.int .i64), (.int .i64)] false,
  .struct [(0, 1, false), (1, 1, false), (2, 1, false), (3, 1, false), (4, 1, false)] [(.int .i64), (.sl true 5 (.int .u8)), .bool, (.int .i64), (.int .i64)] false,
  .other,
  .other,
  .ptr 134,
  .other,
  .other,
  .other,
  .other,
  .other,
  .other,
  .other,
  .other,
  .other,
  .other,
  .other,
  .other,
  .other,
  .other,
  .other,
  .other,
  .other,
  .other,
  .other,
  .other,
  .other,
  .other,
  .slice 24 [(.sl true 3 (.int .i64))] 24,
  .struct [(0, 1, false), (1, 1, false), (2, 1, false)] [(.int .i64), (.sl true 3 (.int .i64)), (.sl true 24 (.sl true 3 (.int .i64)))] false,
  .struct [(0, 1, false), (1, 1, false), (2, 1, false)] [(.int .i64), (.sl true 3 (.int .i64)), (.sl true 24 (.sl true 3 (.int .i64)))] false,
  .other,
  .other,
  .other,
  .other,
  .other,
  .other,
  .other,
  .other,
  .other,
  .other,
  .other,
  .other,
  .other,
  .other,
  .other,
  .other,
  .other,
  .other,
  .other,
  .other,
  .struct [(0, 1, false), (1, 1, false)] [(.int .i64), (.int .i64)] true,
  .other,
  .other,
  .other,
  .other,
  .other,
  .other,
  .other,
  .other,
  .other,
  .other,
  .other,
  .other,
  .struct [(0, 1, false), (1, 1, false), (2, 1, false), (3, 1, false), (4, 1, false)] [(.int .i64), (.sl true 5 (.int .u8)), .bool, (.int .i64), (.int .i64)] false,
  .other,
  .ptr 57,
  .other,
  .other,
  .other,
  .other,
  .other,
  .other,
  .other,
  .other,
  .other,
  .other,
  .other,
  .other,
  .other,
  .slice 216 [(.int .i64), (.int .i64), .str] 32,
  .other,
  .other,
  .struct [(0, 1, false), (1, 1, false), (2, 1, false)] [(.int .i64), (.int .i64), .str] true,
  .struct [(0, 1, false), (1, 1, false), (2, 1, false)] [(.int .i64), (.int .i64), .str] true,
  .other,
  .other,
  .slice 9 [.str] 16,
  .other,
  .slice 4 [.bool] 1,
  .other,
  .other,
  .other,
  .other,
  .other,
  .other,
  .other,
  .other,
  .other,
  .other,
  .other,
  .other,
  .other,
  .other,
  .other,
  .other,
  .ptr 56,
  .other,
  .other,
  .other,
  .other,
  .other,
  .other,
  .other,
  .other,
  .other,
  .other,
  .other,
  .other,
  .other,
  .other,
  .other,
  .other,
  .other,
  .other,
  .other,
  .other,
  .other,
  .other,
  .other,
  .other,
  .other,
  .other,
  .other,
  .cell (.int .u32),
  .cell (.int .u8),
  .cell (.int .u8),
  .other,
  .ptr 5,
  .cell (.int .i32),
  .cell (.int .i32),
  .other,
  .other,
  .other]
def ti (t : TypeId) : TI := tiL.getD t .other
theorem tab : TabOk Try.prog ti := tabOf Try.prog tiL (by kernel_rfl)
theorem mix : Try.prog.follows .mixedOrders = true := by kernel_rfl
end Go.Proofs.Ytggpihbcaebpjaa

set_option maxRecDepth 100000
namespace Go.Proofs.Ytggpihbcaebpjaa
open Go.V
theorem own : ownKnob Try.prog.godebug = none := by kernel_rfl
theorem laidOut : laidOutB Try.prog = true := by kernel_rfl
theorem tab2 : ∀ t, tyOk2 Try.prog ti t (ti t) = true := tabOf2 Try.prog tiL (by kernel_rfl)
end Go.Proofs.Ytggpihbcaebpjaa

set_option linter.unusedVariables false
set_option maxRecDepth 100000
namespace Go.Proofs.Ytggpihbcaebpjaa
open Go.V
noncomputable section
def J_s_l1Cur_next_f : Joins := [(.r, ⟨[.int .i64, .sl false 5 (.int .u8), .int .i64, .int .u64], [(2, .one (.h 0))], [(63, [.h 1, .h 2, .h 3])], [], [], []⟩)]
def ann_s_l1Cur_next_f : Ann := .seq .nil (.seq .nil (.seq (.seq .nil (.cond [(.n, ⟨[.int .i64, .sl false 5 (.int .u8), .int .i64, .int .u64], [(0, .pl 63 0), (3, .one (.h 0))], [(63, [.h 1, .h 2, .h 3])], [], [], []⟩)] .nil .nil)) .nil))
def env_s_l1Cur_next_f : Env := envOf ti [] []
theorem eok_s_l1Cur_next_f : EnvOk Try.prog env_s_l1Cur_next_f := envOf_ok tab mix _ _ (by
  intro k hk; cases hk)
theorem v_s_l1Cur_next_f (x0 : List Int) (x1 : Int) (x2 : Int) : (vfun env_s_l1Cur_next_f Try.f175 J_s_l1Cur_next_f ann_s_l1Cur_next_f [] [.pl 0 0] [[⟨.sl false 5 (.int .u8), x0⟩, ⟨.int .i64, x1⟩, ⟨.int .u64, x2⟩]]).run = (G.s_l1Cur_next_f x0 x1 x2).bind fun y => some (Res.mk [.one ⟨.int .i64, y.1⟩] [[⟨.sl false 5 (.int .u8), y.2.1⟩, ⟨.int .i64, y.2.2.1⟩, ⟨.int .u64, y.2.2.2⟩]] []) := by kernel_rfl
def k_s_l1Cur_next_f : Kn := ⟨175, [0], fun args rows => match args, rows with
  | [.pl 0 0], [[⟨.sl false 5 (.int .u8), x0⟩, ⟨.int .i64, x1⟩, ⟨.int .u64, x2⟩]] => some ⟨_, G.s_l1Cur_next_f x0 x1 x2, fun y => ⟨[.one ⟨.int .i64, y.1⟩], [[⟨.sl false 5 (.int .u8), y.2.1⟩, ⟨.int .i64, y.2.2.1⟩, ⟨.int .u64, y.2.2.2⟩]], []⟩⟩
  | _, _ => none, []⟩
theorem s_s_l1Cur_next_f : KnOk Try.prog k_s_l1Cur_next_f := by
  intro args rows a h y hy
  simp only [k_s_l1Cur_next_f] at h
  split at h
  · injection h with h
    subst h
    exact vfun_ok eok_s_l1Cur_next_f Try.func175 rfl (by rw [v_s_l1Cur_next_f]; simp only at hy; rw [hy]; rfl)
  · cases h
def J_s_l1Cur_pick_f : Joins := [(.r, ⟨[.int .i64, .sl false 5 (.int .u8), .int .i64, .int .u64], [(4, .one (.h 0))], [(21, [.h 1, .h 2, .h 3])], [], [], []⟩)]
def ann_s_l1Cur_pick_f : Ann := .seq .nil (.seq .nil (.seq .nil (.seq (.seq .nil (.cond [(.n, ⟨[.int .i64, .int .i64, .sl false 5 (.int .u8), .int .i64, .int .u64], [(1, .one (.h 0)), (5, .one (.h 1))], [(21, [.h 2, .h 3, .h 4])], [], [], []⟩)] .nil .nil)) .nil)))
def env_s_l1Cur_pick_f : Env := envOf ti [k_s_l1Cur_next_f] []
theorem eok_s_l1Cur_pick_f : EnvOk Try.prog env_s_l1Cur_pick_f := envOf_ok tab mix _ _ (by
  intro k hk
  simp only [List.mem_cons, List.not_mem_nil, or_false] at hk
  rcases hk with rfl
  · exact s_s_l1Cur_next_f)
theorem v_s_l1Cur_pick_f (x0 : Int) (x1 : List Int) (x2 : Int) (x3 : Int) : (vfun env_s_l1Cur_pick_f Try.f126 J_s_l1Cur_pick_f ann_s_l1Cur_pick_f [] [.pl 0 0, .one ⟨.int .i64, x0⟩] [[⟨.sl false 5 (.int .u8), x1⟩, ⟨.int .i64, x2⟩, ⟨.int .u64, x3⟩]]).run = (G.s_l1Cur_pick_f x0 x1 x2 x3).bind fun y => some (Res.mk [.one ⟨.int .i64, y.1⟩] [[⟨.sl false 5 (.int .u8), y.2.1⟩, ⟨.int .i64, y.2.2.1⟩, ⟨.int .u64, y.2.2.2⟩]] []) := by kernel_rfl
def k_s_l1Cur_pick_f : Kn := ⟨126, [0, 0], fun args rows => match args, rows with
  | [.pl 0 0, .one ⟨.int .i64, x0⟩], [[⟨.sl false 5 (.int .u8), x1⟩, ⟨.int .i64, x2⟩, ⟨.int .u64, x3⟩]] => some ⟨_, G.s_l1Cur_pick_f x0 x1 x2 x3, fun y => ⟨[.one ⟨.int .i64, y.1⟩], [[⟨.sl false 5 (.int .u8), y.2.1⟩, ⟨.int .i64, y.2.2.1⟩, ⟨.int .u64, y.2.2.2⟩]], []⟩⟩
  | _, _ => none, []⟩
theorem s_s_l1Cur_pick_f : KnOk Try.prog k_s_l1Cur_pick_f := by
  intro args rows a h y hy
  simp only [k_s_l1Cur_pick_f] at h
  split at h
  · injection h with h
    subst h
    exact vfun_ok eok_s_l1Cur_pick_f Try.func126 rfl (by rw [v_s_l1Cur_pick_f]; simp only at hy; rw [hy]; rfl)
  · cases h
def J_s_l1In : Joins := [(.r, ⟨[.bool], [(6, .one (.h 0))], [], [], [], []⟩)]
def ann_s_l1In : Ann := .seq .nil (.seq (.reg [(.n, ⟨[.bool], [(6, .one (.h 0))], [], [], [], []⟩)]) .nil)
def env_s_l1In : Env := envOf ti [] []
theorem eok_s_l1In : EnvOk Try.prog env_s_l1In := envOf_ok tab mix _ _ (by
  intro k hk; cases hk)
theorem v_s_l1In (x0 : Int) (x1 : Int) (x2 : Int) : (vfun env_s_l1In Try.f148 J_s_l1In ann_s_l1In [] [.one ⟨.int .i64, x0⟩, .one ⟨.int .i64, x1⟩, .one ⟨.int .i64, x2⟩] []).run = (G.s_l1In x0 x1 x2).bind fun y => some (Res.mk [.one ⟨.bool, y⟩] [] []) := by kernel_rfl
def k_s_l1In : Kn := ⟨148, [0, 0, 0], fun args rows => match args, rows with
  | [.one ⟨.int .i64, x0⟩, .one ⟨.int .i64, x1⟩, .one ⟨.int .i64, x2⟩], [] => some ⟨_, G.s_l1In x0 x1 x2, fun y => ⟨[.one ⟨.bool, y⟩], [], []⟩⟩
  | _, _ => none, []⟩
theorem s_s_l1In : KnOk Try.prog k_s_l1In := by
  intro args rows a h y hy
  simp only [k_s_l1In] at h
  split at h
  · injection h with h
    subst h
    exact vfun_ok eok_s_l1In Try.func148 rfl (by rw [v_s_l1In]; simp only at hy; rw [hy]; rfl)
  · cases h
def J_s_NewDisk : Joins := [(.r, ⟨[.bool, .sl true 23 (.sl true 5 (.int .u8)), .int .i64, .bool, .int .i64], [(2, .pl 2 0), (3, .one (.h 0))], [(2, [.vw 123969, .h 2, .h 3, .h 4])], [(123969, 1)], [], []⟩)]
def ann_s_NewDisk : Ann := .seq .nil (.seq .nil (.seq .nil (.seq (.block [] (.loop ⟨[.int .i64, .int .i64, .bool, .int .i64, .sl true 23 (.sl true 5 (.int .u8)), .int .i64, .bool, .int .i64], [(0, .one (.h 0)), (2, .pl 2 0), (4, .pl 4 0)], [(2, [.nil, .h 1, .h 2, .h 3]), (4, [.vw 123904, .h 5, .h 6, .h 7])], [(123904, 4)], [], []⟩ [(.x 0, ⟨[.int .i64, .bool, .int .i64, .sl true 23 (.sl true 5 (.int .u8)), .int .i64, .bool, .int .i64], [(2, .pl 2 0), (4, .pl 4 0)], [(2, [.nil, .h 0, .h 1, .h 2]), (4, [.vw 123968, .h 4, .h 5, .h 6])], [(123968, 3)], [], []⟩)] .nil)) .nil)))
def env_s_NewDisk : Env := envOf ti [k_s_l1In] []
theorem eok_s_NewDisk : EnvOk Try.prog env_s_NewDisk := envOf_ok tab mix _ _ (by
  intro k hk
  simp only [List.mem_cons, List.not_mem_nil, or_false] at hk
  rcases hk with rfl
  · exact s_s_l1In)
theorem v_s_NewDisk (x0 : Int) : (vfun env_s_NewDisk Try.f205 J_s_NewDisk ann_s_NewDisk [] [.one ⟨.int .i64, x0⟩] []).run = (G.s_NewDisk x0).bind fun y => some (Res.mk [.ag [⟨.sl true 23 (.sl true 5 (.int .u8)), y.2.1⟩, ⟨.int .i64, y.2.2.1⟩, ⟨.bool, y.2.2.2.1⟩, ⟨.int .i64, y.2.2.2.2⟩], .one ⟨.bool, y.1⟩] [] []) := by kernel_rfl
def k_s_NewDisk : Kn := ⟨205, [0], fun args rows => match args, rows with
  | [.one ⟨.int .i64, x0⟩], [] => some ⟨_, G.s_NewDisk x0, fun y => ⟨[.ag [⟨.sl true 23 (.sl true 5 (.int .u8)), y.2.1⟩, ⟨.int .i64, y.2.2.1⟩, ⟨.bool, y.2.2.2.1⟩, ⟨.int .i64, y.2.2.2.2⟩], .one ⟨.bool, y.1⟩], [], []⟩⟩
  | _, _ => none, []⟩
theorem s_s_NewDisk : KnOk Try.prog k_s_NewDisk := by
  intro args rows a h y hy
  simp only [k_s_NewDisk] at h
  split at h
  · injection h with h
    subst h
    exact vfun_ok eok_s_NewDisk Try.func205 rfl (by rw [v_s_NewDisk]; simp only at hy; rw [hy]; rfl)
  · cases h
def J_s_l5Set_l : Joins := [(.n, ⟨[.sl true 5 (.int .u8)], [(0, .one (.vw 132097))], [], [(132097, 0)], [], []⟩)]
def ann_s_l5Set_l : Ann := .seq .nil (.cond [(.n, ⟨[.sl true 5 (.int .u8)], [(0, .one (.vw 132096))], [], [(132096, 0)], [], []⟩)] .nil .nil)
def env_s_l5Set_l : Env := envOf ti [] [0]
theorem eok_s_l5Set_l : EnvOk Try.prog env_s_l5Set_l := envOf_ok tab mix _ _ (by
  intro k hk; cases hk)
theorem v_s_l5Set_l (x0 : List Int) (x1 : Int) (x2 : Bool) : (vfun env_s_l5Set_l Try.f150 J_s_l5Set_l ann_s_l5Set_l [(0, 0)] [.one ⟨.sl true 5 (.int .u8), x0⟩, .one ⟨.int .i64, x1⟩, .one ⟨.bool, x2⟩] []).run = (G.s_l5Set_l x0 x1 x2).bind fun y => some (Res.mk [] [] [((0, 0), ⟨.sl true 5 (.int .u8), y⟩)]) := by kernel_rfl
def k_s_l5Set_l : Kn := ⟨150, [2, 0, 0], fun args rows => match args, rows with
  | [.one ⟨.sl true 5 (.int .u8), x0⟩, .one ⟨.int .i64, x1⟩, .one ⟨.bool, x2⟩], [] => some ⟨_, G.s_l5Set_l x0 x1 x2, fun y => ⟨[], [], [((0, 0), ⟨.sl true 5 (.int .u8), y⟩)]⟩⟩
  | _, _ => none, []⟩
theorem s_s_l5Set_l : KnOk Try.prog k_s_l5Set_l := by
  intro args rows a h y hy
  simp only [k_s_l5Set_l] at h
  split at h
  · injection h with h
    subst h
    exact vfun_ok eok_s_l5Set_l Try.func150 rfl (by rw [v_s_l5Set_l]; simp only at hy; rw [hy]; rfl)
  · cases h
def J_s_l5Fresh : Joins := [(.r, ⟨[.sl true 23 (.sl true 5 (.int .u8)), .sl true 5 (.int .u8)], [(2, .pl 2 0)], [(2, [.vw 128066, .vw 128067, .nil, .nil])], [(128066, 0), (128067, 1)], [], []⟩)]
def ann_s_l5Fresh : Ann := .seq .nil (.seq .nil (.seq .nil (.seq (.seq .nil (.block [] (.loop ⟨[.int .i64, .sl true 23 (.sl true 5 (.int .u8)), .sl true 5 (.int .u8)], [(2, .pl 2 0), (5, .pl 5 0), (6, .one (.h 0))], [(2, [.nil, .nil, .nil, .nil]), (5, [.vw 128000, .vw 128001, .nil, .nil])], [(128000, 1), (128001, 2)], [], []⟩ [(.x 0, ⟨[.sl true 23 (.sl true 5 (.int .u8)), .sl true 5 (.int .u8)], [(2, .pl 2 0), (5, .pl 5 0)], [(2, [.nil, .nil, .nil, .nil]), (5, [.vw 128064, .vw 128065, .nil, .nil])], [(128064, 0), (128065, 1)], [], []⟩)] .nil))) .nil)))
def env_s_l5Fresh : Env := envOf ti [k_s_NewDisk, k_s_l5Set_l] []
theorem eok_s_l5Fresh : EnvOk Try.prog env_s_l5Fresh := envOf_ok tab mix _ _ (by
  intro k hk
  simp only [List.mem_cons, List.not_mem_nil, or_false] at hk
  rcases hk with rfl | rfl
  · exact s_s_NewDisk
  · exact s_s_l5Set_l)
theorem v_s_l5Fresh (x0 : Int) : (vfun env_s_l5Fresh Try.f156 J_s_l5Fresh ann_s_l5Fresh [] [.one ⟨.int .i64, x0⟩] []).run = (G.s_l5Fresh x0).bind fun y => some (Res.mk [.ag [⟨.sl true 23 (.sl true 5 (.int .u8)), y.1⟩, ⟨.sl true 5 (.int .u8), y.2⟩, ⟨.sl true 3 (.int .i64), []⟩, ⟨.sl true 3 (.int .i64), []⟩]] [] []) := by kernel_rfl
def k_s_l5Fresh : Kn := ⟨156, [0], fun args rows => match args, rows with
  | [.one ⟨.int .i64, x0⟩], [] => some ⟨_, G.s_l5Fresh x0, fun y => ⟨[.ag [⟨.sl true 23 (.sl true 5 (.int .u8)), y.1⟩, ⟨.sl true 5 (.int .u8), y.2⟩, ⟨.sl true 3 (.int .i64), []⟩, ⟨.sl true 3 (.int .i64), []⟩]], [], []⟩⟩
  | _, _ => none, []⟩
theorem s_s_l5Fresh : KnOk Try.prog k_s_l5Fresh := by
  intro args rows a h y hy
  simp only [k_s_l5Fresh] at h
  split at h
  · injection h with h
    subst h
    exact vfun_ok eok_s_l5Fresh Try.func156 rfl (by rw [v_s_l5Fresh]; simp only at hy; rw [hy]; rfl)
  · cases h
def J_s_l1Cur_among_f : Joins := [(.r, ⟨[.int .i64, .sl false 5 (.int .u8), .int .i64, .int .u64], [(4, .one (.h 0))], [(13, [.h 1, .h 2, .h 3])], [], [], []⟩)]
def ann_s_l1Cur_among_f : Ann := .nil
def env_s_l1Cur_among_f : Env := envOf ti [k_s_l1Cur_pick_f] []
theorem eok_s_l1Cur_among_f : EnvOk Try.prog env_s_l1Cur_among_f := envOf_ok tab mix _ _ (by
  intro k hk
  simp only [List.mem_cons, List.not_mem_nil, or_false] at hk
  rcases hk with rfl
  · exact s_s_l1Cur_pick_f)
theorem v_s_l1Cur_among_f (x0 : List Int) (x1 : List Int) (x2 : Int) (x3 : Int) : (vfun env_s_l1Cur_among_f Try.f159 J_s_l1Cur_among_f ann_s_l1Cur_among_f [] [.pl 0 0, .one ⟨.sl true 3 (.int .i64), x0⟩] [[⟨.sl false 5 (.int .u8), x1⟩, ⟨.int .i64, x2⟩, ⟨.int .u64, x3⟩]]).run = (G.s_l1Cur_among_f x0 x1 x2 x3).bind fun y => some (Res.mk [.one ⟨.int .i64, y.1⟩] [[⟨.sl false 5 (.int .u8), y.2.1⟩, ⟨.int .i64, y.2.2.1⟩, ⟨.int .u64, y.2.2.2⟩]] []) := by kernel_rfl
def k_s_l1Cur_among_f : Kn := ⟨159, [0, 1], fun args rows => match args, rows with
  | [.pl 0 0, .one ⟨.sl true 3 (.int .i64), x0⟩], [[⟨.sl false 5 (.int .u8), x1⟩, ⟨.int .i64, x2⟩, ⟨.int .u64, x3⟩]] => some ⟨_, G.s_l1Cur_among_f x0 x1 x2 x3, fun y => ⟨[.one ⟨.int .i64, y.1⟩], [[⟨.sl false 5 (.int .u8), y.2.1⟩, ⟨.int .i64, y.2.2.1⟩, ⟨.int .u64, y.2.2.2⟩]], []⟩⟩
  | _, _ => none, []⟩
theorem s_s_l1Cur_among_f : KnOk Try.prog k_s_l1Cur_among_f := by
  intro args rows a h y hy
  simp only [k_s_l1Cur_among_f] at h
  split at h
  · injection h with h
    subst h
    exact vfun_ok eok_s_l1Cur_among_f Try.func159 rfl (by rw [v_s_l1Cur_among_f]; simp only at hy; rw [hy]; rfl)
  · cases h
def J_s_l1Cur_one_f : Joins := [(.r, ⟨[.bool, .sl false 5 (.int .u8), .int .i64, .int .u64], [(4, .one (.h 0))], [(10, [.h 1, .h 2, .h 3])], [], [], []⟩)]
def ann_s_l1Cur_one_f : Ann := .nil
def env_s_l1Cur_one_f : Env := envOf ti [k_s_l1Cur_pick_f] []
theorem eok_s_l1Cur_one_f : EnvOk Try.prog env_s_l1Cur_one_f := envOf_ok tab mix _ _ (by
  intro k hk
  simp only [List.mem_cons, List.not_mem_nil, or_false] at hk
  rcases hk with rfl
  · exact s_s_l1Cur_pick_f)
theorem v_s_l1Cur_one_f (x0 : Int) (x1 : List Int) (x2 : Int) (x3 : Int) : (vfun env_s_l1Cur_one_f Try.f89 J_s_l1Cur_one_f ann_s_l1Cur_one_f [] [.pl 0 0, .one ⟨.int .i64, x0⟩] [[⟨.sl false 5 (.int .u8), x1⟩, ⟨.int .i64, x2⟩, ⟨.int .u64, x3⟩]]).run = (G.s_l1Cur_one_f x0 x1 x2 x3).bind fun y => some (Res.mk [.one ⟨.bool, y.1⟩] [[⟨.sl false 5 (.int .u8), y.2.1⟩, ⟨.int .i64, y.2.2.1⟩, ⟨.int .u64, y.2.2.2⟩]] []) := by kernel_rfl
def k_s_l1Cur_one_f : Kn := ⟨89, [0, 0], fun args rows => match args, rows with
  | [.pl 0 0, .one ⟨.int .i64, x0⟩], [[⟨.sl false 5 (.int .u8), x1⟩, ⟨.int .i64, x2⟩, ⟨.int .u64, x3⟩]] => some ⟨_, G.s_l1Cur_one_f x0 x1 x2 x3, fun y => ⟨[.one ⟨.bool, y.1⟩], [[⟨.sl false 5 (.int .u8), y.2.1⟩, ⟨.int .i64, y.2.2.1⟩, ⟨.int .u64, y.2.2.2⟩]], []⟩⟩
  | _, _ => none, []⟩
theorem s_s_l1Cur_one_f : KnOk Try.prog k_s_l1Cur_one_f := by
  intro args rows a h y hy
  simp only [k_s_l1Cur_one_f] at h
  split at h
  · injection h with h
    subst h
    exact vfun_ok eok_s_l1Cur_one_f Try.func89 rfl (by rw [v_s_l1Cur_one_f]; simp only at hy; rw [hy]; rfl)
  · cases h
def J_s_l1Cur_dataOf_f : Joins := [(.r, ⟨[.sl true 5 (.int .u8), .sl false 5 (.int .u8), .int .i64, .int .u64], [(2, .one (.vw 132161))], [(30, [.h 1, .h 2, .h 3])], [(132161, 0)], [], []⟩)]
def ann_s_l1Cur_dataOf_f : Ann := .seq .nil (.seq .nil (.seq (.seq .nil (.cond [(.n, ⟨[.int .i64, .sl false 5 (.int .u8), .int .i64, .int .u64], [(0, .pl 30 0), (3, .one (.h 0))], [(30, [.h 1, .h 2, .h 3])], [], [], []⟩)] .nil .nil)) (.seq .nil (.seq (.seq .nil (.block [] (.loop ⟨[.sl true 5 (.int .u8), .int .i64, .int .i64, .sl false 5 (.int .u8), .int .i64, .int .u64], [(0, .pl 30 0), (4, .one (.vw 132096)), (17, .one (.h 1)), (18, .one (.h 2))], [(30, [.h 3, .h 4, .h 5])], [(132096, 0)], [], []⟩ [(.x 0, ⟨[.sl true 5 (.int .u8), .sl false 5 (.int .u8), .int .i64, .int .u64], [(4, .one (.vw 132160))], [(30, [.h 1, .h 2, .h 3])], [(132160, 0)], [], []⟩)] .nil))) .nil))))
def env_s_l1Cur_dataOf_f : Env := envOf ti [k_s_l1Cur_among_f, k_s_l1Cur_one_f, k_s_l1Cur_pick_f] []
theorem eok_s_l1Cur_dataOf_f : EnvOk Try.prog env_s_l1Cur_dataOf_f := envOf_ok tab mix _ _ (by
  intro k hk
  simp only [List.mem_cons, List.not_mem_nil, or_false] at hk
  rcases hk with rfl | rfl | rfl
  · exact s_s_l1Cur_among_f
  · exact s_s_l1Cur_one_f
  · exact s_s_l1Cur_pick_f)
theorem v_s_l1Cur_dataOf_f (x0 : List Int) (x1 : Int) (x2 : Int) : (vfun env_s_l1Cur_dataOf_f Try.f139 J_s_l1Cur_dataOf_f ann_s_l1Cur_dataOf_f [] [.pl 0 0] [[⟨.sl false 5 (.int .u8), x0⟩, ⟨.int .i64, x1⟩, ⟨.int .u64, x2⟩]]).run = (G.s_l1Cur_dataOf_f x0 x1 x2).bind fun y => some (Res.mk [.one ⟨.sl true 5 (.int .u8), y.1⟩] [[⟨.sl false 5 (.int .u8), y.2.1⟩, ⟨.int .i64, y.2.2.1⟩, ⟨.int .u64, y.2.2.2⟩]] []) := by kernel_rfl
def k_s_l1Cur_dataOf_f : Kn := ⟨139, [0], fun args rows => match args, rows with
  | [.pl 0 0], [[⟨.sl false 5 (.int .u8), x0⟩, ⟨.int .i64, x1⟩, ⟨.int .u64, x2⟩]] => some ⟨_, G.s_l1Cur_dataOf_f x0 x1 x2, fun y => ⟨[.one ⟨.sl true 5 (.int .u8), y.1⟩], [[⟨.sl false 5 (.int .u8), y.2.1⟩, ⟨.int .i64, y.2.2.1⟩, ⟨.int .u64, y.2.2.2⟩]], []⟩⟩
  | _, _ => none, []⟩
theorem s_s_l1Cur_dataOf_f : KnOk Try.prog k_s_l1Cur_dataOf_f := by
  intro args rows a h y hy
  simp only [k_s_l1Cur_dataOf_f] at h
  split at h
  · injection h with h
    subst h
    exact vfun_ok eok_s_l1Cur_dataOf_f Try.func139 rfl (by rw [v_s_l1Cur_dataOf_f]; simp only at hy; rw [hy]; rfl)
  · cases h
def J_s_l5Used : Joins := [(.r, ⟨[.bool], [(4, .one (.h 0))], [], [], [], []⟩)]
def ann_s_l5Used : Ann := .nil
def env_s_l5Used : Env := envOf ti [] []
theorem eok_s_l5Used : EnvOk Try.prog env_s_l5Used := envOf_ok tab mix _ _ (by
  intro k hk; cases hk)
theorem v_s_l5Used (x0 : List Int) (x1 : Int) : (vfun env_s_l5Used Try.f149 J_s_l5Used ann_s_l5Used [] [.one ⟨.sl false 5 (.int .u8), x0⟩, .one ⟨.int .i64, x1⟩] []).run = (G.s_l5Used x0 x1).bind fun y => some (Res.mk [.one ⟨.bool, y⟩] [] []) := by kernel_rfl
def k_s_l5Used : Kn := ⟨149, [0, 0], fun args rows => match args, rows with
  | [.one ⟨.sl false 5 (.int .u8), x0⟩, .one ⟨.int .i64, x1⟩], [] => some ⟨_, G.s_l5Used x0 x1, fun y => ⟨[.one ⟨.bool, y⟩], [], []⟩⟩
  | _, _ => none, []⟩
theorem s_s_l5Used : KnOk Try.prog k_s_l5Used := by
  intro args rows a h y hy
  simp only [k_s_l5Used] at h
  split at h
  · injection h with h
    subst h
    exact vfun_ok eok_s_l5Used Try.func149 rfl (by rw [v_s_l5Used]; simp only at hy; rw [hy]; rfl)
  · cases h
def J_s_GoodSpace : Joins := [(.r, ⟨[.bool], [(2, .one (.h 0))], [], [], [], []⟩)]
def ann_s_GoodSpace : Ann := .seq .nil (.seq .nil (.seq (.seq (.reg [(.n, ⟨[.int .i64, .bool, .sl false 23 (.sl false 5 (.int .u8)), .sl false 5 (.int .u8), .sl false 3 (.int .i64), .sl false 3 (.int .i64)], [(1, .pl 1 0), (3, .one (.h 0)), (23, .one (.h 1))], [(1, [.h 2, .h 3, .h 4, .h 5])], [], [], []⟩)]) .nil) (.seq (.seq .nil (.block [] (.loop ⟨[.int .i64, .sl false 23 (.sl false 5 (.int .u8)), .int .i64, .int .i64, .sl false 23 (.sl false 5 (.int .u8)), .sl false 5 (.int .u8), .sl false 3 (.int .i64), .sl false 3 (.int .i64)], [(1, .pl 1 0), (3, .one (.h 0)), (25, .one (.h 1)), (26, .one (.h 2)), (27, .one (.h 3))], [(1, [.h 4, .h 5, .h 6, .h 7])], [], [], []⟩ [(.x 0, ⟨[.int .i64, .sl false 23 (.sl false 5 (.int .u8)), .sl false 5 (.int .u8), .sl false 3 (.int .i64), .sl false 3 (.int .i64)], [(1, .pl 1 0), (3, .one (.h 0))], [(1, [.h 1, .h 2, .h 3, .h 4])], [], [], []⟩), (.r, ⟨[.bool], [(2, .one (.h 0))], [], [], [], []⟩)] .nil))) (.seq (.seq .nil (.block [] (.loop ⟨[.int .i64, .int .i64, .sl false 23 (.sl false 5 (.int .u8)), .sl false 5 (.int .u8), .sl false 3 (.int .i64), .sl false 3 (.int .i64)], [(1, .pl 1 0), (3, .one (.h 0)), (6, .one (.h 1))], [(1, [.h 2, .h 3, .h 4, .h 5])], [], [], []⟩ [(.x 2, ⟨[.int .i64, .sl false 23 (.sl false 5 (.int .u8)), .sl false 5 (.int .u8), .sl false 3 (.int .i64), .sl false 3 (.int .i64)], [(1, .pl 1 0), (3, .one (.h 0))], [(1, [.h 1, .h 2, .h 3, .h 4])], [], [], []⟩), (.r, ⟨[.bool], [(2, .one (.h 0))], [], [], [], []⟩)] (.seq .nil (.seq (.block [] (.seq .nil (.seq (.reg [(.n, ⟨[.int .i64, .int .i64, .bool, .sl false 23 (.sl false 5 (.int .u8)), .sl false 5 (.int .u8), .sl false 3 (.int .i64), .sl false 3 (.int .i64)], [(1, .pl 1 0), (3, .one (.h 0)), (6, .one (.h 1)), (56, .one (.h 2))], [(1, [.h 3, .h 4, .h 5, .h 6])], [], [], []⟩)]) .nil))) .nil))))) (.seq (.seq .nil (.block [] (.loop ⟨[.int .i64, .sl true 24 (.sl false 3 (.int .i64)), .int .i64, .int .i64, .sl false 23 (.sl false 5 (.int .u8)), .sl false 5 (.int .u8), .sl false 3 (.int .i64), .sl false 3 (.int .i64)], [(1, .pl 1 0), (3, .one (.h 0)), (61, .one (.vw 205952)), (62, .one (.h 2)), (63, .one (.h 3))], [(1, [.h 4, .h 5, .h 6, .h 7])], [(205952, 1)], [], []⟩ [(.x 4, ⟨[], [], [], [], [], []⟩), (.r, ⟨[.bool], [(2, .one (.h 0))], [], [], [], []⟩)] (.seq .nil (.seq .nil (.seq (.block [] (.seq .nil (.seq .nil (.block [] (.loop ⟨[.int .i64, .sl false 3 (.int .i64), .sl true 24 (.sl false 3 (.int .i64)), .int .i64, .int .i64, .sl false 3 (.int .i64), .int .i64, .int .i64, .sl false 23 (.sl false 5 (.int .u8)), .sl false 5 (.int .u8), .sl false 3 (.int .i64), .sl false 3 (.int .i64)], [(1, .pl 1 0), (3, .one (.h 0)), (9, .one (.h 1)), (61, .one (.vw 206016)), (62, .one (.h 3)), (63, .one (.h 4)), (67, .one (.h 5)), (68, .one (.h 6)), (69, .one (.h 7))], [(1, [.h 8, .h 9, .h 10, .h 11])], [(206016, 2)], [], []⟩ [(.x 6, ⟨[.int .i64, .sl true 24 (.sl false 3 (.int .i64)), .int .i64, .int .i64, .sl false 23 (.sl false 5 (.int .u8)), .sl false 5 (.int .u8), .sl false 3 (.int .i64), .sl false 3 (.int .i64)], [(1, .pl 1 0), (3, .one (.h 0)), (61, .one (.vw 206081)), (62, .one (.h 2)), (63, .one (.h 3))], [(1, [.h 4, .h 5, .h 6, .h 7])], [(206081, 1)], [], []⟩), (.r, ⟨[.bool], [(2, .one (.h 0))], [], [], [], []⟩)] (.seq .nil (.seq .nil (.seq (.block [] (.seq .nil (.seq (.reg [(.n, ⟨[.int .i64, .sl false 3 (.int .i64), .sl true 24 (.sl false 3 (.int .i64)), .int .i64, .int .i64, .sl false 3 (.int .i64), .int .i64, .int .i64, .bool, .sl false 23 (.sl false 5 (.int .u8)), .sl false 5 (.int .u8), .sl false 3 (.int .i64), .sl false 3 (.int .i64)], [(1, .pl 1 0), (3, .one (.h 0)), (9, .one (.h 1)), (61, .one (.vw 206080)), (62, .one (.h 3)), (63, .one (.h 4)), (67, .one (.h 5)), (68, .one (.h 6)), (69, .one (.h 7)), (98, .one (.h 8))], [(1, [.h 9, .h 10, .h 11, .h 12])], [(206080, 2)], [], []⟩)]) .nil))) .nil)))))))) .nil)))))) .nil)))))
def env_s_GoodSpace : Env := envOf ti [k_s_l1In, k_s_l5Used] []
theorem eok_s_GoodSpace : EnvOk Try.prog env_s_GoodSpace := envOf_ok tab mix _ _ (by
  intro k hk
  simp only [List.mem_cons, List.not_mem_nil, or_false] at hk
  rcases hk with rfl | rfl
  · exact s_s_l1In
  · exact s_s_l5Used)
theorem v_s_GoodSpace (x0 : List (List Int)) (x1 : List Int) (x2 : List Int) (x3 : List Int) : (vfun env_s_GoodSpace Try.f73 J_s_GoodSpace ann_s_GoodSpace [] [.ag [⟨.sl false 23 (.sl false 5 (.int .u8)), x0⟩, ⟨.sl false 5 (.int .u8), x1⟩, ⟨.sl false 3 (.int .i64), x2⟩, ⟨.sl false 3 (.int .i64), x3⟩]] []).run = (G.s_GoodSpace x0 x1 x2 x3).bind fun y => some (Res.mk [.one ⟨.bool, y⟩] [] []) := by kernel_rfl
def k_s_GoodSpace : Kn := ⟨73, [0], fun args rows => match args, rows with
  | [.ag [⟨.sl false 23 (.sl false 5 (.int .u8)), x0⟩, ⟨.sl false 5 (.int .u8), x1⟩, ⟨.sl false 3 (.int .i64), x2⟩, ⟨.sl false 3 (.int .i64), x3⟩]], [] => some ⟨_, G.s_GoodSpace x0 x1 x2 x3, fun y => ⟨[.one ⟨.bool, y⟩], [], []⟩⟩
  | _, _ => none, []⟩
theorem s_s_GoodSpace : KnOk Try.prog k_s_GoodSpace := by
  intro args rows a h y hy
  simp only [k_s_GoodSpace] at h
  split at h
  · injection h with h
    subst h
    exact vfun_ok eok_s_GoodSpace Try.func73 rfl (by rw [v_s_GoodSpace]; simp only at hy; rw [hy]; rfl)
  · cases h
def J_s_l5Free : Joins := [(.r, ⟨[.int .i64], [(2, .one (.h 0))], [], [], [], []⟩)]
def ann_s_l5Free : Ann := .seq .nil (.seq .nil (.seq (.seq .nil (.block [] (.loop ⟨[.int .i64, .int .i64, .int .i64, .sl false 23 (.sl false 5 (.int .u8)), .sl false 5 (.int .u8), .sl false 3 (.int .i64), .sl false 3 (.int .i64)], [(1, .pl 1 0), (3, .one (.h 0)), (7, .one (.h 1)), (8, .one (.h 2))], [(1, [.h 3, .h 4, .h 5, .h 6])], [], [], []⟩ [(.x 0, ⟨[.int .i64], [(3, .one (.h 0))], [], [], [], []⟩)] (.seq .nil (.seq .nil (.seq (.block [] (.seq .nil (.seq .nil (.cond [(.n, ⟨[.int .i64, .int .i64, .int .i64, .sl false 23 (.sl false 5 (.int .u8)), .sl false 5 (.int .u8), .sl false 3 (.int .i64), .sl false 3 (.int .i64)], [(1, .pl 1 0), (3, .one (.h 0)), (7, .one (.h 1)), (8, .one (.h 2))], [(1, [.h 3, .h 4, .h 5, .h 6])], [], [], []⟩)] .nil .nil)))) .nil)))))) .nil))
def env_s_l5Free : Env := envOf ti [k_s_l5Used] []
theorem eok_s_l5Free : EnvOk Try.prog env_s_l5Free := envOf_ok tab mix _ _ (by
  intro k hk
  simp only [List.mem_cons, List.not_mem_nil, or_false] at hk
  rcases hk with rfl
  · exact s_s_l5Used)
theorem v_s_l5Free (x0 : List (List Int)) (x1 : List Int) (x2 : List Int) (x3 : List Int) : (vfun env_s_l5Free Try.f74 J_s_l5Free ann_s_l5Free [] [.ag [⟨.sl false 23 (.sl false 5 (.int .u8)), x0⟩, ⟨.sl false 5 (.int .u8), x1⟩, ⟨.sl false 3 (.int .i64), x2⟩, ⟨.sl false 3 (.int .i64), x3⟩]] []).run = (G.s_l5Free x0 x1 x2 x3).bind fun y => some (Res.mk [.one ⟨.int .i64, y⟩] [] []) := by kernel_rfl
def k_s_l5Free : Kn := ⟨74, [0], fun args rows => match args, rows with
  | [.ag [⟨.sl false 23 (.sl false 5 (.int .u8)), x0⟩, ⟨.sl false 5 (.int .u8), x1⟩, ⟨.sl false 3 (.int .i64), x2⟩, ⟨.sl false 3 (.int .i64), x3⟩]], [] => some ⟨_, G.s_l5Free x0 x1 x2 x3, fun y => ⟨[.one ⟨.int .i64, y⟩], [], []⟩⟩
  | _, _ => none, []⟩
theorem s_s_l5Free : KnOk Try.prog k_s_l5Free := by
  intro args rows a h y hy
  simp only [k_s_l5Free] at h
  split at h
  · injection h with h
    subst h
    exact vfun_ok eok_s_l5Free Try.func74 rfl (by rw [v_s_l5Free]; simp only at hy; rw [hy]; rfl)
  · cases h
end
end Go.Proofs.Ytggpihbcaebpjaa

set_option linter.unusedVariables false
set_option maxRecDepth 100000
namespace Go.Proofs.Ytggpihbcaebpjaa
open Go.V
noncomputable section
def J_s_l7Need : Joins := [(.r, ⟨[.int .i64], [(2, .one (.h 0))], [], [], [], []⟩)]
def ann_s_l7Need : Ann := .nil
def env_s_l7Need : Env := envOf ti [] []
theorem eok_s_l7Need : EnvOk Try.prog env_s_l7Need := envOf_ok tab mix _ _ (by
  intro k hk; cases hk)
theorem v_s_l7Need (x0 : Int) : (vfun env_s_l7Need Try.f114 J_s_l7Need ann_s_l7Need [] [.one ⟨.int .i64, x0⟩] []).run = (G.s_l7Need x0).bind fun y => some (Res.mk [.one ⟨.int .i64, y⟩] [] []) := by kernel_rfl
def k_s_l7Need : Kn := ⟨114, [0], fun args rows => match args, rows with
  | [.one ⟨.int .i64, x0⟩], [] => some ⟨_, G.s_l7Need x0, fun y => ⟨[.one ⟨.int .i64, y⟩], [], []⟩⟩
  | _, _ => none, []⟩
theorem s_s_l7Need : KnOk Try.prog k_s_l7Need := by
  intro args rows a h y hy
  simp only [k_s_l7Need] at h
  split at h
  · injection h with h
    subst h
    exact vfun_ok eok_s_l7Need Try.func114 rfl (by rw [v_s_l7Need]; simp only at hy; rw [hy]; rfl)
  · cases h
def J_s_l5Own : Joins := [(.r, ⟨[.sl true 23 (.sl true 5 (.int .u8)), .sl true 5 (.int .u8), .sl true 3 (.int .i64), .sl true 3 (.int .i64)], [(2, .pl 2 0)], [(2, [.vw 137281, .vw 137282, .vw 137283, .vw 137284])], [(137281, 0), (137282, 1), (137283, 2), (137284, 3)], [], []⟩)]
def ann_s_l5Own : Ann := .seq .nil (.seq .nil (.seq (.seq .nil (.block [] (.loop ⟨[.sl true 23 (.sl true 5 (.int .u8)), .sl false 23 (.sl false 5 (.int .u8)), .int .i64, .int .i64, .sl false 23 (.sl false 5 (.int .u8)), .sl false 5 (.int .u8), .sl false 3 (.int .i64), .sl false 3 (.int .i64)], [(1, .pl 1 0), (2, .pl 2 0), (3, .one (.vw 137216)), (7, .one (.h 1)), (8, .one (.h 2)), (9, .one (.h 3))], [(1, [.h 4, .h 5, .h 6, .h 7]), (2, [.nil, .nil, .nil, .nil])], [(137216, 0)], [], []⟩ [(.x 0, ⟨[.sl true 23 (.sl true 5 (.int .u8)), .sl false 23 (.sl false 5 (.int .u8)), .sl false 5 (.int .u8), .sl false 3 (.int .i64), .sl false 3 (.int .i64)], [(1, .pl 1 0), (2, .pl 2 0), (3, .one (.vw 137280))], [(1, [.h 1, .h 2, .h 3, .h 4]), (2, [.nil, .nil, .nil, .nil])], [(137280, 0)], [], []⟩)] .nil))) .nil))
def env_s_l5Own : Env := envOf ti [] []
theorem eok_s_l5Own : EnvOk Try.prog env_s_l5Own := envOf_ok tab mix _ _ (by
  intro k hk; cases hk)
theorem v_s_l5Own (x0 : List (List Int)) (x1 : List Int) (x2 : List Int) (x3 : List Int) : (vfun env_s_l5Own Try.f75 J_s_l5Own ann_s_l5Own [] [.ag [⟨.sl false 23 (.sl false 5 (.int .u8)), x0⟩, ⟨.sl false 5 (.int .u8), x1⟩, ⟨.sl false 3 (.int .i64), x2⟩, ⟨.sl false 3 (.int .i64), x3⟩]] []).run = (G.s_l5Own x0 x1 x2 x3).bind fun y => some (Res.mk [.ag [⟨.sl true 23 (.sl true 5 (.int .u8)), y.1⟩, ⟨.sl true 5 (.int .u8), y.2.1⟩, ⟨.sl true 3 (.int .i64), y.2.2.1⟩, ⟨.sl true 3 (.int .i64), y.2.2.2⟩]] [] []) := by kernel_rfl
def k_s_l5Own : Kn := ⟨75, [0], fun args rows => match args, rows with
  | [.ag [⟨.sl false 23 (.sl false 5 (.int .u8)), x0⟩, ⟨.sl false 5 (.int .u8), x1⟩, ⟨.sl false 3 (.int .i64), x2⟩, ⟨.sl false 3 (.int .i64), x3⟩]], [] => some ⟨_, G.s_l5Own x0 x1 x2 x3, fun y => ⟨[.ag [⟨.sl true 23 (.sl true 5 (.int .u8)), y.1⟩, ⟨.sl true 5 (.int .u8), y.2.1⟩, ⟨.sl true 3 (.int .i64), y.2.2.1⟩, ⟨.sl true 3 (.int .i64), y.2.2.2⟩]], [], []⟩⟩
  | _, _ => none, []⟩
theorem s_s_l5Own : KnOk Try.prog k_s_l5Own := by
  intro args rows a h y hy
  simp only [k_s_l5Own] at h
  split at h
  · injection h with h
    subst h
    exact vfun_ok eok_s_l5Own Try.func75 rfl (by rw [v_s_l5Own]; simp only at hy; rw [hy]; rfl)
  · cases h
def J_s_l5Put : Joins := [(.r, ⟨[.sl true 3 (.int .i64)], [(4, .one (.vw 151619))], [], [(151619, 0)], [], []⟩)]
def ann_s_l5Put : Ann := .seq .nil (.seq .nil (.seq (.block [] (.loop ⟨[.sl true 3 (.int .i64), .int .i64, .int .i64], [(0, .one (.vw 151552)), (1, .one (.h 1)), (5, .one (.h 2))], [], [(151552, 0)], [], []⟩ [(.x 0, ⟨[.sl true 3 (.int .i64), .int .i64, .int .i64], [(0, .one (.vw 151617)), (1, .one (.h 1)), (5, .one (.h 2))], [], [(151617, 0)], [], []⟩)] (.seq (.seq (.reg [(.n, ⟨[.sl true 3 (.int .i64), .int .i64, .int .i64, .bool], [(0, .one (.vw 151616)), (1, .one (.h 1)), (5, .one (.h 2)), (18, .one (.h 3))], [], [(151616, 0)], [], []⟩)]) .nil) .nil))) (.seq (.seq (.reg [(.n, ⟨[.sl true 3 (.int .i64), .int .i64, .int .i64, .bool], [(0, .one (.vw 151618)), (1, .one (.h 1)), (5, .one (.h 2)), (32, .one (.h 3))], [], [(151618, 0)], [], []⟩)]) .nil) .nil)))
def env_s_l5Put : Env := envOf ti [] []
theorem eok_s_l5Put : EnvOk Try.prog env_s_l5Put := envOf_ok tab mix _ _ (by
  intro k hk; cases hk)
theorem v_s_l5Put (x0 : List Int) (x1 : Int) : (vfun env_s_l5Put Try.f136 J_s_l5Put ann_s_l5Put [] [.one ⟨.sl true 3 (.int .i64), x0⟩, .one ⟨.int .i64, x1⟩] []).run = (G.s_l5Put x0 x1).bind fun y => some (Res.mk [.one ⟨.sl true 3 (.int .i64), y⟩] [] []) := by kernel_rfl
def k_s_l5Put : Kn := ⟨136, [1, 0], fun args rows => match args, rows with
  | [.one ⟨.sl true 3 (.int .i64), x0⟩, .one ⟨.int .i64, x1⟩], [] => some ⟨_, G.s_l5Put x0 x1, fun y => ⟨[.one ⟨.sl true 3 (.int .i64), y⟩], [], []⟩⟩
  | _, _ => none, []⟩
theorem s_s_l5Put : KnOk Try.prog k_s_l5Put := by
  intro args rows a h y hy
  simp only [k_s_l5Put] at h
  split at h
  · injection h with h
    subst h
    exact vfun_ok eok_s_l5Put Try.func136 rfl (by rw [v_s_l5Put]; simp only at hy; rw [hy]; rfl)
  · cases h
def J_s_l5Take_oooo : Joins := [(.r, ⟨[.int .i64, .sl true 23 (.sl true 5 (.int .u8)), .sl true 5 (.int .u8), .sl true 3 (.int .i64), .sl true 3 (.int .i64)], [(2, .one (.h 0))], [(44, [.vw 146504, .vw 146505, .vw 146506, .vw 146507])], [(146504, 1), (146505, 2), (146506, 3), (146507, 4)], [], []⟩)]
def ann_s_l5Take_oooo : Ann := .seq .nil (.seq (.seq .nil (.block [] (.loop ⟨[.int .i64, .sl true 23 (.sl true 5 (.int .u8)), .sl true 5 (.int .u8), .sl true 3 (.int .i64), .sl true 3 (.int .i64)], [(0, .pl 44 0), (3, .one (.h 0))], [(44, [.vw 146432, .vw 146433, .vw 146434, .vw 146435])], [(146432, 1), (146433, 2), (146434, 3), (146435, 4)], [], []⟩ [(.x 0, ⟨[.sl true 23 (.sl true 5 (.int .u8)), .sl true 5 (.int .u8), .sl true 3 (.int .i64), .sl true 3 (.int .i64)], [], [(44, [.vw 146496, .vw 146497, .vw 146498, .vw 146499])], [(146496, 0), (146497, 1), (146498, 2), (146499, 3)], [], []⟩), (.r, ⟨[.int .i64, .sl true 23 (.sl true 5 (.int .u8)), .sl true 5 (.int .u8), .sl true 3 (.int .i64), .sl true 3 (.int .i64)], [(2, .one (.h 0))], [(44, [.vw 146500, .vw 146501, .vw 146502, .vw 146503])], [(146500, 1), (146501, 2), (146502, 3), (146503, 4)], [], []⟩)] .nil))) .nil)
def env_s_l5Take_oooo : Env := envOf ti [k_s_l5Used, k_s_l5Set_l, k_s_l5Put] []
theorem eok_s_l5Take_oooo : EnvOk Try.prog env_s_l5Take_oooo := envOf_ok tab mix _ _ (by
  intro k hk
  simp only [List.mem_cons, List.not_mem_nil, or_false] at hk
  rcases hk with rfl | rfl | rfl
  · exact s_s_l5Used
  · exact s_s_l5Set_l
  · exact s_s_l5Put)
theorem v_s_l5Take_oooo (x0 : List (List Int)) (x1 : List Int) (x2 : List Int) (x3 : List Int) : (vfun env_s_l5Take_oooo Try.f76 J_s_l5Take_oooo ann_s_l5Take_oooo [] [.pl 0 0] [[⟨.sl true 23 (.sl true 5 (.int .u8)), x0⟩, ⟨.sl true 5 (.int .u8), x1⟩, ⟨.sl true 3 (.int .i64), x2⟩, ⟨.sl true 3 (.int .i64), x3⟩]]).run = (G.s_l5Take_oooo x0 x1 x2 x3).bind fun y => some (Res.mk [.one ⟨.int .i64, y.1⟩] [[⟨.sl true 23 (.sl true 5 (.int .u8)), y.2.1⟩, ⟨.sl true 5 (.int .u8), y.2.2.1⟩, ⟨.sl true 3 (.int .i64), y.2.2.2.1⟩, ⟨.sl true 3 (.int .i64), y.2.2.2.2⟩]] []) := by kernel_rfl
def k_s_l5Take_oooo : Kn := ⟨76, [0], fun args rows => match args, rows with
  | [.pl 0 0], [[⟨.sl true 23 (.sl true 5 (.int .u8)), x0⟩, ⟨.sl true 5 (.int .u8), x1⟩, ⟨.sl true 3 (.int .i64), x2⟩, ⟨.sl true 3 (.int .i64), x3⟩]] => some ⟨_, G.s_l5Take_oooo x0 x1 x2 x3, fun y => ⟨[.one ⟨.int .i64, y.1⟩], [[⟨.sl true 23 (.sl true 5 (.int .u8)), y.2.1⟩, ⟨.sl true 5 (.int .u8), y.2.2.1⟩, ⟨.sl true 3 (.int .i64), y.2.2.2.1⟩, ⟨.sl true 3 (.int .i64), y.2.2.2.2⟩]], []⟩⟩
  | _, _ => none, []⟩
theorem s_s_l5Take_oooo : KnOk Try.prog k_s_l5Take_oooo := by
  intro args rows a h y hy
  simp only [k_s_l5Take_oooo] at h
  split at h
  · injection h with h
    subst h
    exact vfun_ok eok_s_l5Take_oooo Try.func76 rfl (by rw [v_s_l5Take_oooo]; simp only at hy; rw [hy]; rfl)
  · cases h
def J_s_l5Lay_oooo : Joins := [(.n, ⟨[.sl true 23 (.sl true 5 (.int .u8)), .sl true 5 (.int .u8), .sl true 3 (.int .i64), .sl true 3 (.int .i64)], [], [(28, [.vw 130048, .vw 130049, .vw 130050, .vw 130051])], [(130048, 0), (130049, 1), (130050, 2), (130051, 3)], [], []⟩)]
def ann_s_l5Lay_oooo : Ann := .nil
def env_s_l5Lay_oooo : Env := envOf ti [k_s_l5Put] []
theorem eok_s_l5Lay_oooo : EnvOk Try.prog env_s_l5Lay_oooo := envOf_ok tab mix _ _ (by
  intro k hk
  simp only [List.mem_cons, List.not_mem_nil, or_false] at hk
  rcases hk with rfl
  · exact s_s_l5Put)
theorem v_s_l5Lay_oooo (x0 : Int) (x1 : List Int) (x2 : List (List Int)) (x3 : List Int) (x4 : List Int) (x5 : List Int) : (vfun env_s_l5Lay_oooo Try.f157 J_s_l5Lay_oooo ann_s_l5Lay_oooo [] [.pl 0 0, .one ⟨.int .i64, x0⟩, .one ⟨.sl false 5 (.int .u8), x1⟩] [[⟨.sl true 23 (.sl true 5 (.int .u8)), x2⟩, ⟨.sl true 5 (.int .u8), x3⟩, ⟨.sl true 3 (.int .i64), x4⟩, ⟨.sl true 3 (.int .i64), x5⟩]]).run = (G.s_l5Lay_oooo x0 x1 x2 x3 x4 x5).bind fun y => some (Res.mk [] [[⟨.sl true 23 (.sl true 5 (.int .u8)), y.1⟩, ⟨.sl true 5 (.int .u8), y.2.1⟩, ⟨.sl true 3 (.int .i64), y.2.2.1⟩, ⟨.sl true 3 (.int .i64), y.2.2.2⟩]] []) := by kernel_rfl
def k_s_l5Lay_oooo : Kn := ⟨157, [0, 0, 0], fun args rows => match args, rows with
  | [.pl 0 0, .one ⟨.int .i64, x0⟩, .one ⟨.sl false 5 (.int .u8), x1⟩], [[⟨.sl true 23 (.sl true 5 (.int .u8)), x2⟩, ⟨.sl true 5 (.int .u8), x3⟩, ⟨.sl true 3 (.int .i64), x4⟩, ⟨.sl true 3 (.int .i64), x5⟩]] => some ⟨_, G.s_l5Lay_oooo x0 x1 x2 x3 x4 x5, fun y => ⟨[], [[⟨.sl true 23 (.sl true 5 (.int .u8)), y.1⟩, ⟨.sl true 5 (.int .u8), y.2.1⟩, ⟨.sl true 3 (.int .i64), y.2.2.1⟩, ⟨.sl true 3 (.int .i64), y.2.2.2⟩]], []⟩⟩
  | _, _ => none, []⟩
theorem s_s_l5Lay_oooo : KnOk Try.prog k_s_l5Lay_oooo := by
  intro args rows a h y hy
  simp only [k_s_l5Lay_oooo] at h
  split at h
  · injection h with h
    subst h
    exact vfun_ok eok_s_l5Lay_oooo Try.func157 rfl (by rw [v_s_l5Lay_oooo]; simp only at hy; rw [hy]; rfl)
  · cases h
def J_s_l7Lay_oooo : Joins := [(.r, ⟨[.int .i64, .sl true 23 (.sl true 5 (.int .u8)), .sl true 5 (.int .u8), .sl true 3 (.int .i64), .sl true 3 (.int .i64)], [(4, .one (.h 0))], [(70, [.vw 173204, .vw 173205, .vw 173206, .vw 173207])], [(173204, 1), (173205, 2), (173206, 3), (173207, 4)], [], []⟩)]
def ann_s_l7Lay_oooo : Ann := .seq .nil (.seq .nil (.seq (.seq .nil (.block [] (.loop ⟨[.sl false 5 (.int .u8), .sl true 3 (.int .i64), .int .i64, .sl true 23 (.sl true 5 (.int .u8)), .sl true 5 (.int .u8), .sl true 3 (.int .i64), .sl true 3 (.int .i64)], [(0, .pl 70 0), (1, .one (.h 0)), (5, .one (.vw 173056)), (6, .one (.h 2))], [(70, [.vw 173057, .vw 173058, .vw 173059, .vw 173060])], [(173056, 1), (173057, 3), (173058, 4), (173059, 5), (173060, 6)], [], []⟩ [(.x 0, ⟨[.sl false 5 (.int .u8), .sl true 3 (.int .i64), .sl true 23 (.sl true 5 (.int .u8)), .sl true 5 (.int .u8), .sl true 3 (.int .i64), .sl true 3 (.int .i64)], [(0, .pl 70 0), (1, .one (.h 0)), (5, .one (.vw 173120))], [(70, [.vw 173121, .vw 173122, .vw 173123, .vw 173124])], [(173120, 1), (173121, 2), (173122, 3), (173123, 4), (173124, 5)], [], []⟩)] .nil))) (.seq (.seq .nil (.block [] (.loop ⟨[.sl false 5 (.int .u8), .sl true 3 (.int .i64), .int .i64, .int .i64, .sl true 23 (.sl true 5 (.int .u8)), .sl true 5 (.int .u8), .sl true 3 (.int .i64), .sl true 3 (.int .i64)], [(0, .pl 70 0), (1, .one (.h 0)), (5, .one (.vw 173125)), (24, .one (.vw 173125)), (25, .one (.h 2)), (26, .one (.h 3))], [(70, [.vw 173126, .vw 173127, .vw 173128, .vw 173129])], [(173125, 1), (173126, 4), (173127, 5), (173128, 6), (173129, 7)], [], []⟩ [(.x 2, ⟨[.sl true 3 (.int .i64), .sl true 23 (.sl true 5 (.int .u8)), .sl true 5 (.int .u8), .sl true 3 (.int .i64), .sl true 3 (.int .i64)], [(5, .one (.vw 173199))], [(70, [.vw 173200, .vw 173201, .vw 173202, .vw 173203])], [(173199, 0), (173200, 1), (173201, 2), (173202, 3), (173203, 4)], [], []⟩)] (.seq .nil (.seq .nil (.seq (.block [] (.seq .nil (.seq .nil (.seq (.seq .nil (.cond [(.n, ⟨[.sl false 5 (.int .u8), .sl true 3 (.int .i64), .int .i64, .int .i64, .int .i64, .int .i64, .int .i64, .sl true 23 (.sl true 5 (.int .u8)), .sl true 5 (.int .u8), .sl true 3 (.int .i64), .sl true 3 (.int .i64)], [(0, .pl 70 0), (1, .one (.h 0)), (5, .one (.vw 173189)), (7, .one (.h 2)), (8, .one (.h 3)), (9, .one (.h 4)), (24, .one (.vw 173189)), (25, .one (.h 5)), (26, .one (.h 6))], [(70, [.vw 173190, .vw 173191, .vw 173192, .vw 173193])], [(173189, 1), (173190, 7), (173191, 8), (173192, 9), (173193, 10)], [], []⟩)] .nil .nil)) (.seq .nil (.seq (.seq .nil (.cond [(.n, ⟨[.sl false 5 (.int .u8), .sl true 3 (.int .i64), .int .i64, .int .i64, .sl false 5 (.int .u8), .int .i64, .int .i64, .sl true 23 (.sl true 5 (.int .u8)), .sl true 5 (.int .u8), .sl true 3 (.int .i64), .sl true 3 (.int .i64)], [(0, .pl 70 0), (1, .one (.h 0)), (5, .one (.vw 173194)), (8, .one (.h 2)), (9, .one (.h 3)), (10, .one (.h 4)), (24, .one (.vw 173194)), (25, .one (.h 5)), (26, .one (.h 6))], [(70, [.vw 173195, .vw 173196, .vw 173197, .vw 173198])], [(173194, 1), (173195, 7), (173196, 8), (173197, 9), (173198, 10)], [], []⟩)] .nil .nil)) .nil)))))) .nil)))))) .nil)))
def env_s_l7Lay_oooo : Env := envOf ti [k_s_l7Need, k_s_l5Take_oooo, k_s_l5Lay_oooo] []
theorem eok_s_l7Lay_oooo : EnvOk Try.prog env_s_l7Lay_oooo := envOf_ok tab mix _ _ (by
  intro k hk
  simp only [List.mem_cons, List.not_mem_nil, or_false] at hk
  rcases hk with rfl | rfl | rfl
  · exact s_s_l7Need
  · exact s_s_l5Take_oooo
  · exact s_s_l5Lay_oooo)
theorem v_s_l7Lay_oooo (x0 : List Int) (x1 : List (List Int)) (x2 : List Int) (x3 : List Int) (x4 : List Int) : (vfun env_s_l7Lay_oooo Try.f115 J_s_l7Lay_oooo ann_s_l7Lay_oooo [] [.pl 0 0, .one ⟨.sl false 5 (.int .u8), x0⟩] [[⟨.sl true 23 (.sl true 5 (.int .u8)), x1⟩, ⟨.sl true 5 (.int .u8), x2⟩, ⟨.sl true 3 (.int .i64), x3⟩, ⟨.sl true 3 (.int .i64), x4⟩]]).run = (G.s_l7Lay_oooo x0 x1 x2 x3 x4).bind fun y => some (Res.mk [.one ⟨.int .i64, y.1⟩] [[⟨.sl true 23 (.sl true 5 (.int .u8)), y.2.1⟩, ⟨.sl true 5 (.int .u8), y.2.2.1⟩, ⟨.sl true 3 (.int .i64), y.2.2.2.1⟩, ⟨.sl true 3 (.int .i64), y.2.2.2.2⟩]] []) := by kernel_rfl
def k_s_l7Lay_oooo : Kn := ⟨115, [0, 0], fun args rows => match args, rows with
  | [.pl 0 0, .one ⟨.sl false 5 (.int .u8), x0⟩], [[⟨.sl true 23 (.sl true 5 (.int .u8)), x1⟩, ⟨.sl true 5 (.int .u8), x2⟩, ⟨.sl true 3 (.int .i64), x3⟩, ⟨.sl true 3 (.int .i64), x4⟩]] => some ⟨_, G.s_l7Lay_oooo x0 x1 x2 x3 x4, fun y => ⟨[.one ⟨.int .i64, y.1⟩], [[⟨.sl true 23 (.sl true 5 (.int .u8)), y.2.1⟩, ⟨.sl true 5 (.int .u8), y.2.2.1⟩, ⟨.sl true 3 (.int .i64), y.2.2.2.1⟩, ⟨.sl true 3 (.int .i64), y.2.2.2.2⟩]], []⟩⟩
  | _, _ => none, []⟩
theorem s_s_l7Lay_oooo : KnOk Try.prog k_s_l7Lay_oooo := by
  intro args rows a h y hy
  simp only [k_s_l7Lay_oooo] at h
  split at h
  · injection h with h
    subst h
    exact vfun_ok eok_s_l7Lay_oooo Try.func115 rfl (by rw [v_s_l7Lay_oooo]; simp only at hy; rw [hy]; rfl)
  · cases h
def J_s_LayRecord : Joins := [(.r, ⟨[.int .i64, .bool, .sl true 23 (.sl true 5 (.int .u8)), .sl true 5 (.int .u8), .sl true 3 (.int .i64), .sl true 3 (.int .i64)], [(4, .pl 4 0), (5, .one (.h 0)), (6, .one (.h 1))], [(4, [.vw 134144, .vw 134145, .vw 134146, .vw 134147])], [(134144, 2), (134145, 3), (134146, 4), (134147, 5)], [], []⟩)]
def ann_s_LayRecord : Ann := .seq .nil (.seq (.seq (.reg [(.n, ⟨[.sl false 5 (.int .u8), .bool, .sl false 23 (.sl false 5 (.int .u8)), .sl false 5 (.int .u8), .sl false 3 (.int .i64), .sl false 3 (.int .i64)], [(1, .one (.h 0)), (2, .pl 2 0), (4, .pl 4 0), (23, .one (.h 1))], [(2, [.h 2, .h 3, .h 4, .h 5]), (4, [.nil, .nil, .nil, .nil])], [], [], []⟩)]) .nil) .nil)
def env_s_LayRecord : Env := envOf ti [k_s_GoodSpace, k_s_l5Free, k_s_l7Need, k_s_l5Own, k_s_l7Lay_oooo] []
theorem eok_s_LayRecord : EnvOk Try.prog env_s_LayRecord := envOf_ok tab mix _ _ (by
  intro k hk
  simp only [List.mem_cons, List.not_mem_nil, or_false] at hk
  rcases hk with rfl | rfl | rfl | rfl | rfl
  · exact s_s_GoodSpace
  · exact s_s_l5Free
  · exact s_s_l7Need
  · exact s_s_l5Own
  · exact s_s_l7Lay_oooo)
theorem v_s_LayRecord (x0 : List (List Int)) (x1 : List Int) (x2 : List Int) (x3 : List Int) (x4 : List Int) : (vfun env_s_LayRecord Try.f46 J_s_LayRecord ann_s_LayRecord [] [.ag [⟨.sl false 23 (.sl false 5 (.int .u8)), x0⟩, ⟨.sl false 5 (.int .u8), x1⟩, ⟨.sl false 3 (.int .i64), x2⟩, ⟨.sl false 3 (.int .i64), x3⟩], .one ⟨.sl false 5 (.int .u8), x4⟩] []).run = (G.s_LayRecord x0 x1 x2 x3 x4).bind fun y => some (Res.mk [.ag [⟨.sl true 23 (.sl true 5 (.int .u8)), y.2.2.1⟩, ⟨.sl true 5 (.int .u8), y.2.2.2.1⟩, ⟨.sl true 3 (.int .i64), y.2.2.2.2.1⟩, ⟨.sl true 3 (.int .i64), y.2.2.2.2.2⟩], .one ⟨.int .i64, y.1⟩, .one ⟨.bool, y.2.1⟩] [] []) := by kernel_rfl
def k_s_LayRecord : Kn := ⟨46, [0, 0], fun args rows => match args, rows with
  | [.ag [⟨.sl false 23 (.sl false 5 (.int .u8)), x0⟩, ⟨.sl false 5 (.int .u8), x1⟩, ⟨.sl false 3 (.int .i64), x2⟩, ⟨.sl false 3 (.int .i64), x3⟩], .one ⟨.sl false 5 (.int .u8), x4⟩], [] => some ⟨_, G.s_LayRecord x0 x1 x2 x3 x4, fun y => ⟨[.ag [⟨.sl true 23 (.sl true 5 (.int .u8)), y.2.2.1⟩, ⟨.sl true 5 (.int .u8), y.2.2.2.1⟩, ⟨.sl true 3 (.int .i64), y.2.2.2.2.1⟩, ⟨.sl true 3 (.int .i64), y.2.2.2.2.2⟩], .one ⟨.int .i64, y.1⟩, .one ⟨.bool, y.2.1⟩], [], []⟩⟩
  | _, _ => none, []⟩
theorem s_s_LayRecord : KnOk Try.prog k_s_LayRecord := by
  intro args rows a h y hy
  simp only [k_s_LayRecord] at h
  split at h
  · injection h with h
    subst h
    exact vfun_ok eok_s_LayRecord Try.func46 rfl (by rw [v_s_LayRecord]; simp only at hy; rw [hy]; rfl)
  · cases h
def J_s_l1Cur_textSome_f : Joins := [(.r, ⟨[.str, .sl false 5 (.int .u8), .int .i64, .int .u64], [(2, .one (.h 0))], [(33, [.h 1, .h 2, .h 3])], [], [], []⟩)]
def ann_s_l1Cur_textSome_f : Ann := .seq .nil (.seq .nil (.seq .nil (.seq .nil (.seq (.seq .nil (.block [] (.loop ⟨[.sl true 5 (.int .u8), .int .u8, .int .i64, .int .i64, .sl false 5 (.int .u8), .int .i64, .int .u64], [(0, .pl 33 0), (4, .one (.vw 135168)), (5, .one (.h 1)), (17, .one (.h 2)), (18, .one (.h 3))], [(33, [.h 4, .h 5, .h 6])], [(135168, 0)], [], []⟩ [(.x 0, ⟨[.sl true 5 (.int .u8), .sl false 5 (.int .u8), .int .i64, .int .u64], [(4, .one (.vw 135233))], [(33, [.h 1, .h 2, .h 3])], [(135233, 0)], [], []⟩)] (.seq .nil (.seq .nil (.seq (.block [] (.seq .nil (.seq .nil (.seq .nil (.cond [(.n, ⟨[.sl true 5 (.int .u8), .int .u8, .int .i64, .int .i64, .sl false 5 (.int .u8), .int .i64, .int .u64], [(0, .pl 33 0), (4, .one (.vw 135232)), (5, .one (.h 1)), (17, .one (.h 2)), (18, .one (.h 3))], [(33, [.h 4, .h 5, .h 6])], [(135232, 0)], [], []⟩)] .nil .nil))))) .nil)))))) .nil))))
def env_s_l1Cur_textSome_f : Env := envOf ti [k_s_l1Cur_among_f, k_s_l1Cur_pick_f, k_s_l1Cur_one_f] []
theorem eok_s_l1Cur_textSome_f : EnvOk Try.prog env_s_l1Cur_textSome_f := envOf_ok tab mix _ _ (by
  intro k hk
  simp only [List.mem_cons, List.not_mem_nil, or_false] at hk
  rcases hk with rfl | rfl | rfl
  · exact s_s_l1Cur_among_f
  · exact s_s_l1Cur_pick_f
  · exact s_s_l1Cur_one_f)
theorem v_s_l1Cur_textSome_f (x0 : List Int) (x1 : Int) (x2 : Int) : (vfun env_s_l1Cur_textSome_f Try.f142 J_s_l1Cur_textSome_f ann_s_l1Cur_textSome_f [] [.pl 0 0] [[⟨.sl false 5 (.int .u8), x0⟩, ⟨.int .i64, x1⟩, ⟨.int .u64, x2⟩]]).run = (G.s_l1Cur_textSome_f x0 x1 x2).bind fun y => some (Res.mk [.one ⟨.str, y.1⟩] [[⟨.sl false 5 (.int .u8), y.2.1⟩, ⟨.int .i64, y.2.2.1⟩, ⟨.int .u64, y.2.2.2⟩]] []) := by kernel_rfl
def k_s_l1Cur_textSome_f : Kn := ⟨142, [0], fun args rows => match args, rows with
  | [.pl 0 0], [[⟨.sl false 5 (.int .u8), x0⟩, ⟨.int .i64, x1⟩, ⟨.int .u64, x2⟩]] => some ⟨_, G.s_l1Cur_textSome_f x0 x1 x2, fun y => ⟨[.one ⟨.str, y.1⟩], [[⟨.sl false 5 (.int .u8), y.2.1⟩, ⟨.int .i64, y.2.2.1⟩, ⟨.int .u64, y.2.2.2⟩]], []⟩⟩
  | _, _ => none, []⟩
theorem s_s_l1Cur_textSome_f : KnOk Try.prog k_s_l1Cur_textSome_f := by
  intro args rows a h y hy
  simp only [k_s_l1Cur_textSome_f] at h
  split at h
  · injection h with h
    subst h
    exact vfun_ok eok_s_l1Cur_textSome_f Try.func142 rfl (by rw [v_s_l1Cur_textSome_f]; simp only at hy; rw [hy]; rfl)
  · cases h
def J_s_l5Has : Joins := [(.r, ⟨[.bool], [(4, .one (.h 0))], [], [], [], []⟩)]
def ann_s_l5Has : Ann := .seq .nil (.seq (.seq .nil (.block [] (.loop ⟨[.int .i64, .sl false 3 (.int .i64), .int .i64, .int .i64], [(1, .one (.h 0)), (7, .one (.h 1)), (8, .one (.h 2)), (9, .one (.h 3))], [], [], [], []⟩ [(.x 0, ⟨[], [], [], [], [], []⟩), (.r, ⟨[.bool], [(4, .one (.h 0))], [], [], [], []⟩)] .nil))) .nil)
def env_s_l5Has : Env := envOf ti [] []
theorem eok_s_l5Has : EnvOk Try.prog env_s_l5Has := envOf_ok tab mix _ _ (by
  intro k hk; cases hk)
theorem v_s_l5Has (x0 : List Int) (x1 : Int) : (vfun env_s_l5Has Try.f206 J_s_l5Has ann_s_l5Has [] [.one ⟨.sl false 3 (.int .i64), x0⟩, .one ⟨.int .i64, x1⟩] []).run = (G.s_l5Has x0 x1).bind fun y => some (Res.mk [.one ⟨.bool, y⟩] [] []) := by kernel_rfl
def k_s_l5Has : Kn := ⟨206, [0, 0], fun args rows => match args, rows with
  | [.one ⟨.sl false 3 (.int .i64), x0⟩, .one ⟨.int .i64, x1⟩], [] => some ⟨_, G.s_l5Has x0 x1, fun y => ⟨[.one ⟨.bool, y⟩], [], []⟩⟩
  | _, _ => none, []⟩
theorem s_s_l5Has : KnOk Try.prog k_s_l5Has := by
  intro args rows a h y hy
  simp only [k_s_l5Has] at h
  split at h
  · injection h with h
    subst h
    exact vfun_ok eok_s_l5Has Try.func206 rfl (by rw [v_s_l5Has]; simp only at hy; rw [hy]; rfl)
  · cases h
def J_s_l5Live : Joins := [(.r, ⟨[.bool], [(4, .one (.h 0))], [], [], [], []⟩)]
def ann_s_l5Live : Ann := .seq .nil (.seq (.reg [(.n, ⟨[.bool], [(4, .one (.h 0))], [], [], [], []⟩)]) .nil)
def env_s_l5Live : Env := envOf ti [k_s_l1In, k_s_l5Used, k_s_l5Has] []
theorem eok_s_l5Live : EnvOk Try.prog env_s_l5Live := envOf_ok tab mix _ _ (by
  intro k hk
  simp only [List.mem_cons, List.not_mem_nil, or_false] at hk
  rcases hk with rfl | rfl | rfl
  · exact s_s_l1In
  · exact s_s_l5Used
  · exact s_s_l5Has)
theorem v_s_l5Live (x0 : List (List Int)) (x1 : List Int) (x2 : List Int) (x3 : List Int) (x4 : Int) : (vfun env_s_l5Live Try.f158 J_s_l5Live ann_s_l5Live [] [.ag [⟨.sl false 23 (.sl false 5 (.int .u8)), x0⟩, ⟨.sl false 5 (.int .u8), x1⟩, ⟨.sl false 3 (.int .i64), x2⟩, ⟨.sl false 3 (.int .i64), x3⟩], .one ⟨.int .i64, x4⟩] []).run = (G.s_l5Live x0 x1 x2 x3 x4).bind fun y => some (Res.mk [.one ⟨.bool, y⟩] [] []) := by kernel_rfl
def k_s_l5Live : Kn := ⟨158, [0, 0], fun args rows => match args, rows with
  | [.ag [⟨.sl false 23 (.sl false 5 (.int .u8)), x0⟩, ⟨.sl false 5 (.int .u8), x1⟩, ⟨.sl false 3 (.int .i64), x2⟩, ⟨.sl false 3 (.int .i64), x3⟩], .one ⟨.int .i64, x4⟩], [] => some ⟨_, G.s_l5Live x0 x1 x2 x3 x4, fun y => ⟨[.one ⟨.bool, y⟩], [], []⟩⟩
  | _, _ => none, []⟩
theorem s_s_l5Live : KnOk Try.prog k_s_l5Live := by
  intro args rows a h y hy
  simp only [k_s_l5Live] at h
  split at h
  · injection h with h
    subst h
    exact vfun_ok eok_s_l5Live Try.func158 rfl (by rw [v_s_l5Live]; simp only at hy; rw [hy]; rfl)
  · cases h
def J_s_l7Rest : Joins := [(.r, ⟨[.bool], [(4, .one (.h 0))], [], [], [], []⟩)]
def ann_s_l7Rest : Ann := .seq .nil (.seq (.seq .nil (.block [] (.loop ⟨[.sl false 5 (.int .u8), .int .i64, .int .i64], [(9, .one (.h 0)), (10, .one (.h 1)), (11, .one (.h 2))], [], [], [], []⟩ [(.x 0, ⟨[], [], [], [], [], []⟩), (.r, ⟨[.bool], [(4, .one (.h 0))], [], [], [], []⟩)] .nil))) .nil)
def env_s_l7Rest : Env := envOf ti [] []
theorem eok_s_l7Rest : EnvOk Try.prog env_s_l7Rest := envOf_ok tab mix _ _ (by
  intro k hk; cases hk)
theorem v_s_l7Rest (x0 : List Int) (x1 : Int) : (vfun env_s_l7Rest Try.f215 J_s_l7Rest ann_s_l7Rest [] [.one ⟨.sl false 5 (.int .u8), x0⟩, .one ⟨.int .i64, x1⟩] []).run = (G.s_l7Rest x0 x1).bind fun y => some (Res.mk [.one ⟨.bool, y⟩] [] []) := by kernel_rfl
def k_s_l7Rest : Kn := ⟨215, [0, 0], fun args rows => match args, rows with
  | [.one ⟨.sl false 5 (.int .u8), x0⟩, .one ⟨.int .i64, x1⟩], [] => some ⟨_, G.s_l7Rest x0 x1, fun y => ⟨[.one ⟨.bool, y⟩], [], []⟩⟩
  | _, _ => none, []⟩
theorem s_s_l7Rest : KnOk Try.prog k_s_l7Rest := by
  intro args rows a h y hy
  simp only [k_s_l7Rest] at h
  split at h
  · injection h with h
    subst h
    exact vfun_ok eok_s_l7Rest Try.func215 rfl (by rw [v_s_l7Rest]; simp only at hy; rw [hy]; rfl)
  · cases h
def J_s_l7Pieces : Joins := [(.r, ⟨[.sl true 3 (.int .i64), .bool], [(4, .one (.vw 234563)), (5, .one (.h 1))], [], [(234563, 0)], [], []⟩)]
def ann_s_l7Pieces : Ann := .seq .nil (.seq (.seq (.reg [(.n, ⟨[.int .i64, .bool, .sl false 23 (.sl false 5 (.int .u8)), .sl false 5 (.int .u8), .sl false 3 (.int .i64), .sl false 3 (.int .i64)], [(1, .one (.h 0)), (2, .pl 2 0), (36, .one (.h 1))], [(2, [.h 2, .h 3, .h 4, .h 5])], [], [], []⟩)]) .nil) (.seq .nil (.seq .nil (.seq .nil (.seq (.seq .nil (.block [] (.loop ⟨[.sl false 5 (.int .u8), .int .i64, .sl true 3 (.int .i64), .int .i64, .sl false 23 (.sl false 5 (.int .u8)), .sl false 5 (.int .u8), .sl false 3 (.int .i64), .sl false 3 (.int .i64)], [(2, .pl 2 0), (6, .one (.h 0)), (7, .one (.h 1)), (8, .one (.vw 234496)), (9, .one (.h 3))], [(2, [.h 4, .h 5, .h 6, .h 7])], [(234496, 2)], [], []⟩ [(.x 0, ⟨[.sl false 5 (.int .u8), .int .i64, .sl true 3 (.int .i64)], [(6, .one (.h 0)), (7, .one (.h 1)), (8, .one (.vw 234562))], [], [(234562, 2)], [], []⟩), (.r, ⟨[.bool], [(4, .one (.nil)), (5, .one (.h 0))], [], [], [], []⟩)] (.seq .nil (.seq (.block [] (.seq .nil (.seq (.seq (.reg [(.n, ⟨[.sl false 5 (.int .u8), .int .i64, .sl true 3 (.int .i64), .int .i64, .int .i64, .bool, .sl false 23 (.sl false 5 (.int .u8)), .sl false 5 (.int .u8), .sl false 3 (.int .i64), .sl false 3 (.int .i64)], [(2, .pl 2 0), (6, .one (.h 0)), (7, .one (.h 1)), (8, .one (.vw 234560)), (9, .one (.h 3)), (10, .one (.h 4)), (75, .one (.h 5))], [(2, [.h 6, .h 7, .h 8, .h 9])], [(234560, 2)], [], []⟩)]) .nil) (.seq .nil (.seq .nil (.seq (.seq (.reg [(.n, ⟨[.sl false 5 (.int .u8), .int .i64, .sl true 3 (.int .i64), .int .i64, .int .i64, .bool, .sl false 23 (.sl false 5 (.int .u8)), .sl false 5 (.int .u8), .sl false 3 (.int .i64), .sl false 3 (.int .i64)], [(2, .pl 2 0), (6, .one (.h 0)), (7, .one (.h 1)), (8, .one (.vw 234561)), (9, .one (.h 3)), (10, .one (.h 4)), (118, .one (.h 5))], [(2, [.h 6, .h 7, .h 8, .h 9])], [(234561, 2)], [], []⟩)]) .nil) .nil)))))) .nil))))) .nil)))))
def env_s_l7Pieces : Env := envOf ti [k_s_l5Live, k_s_l5Has, k_s_l1In, k_s_l7Rest] []
theorem eok_s_l7Pieces : EnvOk Try.prog env_s_l7Pieces := envOf_ok tab mix _ _ (by
  intro k hk
  simp only [List.mem_cons, List.not_mem_nil, or_false] at hk
  rcases hk with rfl | rfl | rfl | rfl
  · exact s_s_l5Live
  · exact s_s_l5Has
  · exact s_s_l1In
  · exact s_s_l7Rest)
theorem v_s_l7Pieces (x0 : List (List Int)) (x1 : List Int) (x2 : List Int) (x3 : List Int) (x4 : Int) : (vfun env_s_l7Pieces Try.f184 J_s_l7Pieces ann_s_l7Pieces [] [.ag [⟨.sl false 23 (.sl false 5 (.int .u8)), x0⟩, ⟨.sl false 5 (.int .u8), x1⟩, ⟨.sl false 3 (.int .i64), x2⟩, ⟨.sl false 3 (.int .i64), x3⟩], .one ⟨.int .i64, x4⟩] []).run = (G.s_l7Pieces x0 x1 x2 x3 x4).bind fun y => some (Res.mk [.one ⟨.sl true 3 (.int .i64), y.1⟩, .one ⟨.bool, y.2⟩] [] []) := by kernel_rfl
def k_s_l7Pieces : Kn := ⟨184, [0, 0], fun args rows => match args, rows with
  | [.ag [⟨.sl false 23 (.sl false 5 (.int .u8)), x0⟩, ⟨.sl false 5 (.int .u8), x1⟩, ⟨.sl false 3 (.int .i64), x2⟩, ⟨.sl false 3 (.int .i64), x3⟩], .one ⟨.int .i64, x4⟩], [] => some ⟨_, G.s_l7Pieces x0 x1 x2 x3 x4, fun y => ⟨[.one ⟨.sl true 3 (.int .i64), y.1⟩, .one ⟨.bool, y.2⟩], [], []⟩⟩
  | _, _ => none, []⟩
theorem s_s_l7Pieces : KnOk Try.prog k_s_l7Pieces := by
  intro args rows a h y hy
  simp only [k_s_l7Pieces] at h
  split at h
  · injection h with h
    subst h
    exact vfun_ok eok_s_l7Pieces Try.func184 rfl (by rw [v_s_l7Pieces]; simp only at hy; rw [hy]; rfl)
  · cases h
end
end Go.Proofs.Ytggpihbcaebpjaa

set_option linter.unusedVariables false
set_option maxRecDepth 100000
namespace Go.Proofs.Ytggpihbcaebpjaa
open Go.V
noncomputable section
def J_s_l7Near : Joins := [(.r, ⟨[.bool], [(6, .one (.h 0))], [], [], [], []⟩)]
def ann_s_l7Near : Ann := .seq .nil (.seq (.seq (.reg [(.n, ⟨[.int .i64, .bool, .sl false 23 (.sl false 5 (.int .u8)), .sl false 5 (.int .u8), .sl false 3 (.int .i64), .sl false 3 (.int .i64)], [(2, .one (.h 0)), (3, .pl 3 0), (16, .one (.h 1))], [(3, [.h 2, .h 3, .h 4, .h 5])], [], [], []⟩)]) .nil) (.seq .nil (.seq (.reg [(.n, ⟨[.bool], [(6, .one (.h 0))], [], [], [], []⟩)]) .nil)))
def env_s_l7Near : Env := envOf ti [k_s_GoodSpace, k_s_l7Pieces] []
theorem eok_s_l7Near : EnvOk Try.prog env_s_l7Near := envOf_ok tab mix _ _ (by
  intro k hk
  simp only [List.mem_cons, List.not_mem_nil, or_false] at hk
  rcases hk with rfl | rfl
  · exact s_s_GoodSpace
  · exact s_s_l7Pieces)
theorem v_s_l7Near (x0 : List (List Int)) (x1 : List Int) (x2 : List Int) (x3 : List Int) (x4 : List UInt8) (x5 : Int) : (vfun env_s_l7Near Try.f119 J_s_l7Near ann_s_l7Near [] [.ag [⟨.sl false 23 (.sl false 5 (.int .u8)), x0⟩, ⟨.sl false 5 (.int .u8), x1⟩, ⟨.sl false 3 (.int .i64), x2⟩, ⟨.sl false 3 (.int .i64), x3⟩], .one ⟨.str, x4⟩, .one ⟨.int .i64, x5⟩] []).run = (G.s_l7Near x0 x1 x2 x3 x4 x5).bind fun y => some (Res.mk [.one ⟨.bool, y⟩] [] []) := by kernel_rfl
def k_s_l7Near : Kn := ⟨119, [0, 0, 0], fun args rows => match args, rows with
  | [.ag [⟨.sl false 23 (.sl false 5 (.int .u8)), x0⟩, ⟨.sl false 5 (.int .u8), x1⟩, ⟨.sl false 3 (.int .i64), x2⟩, ⟨.sl false 3 (.int .i64), x3⟩], .one ⟨.str, x4⟩, .one ⟨.int .i64, x5⟩], [] => some ⟨_, G.s_l7Near x0 x1 x2 x3 x4 x5, fun y => ⟨[.one ⟨.bool, y⟩], [], []⟩⟩
  | _, _ => none, []⟩
theorem s_s_l7Near : KnOk Try.prog k_s_l7Near := by
  intro args rows a h y hy
  simp only [k_s_l7Near] at h
  split at h
  · injection h with h
    subst h
    exact vfun_ok eok_s_l7Near Try.func119 rfl (by rw [v_s_l7Near]; simp only at hy; rw [hy]; rfl)
  · cases h
def J_s_l7Cut : Joins := [(.r, ⟨[.sl true 9 .str], [(2, .one (.vw 123970))], [], [(123970, 0)], [], []⟩)]
def ann_s_l7Cut : Ann := .seq .nil (.seq .nil (.seq (.block [] (.loop ⟨[.str, .sl true 9 .str], [(0, .one (.h 0)), (3, .one (.vw 123904))], [], [(123904, 1)], [], []⟩ [(.x 0, ⟨[.str, .sl true 9 .str], [(0, .one (.h 0)), (3, .one (.vw 123968))], [], [(123968, 1)], [], []⟩)] .nil)) (.seq (.seq .nil (.cond [(.n, ⟨[.sl true 9 .str], [(3, .one (.vw 123969))], [], [(123969, 0)], [], []⟩)] .nil .nil)) .nil)))
def env_s_l7Cut : Env := envOf ti [] []
theorem eok_s_l7Cut : EnvOk Try.prog env_s_l7Cut := envOf_ok tab mix _ _ (by
  intro k hk; cases hk)
theorem v_s_l7Cut (x0 : List UInt8) : (vfun env_s_l7Cut Try.f188 J_s_l7Cut ann_s_l7Cut [] [.one ⟨.str, x0⟩] []).run = (G.s_l7Cut x0).bind fun y => some (Res.mk [.one ⟨.sl true 9 .str, y⟩] [] []) := by kernel_rfl
def k_s_l7Cut : Kn := ⟨188, [0], fun args rows => match args, rows with
  | [.one ⟨.str, x0⟩], [] => some ⟨_, G.s_l7Cut x0, fun y => ⟨[.one ⟨.sl true 9 .str, y⟩], [], []⟩⟩
  | _, _ => none, []⟩
theorem s_s_l7Cut : KnOk Try.prog k_s_l7Cut := by
  intro args rows a h y hy
  simp only [k_s_l7Cut] at h
  split at h
  · injection h with h
    subst h
    exact vfun_ok eok_s_l7Cut Try.func188 rfl (by rw [v_s_l7Cut]; simp only at hy; rw [hy]; rfl)
  · cases h
def J_s_l7Piece : Joins := [(.r, ⟨[.str], [(4, .one (.h 0))], [], [], [], []⟩)]
def ann_s_l7Piece : Ann := .nil
def env_s_l7Piece : Env := envOf ti [] []
theorem eok_s_l7Piece : EnvOk Try.prog env_s_l7Piece := envOf_ok tab mix _ _ (by
  intro k hk; cases hk)
theorem v_s_l7Piece (x0 : List (List Int)) (x1 : List Int) (x2 : List Int) (x3 : List Int) (x4 : Int) : (vfun env_s_l7Piece Try.f202 J_s_l7Piece ann_s_l7Piece [] [.ag [⟨.sl false 23 (.sl false 5 (.int .u8)), x0⟩, ⟨.sl false 5 (.int .u8), x1⟩, ⟨.sl false 3 (.int .i64), x2⟩, ⟨.sl false 3 (.int .i64), x3⟩], .one ⟨.int .i64, x4⟩] []).run = (G.s_l7Piece x0 x1 x2 x3 x4).bind fun y => some (Res.mk [.one ⟨.str, y⟩] [] []) := by kernel_rfl
def k_s_l7Piece : Kn := ⟨202, [0, 0], fun args rows => match args, rows with
  | [.ag [⟨.sl false 23 (.sl false 5 (.int .u8)), x0⟩, ⟨.sl false 5 (.int .u8), x1⟩, ⟨.sl false 3 (.int .i64), x2⟩, ⟨.sl false 3 (.int .i64), x3⟩], .one ⟨.int .i64, x4⟩], [] => some ⟨_, G.s_l7Piece x0 x1 x2 x3 x4, fun y => ⟨[.one ⟨.str, y⟩], [], []⟩⟩
  | _, _ => none, []⟩
theorem s_s_l7Piece : KnOk Try.prog k_s_l7Piece := by
  intro args rows a h y hy
  simp only [k_s_l7Piece] at h
  split at h
  · injection h with h
    subst h
    exact vfun_ok eok_s_l7Piece Try.func202 rfl (by rw [v_s_l7Piece]; simp only at hy; rw [hy]; rfl)
  · cases h
def J_s_l7Shared : Joins := [(.r, ⟨[.sl true 3 (.int .i64)], [(6, .one (.vw 169032))], [], [(169032, 0)], [], []⟩)]
def ann_s_l7Shared : Ann := .seq .nil (.seq .nil (.seq (.seq .nil (.cond [(.n, ⟨[.str, .sl true 3 (.int .i64), .sl false 23 (.sl false 5 (.int .u8)), .sl false 5 (.int .u8), .sl false 3 (.int .i64), .sl false 3 (.int .i64)], [(1, .one (.h 0)), (3, .pl 3 0), (7, .one (.vw 168960))], [(3, [.h 2, .h 3, .h 4, .h 5])], [(168960, 1)], [], []⟩)] .nil .nil)) (.seq .nil (.seq (.seq .nil (.block [] (.loop ⟨[.sl true 3 (.int .i64), .sl true 3 (.int .i64), .sl true 9 .str, .int .i64, .int .i64, .sl false 23 (.sl false 5 (.int .u8)), .sl false 5 (.int .u8), .sl false 3 (.int .i64), .sl false 3 (.int .i64)], [(3, .pl 3 0), (7, .one (.vw 168961)), (8, .one (.vw 168962)), (21, .one (.vw 168963)), (22, .one (.h 3)), (23, .one (.h 4))], [(3, [.h 5, .h 6, .h 7, .h 8])], [(168961, 0), (168962, 1), (168963, 2)], [], []⟩ [(.x 0, ⟨[.sl true 3 (.int .i64)], [(8, .one (.vw 169031))], [], [(169031, 0)], [], []⟩)] (.seq .nil (.seq .nil (.seq (.block [] (.seq .nil (.seq .nil (.seq (.seq (.reg [(.n, ⟨[.sl true 3 (.int .i64), .sl true 3 (.int .i64), .int .i64, .int .i64, .sl true 9 .str, .int .i64, .int .i64, .bool, .sl false 23 (.sl false 5 (.int .u8)), .sl false 5 (.int .u8), .sl false 3 (.int .i64), .sl false 3 (.int .i64)], [(3, .pl 3 0), (7, .one (.vw 169025)), (8, .one (.vw 169026)), (9, .one (.h 2)), (11, .one (.h 3)), (21, .one (.vw 169027)), (22, .one (.h 5)), (23, .one (.h 6)), (54, .one (.h 7))], [(3, [.h 8, .h 9, .h 10, .h 11])], [(169025, 0), (169026, 1), (169027, 4)], [], []⟩)]) (.cond [(.n, ⟨[.sl true 3 (.int .i64), .sl true 3 (.int .i64), .int .i64, .sl true 9 .str, .int .i64, .int .i64, .sl false 23 (.sl false 5 (.int .u8)), .sl false 5 (.int .u8), .sl false 3 (.int .i64), .sl false 3 (.int .i64)], [(3, .pl 3 0), (7, .one (.vw 169028)), (8, .one (.vw 169029)), (11, .one (.h 2)), (21, .one (.vw 169030)), (22, .one (.h 4)), (23, .one (.h 5))], [(3, [.h 6, .h 7, .h 8, .h 9])], [(169028, 0), (169029, 1), (169030, 3)], [], []⟩)] .nil .nil)) .nil)))) .nil)))))) .nil))))
def env_s_l7Shared : Env := envOf ti [k_s_l7Pieces, k_s_l7Cut, k_s_l7Piece] []
theorem eok_s_l7Shared : EnvOk Try.prog env_s_l7Shared := envOf_ok tab mix _ _ (by
  intro k hk
  simp only [List.mem_cons, List.not_mem_nil, or_false] at hk
  rcases hk with rfl | rfl | rfl
  · exact s_s_l7Pieces
  · exact s_s_l7Cut
  · exact s_s_l7Piece)
theorem v_s_l7Shared (x0 : List (List Int)) (x1 : List Int) (x2 : List Int) (x3 : List Int) (x4 : List UInt8) (x5 : Int) : (vfun env_s_l7Shared Try.f187 J_s_l7Shared ann_s_l7Shared [] [.ag [⟨.sl false 23 (.sl false 5 (.int .u8)), x0⟩, ⟨.sl false 5 (.int .u8), x1⟩, ⟨.sl false 3 (.int .i64), x2⟩, ⟨.sl false 3 (.int .i64), x3⟩], .one ⟨.str, x4⟩, .one ⟨.int .i64, x5⟩] []).run = (G.s_l7Shared x0 x1 x2 x3 x4 x5).bind fun y => some (Res.mk [.one ⟨.sl true 3 (.int .i64), y⟩] [] []) := by kernel_rfl
def k_s_l7Shared : Kn := ⟨187, [0, 0, 0], fun args rows => match args, rows with
  | [.ag [⟨.sl false 23 (.sl false 5 (.int .u8)), x0⟩, ⟨.sl false 5 (.int .u8), x1⟩, ⟨.sl false 3 (.int .i64), x2⟩, ⟨.sl false 3 (.int .i64), x3⟩], .one ⟨.str, x4⟩, .one ⟨.int .i64, x5⟩], [] => some ⟨_, G.s_l7Shared x0 x1 x2 x3 x4 x5, fun y => ⟨[.one ⟨.sl true 3 (.int .i64), y⟩], [], []⟩⟩
  | _, _ => none, []⟩
theorem s_s_l7Shared : KnOk Try.prog k_s_l7Shared := by
  intro args rows a h y hy
  simp only [k_s_l7Shared] at h
  split at h
  · injection h with h
    subst h
    exact vfun_ok eok_s_l7Shared Try.func187 rfl (by rw [v_s_l7Shared]; simp only at hy; rw [hy]; rfl)
  · cases h
def J_s_l7NeedText : Joins := [(.r, ⟨[.int .i64], [(6, .one (.h 0))], [], [], [], []⟩)]
def ann_s_l7NeedText : Ann := .seq .nil (.seq .nil (.seq (.seq .nil (.block [] (.loop ⟨[.int .i64, .sl true 3 (.int .i64), .int .i64, .int .i64], [(7, .one (.h 0)), (13, .one (.vw 128000)), (14, .one (.h 2)), (15, .one (.h 3))], [], [(128000, 1)], [], []⟩ [(.x 0, ⟨[.int .i64], [(7, .one (.h 0))], [], [], [], []⟩)] (.seq .nil (.seq .nil (.seq (.block [] (.seq .nil (.seq .nil (.cond [(.n, ⟨[.int .i64, .sl true 3 (.int .i64), .int .i64, .int .i64], [(7, .one (.h 0)), (13, .one (.vw 128064)), (14, .one (.h 2)), (15, .one (.h 3))], [], [(128064, 1)], [], []⟩)] .nil .nil)))) .nil)))))) .nil))
def env_s_l7NeedText : Env := envOf ti [k_s_l7Shared] []
theorem eok_s_l7NeedText : EnvOk Try.prog env_s_l7NeedText := envOf_ok tab mix _ _ (by
  intro k hk
  simp only [List.mem_cons, List.not_mem_nil, or_false] at hk
  rcases hk with rfl
  · exact s_s_l7Shared)
theorem v_s_l7NeedText (x0 : List (List Int)) (x1 : List Int) (x2 : List Int) (x3 : List Int) (x4 : List UInt8) (x5 : Int) : (vfun env_s_l7NeedText Try.f120 J_s_l7NeedText ann_s_l7NeedText [] [.ag [⟨.sl false 23 (.sl false 5 (.int .u8)), x0⟩, ⟨.sl false 5 (.int .u8), x1⟩, ⟨.sl false 3 (.int .i64), x2⟩, ⟨.sl false 3 (.int .i64), x3⟩], .one ⟨.str, x4⟩, .one ⟨.int .i64, x5⟩] []).run = (G.s_l7NeedText x0 x1 x2 x3 x4 x5).bind fun y => some (Res.mk [.one ⟨.int .i64, y⟩] [] []) := by kernel_rfl
def k_s_l7NeedText : Kn := ⟨120, [0, 0, 0], fun args rows => match args, rows with
  | [.ag [⟨.sl false 23 (.sl false 5 (.int .u8)), x0⟩, ⟨.sl false 5 (.int .u8), x1⟩, ⟨.sl false 3 (.int .i64), x2⟩, ⟨.sl false 3 (.int .i64), x3⟩], .one ⟨.str, x4⟩, .one ⟨.int .i64, x5⟩], [] => some ⟨_, G.s_l7NeedText x0 x1 x2 x3 x4 x5, fun y => ⟨[.one ⟨.int .i64, y⟩], [], []⟩⟩
  | _, _ => none, []⟩
theorem s_s_l7NeedText : KnOk Try.prog k_s_l7NeedText := by
  intro args rows a h y hy
  simp only [k_s_l7NeedText] at h
  split at h
  · injection h with h
    subst h
    exact vfun_ok eok_s_l7NeedText Try.func120 rfl (by rw [v_s_l7NeedText]; simp only at hy; rw [hy]; rfl)
  · cases h
def J_s_l7LayText_oooo : Joins := [(.r, ⟨[.int .i64, .sl true 23 (.sl true 5 (.int .u8)), .sl true 5 (.int .u8), .sl true 3 (.int .i64), .sl true 3 (.int .i64)], [(6, .one (.h 0))], [(84, [.vw 187468, .vw 187469, .vw 187470, .vw 187471])], [(187468, 1), (187469, 2), (187470, 3), (187471, 4)], [], []⟩)]
def ann_s_l7LayText_oooo : Ann := .seq .nil (.seq .nil (.seq .nil (.seq (.seq .nil (.block [] (.loop ⟨[.sl true 3 (.int .i64), .sl true 5 (.int .u8), .sl true 9 .str, .int .i64, .int .i64, .sl true 23 (.sl true 5 (.int .u8)), .sl true 5 (.int .u8), .sl true 3 (.int .i64), .sl true 3 (.int .i64)], [(0, .pl 84 0), (7, .one (.vw 187392)), (8, .one (.vw 187393)), (25, .one (.vw 187394)), (26, .one (.h 3)), (27, .one (.h 4))], [(84, [.vw 187395, .vw 187396, .vw 187397, .vw 187398])], [(187392, 0), (187393, 1), (187394, 2), (187395, 5), (187396, 6), (187397, 7), (187398, 8)], [], []⟩ [(.x 0, ⟨[.sl true 5 (.int .u8), .sl true 23 (.sl true 5 (.int .u8)), .sl true 5 (.int .u8), .sl true 3 (.int .i64), .sl true 3 (.int .i64)], [(0, .pl 84 0), (8, .one (.vw 187463))], [(84, [.vw 187464, .vw 187465, .vw 187466, .vw 187467])], [(187463, 0), (187464, 1), (187465, 2), (187466, 3), (187467, 4)], [], []⟩)] (.seq .nil (.seq .nil (.seq (.block [] (.seq .nil (.seq .nil (.seq (.seq .nil (.cond [(.n, ⟨[.sl true 3 (.int .i64), .sl true 5 (.int .u8), .int .i64, .sl true 9 .str, .int .i64, .int .i64, .sl true 23 (.sl true 5 (.int .u8)), .sl true 5 (.int .u8), .sl true 3 (.int .i64), .sl true 3 (.int .i64)], [(0, .pl 84 0), (7, .one (.vw 187456)), (8, .one (.vw 187457)), (11, .one (.h 2)), (25, .one (.vw 187458)), (26, .one (.h 4)), (27, .one (.h 5))], [(84, [.vw 187459, .vw 187460, .vw 187461, .vw 187462])], [(187456, 0), (187457, 1), (187458, 3), (187459, 6), (187460, 7), (187461, 8), (187462, 9)], [], []⟩)] .nil .nil)) .nil)))) .nil)))))) .nil)))
def env_s_l7LayText_oooo : Env := envOf ti [k_s_l7Shared, k_s_l7Cut, k_s_l5Take_oooo, k_s_l5Lay_oooo] []
theorem eok_s_l7LayText_oooo : EnvOk Try.prog env_s_l7LayText_oooo := envOf_ok tab mix _ _ (by
  intro k hk
  simp only [List.mem_cons, List.not_mem_nil, or_false] at hk
  rcases hk with rfl | rfl | rfl | rfl
  · exact s_s_l7Shared
  · exact s_s_l7Cut
  · exact s_s_l5Take_oooo
  · exact s_s_l5Lay_oooo)
theorem v_s_l7LayText_oooo (x0 : List UInt8) (x1 : Int) (x2 : List (List Int)) (x3 : List Int) (x4 : List Int) (x5 : List Int) : (vfun env_s_l7LayText_oooo Try.f121 J_s_l7LayText_oooo ann_s_l7LayText_oooo [] [.pl 0 0, .one ⟨.str, x0⟩, .one ⟨.int .i64, x1⟩] [[⟨.sl true 23 (.sl true 5 (.int .u8)), x2⟩, ⟨.sl true 5 (.int .u8), x3⟩, ⟨.sl true 3 (.int .i64), x4⟩, ⟨.sl true 3 (.int .i64), x5⟩]]).run = (G.s_l7LayText_oooo x0 x1 x2 x3 x4 x5).bind fun y => some (Res.mk [.one ⟨.int .i64, y.1⟩] [[⟨.sl true 23 (.sl true 5 (.int .u8)), y.2.1⟩, ⟨.sl true 5 (.int .u8), y.2.2.1⟩, ⟨.sl true 3 (.int .i64), y.2.2.2.1⟩, ⟨.sl true 3 (.int .i64), y.2.2.2.2⟩]] []) := by kernel_rfl
def k_s_l7LayText_oooo : Kn := ⟨121, [0, 0, 0], fun args rows => match args, rows with
  | [.pl 0 0, .one ⟨.str, x0⟩, .one ⟨.int .i64, x1⟩], [[⟨.sl true 23 (.sl true 5 (.int .u8)), x2⟩, ⟨.sl true 5 (.int .u8), x3⟩, ⟨.sl true 3 (.int .i64), x4⟩, ⟨.sl true 3 (.int .i64), x5⟩]] => some ⟨_, G.s_l7LayText_oooo x0 x1 x2 x3 x4 x5, fun y => ⟨[.one ⟨.int .i64, y.1⟩], [[⟨.sl true 23 (.sl true 5 (.int .u8)), y.2.1⟩, ⟨.sl true 5 (.int .u8), y.2.2.1⟩, ⟨.sl true 3 (.int .i64), y.2.2.2.1⟩, ⟨.sl true 3 (.int .i64), y.2.2.2.2⟩]], []⟩⟩
  | _, _ => none, []⟩
theorem s_s_l7LayText_oooo : KnOk Try.prog k_s_l7LayText_oooo := by
  intro args rows a h y hy
  simp only [k_s_l7LayText_oooo] at h
  split at h
  · injection h with h
    subst h
    exact vfun_ok eok_s_l7LayText_oooo Try.func121 rfl (by rw [v_s_l7LayText_oooo]; simp only at hy; rw [hy]; rfl)
  · cases h
def J_s_LayText : Joins := [(.r, ⟨[.int .i64, .bool, .sl true 23 (.sl true 5 (.int .u8)), .sl true 5 (.int .u8), .sl true 3 (.int .i64), .sl true 3 (.int .i64)], [(6, .pl 6 0), (7, .one (.h 0)), (8, .one (.h 1))], [(6, [.vw 135168, .vw 135169, .vw 135170, .vw 135171])], [(135168, 2), (135169, 3), (135170, 4), (135171, 5)], [], []⟩)]
def ann_s_LayText : Ann := .seq .nil (.seq (.seq (.reg [(.n, ⟨[.str, .int .i64, .bool, .sl false 23 (.sl false 5 (.int .u8)), .sl false 5 (.int .u8), .sl false 3 (.int .i64), .sl false 3 (.int .i64)], [(1, .one (.h 0)), (2, .one (.h 1)), (3, .pl 3 0), (6, .pl 6 0), (23, .one (.h 2))], [(3, [.h 3, .h 4, .h 5, .h 6]), (6, [.nil, .nil, .nil, .nil])], [], [], []⟩)]) .nil) .nil)
def env_s_LayText : Env := envOf ti [k_s_l7Near, k_s_l5Free, k_s_l7NeedText, k_s_l5Own, k_s_l7LayText_oooo] []
theorem eok_s_LayText : EnvOk Try.prog env_s_LayText := envOf_ok tab mix _ _ (by
  intro k hk
  simp only [List.mem_cons, List.not_mem_nil, or_false] at hk
  rcases hk with rfl | rfl | rfl | rfl | rfl
  · exact s_s_l7Near
  · exact s_s_l5Free
  · exact s_s_l7NeedText
  · exact s_s_l5Own
  · exact s_s_l7LayText_oooo)
theorem v_s_LayText (x0 : List (List Int)) (x1 : List Int) (x2 : List Int) (x3 : List Int) (x4 : List UInt8) (x5 : Int) : (vfun env_s_LayText Try.f50 J_s_LayText ann_s_LayText [] [.ag [⟨.sl false 23 (.sl false 5 (.int .u8)), x0⟩, ⟨.sl false 5 (.int .u8), x1⟩, ⟨.sl false 3 (.int .i64), x2⟩, ⟨.sl false 3 (.int .i64), x3⟩], .one ⟨.str, x4⟩, .one ⟨.int .i64, x5⟩] []).run = (G.s_LayText x0 x1 x2 x3 x4 x5).bind fun y => some (Res.mk [.ag [⟨.sl true 23 (.sl true 5 (.int .u8)), y.2.2.1⟩, ⟨.sl true 5 (.int .u8), y.2.2.2.1⟩, ⟨.sl true 3 (.int .i64), y.2.2.2.2.1⟩, ⟨.sl true 3 (.int .i64), y.2.2.2.2.2⟩], .one ⟨.int .i64, y.1⟩, .one ⟨.bool, y.2.1⟩] [] []) := by kernel_rfl
def k_s_LayText : Kn := ⟨50, [0, 0, 0], fun args rows => match args, rows with
  | [.ag [⟨.sl false 23 (.sl false 5 (.int .u8)), x0⟩, ⟨.sl false 5 (.int .u8), x1⟩, ⟨.sl false 3 (.int .i64), x2⟩, ⟨.sl false 3 (.int .i64), x3⟩], .one ⟨.str, x4⟩, .one ⟨.int .i64, x5⟩], [] => some ⟨_, G.s_LayText x0 x1 x2 x3 x4 x5, fun y => ⟨[.ag [⟨.sl true 23 (.sl true 5 (.int .u8)), y.2.2.1⟩, ⟨.sl true 5 (.int .u8), y.2.2.2.1⟩, ⟨.sl true 3 (.int .i64), y.2.2.2.2.1⟩, ⟨.sl true 3 (.int .i64), y.2.2.2.2.2⟩], .one ⟨.int .i64, y.1⟩, .one ⟨.bool, y.2.1⟩], [], []⟩⟩
  | _, _ => none, []⟩
theorem s_s_LayText : KnOk Try.prog k_s_LayText := by
  intro args rows a h y hy
  simp only [k_s_LayText] at h
  split at h
  · injection h with h
    subst h
    exact vfun_ok eok_s_LayText Try.func50 rfl (by rw [v_s_LayText]; simp only at hy; rw [hy]; rfl)
  · cases h
def J_s_l1Cur_stocked_f : Joins := [(.r, ⟨[.sl true 3 (.int .i64), .sl true 3 (.int .i64), .sl true 23 (.sl true 5 (.int .u8)), .sl true 5 (.int .u8), .sl true 3 (.int .i64), .sl true 3 (.int .i64), .sl false 5 (.int .u8), .int .i64, .int .u64], [(2, .pl 2 0), (3, .one (.vw 229500)), (4, .one (.vw 229501))], [(2, [.vw 229502, .vw 229503, .vw 229504, .vw 229505]), (125, [.h 6, .h 7, .h 8])], [(229500, 0), (229501, 1), (229502, 2), (229503, 3), (229504, 4), (229505, 5)], [], []⟩)]
def ann_s_l1Cur_stocked_f : Ann := .seq .nil (.seq .nil (.seq .nil (.seq .nil (.seq (.seq .nil (.block [] (.loop ⟨[.sl true 3 (.int .i64), .sl true 3 (.int .i64), .int .i64, .int .i64, .sl true 23 (.sl true 5 (.int .u8)), .sl true 5 (.int .u8), .sl true 3 (.int .i64), .sl true 3 (.int .i64), .sl false 5 (.int .u8), .int .i64, .int .u64], [(0, .pl 125 0), (2, .pl 2 0), (5, .pl 5 0), (6, .one (.vw 229376)), (7, .one (.vw 229377)), (8, .one (.h 2)), (9, .one (.h 3))], [(2, [.nil, .nil, .nil, .nil]), (5, [.vw 229378, .vw 229379, .vw 229380, .vw 229381]), (125, [.h 8, .h 9, .h 10])], [(229376, 0), (229377, 1), (229378, 4), (229379, 5), (229380, 6), (229381, 7)], [], []⟩ [(.x 0, ⟨[.sl true 3 (.int .i64), .sl true 3 (.int .i64), .sl true 23 (.sl true 5 (.int .u8)), .sl true 5 (.int .u8), .sl true 3 (.int .i64), .sl true 3 (.int .i64), .sl false 5 (.int .u8), .int .i64, .int .u64], [(0, .pl 125 0), (2, .pl 2 0), (5, .pl 5 0), (6, .one (.vw 229452)), (7, .one (.vw 229453))], [(2, [.nil, .nil, .nil, .nil]), (5, [.vw 229454, .vw 229455, .vw 229456, .vw 229457]), (125, [.h 6, .h 7, .h 8])], [(229452, 0), (229453, 1), (229454, 2), (229455, 3), (229456, 4), (229457, 5)], [], []⟩)] (.seq .nil (.seq (.block [] (.seq (.seq .nil (.seq .nil (.cond [(.n, ⟨[.sl true 3 (.int .i64), .sl true 3 (.int .i64), .int .i64, .int .i64, .sl true 23 (.sl true 5 (.int .u8)), .sl true 5 (.int .u8), .sl true 3 (.int .i64), .sl true 3 (.int .i64), .sl false 5 (.int .u8), .int .i64, .int .u64], [(0, .pl 125 0), (2, .pl 2 0), (5, .pl 5 0), (6, .one (.vw 229440)), (7, .one (.vw 229441)), (8, .one (.h 2)), (9, .one (.h 3))], [(2, [.nil, .nil, .nil, .nil]), (5, [.vw 229442, .vw 229443, .vw 229444, .vw 229445]), (125, [.h 8, .h 9, .h 10])], [(229440, 0), (229441, 1), (229442, 4), (229443, 5), (229444, 6), (229445, 7)], [], []⟩)] .nil .nil))) (.seq .nil (.seq .nil (.cond [(.n, ⟨[.sl true 3 (.int .i64), .sl true 3 (.int .i64), .int .i64, .int .i64, .sl true 23 (.sl true 5 (.int .u8)), .sl true 5 (.int .u8), .sl true 3 (.int .i64), .sl true 3 (.int .i64), .sl false 5 (.int .u8), .int .i64, .int .u64], [(0, .pl 125 0), (2, .pl 2 0), (5, .pl 5 0), (6, .one (.vw 229446)), (7, .one (.vw 229447)), (8, .one (.h 2)), (9, .one (.h 3))], [(2, [.nil, .nil, .nil, .nil]), (5, [.vw 229448, .vw 229449, .vw 229450, .vw 229451]), (125, [.h 8, .h 9, .h 10])], [(229446, 0), (229447, 1), (229448, 4), (229449, 5), (229450, 6), (229451, 7)], [], []⟩)] .nil .nil))))) .nil))))) (.seq (.seq .nil (.cond [(.n, ⟨[.sl true 3 (.int .i64), .sl true 3 (.int .i64), .sl true 23 (.sl true 5 (.int .u8)), .sl true 5 (.int .u8), .sl true 3 (.int .i64), .sl true 3 (.int .i64), .sl false 5 (.int .u8), .int .i64, .int .u64], [(0, .pl 125 0), (2, .pl 2 0), (5, .pl 5 0), (6, .one (.vw 229458)), (7, .one (.vw 229459))], [(2, [.nil, .nil, .nil, .nil]), (5, [.vw 229460, .vw 229461, .vw 229462, .vw 229463]), (125, [.h 6, .h 7, .h 8])], [(229458, 0), (229459, 1), (229460, 2), (229461, 3), (229462, 4), (229463, 5)], [], []⟩)] .nil .nil)) (.seq (.seq (.reg [(.n, ⟨[.sl true 3 (.int .i64), .sl true 3 (.int .i64), .bool, .sl true 23 (.sl true 5 (.int .u8)), .sl true 5 (.int .u8), .sl true 3 (.int .i64), .sl true 3 (.int .i64), .sl false 5 (.int .u8), .int .i64, .int .u64], [(0, .pl 125 0), (2, .pl 2 0), (5, .pl 5 0), (6, .one (.vw 229464)), (7, .one (.vw 229465)), (65, .one (.h 2))], [(2, [.nil, .nil, .nil, .nil]), (5, [.vw 229466, .vw 229467, .vw 229468, .vw 229469]), (125, [.h 7, .h 8, .h 9])], [(229464, 0), (229465, 1), (229466, 3), (229467, 4), (229468, 5), (229469, 6)], [], []⟩)]) (.cond [(.n, ⟨[.sl true 3 (.int .i64), .sl true 3 (.int .i64), .sl true 23 (.sl true 5 (.int .u8)), .sl true 5 (.int .u8), .sl true 3 (.int .i64), .sl true 3 (.int .i64), .sl false 5 (.int .u8), .int .i64, .int .u64], [(0, .pl 125 0), (2, .pl 2 0), (5, .pl 5 0), (6, .one (.vw 229470)), (7, .one (.vw 229471))], [(2, [.nil, .nil, .nil, .nil]), (5, [.vw 229472, .vw 229473, .vw 229474, .vw 229475]), (125, [.h 6, .h 7, .h 8])], [(229470, 0), (229471, 1), (229472, 2), (229473, 3), (229474, 4), (229475, 5)], [], []⟩)] .nil .nil)) (.seq (.seq (.reg [(.n, ⟨[.sl true 3 (.int .i64), .sl true 3 (.int .i64), .bool, .sl true 23 (.sl true 5 (.int .u8)), .sl true 5 (.int .u8), .sl true 3 (.int .i64), .sl true 3 (.int .i64), .sl false 5 (.int .u8), .int .i64, .int .u64], [(0, .pl 125 0), (2, .pl 2 0), (5, .pl 5 0), (6, .one (.vw 229476)), (7, .one (.vw 229477)), (89, .one (.h 2))], [(2, [.nil, .nil, .nil, .nil]), (5, [.vw 229478, .vw 229479, .vw 229480, .vw 229481]), (125, [.h 7, .h 8, .h 9])], [(229476, 0), (229477, 1), (229478, 3), (229479, 4), (229480, 5), (229481, 6)], [], []⟩)]) (.cond [(.n, ⟨[.sl true 3 (.int .i64), .sl true 3 (.int .i64), .sl true 23 (.sl true 5 (.int .u8)), .sl true 5 (.int .u8), .sl true 3 (.int .i64), .sl true 3 (.int .i64), .sl false 5 (.int .u8), .int .i64, .int .u64], [(0, .pl 125 0), (2, .pl 2 0), (5, .pl 5 0), (6, .one (.vw 229482)), (7, .one (.vw 229483))], [(2, [.nil, .nil, .nil, .nil]), (5, [.vw 229484, .vw 229485, .vw 229486, .vw 229487]), (125, [.h 6, .h 7, .h 8])], [(229482, 0), (229483, 1), (229484, 2), (229485, 3), (229486, 4), (229487, 5)], [], []⟩)] .nil .nil)) (.seq (.seq (.reg [(.n, ⟨[.sl true 3 (.int .i64), .sl true 3 (.int .i64), .bool, .sl true 23 (.sl true 5 (.int .u8)), .sl true 5 (.int .u8), .sl true 3 (.int .i64), .sl true 3 (.int .i64), .sl false 5 (.int .u8), .int .i64, .int .u64], [(2, .pl 2 0), (5, .pl 5 0), (6, .one (.vw 229488)), (7, .one (.vw 229489)), (113, .one (.h 2))], [(2, [.nil, .nil, .nil, .nil]), (5, [.vw 229490, .vw 229491, .vw 229492, .vw 229493]), (125, [.h 7, .h 8, .h 9])], [(229488, 0), (229489, 1), (229490, 3), (229491, 4), (229492, 5), (229493, 6)], [], []⟩)]) (.cond [(.n, ⟨[.sl true 3 (.int .i64), .sl true 3 (.int .i64), .sl true 23 (.sl true 5 (.int .u8)), .sl true 5 (.int .u8), .sl true 3 (.int .i64), .sl true 3 (.int .i64), .sl false 5 (.int .u8), .int .i64, .int .u64], [(2, .pl 2 0), (5, .pl 5 0), (6, .one (.vw 229494)), (7, .one (.vw 229495))], [(2, [.nil, .nil, .nil, .nil]), (5, [.vw 229496, .vw 229497, .vw 229498, .vw 229499]), (125, [.h 6, .h 7, .h 8])], [(229494, 0), (229495, 1), (229496, 2), (229497, 3), (229498, 4), (229499, 5)], [], []⟩)] .nil .nil)) .nil))))))))
def env_s_l1Cur_stocked_f : Env := envOf ti [k_s_l1Cur_pick_f, k_s_l5Fresh, k_s_l1Cur_dataOf_f, k_s_LayRecord, k_s_l1Cur_textSome_f, k_s_LayText, k_s_l1Cur_one_f, k_s_l5Put] []
theorem eok_s_l1Cur_stocked_f : EnvOk Try.prog env_s_l1Cur_stocked_f := envOf_ok tab mix _ _ (by
  intro k hk
  simp only [List.mem_cons, List.not_mem_nil, or_false] at hk
  rcases hk with rfl | rfl | rfl | rfl | rfl | rfl | rfl | rfl
  · exact s_s_l1Cur_pick_f
  · exact s_s_l5Fresh
  · exact s_s_l1Cur_dataOf_f
  · exact s_s_LayRecord
  · exact s_s_l1Cur_textSome_f
  · exact s_s_LayText
  · exact s_s_l1Cur_one_f
  · exact s_s_l5Put)
theorem v_s_l1Cur_stocked_f (x0 : List Int) (x1 : Int) (x2 : Int) : (vfun env_s_l1Cur_stocked_f Try.f138 J_s_l1Cur_stocked_f ann_s_l1Cur_stocked_f [] [.pl 0 0] [[⟨.sl false 5 (.int .u8), x0⟩, ⟨.int .i64, x1⟩, ⟨.int .u64, x2⟩]]).run = (G.s_l1Cur_stocked_f x0 x1 x2).bind fun y => some (Res.mk [.ag [⟨.sl true 23 (.sl true 5 (.int .u8)), y.2.2.1⟩, ⟨.sl true 5 (.int .u8), y.2.2.2.1⟩, ⟨.sl true 3 (.int .i64), y.2.2.2.2.1⟩, ⟨.sl true 3 (.int .i64), y.2.2.2.2.2.1⟩], .one ⟨.sl true 3 (.int .i64), y.1⟩, .one ⟨.sl true 3 (.int .i64), y.2.1⟩] [[⟨.sl false 5 (.int .u8), y.2.2.2.2.2.2.1⟩, ⟨.int .i64, y.2.2.2.2.2.2.2.1⟩, ⟨.int .u64, y.2.2.2.2.2.2.2.2⟩]] []) := by kernel_rfl
def k_s_l1Cur_stocked_f : Kn := ⟨138, [0], fun args rows => match args, rows with
  | [.pl 0 0], [[⟨.sl false 5 (.int .u8), x0⟩, ⟨.int .i64, x1⟩, ⟨.int .u64, x2⟩]] => some ⟨_, G.s_l1Cur_stocked_f x0 x1 x2, fun y => ⟨[.ag [⟨.sl true 23 (.sl true 5 (.int .u8)), y.2.2.1⟩, ⟨.sl true 5 (.int .u8), y.2.2.2.1⟩, ⟨.sl true 3 (.int .i64), y.2.2.2.2.1⟩, ⟨.sl true 3 (.int .i64), y.2.2.2.2.2.1⟩], .one ⟨.sl true 3 (.int .i64), y.1⟩, .one ⟨.sl true 3 (.int .i64), y.2.1⟩], [[⟨.sl false 5 (.int .u8), y.2.2.2.2.2.2.1⟩, ⟨.int .i64, y.2.2.2.2.2.2.2.1⟩, ⟨.int .u64, y.2.2.2.2.2.2.2.2⟩]], []⟩⟩
  | _, _ => none, []⟩
theorem s_s_l1Cur_stocked_f : KnOk Try.prog k_s_l1Cur_stocked_f := by
  intro args rows a h y hy
  simp only [k_s_l1Cur_stocked_f] at h
  split at h
  · injection h with h
    subst h
    exact vfun_ok eok_s_l1Cur_stocked_f Try.func138 rfl (by rw [v_s_l1Cur_stocked_f]; simp only at hy; rw [hy]; rfl)
  · cases h
def J_s_DrawLayRecord : Joins := [(.r, ⟨[.sl true 5 (.int .u8), .sl true 23 (.sl true 5 (.int .u8)), .sl true 5 (.int .u8), .sl true 3 (.int .i64), .sl true 3 (.int .i64)], [(2, .pl 2 0), (3, .one (.vw 131144))], [(2, [.vw 131145, .vw 131146, .vw 131147, .vw 131148])], [(131144, 0), (131145, 1), (131146, 2), (131147, 3), (131148, 4)], [], []⟩)]
def ann_s_DrawLayRecord : Ann := .seq .nil (.seq .nil (.seq .nil (.seq (.seq .nil (.cond [(.n, ⟨[.sl true 23 (.sl true 5 (.int .u8)), .sl true 5 (.int .u8), .sl true 3 (.int .i64), .sl true 3 (.int .i64), .sl false 5 (.int .u8), .int .i64, .int .u64], [(2, .pl 2 0), (4, .pl 10 0), (5, .pl 5 0)], [(2, [.nil, .nil, .nil, .nil]), (5, [.vw 131140, .vw 131141, .vw 131142, .vw 131143]), (10, [.h 4, .h 5, .h 6])], [(131140, 0), (131141, 1), (131142, 2), (131143, 3)], [], []⟩)] (.block [] (.loop ⟨[.sl true 23 (.sl true 5 (.int .u8)), .sl true 5 (.int .u8), .sl true 3 (.int .i64), .sl true 3 (.int .i64), .sl false 5 (.int .u8), .int .i64, .int .u64], [(2, .pl 2 0), (4, .pl 10 0), (5, .pl 5 0)], [(2, [.nil, .nil, .nil, .nil]), (5, [.vw 131072, .vw 131073, .vw 131074, .vw 131075]), (10, [.h 4, .h 5, .h 6])], [(131072, 0), (131073, 1), (131074, 2), (131075, 3)], [], []⟩ [(.x 0, ⟨[.sl true 23 (.sl true 5 (.int .u8)), .sl true 5 (.int .u8), .sl true 3 (.int .i64), .sl true 3 (.int .i64), .sl false 5 (.int .u8), .int .i64, .int .u64], [(2, .pl 2 0), (4, .pl 10 0), (5, .pl 5 0)], [(2, [.nil, .nil, .nil, .nil]), (5, [.vw 131136, .vw 131137, .vw 131138, .vw 131139]), (10, [.h 4, .h 5, .h 6])], [(131136, 0), (131137, 1), (131138, 2), (131139, 3)], [], []⟩)] .nil)) .nil)) .nil)))
def env_s_DrawLayRecord : Env := envOf ti [k_s_l1Cur_stocked_f, k_s_l1Cur_one_f, k_s_l5Free, k_s_l1Cur_pick_f, k_s_l5Take_oooo, k_s_l1Cur_dataOf_f] []
theorem eok_s_DrawLayRecord : EnvOk Try.prog env_s_DrawLayRecord := envOf_ok tab mix _ _ (by
  intro k hk
  simp only [List.mem_cons, List.not_mem_nil, or_false] at hk
  rcases hk with rfl | rfl | rfl | rfl | rfl | rfl
  · exact s_s_l1Cur_stocked_f
  · exact s_s_l1Cur_one_f
  · exact s_s_l5Free
  · exact s_s_l1Cur_pick_f
  · exact s_s_l5Take_oooo
  · exact s_s_l1Cur_dataOf_f)
theorem v_s_DrawLayRecord (x0 : List Int) : (vfun env_s_DrawLayRecord Try.f60 J_s_DrawLayRecord ann_s_DrawLayRecord [] [.one ⟨.sl false 5 (.int .u8), x0⟩] []).run = (G.s_DrawLayRecord x0).bind fun y => some (Res.mk [.ag [⟨.sl true 23 (.sl true 5 (.int .u8)), y.2.1⟩, ⟨.sl true 5 (.int .u8), y.2.2.1⟩, ⟨.sl true 3 (.int .i64), y.2.2.2.1⟩, ⟨.sl true 3 (.int .i64), y.2.2.2.2⟩], .one ⟨.sl true 5 (.int .u8), y.1⟩] [] []) := by kernel_rfl
def k_s_DrawLayRecord : Kn := ⟨60, [0], fun args rows => match args, rows with
  | [.one ⟨.sl false 5 (.int .u8), x0⟩], [] => some ⟨_, G.s_DrawLayRecord x0, fun y => ⟨[.ag [⟨.sl true 23 (.sl true 5 (.int .u8)), y.2.1⟩, ⟨.sl true 5 (.int .u8), y.2.2.1⟩, ⟨.sl true 3 (.int .i64), y.2.2.2.1⟩, ⟨.sl true 3 (.int .i64), y.2.2.2.2⟩], .one ⟨.sl true 5 (.int .u8), y.1⟩], [], []⟩⟩
  | _, _ => none, []⟩
theorem s_s_DrawLayRecord : KnOk Try.prog k_s_DrawLayRecord := by
  intro args rows a h y hy
  simp only [k_s_DrawLayRecord] at h
  split at h
  · injection h with h
    subst h
    exact vfun_ok eok_s_DrawLayRecord Try.func60 rfl (by rw [v_s_DrawLayRecord]; simp only at hy; rw [hy]; rfl)
  · cases h
def J_i_within : Joins := [(.r, ⟨[.bool], [(6, .one (.h 0))], [], [], [], []⟩)]
def ann_i_within : Ann := .seq .nil (.seq (.reg [(.n, ⟨[.bool], [(6, .one (.h 0))], [], [], [], []⟩)]) .nil)
def env_i_within : Env := envOf ti [] []
theorem eok_i_within : EnvOk Try.prog env_i_within := envOf_ok tab mix _ _ (by
  intro k hk; cases hk)
theorem v_i_within (x0 : Int) (x1 : Int) (x2 : Int) : (vfun env_i_within Try.f177 J_i_within ann_i_within [] [.one ⟨.int .i64, x0⟩, .one ⟨.int .i64, x1⟩, .one ⟨.int .i64, x2⟩] []).run = (G.i_within x0 x1 x2).bind fun y => some (Res.mk [.one ⟨.bool, y⟩] [] []) := by kernel_rfl
def k_i_within : Kn := ⟨177, [0, 0, 0], fun args rows => match args, rows with
  | [.one ⟨.int .i64, x0⟩, .one ⟨.int .i64, x1⟩, .one ⟨.int .i64, x2⟩], [] => some ⟨_, G.i_within x0 x1 x2, fun y => ⟨[.one ⟨.bool, y⟩], [], []⟩⟩
  | _, _ => none, []⟩
theorem s_i_within : KnOk Try.prog k_i_within := by
  intro args rows a h y hy
  simp only [k_i_within] at h
  split at h
  · injection h with h
    subst h
    exact vfun_ok eok_i_within Try.func177 rfl (by rw [v_i_within]; simp only at hy; rw [hy]; rfl)
  · cases h
def J_i_areBlocks_1 : Joins := [(.r, ⟨[.bool], [(2, .one (.h 0))], [], [], [], []⟩)]
def ann_i_areBlocks_1 : Ann := .nil
def env_i_areBlocks_1 : Env := envOf ti [] []
theorem eok_i_areBlocks_1 : EnvOk Try.prog env_i_areBlocks_1 := envOf_ok tab mix _ _ (by
  intro k hk; cases hk)
theorem v_i_areBlocks_1 (x0 : List Int) : (vfun env_i_areBlocks_1 Try.f204 J_i_areBlocks_1 ann_i_areBlocks_1 [] [.one ⟨.sl false 5 (.int .u8), x0⟩] []).run = (G.i_areBlocks_1 x0).bind fun y => some (Res.mk [.one ⟨.bool, y⟩] [] []) := by kernel_rfl
def k_i_areBlocks_1 : Kn := ⟨204, [0], fun args rows => match args, rows with
  | [.one ⟨.sl false 5 (.int .u8), x0⟩], [] => some ⟨_, G.i_areBlocks_1 x0, fun y => ⟨[.one ⟨.bool, y⟩], [], []⟩⟩
  | _, _ => none, []⟩
theorem s_i_areBlocks_1 : KnOk Try.prog k_i_areBlocks_1 := by
  intro args rows a h y hy
  simp only [k_i_areBlocks_1] at h
  split at h
  · injection h with h
    subst h
    exact vfun_ok eok_i_areBlocks_1 Try.func204 rfl (by rw [v_i_areBlocks_1]; simp only at hy; rw [hy]; rfl)
  · cases h
def J_slices_IndexFunc_byte_byte_i_areBlocks_1 : Joins := [(.r, ⟨[.int .i64], [(4, .one (.h 0))], [], [], [], []⟩)]
def ann_slices_IndexFunc_byte_byte_i_areBlocks_1 : Ann := .seq .nil (.seq (.seq .nil (.block [] (.loop ⟨[.sl false 23 (.sl false 5 (.int .u8)), .int .i64, .int .i64], [(0, .one (.h 0)), (1, .fv 204 []), (7, .one (.h 1)), (8, .one (.h 2))], [], [], [], []⟩ [(.x 0, ⟨[], [], [], [], [], []⟩), (.r, ⟨[.int .i64], [(4, .one (.h 0))], [], [], [], []⟩)] .nil))) .nil)
def env_slices_IndexFunc_byte_byte_i_areBlocks_1 : Env := envOf ti [k_i_areBlocks_1] []
theorem eok_slices_IndexFunc_byte_byte_i_areBlocks_1 : EnvOk Try.prog env_slices_IndexFunc_byte_byte_i_areBlocks_1 := envOf_ok tab mix _ _ (by
  intro k hk
  simp only [List.mem_cons, List.not_mem_nil, or_false] at hk
  rcases hk with rfl
  · exact s_i_areBlocks_1)
theorem v_slices_IndexFunc_byte_byte_i_areBlocks_1 (x0 : List (List Int)) : (vfun env_slices_IndexFunc_byte_byte_i_areBlocks_1 Try.f226 J_slices_IndexFunc_byte_byte_i_areBlocks_1 ann_slices_IndexFunc_byte_byte_i_areBlocks_1 [] [.one ⟨.sl false 23 (.sl false 5 (.int .u8)), x0⟩, .fv 204 []] []).run = (G.slices_IndexFunc_byte_byte_i_areBlocks_1 x0).bind fun y => some (Res.mk [.one ⟨.int .i64, y⟩] [] []) := by kernel_rfl
def k_slices_IndexFunc_byte_byte_i_areBlocks_1 : Kn := ⟨226, [0, 0], fun args rows => match args, rows with
  | [.one ⟨.sl false 23 (.sl false 5 (.int .u8)), x0⟩, .fv 204 []], [] => some ⟨_, G.slices_IndexFunc_byte_byte_i_areBlocks_1 x0, fun y => ⟨[.one ⟨.int .i64, y⟩], [], []⟩⟩
  | _, _ => none, []⟩
theorem s_slices_IndexFunc_byte_byte_i_areBlocks_1 : KnOk Try.prog k_slices_IndexFunc_byte_byte_i_areBlocks_1 := by
  intro args rows a h y hy
  simp only [k_slices_IndexFunc_byte_byte_i_areBlocks_1] at h
  split at h
  · injection h with h
    subst h
    exact vfun_ok eok_slices_IndexFunc_byte_byte_i_areBlocks_1 Try.func226 rfl (by rw [v_slices_IndexFunc_byte_byte_i_areBlocks_1]; simp only at hy; rw [hy]; rfl)
  · cases h
end
end Go.Proofs.Ytggpihbcaebpjaa

set_option linter.unusedVariables false
set_option maxRecDepth 100000
namespace Go.Proofs.Ytggpihbcaebpjaa
open Go.V
noncomputable section
def J_slices_ContainsFunc_byte_byte_i_areBlocks_1 : Joins := [(.r, ⟨[.bool], [(4, .one (.h 0))], [], [], [], []⟩)]
def ann_slices_ContainsFunc_byte_byte_i_areBlocks_1 : Ann := .nil
def env_slices_ContainsFunc_byte_byte_i_areBlocks_1 : Env := envOf ti [k_slices_IndexFunc_byte_byte_i_areBlocks_1] []
theorem eok_slices_ContainsFunc_byte_byte_i_areBlocks_1 : EnvOk Try.prog env_slices_ContainsFunc_byte_byte_i_areBlocks_1 := envOf_ok tab mix _ _ (by
  intro k hk
  simp only [List.mem_cons, List.not_mem_nil, or_false] at hk
  rcases hk with rfl
  · exact s_slices_IndexFunc_byte_byte_i_areBlocks_1)
theorem v_slices_ContainsFunc_byte_byte_i_areBlocks_1 (x0 : List (List Int)) : (vfun env_slices_ContainsFunc_byte_byte_i_areBlocks_1 Try.f203 J_slices_ContainsFunc_byte_byte_i_areBlocks_1 ann_slices_ContainsFunc_byte_byte_i_areBlocks_1 [] [.one ⟨.sl false 23 (.sl false 5 (.int .u8)), x0⟩, .fv 204 []] []).run = (G.slices_ContainsFunc_byte_byte_i_areBlocks_1 x0).bind fun y => some (Res.mk [.one ⟨.bool, y⟩] [] []) := by kernel_rfl
def k_slices_ContainsFunc_byte_byte_i_areBlocks_1 : Kn := ⟨203, [0, 0], fun args rows => match args, rows with
  | [.one ⟨.sl false 23 (.sl false 5 (.int .u8)), x0⟩, .fv 204 []], [] => some ⟨_, G.slices_ContainsFunc_byte_byte_i_areBlocks_1 x0, fun y => ⟨[.one ⟨.bool, y⟩], [], []⟩⟩
  | _, _ => none, []⟩
theorem s_slices_ContainsFunc_byte_byte_i_areBlocks_1 : KnOk Try.prog k_slices_ContainsFunc_byte_byte_i_areBlocks_1 := by
  intro args rows a h y hy
  simp only [k_slices_ContainsFunc_byte_byte_i_areBlocks_1] at h
  split at h
  · injection h with h
    subst h
    exact vfun_ok eok_slices_ContainsFunc_byte_byte_i_areBlocks_1 Try.func203 rfl (by rw [v_slices_ContainsFunc_byte_byte_i_areBlocks_1]; simp only at hy; rw [hy]; rfl)
  · cases h
def J_i_areBlocks : Joins := [(.r, ⟨[.bool], [(2, .one (.h 0))], [], [], [], []⟩)]
def ann_i_areBlocks : Ann := .seq .nil (.seq (.reg [(.n, ⟨[.bool], [(2, .one (.h 0))], [], [], [], []⟩)]) .nil)
def env_i_areBlocks : Env := envOf ti [k_i_within, k_slices_ContainsFunc_byte_byte_i_areBlocks_1] []
theorem eok_i_areBlocks : EnvOk Try.prog env_i_areBlocks := envOf_ok tab mix _ _ (by
  intro k hk
  simp only [List.mem_cons, List.not_mem_nil, or_false] at hk
  rcases hk with rfl | rfl
  · exact s_i_within
  · exact s_slices_ContainsFunc_byte_byte_i_areBlocks_1)
theorem v_i_areBlocks (x0 : List (List Int)) : (vfun env_i_areBlocks Try.f151 J_i_areBlocks ann_i_areBlocks [] [.one ⟨.sl false 23 (.sl false 5 (.int .u8)), x0⟩] []).run = (G.i_areBlocks x0).bind fun y => some (Res.mk [.one ⟨.bool, y⟩] [] []) := by kernel_rfl
def k_i_areBlocks : Kn := ⟨151, [0], fun args rows => match args, rows with
  | [.one ⟨.sl false 23 (.sl false 5 (.int .u8)), x0⟩], [] => some ⟨_, G.i_areBlocks x0, fun y => ⟨[.one ⟨.bool, y⟩], [], []⟩⟩
  | _, _ => none, []⟩
theorem s_i_areBlocks : KnOk Try.prog k_i_areBlocks := by
  intro args rows a h y hy
  simp only [k_i_areBlocks] at h
  split at h
  · injection h with h
    subst h
    exact vfun_ok eok_i_areBlocks Try.func151 rfl (by rw [v_i_areBlocks]; simp only at hy; rw [hy]; rfl)
  · cases h
def J_i_Space_used_ffff : Joins := [(.r, ⟨[.bool, .sl false 23 (.sl false 5 (.int .u8)), .sl false 5 (.int .u8), .sl false 3 (.int .i64), .sl false 3 (.int .i64)], [(4, .one (.h 0))], [(19, [.h 1, .h 2, .h 3, .h 4])], [], [], []⟩)]
def ann_i_Space_used_ffff : Ann := .nil
def env_i_Space_used_ffff : Env := envOf ti [] []
theorem eok_i_Space_used_ffff : EnvOk Try.prog env_i_Space_used_ffff := envOf_ok tab mix _ _ (by
  intro k hk; cases hk)
theorem v_i_Space_used_ffff (x0 : Int) (x1 : List (List Int)) (x2 : List Int) (x3 : List Int) (x4 : List Int) : (vfun env_i_Space_used_ffff Try.f90 J_i_Space_used_ffff ann_i_Space_used_ffff [] [.pl 0 0, .one ⟨.int .i64, x0⟩] [[⟨.sl false 23 (.sl false 5 (.int .u8)), x1⟩, ⟨.sl false 5 (.int .u8), x2⟩, ⟨.sl false 3 (.int .i64), x3⟩, ⟨.sl false 3 (.int .i64), x4⟩]]).run = (G.i_Space_used_ffff x0 x1 x2 x3 x4).bind fun y => some (Res.mk [.one ⟨.bool, y.1⟩] [[⟨.sl false 23 (.sl false 5 (.int .u8)), y.2.1⟩, ⟨.sl false 5 (.int .u8), y.2.2.1⟩, ⟨.sl false 3 (.int .i64), y.2.2.2.1⟩, ⟨.sl false 3 (.int .i64), y.2.2.2.2⟩]] []) := by kernel_rfl
def k_i_Space_used_ffff : Kn := ⟨90, [0, 0], fun args rows => match args, rows with
  | [.pl 0 0, .one ⟨.int .i64, x0⟩], [[⟨.sl false 23 (.sl false 5 (.int .u8)), x1⟩, ⟨.sl false 5 (.int .u8), x2⟩, ⟨.sl false 3 (.int .i64), x3⟩, ⟨.sl false 3 (.int .i64), x4⟩]] => some ⟨_, G.i_Space_used_ffff x0 x1 x2 x3 x4, fun y => ⟨[.one ⟨.bool, y.1⟩], [[⟨.sl false 23 (.sl false 5 (.int .u8)), y.2.1⟩, ⟨.sl false 5 (.int .u8), y.2.2.1⟩, ⟨.sl false 3 (.int .i64), y.2.2.2.1⟩, ⟨.sl false 3 (.int .i64), y.2.2.2.2⟩]], []⟩⟩
  | _, _ => none, []⟩
theorem s_i_Space_used_ffff : KnOk Try.prog k_i_Space_used_ffff := by
  intro args rows a h y hy
  simp only [k_i_Space_used_ffff] at h
  split at h
  · injection h with h
    subst h
    exact vfun_ok eok_i_Space_used_ffff Try.func90 rfl (by rw [v_i_Space_used_ffff]; simp only at hy; rw [hy]; rfl)
  · cases h
def J_i_Space_isBlock_ffff : Joins := [(.r, ⟨[.bool, .sl false 23 (.sl false 5 (.int .u8)), .sl false 5 (.int .u8), .sl false 3 (.int .i64), .sl false 3 (.int .i64)], [(4, .one (.h 0))], [(19, [.h 1, .h 2, .h 3, .h 4])], [], [], []⟩)]
def ann_i_Space_isBlock_ffff : Ann := .seq .nil (.seq (.reg [(.n, ⟨[.bool, .sl false 23 (.sl false 5 (.int .u8)), .sl false 5 (.int .u8), .sl false 3 (.int .i64), .sl false 3 (.int .i64)], [(4, .one (.h 0))], [(19, [.h 1, .h 2, .h 3, .h 4])], [], [], []⟩)]) .nil)
def env_i_Space_isBlock_ffff : Env := envOf ti [k_i_within, k_i_Space_used_ffff] []
theorem eok_i_Space_isBlock_ffff : EnvOk Try.prog env_i_Space_isBlock_ffff := envOf_ok tab mix _ _ (by
  intro k hk
  simp only [List.mem_cons, List.not_mem_nil, or_false] at hk
  rcases hk with rfl | rfl
  · exact s_i_within
  · exact s_i_Space_used_ffff)
theorem v_i_Space_isBlock_ffff (x0 : Int) (x1 : List (List Int)) (x2 : List Int) (x3 : List Int) (x4 : List Int) : (vfun env_i_Space_isBlock_ffff Try.f160 J_i_Space_isBlock_ffff ann_i_Space_isBlock_ffff [] [.pl 0 0, .one ⟨.int .i64, x0⟩] [[⟨.sl false 23 (.sl false 5 (.int .u8)), x1⟩, ⟨.sl false 5 (.int .u8), x2⟩, ⟨.sl false 3 (.int .i64), x3⟩, ⟨.sl false 3 (.int .i64), x4⟩]]).run = (G.i_Space_isBlock_ffff x0 x1 x2 x3 x4).bind fun y => some (Res.mk [.one ⟨.bool, y.1⟩] [[⟨.sl false 23 (.sl false 5 (.int .u8)), y.2.1⟩, ⟨.sl false 5 (.int .u8), y.2.2.1⟩, ⟨.sl false 3 (.int .i64), y.2.2.2.1⟩, ⟨.sl false 3 (.int .i64), y.2.2.2.2⟩]] []) := by kernel_rfl
def k_i_Space_isBlock_ffff : Kn := ⟨160, [0, 0], fun args rows => match args, rows with
  | [.pl 0 0, .one ⟨.int .i64, x0⟩], [[⟨.sl false 23 (.sl false 5 (.int .u8)), x1⟩, ⟨.sl false 5 (.int .u8), x2⟩, ⟨.sl false 3 (.int .i64), x3⟩, ⟨.sl false 3 (.int .i64), x4⟩]] => some ⟨_, G.i_Space_isBlock_ffff x0 x1 x2 x3 x4, fun y => ⟨[.one ⟨.bool, y.1⟩], [[⟨.sl false 23 (.sl false 5 (.int .u8)), y.2.1⟩, ⟨.sl false 5 (.int .u8), y.2.2.1⟩, ⟨.sl false 3 (.int .i64), y.2.2.2.1⟩, ⟨.sl false 3 (.int .i64), y.2.2.2.2⟩]], []⟩⟩
  | _, _ => none, []⟩
theorem s_i_Space_isBlock_ffff : KnOk Try.prog k_i_Space_isBlock_ffff := by
  intro args rows a h y hy
  simp only [k_i_Space_isBlock_ffff] at h
  split at h
  · injection h with h
    subst h
    exact vfun_ok eok_i_Space_isBlock_ffff Try.func160 rfl (by rw [v_i_Space_isBlock_ffff]; simp only at hy; rw [hy]; rfl)
  · cases h
def J_i_Space_areUsed_ffff : Joins := [(.r, ⟨[.bool, .sl false 23 (.sl false 5 (.int .u8)), .sl false 5 (.int .u8), .sl false 3 (.int .i64), .sl false 3 (.int .i64)], [(4, .one (.h 0))], [(33, [.h 1, .h 2, .h 3, .h 4])], [], [], []⟩)]
def ann_i_Space_areUsed_ffff : Ann := .seq .nil (.seq (.seq .nil (.block [] (.loop ⟨[.sl false 3 (.int .i64), .sl false 3 (.int .i64), .int .i64, .int .i64, .sl false 23 (.sl false 5 (.int .u8)), .sl false 5 (.int .u8), .sl false 3 (.int .i64), .sl false 3 (.int .i64)], [(0, .pl 33 0), (1, .one (.h 0)), (7, .one (.h 1)), (8, .one (.h 2)), (9, .one (.h 3))], [(33, [.h 4, .h 5, .h 6, .h 7])], [], [], []⟩ [(.x 0, ⟨[.sl false 23 (.sl false 5 (.int .u8)), .sl false 5 (.int .u8), .sl false 3 (.int .i64), .sl false 3 (.int .i64)], [], [(33, [.h 0, .h 1, .h 2, .h 3])], [], [], []⟩), (.r, ⟨[.bool, .sl false 23 (.sl false 5 (.int .u8)), .sl false 5 (.int .u8), .sl false 3 (.int .i64), .sl false 3 (.int .i64)], [(4, .one (.h 0))], [(33, [.h 1, .h 2, .h 3, .h 4])], [], [], []⟩)] (.seq .nil (.seq .nil (.seq (.block [] (.seq .nil (.seq (.reg [(.n, ⟨[.sl false 3 (.int .i64), .sl false 3 (.int .i64), .int .i64, .int .i64, .bool, .sl false 23 (.sl false 5 (.int .u8)), .sl false 5 (.int .u8), .sl false 3 (.int .i64), .sl false 3 (.int .i64)], [(0, .pl 33 0), (1, .one (.h 0)), (7, .one (.h 1)), (8, .one (.h 2)), (9, .one (.h 3)), (30, .one (.h 4))], [(33, [.h 5, .h 6, .h 7, .h 8])], [], [], []⟩)]) .nil))) .nil)))))) .nil)
def env_i_Space_areUsed_ffff : Env := envOf ti [k_i_Space_isBlock_ffff] []
theorem eok_i_Space_areUsed_ffff : EnvOk Try.prog env_i_Space_areUsed_ffff := envOf_ok tab mix _ _ (by
  intro k hk
  simp only [List.mem_cons, List.not_mem_nil, or_false] at hk
  rcases hk with rfl
  · exact s_i_Space_isBlock_ffff)
theorem v_i_Space_areUsed_ffff (x0 : List Int) (x1 : List (List Int)) (x2 : List Int) (x3 : List Int) (x4 : List Int) : (vfun env_i_Space_areUsed_ffff Try.f152 J_i_Space_areUsed_ffff ann_i_Space_areUsed_ffff [] [.pl 0 0, .one ⟨.sl false 3 (.int .i64), x0⟩] [[⟨.sl false 23 (.sl false 5 (.int .u8)), x1⟩, ⟨.sl false 5 (.int .u8), x2⟩, ⟨.sl false 3 (.int .i64), x3⟩, ⟨.sl false 3 (.int .i64), x4⟩]]).run = (G.i_Space_areUsed_ffff x0 x1 x2 x3 x4).bind fun y => some (Res.mk [.one ⟨.bool, y.1⟩] [[⟨.sl false 23 (.sl false 5 (.int .u8)), y.2.1⟩, ⟨.sl false 5 (.int .u8), y.2.2.1⟩, ⟨.sl false 3 (.int .i64), y.2.2.2.1⟩, ⟨.sl false 3 (.int .i64), y.2.2.2.2⟩]] []) := by kernel_rfl
def k_i_Space_areUsed_ffff : Kn := ⟨152, [0, 0], fun args rows => match args, rows with
  | [.pl 0 0, .one ⟨.sl false 3 (.int .i64), x0⟩], [[⟨.sl false 23 (.sl false 5 (.int .u8)), x1⟩, ⟨.sl false 5 (.int .u8), x2⟩, ⟨.sl false 3 (.int .i64), x3⟩, ⟨.sl false 3 (.int .i64), x4⟩]] => some ⟨_, G.i_Space_areUsed_ffff x0 x1 x2 x3 x4, fun y => ⟨[.one ⟨.bool, y.1⟩], [[⟨.sl false 23 (.sl false 5 (.int .u8)), y.2.1⟩, ⟨.sl false 5 (.int .u8), y.2.2.1⟩, ⟨.sl false 3 (.int .i64), y.2.2.2.1⟩, ⟨.sl false 3 (.int .i64), y.2.2.2.2⟩]], []⟩⟩
  | _, _ => none, []⟩
theorem s_i_Space_areUsed_ffff : KnOk Try.prog k_i_Space_areUsed_ffff := by
  intro args rows a h y hy
  simp only [k_i_Space_areUsed_ffff] at h
  split at h
  · injection h with h
    subst h
    exact vfun_ok eok_i_Space_areUsed_ffff Try.func152 rfl (by rw [v_i_Space_areUsed_ffff]; simp only at hy; rw [hy]; rfl)
  · cases h
def J_i_GoodSpace : Joins := [(.r, ⟨[.bool], [(2, .one (.h 0))], [], [], [], []⟩)]
def ann_i_GoodSpace : Ann := .seq .nil (.seq (.seq (.reg [(.n, ⟨[.bool, .sl false 23 (.sl false 5 (.int .u8)), .sl false 5 (.int .u8), .sl false 3 (.int .i64), .sl false 3 (.int .i64)], [(1, .pl 1 0), (14, .one (.h 0))], [(1, [.h 1, .h 2, .h 3, .h 4])], [], [], []⟩)]) .nil) (.seq (.seq .nil (.block [] (.loop ⟨[.int .i64, .sl false 23 (.sl false 5 (.int .u8)), .sl false 5 (.int .u8), .sl false 3 (.int .i64), .sl false 3 (.int .i64)], [(1, .pl 1 0), (15, .one (.h 0))], [(1, [.h 1, .h 2, .h 3, .h 4])], [], [], []⟩ [(.x 0, ⟨[.sl false 23 (.sl false 5 (.int .u8)), .sl false 5 (.int .u8), .sl false 3 (.int .i64), .sl false 3 (.int .i64)], [(1, .pl 1 0)], [(1, [.h 0, .h 1, .h 2, .h 3])], [], [], []⟩), (.r, ⟨[.bool], [(2, .one (.h 0))], [], [], [], []⟩)] (.seq .nil (.seq .nil (.seq (.block [] (.seq .nil (.seq .nil (.seq (.reg [(.n, ⟨[.int .i64, .bool, .sl false 23 (.sl false 5 (.int .u8)), .sl false 5 (.int .u8), .sl false 3 (.int .i64), .sl false 3 (.int .i64)], [(1, .pl 1 0), (15, .one (.h 0)), (35, .one (.h 1))], [(1, [.h 2, .h 3, .h 4, .h 5])], [], [], []⟩)]) .nil)))) .nil)))))) (.seq (.reg [(.n, ⟨[.bool], [(2, .one (.h 0))], [], [], [], []⟩)]) .nil)))
def env_i_GoodSpace : Env := envOf ti [k_i_areBlocks, k_i_Space_used_ffff, k_i_Space_areUsed_ffff] []
theorem eok_i_GoodSpace : EnvOk Try.prog env_i_GoodSpace := envOf_ok tab mix _ _ (by
  intro k hk
  simp only [List.mem_cons, List.not_mem_nil, or_false] at hk
  rcases hk with rfl | rfl | rfl
  · exact s_i_areBlocks
  · exact s_i_Space_used_ffff
  · exact s_i_Space_areUsed_ffff)
theorem v_i_GoodSpace (x0 : List (List Int)) (x1 : List Int) (x2 : List Int) (x3 : List Int) : (vfun env_i_GoodSpace Try.f79 J_i_GoodSpace ann_i_GoodSpace [] [.ag [⟨.sl false 23 (.sl false 5 (.int .u8)), x0⟩, ⟨.sl false 5 (.int .u8), x1⟩, ⟨.sl false 3 (.int .i64), x2⟩, ⟨.sl false 3 (.int .i64), x3⟩]] []).run = (G.i_GoodSpace x0 x1 x2 x3).bind fun y => some (Res.mk [.one ⟨.bool, y⟩] [] []) := by kernel_rfl
def k_i_GoodSpace : Kn := ⟨79, [0], fun args rows => match args, rows with
  | [.ag [⟨.sl false 23 (.sl false 5 (.int .u8)), x0⟩, ⟨.sl false 5 (.int .u8), x1⟩, ⟨.sl false 3 (.int .i64), x2⟩, ⟨.sl false 3 (.int .i64), x3⟩]], [] => some ⟨_, G.i_GoodSpace x0 x1 x2 x3, fun y => ⟨[.one ⟨.bool, y⟩], [], []⟩⟩
  | _, _ => none, []⟩
theorem s_i_GoodSpace : KnOk Try.prog k_i_GoodSpace := by
  intro args rows a h y hy
  simp only [k_i_GoodSpace] at h
  split at h
  · injection h with h
    subst h
    exact vfun_ok eok_i_GoodSpace Try.func79 rfl (by rw [v_i_GoodSpace]; simp only at hy; rw [hy]; rfl)
  · cases h
def J_slices_Clone_byte_byte : Joins := [(.r, ⟨[.sl true 5 (.int .u8)], [(2, .one (.vw 110593))], [], [(110593, 0)], [], []⟩)]
def ann_slices_Clone_byte_byte : Ann := .seq .nil (.both [(.r, ⟨[.sl true 5 (.int .u8)], [(2, .one (.vw 110592))], [], [(110592, 0)], [], []⟩)] .nil .nil .nil .nil .nil)
def env_slices_Clone_byte_byte : Env := envOf ti [] []
theorem eok_slices_Clone_byte_byte : EnvOk Try.prog env_slices_Clone_byte_byte := envOf_ok tab mix _ _ (by
  intro k hk; cases hk)
theorem v_slices_Clone_byte_byte (x0 : List Int) : (vfun env_slices_Clone_byte_byte Try.f102 J_slices_Clone_byte_byte ann_slices_Clone_byte_byte [] [.one ⟨.sl false 5 (.int .u8), x0⟩] []).run = (G.slices_Clone_byte_byte x0).bind fun y => some (Res.mk [.one ⟨.sl true 5 (.int .u8), y⟩] [] []) := by kernel_rfl
def k_slices_Clone_byte_byte : Kn := ⟨102, [0], fun args rows => match args, rows with
  | [.one ⟨.sl false 5 (.int .u8), x0⟩], [] => some ⟨_, G.slices_Clone_byte_byte x0, fun y => ⟨[.one ⟨.sl true 5 (.int .u8), y⟩], [], []⟩⟩
  | _, _ => none, []⟩
theorem s_slices_Clone_byte_byte : KnOk Try.prog k_slices_Clone_byte_byte := by
  intro args rows a h y hy
  simp only [k_slices_Clone_byte_byte] at h
  split at h
  · injection h with h
    subst h
    exact vfun_ok eok_slices_Clone_byte_byte Try.func102 rfl (by rw [v_slices_Clone_byte_byte]; simp only at hy; rw [hy]; rfl)
  · cases h
def J_i_copyBlocks : Joins := [(.r, ⟨[.sl true 23 (.sl true 5 (.int .u8))], [(2, .one (.vw 122945))], [], [(122945, 0)], [], []⟩)]
def ann_i_copyBlocks : Ann := .seq .nil (.seq .nil (.seq (.seq .nil (.block [] (.loop ⟨[.sl true 23 (.sl true 5 (.int .u8)), .sl false 23 (.sl false 5 (.int .u8)), .int .i64, .int .i64], [(3, .one (.vw 122880)), (7, .one (.h 1)), (8, .one (.h 2)), (9, .one (.h 3))], [], [(122880, 0)], [], []⟩ [(.x 0, ⟨[.sl true 23 (.sl true 5 (.int .u8))], [(3, .one (.vw 122944))], [], [(122944, 0)], [], []⟩)] .nil))) .nil))
def env_i_copyBlocks : Env := envOf ti [k_slices_Clone_byte_byte] []
theorem eok_i_copyBlocks : EnvOk Try.prog env_i_copyBlocks := envOf_ok tab mix _ _ (by
  intro k hk
  simp only [List.mem_cons, List.not_mem_nil, or_false] at hk
  rcases hk with rfl
  · exact s_slices_Clone_byte_byte)
theorem v_i_copyBlocks (x0 : List (List Int)) : (vfun env_i_copyBlocks Try.f153 J_i_copyBlocks ann_i_copyBlocks [] [.one ⟨.sl false 23 (.sl false 5 (.int .u8)), x0⟩] []).run = (G.i_copyBlocks x0).bind fun y => some (Res.mk [.one ⟨.sl true 23 (.sl true 5 (.int .u8)), y⟩] [] []) := by kernel_rfl
def k_i_copyBlocks : Kn := ⟨153, [0], fun args rows => match args, rows with
  | [.one ⟨.sl false 23 (.sl false 5 (.int .u8)), x0⟩], [] => some ⟨_, G.i_copyBlocks x0, fun y => ⟨[.one ⟨.sl true 23 (.sl true 5 (.int .u8)), y⟩], [], []⟩⟩
  | _, _ => none, []⟩
theorem s_i_copyBlocks : KnOk Try.prog k_i_copyBlocks := by
  intro args rows a h y hy
  simp only [k_i_copyBlocks] at h
  split at h
  · injection h with h
    subst h
    exact vfun_ok eok_i_copyBlocks Try.func153 rfl (by rw [v_i_copyBlocks]; simp only at hy; rw [hy]; rfl)
  · cases h
def J_slices_Clone_int_int : Joins := [(.r, ⟨[.sl true 3 (.int .i64)], [(2, .one (.vw 110593))], [], [(110593, 0)], [], []⟩)]
def ann_slices_Clone_int_int : Ann := .seq .nil (.both [(.r, ⟨[.sl true 3 (.int .i64)], [(2, .one (.vw 110592))], [], [(110592, 0)], [], []⟩)] .nil .nil .nil .nil .nil)
def env_slices_Clone_int_int : Env := envOf ti [] []
theorem eok_slices_Clone_int_int : EnvOk Try.prog env_slices_Clone_int_int := envOf_ok tab mix _ _ (by
  intro k hk; cases hk)
theorem v_slices_Clone_int_int (x0 : List Int) : (vfun env_slices_Clone_int_int Try.f154 J_slices_Clone_int_int ann_slices_Clone_int_int [] [.one ⟨.sl false 3 (.int .i64), x0⟩] []).run = (G.slices_Clone_int_int x0).bind fun y => some (Res.mk [.one ⟨.sl true 3 (.int .i64), y⟩] [] []) := by kernel_rfl
def k_slices_Clone_int_int : Kn := ⟨154, [0], fun args rows => match args, rows with
  | [.one ⟨.sl false 3 (.int .i64), x0⟩], [] => some ⟨_, G.slices_Clone_int_int x0, fun y => ⟨[.one ⟨.sl true 3 (.int .i64), y⟩], [], []⟩⟩
  | _, _ => none, []⟩
theorem s_slices_Clone_int_int : KnOk Try.prog k_slices_Clone_int_int := by
  intro args rows a h y hy
  simp only [k_slices_Clone_int_int] at h
  split at h
  · injection h with h
    subst h
    exact vfun_ok eok_slices_Clone_int_int Try.func154 rfl (by rw [v_slices_Clone_int_int]; simp only at hy; rw [hy]; rfl)
  · cases h
def J_i_Space_copied : Joins := [(.r, ⟨[.sl true 23 (.sl true 5 (.int .u8)), .sl true 5 (.int .u8), .sl true 3 (.int .i64), .sl true 3 (.int .i64)], [(2, .pl 2 0)], [(2, [.vw 118784, .vw 118785, .vw 118786, .vw 118787])], [(118784, 0), (118785, 1), (118786, 2), (118787, 3)], [], []⟩)]
def ann_i_Space_copied : Ann := .nil
def env_i_Space_copied : Env := envOf ti [k_i_copyBlocks, k_slices_Clone_byte_byte, k_slices_Clone_int_int] []
theorem eok_i_Space_copied : EnvOk Try.prog env_i_Space_copied := envOf_ok tab mix _ _ (by
  intro k hk
  simp only [List.mem_cons, List.not_mem_nil, or_false] at hk
  rcases hk with rfl | rfl | rfl
  · exact s_i_copyBlocks
  · exact s_slices_Clone_byte_byte
  · exact s_slices_Clone_int_int)
theorem v_i_Space_copied (x0 : List (List Int)) (x1 : List Int) (x2 : List Int) (x3 : List Int) : (vfun env_i_Space_copied Try.f80 J_i_Space_copied ann_i_Space_copied [] [.ag [⟨.sl false 23 (.sl false 5 (.int .u8)), x0⟩, ⟨.sl false 5 (.int .u8), x1⟩, ⟨.sl false 3 (.int .i64), x2⟩, ⟨.sl false 3 (.int .i64), x3⟩]] []).run = (G.i_Space_copied x0 x1 x2 x3).bind fun y => some (Res.mk [.ag [⟨.sl true 23 (.sl true 5 (.int .u8)), y.1⟩, ⟨.sl true 5 (.int .u8), y.2.1⟩, ⟨.sl true 3 (.int .i64), y.2.2.1⟩, ⟨.sl true 3 (.int .i64), y.2.2.2⟩]] [] []) := by kernel_rfl
def k_i_Space_copied : Kn := ⟨80, [0], fun args rows => match args, rows with
  | [.ag [⟨.sl false 23 (.sl false 5 (.int .u8)), x0⟩, ⟨.sl false 5 (.int .u8), x1⟩, ⟨.sl false 3 (.int .i64), x2⟩, ⟨.sl false 3 (.int .i64), x3⟩]], [] => some ⟨_, G.i_Space_copied x0 x1 x2 x3, fun y => ⟨[.ag [⟨.sl true 23 (.sl true 5 (.int .u8)), y.1⟩, ⟨.sl true 5 (.int .u8), y.2.1⟩, ⟨.sl true 3 (.int .i64), y.2.2.1⟩, ⟨.sl true 3 (.int .i64), y.2.2.2⟩]], [], []⟩⟩
  | _, _ => none, []⟩
theorem s_i_Space_copied : KnOk Try.prog k_i_Space_copied := by
  intro args rows a h y hy
  simp only [k_i_Space_copied] at h
  split at h
  · injection h with h
    subst h
    exact vfun_ok eok_i_Space_copied Try.func80 rfl (by rw [v_i_Space_copied]; simp only at hy; rw [hy]; rfl)
  · cases h
def J_i_needRecord : Joins := [(.r, ⟨[.int .i64], [(2, .one (.h 0))], [], [], [], []⟩)]
def ann_i_needRecord : Ann := .nil
def env_i_needRecord : Env := envOf ti [] []
theorem eok_i_needRecord : EnvOk Try.prog env_i_needRecord := envOf_ok tab mix _ _ (by
  intro k hk; cases hk)
theorem v_i_needRecord (x0 : Int) : (vfun env_i_needRecord Try.f141 J_i_needRecord ann_i_needRecord [] [.one ⟨.int .i64, x0⟩] []).run = (G.i_needRecord x0).bind fun y => some (Res.mk [.one ⟨.int .i64, y⟩] [] []) := by kernel_rfl
def k_i_needRecord : Kn := ⟨141, [0], fun args rows => match args, rows with
  | [.one ⟨.int .i64, x0⟩], [] => some ⟨_, G.i_needRecord x0, fun y => ⟨[.one ⟨.int .i64, y⟩], [], []⟩⟩
  | _, _ => none, []⟩
theorem s_i_needRecord : KnOk Try.prog k_i_needRecord := by
  intro args rows a h y hy
  simp only [k_i_needRecord] at h
  split at h
  · injection h with h
    subst h
    exact vfun_ok eok_i_needRecord Try.func141 rfl (by rw [v_i_needRecord]; simp only at hy; rw [hy]; rfl)
  · cases h
def J_cmp_isNaN_int : Joins := [(.r, ⟨[.bool], [(2, .one (.h 0))], [], [], [], []⟩)]
def ann_cmp_isNaN_int : Ann := .nil
def env_cmp_isNaN_int : Env := envOf ti [] []
theorem eok_cmp_isNaN_int : EnvOk Try.prog env_cmp_isNaN_int := envOf_ok tab mix _ _ (by
  intro k hk; cases hk)
theorem v_cmp_isNaN_int (x0 : Int) : (vfun env_cmp_isNaN_int Try.f240 J_cmp_isNaN_int ann_cmp_isNaN_int [] [.one ⟨.int .i64, x0⟩] []).run = (G.cmp_isNaN_int x0).bind fun y => some (Res.mk [.one ⟨.bool, y⟩] [] []) := by kernel_rfl
def k_cmp_isNaN_int : Kn := ⟨240, [0], fun args rows => match args, rows with
  | [.one ⟨.int .i64, x0⟩], [] => some ⟨_, G.cmp_isNaN_int x0, fun y => ⟨[.one ⟨.bool, y⟩], [], []⟩⟩
  | _, _ => none, []⟩
theorem s_cmp_isNaN_int : KnOk Try.prog k_cmp_isNaN_int := by
  intro args rows a h y hy
  simp only [k_cmp_isNaN_int] at h
  split at h
  · injection h with h
    subst h
    exact vfun_ok eok_cmp_isNaN_int Try.func240 rfl (by rw [v_cmp_isNaN_int]; simp only at hy; rw [hy]; rfl)
  · cases h
end
end Go.Proofs.Ytggpihbcaebpjaa

set_option linter.unusedVariables false
set_option maxRecDepth 100000
namespace Go.Proofs.Ytggpihbcaebpjaa
open Go.V
noncomputable section
def J_cmp_Less_int : Joins := [(.r, ⟨[.bool], [(4, .one (.h 0))], [], [], [], []⟩)]
def ann_cmp_Less_int : Ann := .seq .nil (.seq (.reg [(.n, ⟨[.bool], [(4, .one (.h 0))], [], [], [], []⟩)]) .nil)
def env_cmp_Less_int : Env := envOf ti [k_cmp_isNaN_int] []
theorem eok_cmp_Less_int : EnvOk Try.prog env_cmp_Less_int := envOf_ok tab mix _ _ (by
  intro k hk
  simp only [List.mem_cons, List.not_mem_nil, or_false] at hk
  rcases hk with rfl
  · exact s_cmp_isNaN_int)
theorem v_cmp_Less_int (x0 : Int) (x1 : Int) : (vfun env_cmp_Less_int Try.f227 J_cmp_Less_int ann_cmp_Less_int [] [.one ⟨.int .i64, x0⟩, .one ⟨.int .i64, x1⟩] []).run = (G.cmp_Less_int x0 x1).bind fun y => some (Res.mk [.one ⟨.bool, y⟩] [] []) := by kernel_rfl
def k_cmp_Less_int : Kn := ⟨227, [0, 0], fun args rows => match args, rows with
  | [.one ⟨.int .i64, x0⟩, .one ⟨.int .i64, x1⟩], [] => some ⟨_, G.cmp_Less_int x0 x1, fun y => ⟨[.one ⟨.bool, y⟩], [], []⟩⟩
  | _, _ => none, []⟩
theorem s_cmp_Less_int : KnOk Try.prog k_cmp_Less_int := by
  intro args rows a h y hy
  simp only [k_cmp_Less_int] at h
  split at h
  · injection h with h
    subst h
    exact vfun_ok eok_cmp_Less_int Try.func227 rfl (by rw [v_cmp_Less_int]; simp only at hy; rw [hy]; rfl)
  · cases h
def J_slices_isNaN_int : Joins := [(.r, ⟨[.bool], [(2, .one (.h 0))], [], [], [], []⟩)]
def ann_slices_isNaN_int : Ann := .nil
def env_slices_isNaN_int : Env := envOf ti [] []
theorem eok_slices_isNaN_int : EnvOk Try.prog env_slices_isNaN_int := envOf_ok tab mix _ _ (by
  intro k hk; cases hk)
theorem v_slices_isNaN_int (x0 : Int) : (vfun env_slices_isNaN_int Try.f228 J_slices_isNaN_int ann_slices_isNaN_int [] [.one ⟨.int .i64, x0⟩] []).run = (G.slices_isNaN_int x0).bind fun y => some (Res.mk [.one ⟨.bool, y⟩] [] []) := by kernel_rfl
def k_slices_isNaN_int : Kn := ⟨228, [0], fun args rows => match args, rows with
  | [.one ⟨.int .i64, x0⟩], [] => some ⟨_, G.slices_isNaN_int x0, fun y => ⟨[.one ⟨.bool, y⟩], [], []⟩⟩
  | _, _ => none, []⟩
theorem s_slices_isNaN_int : KnOk Try.prog k_slices_isNaN_int := by
  intro args rows a h y hy
  simp only [k_slices_isNaN_int] at h
  split at h
  · injection h with h
    subst h
    exact vfun_ok eok_slices_isNaN_int Try.func228 rfl (by rw [v_slices_isNaN_int]; simp only at hy; rw [hy]; rfl)
  · cases h
def J_slices_BinarySearch_int_int : Joins := [(.r, ⟨[.int .i64, .bool], [(4, .one (.h 0)), (5, .one (.h 1))], [], [], [], []⟩)]
def ann_slices_BinarySearch_int_int : Ann := .seq .nil (.seq .nil (.seq .nil (.seq (.block [] (.loop ⟨[.sl false 3 (.int .i64), .int .i64, .int .i64, .int .i64, .int .i64], [(0, .one (.h 0)), (1, .one (.h 1)), (6, .one (.h 2)), (7, .one (.h 3)), (8, .one (.h 4))], [], [], [], []⟩ [(.x 0, ⟨[.sl false 3 (.int .i64), .int .i64, .int .i64, .int .i64], [(0, .one (.h 0)), (1, .one (.h 1)), (6, .one (.h 2)), (7, .one (.h 3))], [], [], [], []⟩)] (.seq .nil (.block [] (.seq .nil (.seq .nil (.cond [(.n, ⟨[.sl false 3 (.int .i64), .int .i64, .int .i64, .int .i64, .int .i64], [(0, .one (.h 0)), (1, .one (.h 1)), (6, .one (.h 2)), (7, .one (.h 3)), (8, .one (.h 4))], [], [], [], []⟩)] .nil .nil))))))) (.seq (.reg [(.n, ⟨[.int .i64, .bool], [(4, .one (.h 0)), (5, .one (.h 1))], [], [], [], []⟩)]) .nil))))
def env_slices_BinarySearch_int_int : Env := envOf ti [k_cmp_Less_int, k_slices_isNaN_int] []
theorem eok_slices_BinarySearch_int_int : EnvOk Try.prog env_slices_BinarySearch_int_int := envOf_ok tab mix _ _ (by
  intro k hk
  simp only [List.mem_cons, List.not_mem_nil, or_false] at hk
  rcases hk with rfl | rfl
  · exact s_cmp_Less_int
  · exact s_slices_isNaN_int)
theorem v_slices_BinarySearch_int_int (x0 : List Int) (x1 : Int) : (vfun env_slices_BinarySearch_int_int Try.f208 J_slices_BinarySearch_int_int ann_slices_BinarySearch_int_int [] [.one ⟨.sl false 3 (.int .i64), x0⟩, .one ⟨.int .i64, x1⟩] []).run = (G.slices_BinarySearch_int_int x0 x1).bind fun y => some (Res.mk [.one ⟨.int .i64, y.1⟩, .one ⟨.bool, y.2⟩] [] []) := by kernel_rfl
def k_slices_BinarySearch_int_int : Kn := ⟨208, [0, 0], fun args rows => match args, rows with
  | [.one ⟨.sl false 3 (.int .i64), x0⟩, .one ⟨.int .i64, x1⟩], [] => some ⟨_, G.slices_BinarySearch_int_int x0 x1, fun y => ⟨[.one ⟨.int .i64, y.1⟩, .one ⟨.bool, y.2⟩], [], []⟩⟩
  | _, _ => none, []⟩
theorem s_slices_BinarySearch_int_int : KnOk Try.prog k_slices_BinarySearch_int_int := by
  intro args rows a h y hy
  simp only [k_slices_BinarySearch_int_int] at h
  split at h
  · injection h with h
    subst h
    exact vfun_ok eok_slices_BinarySearch_int_int Try.func208 rfl (by rw [v_slices_BinarySearch_int_int]; simp only at hy; rw [hy]; rfl)
  · cases h
def rho : Go.Shelf.Ren := ⟨fun x => match x with | 21 => 209 | 27 => 229 | 28 => 230 | 35 => 241 | 39 => 243 | n => n, fun x => match x with | 22 => 24 | 3 => 3 | 4 => 4 | 0 => 0 | n => n, fun n => n⟩
theorem insL : Go.Proofs.Lays2.n21 Try.prog rho := lays_of mix (by kernel_rfl) (by kernel_rfl) (by kernel_rfl) (by kernel_rfl) (by kernel_rfl) (by kernel_rfl) (by kernel_rfl) (by kernel_rfl) (by kernel_rfl) (by kernel_rfl) (by kernel_rfl) (by kernel_rfl) (by kernel_rfl)
def k_slices_Insert_int_int : Kn := ⟨209, [1, 0, 1], fun args rows => match args, rows with
  | [.one ⟨.sl true 3 (.int .i64), x0⟩, .one ⟨.int .i64, x1⟩, .one ⟨.sl true 3 (.int .i64), x2⟩], [] => some ⟨_, G.slices_Insert_int_int x0 x1 x2, fun y => ⟨[.one ⟨.sl true 3 (.int .i64), y⟩], [], []⟩⟩
  | _, _ => none, []⟩
theorem s_slices_Insert_int_int : KnOk Try.prog k_slices_Insert_int_int := by
  intro args rows a h y hy
  simp only [k_slices_Insert_int_int] at h
  split at h
  · injection h with h
    subst h
    exact ins_known insL hy
  · cases h
def J_i_insert : Joins := [(.r, ⟨[.sl true 3 (.int .i64)], [(4, .one (.vw 122880))], [], [(122880, 0)], [], []⟩)]
def ann_i_insert : Ann := .nil
def env_i_insert : Env := envOf ti [k_slices_BinarySearch_int_int, k_slices_Insert_int_int] []
theorem eok_i_insert : EnvOk Try.prog env_i_insert := envOf_ok tab mix _ _ (by
  intro k hk
  simp only [List.mem_cons, List.not_mem_nil, or_false] at hk
  rcases hk with rfl | rfl
  · exact s_slices_BinarySearch_int_int
  · exact s_slices_Insert_int_int)
theorem v_i_insert (x0 : List Int) (x1 : Int) : (vfun env_i_insert Try.f162 J_i_insert ann_i_insert [] [.one ⟨.sl true 3 (.int .i64), x0⟩, .one ⟨.int .i64, x1⟩] []).run = (G.i_insert x0 x1).bind fun y => some (Res.mk [.one ⟨.sl true 3 (.int .i64), y⟩] [] []) := by kernel_rfl
def k_i_insert : Kn := ⟨162, [1, 0], fun args rows => match args, rows with
  | [.one ⟨.sl true 3 (.int .i64), x0⟩, .one ⟨.int .i64, x1⟩], [] => some ⟨_, G.i_insert x0 x1, fun y => ⟨[.one ⟨.sl true 3 (.int .i64), y⟩], [], []⟩⟩
  | _, _ => none, []⟩
theorem s_i_insert : KnOk Try.prog k_i_insert := by
  intro args rows a h y hy
  simp only [k_i_insert] at h
  split at h
  · injection h with h
    subst h
    exact vfun_ok eok_i_insert Try.func162 rfl (by rw [v_i_insert]; simp only at hy; rw [hy]; rfl)
  · cases h
def J_i_Space_lay_oooo : Joins := [(.n, ⟨[.sl true 23 (.sl true 5 (.int .u8)), .sl true 5 (.int .u8), .sl true 3 (.int .i64), .sl true 3 (.int .i64)], [], [(24, [.vw 125952, .vw 125953, .vw 125954, .vw 125955])], [(125952, 0), (125953, 1), (125954, 2), (125955, 3)], [], []⟩)]
def ann_i_Space_lay_oooo : Ann := .nil
def env_i_Space_lay_oooo : Env := envOf ti [k_slices_Clone_byte_byte, k_i_insert] []
theorem eok_i_Space_lay_oooo : EnvOk Try.prog env_i_Space_lay_oooo := envOf_ok tab mix _ _ (by
  intro k hk
  simp only [List.mem_cons, List.not_mem_nil, or_false] at hk
  rcases hk with rfl | rfl
  · exact s_slices_Clone_byte_byte
  · exact s_i_insert)
theorem v_i_Space_lay_oooo (x0 : Int) (x1 : List Int) (x2 : List (List Int)) (x3 : List Int) (x4 : List Int) (x5 : List Int) : (vfun env_i_Space_lay_oooo Try.f155 J_i_Space_lay_oooo ann_i_Space_lay_oooo [] [.pl 0 0, .one ⟨.int .i64, x0⟩, .one ⟨.sl false 5 (.int .u8), x1⟩] [[⟨.sl true 23 (.sl true 5 (.int .u8)), x2⟩, ⟨.sl true 5 (.int .u8), x3⟩, ⟨.sl true 3 (.int .i64), x4⟩, ⟨.sl true 3 (.int .i64), x5⟩]]).run = (G.i_Space_lay_oooo x0 x1 x2 x3 x4 x5).bind fun y => some (Res.mk [] [[⟨.sl true 23 (.sl true 5 (.int .u8)), y.1⟩, ⟨.sl true 5 (.int .u8), y.2.1⟩, ⟨.sl true 3 (.int .i64), y.2.2.1⟩, ⟨.sl true 3 (.int .i64), y.2.2.2⟩]] []) := by kernel_rfl
def k_i_Space_lay_oooo : Kn := ⟨155, [0, 0, 0], fun args rows => match args, rows with
  | [.pl 0 0, .one ⟨.int .i64, x0⟩, .one ⟨.sl false 5 (.int .u8), x1⟩], [[⟨.sl true 23 (.sl true 5 (.int .u8)), x2⟩, ⟨.sl true 5 (.int .u8), x3⟩, ⟨.sl true 3 (.int .i64), x4⟩, ⟨.sl true 3 (.int .i64), x5⟩]] => some ⟨_, G.i_Space_lay_oooo x0 x1 x2 x3 x4 x5, fun y => ⟨[], [[⟨.sl true 23 (.sl true 5 (.int .u8)), y.1⟩, ⟨.sl true 5 (.int .u8), y.2.1⟩, ⟨.sl true 3 (.int .i64), y.2.2.1⟩, ⟨.sl true 3 (.int .i64), y.2.2.2⟩]], []⟩⟩
  | _, _ => none, []⟩
theorem s_i_Space_lay_oooo : KnOk Try.prog k_i_Space_lay_oooo := by
  intro args rows a h y hy
  simp only [k_i_Space_lay_oooo] at h
  split at h
  · injection h with h
    subst h
    exact vfun_ok eok_i_Space_lay_oooo Try.func155 rfl (by rw [v_i_Space_lay_oooo]; simp only at hy; rw [hy]; rfl)
  · cases h
def J_i_Space_used_oooo : Joins := [(.r, ⟨[.bool, .sl true 23 (.sl true 5 (.int .u8)), .sl true 5 (.int .u8), .sl true 3 (.int .i64), .sl true 3 (.int .i64)], [(4, .one (.h 0))], [(19, [.vw 120832, .vw 120833, .vw 120834, .vw 120835])], [(120832, 1), (120833, 2), (120834, 3), (120835, 4)], [], []⟩)]
def ann_i_Space_used_oooo : Ann := .nil
def env_i_Space_used_oooo : Env := envOf ti [] []
theorem eok_i_Space_used_oooo : EnvOk Try.prog env_i_Space_used_oooo := envOf_ok tab mix _ _ (by
  intro k hk; cases hk)
theorem v_i_Space_used_oooo (x0 : Int) (x1 : List (List Int)) (x2 : List Int) (x3 : List Int) (x4 : List Int) : (vfun env_i_Space_used_oooo Try.f90 J_i_Space_used_oooo ann_i_Space_used_oooo [] [.pl 0 0, .one ⟨.int .i64, x0⟩] [[⟨.sl true 23 (.sl true 5 (.int .u8)), x1⟩, ⟨.sl true 5 (.int .u8), x2⟩, ⟨.sl true 3 (.int .i64), x3⟩, ⟨.sl true 3 (.int .i64), x4⟩]]).run = (G.i_Space_used_oooo x0 x1 x2 x3 x4).bind fun y => some (Res.mk [.one ⟨.bool, y.1⟩] [[⟨.sl true 23 (.sl true 5 (.int .u8)), y.2.1⟩, ⟨.sl true 5 (.int .u8), y.2.2.1⟩, ⟨.sl true 3 (.int .i64), y.2.2.2.1⟩, ⟨.sl true 3 (.int .i64), y.2.2.2.2⟩]] []) := by kernel_rfl
def k_i_Space_used_oooo : Kn := ⟨90, [0, 0], fun args rows => match args, rows with
  | [.pl 0 0, .one ⟨.int .i64, x0⟩], [[⟨.sl true 23 (.sl true 5 (.int .u8)), x1⟩, ⟨.sl true 5 (.int .u8), x2⟩, ⟨.sl true 3 (.int .i64), x3⟩, ⟨.sl true 3 (.int .i64), x4⟩]] => some ⟨_, G.i_Space_used_oooo x0 x1 x2 x3 x4, fun y => ⟨[.one ⟨.bool, y.1⟩], [[⟨.sl true 23 (.sl true 5 (.int .u8)), y.2.1⟩, ⟨.sl true 5 (.int .u8), y.2.2.1⟩, ⟨.sl true 3 (.int .i64), y.2.2.2.1⟩, ⟨.sl true 3 (.int .i64), y.2.2.2.2⟩]], []⟩⟩
  | _, _ => none, []⟩
theorem s_i_Space_used_oooo : KnOk Try.prog k_i_Space_used_oooo := by
  intro args rows a h y hy
  simp only [k_i_Space_used_oooo] at h
  split at h
  · injection h with h
    subst h
    exact vfun_ok eok_i_Space_used_oooo Try.func90 rfl (by rw [v_i_Space_used_oooo]; simp only at hy; rw [hy]; rfl)
  · cases h
def J_i_Space_take_oooo : Joins := [(.r, ⟨[.int .i64, .bool, .sl true 23 (.sl true 5 (.int .u8)), .sl true 5 (.int .u8), .sl true 3 (.int .i64), .sl true 3 (.int .i64)], [(2, .one (.h 0)), (3, .one (.h 1))], [(37, [.vw 139336, .vw 139337, .vw 139338, .vw 139339])], [(139336, 2), (139337, 3), (139338, 4), (139339, 5)], [], []⟩)]
def ann_i_Space_take_oooo : Ann := .seq .nil (.seq (.seq .nil (.block [] (.loop ⟨[.int .i64, .int .i64, .sl true 23 (.sl true 5 (.int .u8)), .sl true 5 (.int .u8), .sl true 3 (.int .i64), .sl true 3 (.int .i64)], [(0, .pl 37 0), (9, .one (.h 0)), (10, .one (.h 1))], [(37, [.vw 139264, .vw 139265, .vw 139266, .vw 139267])], [(139264, 2), (139265, 3), (139266, 4), (139267, 5)], [], []⟩ [(.x 0, ⟨[.sl true 23 (.sl true 5 (.int .u8)), .sl true 5 (.int .u8), .sl true 3 (.int .i64), .sl true 3 (.int .i64)], [], [(37, [.vw 139328, .vw 139329, .vw 139330, .vw 139331])], [(139328, 0), (139329, 1), (139330, 2), (139331, 3)], [], []⟩), (.r, ⟨[.int .i64, .bool, .sl true 23 (.sl true 5 (.int .u8)), .sl true 5 (.int .u8), .sl true 3 (.int .i64), .sl true 3 (.int .i64)], [(2, .one (.h 0)), (3, .one (.h 1))], [(37, [.vw 139332, .vw 139333, .vw 139334, .vw 139335])], [(139332, 2), (139333, 3), (139334, 4), (139335, 5)], [], []⟩)] .nil))) .nil)
def env_i_Space_take_oooo : Env := envOf ti [k_i_Space_used_oooo, k_i_Space_lay_oooo] []
theorem eok_i_Space_take_oooo : EnvOk Try.prog env_i_Space_take_oooo := envOf_ok tab mix _ _ (by
  intro k hk
  simp only [List.mem_cons, List.not_mem_nil, or_false] at hk
  rcases hk with rfl | rfl
  · exact s_i_Space_used_oooo
  · exact s_i_Space_lay_oooo)
theorem v_i_Space_take_oooo (x0 : List (List Int)) (x1 : List Int) (x2 : List Int) (x3 : List Int) : (vfun env_i_Space_take_oooo Try.f81 J_i_Space_take_oooo ann_i_Space_take_oooo [] [.pl 0 0] [[⟨.sl true 23 (.sl true 5 (.int .u8)), x0⟩, ⟨.sl true 5 (.int .u8), x1⟩, ⟨.sl true 3 (.int .i64), x2⟩, ⟨.sl true 3 (.int .i64), x3⟩]]).run = (G.i_Space_take_oooo x0 x1 x2 x3).bind fun y => some (Res.mk [.one ⟨.int .i64, y.1⟩, .one ⟨.bool, y.2.1⟩] [[⟨.sl true 23 (.sl true 5 (.int .u8)), y.2.2.1⟩, ⟨.sl true 5 (.int .u8), y.2.2.2.1⟩, ⟨.sl true 3 (.int .i64), y.2.2.2.2.1⟩, ⟨.sl true 3 (.int .i64), y.2.2.2.2.2⟩]] []) := by kernel_rfl
def k_i_Space_take_oooo : Kn := ⟨81, [0], fun args rows => match args, rows with
  | [.pl 0 0], [[⟨.sl true 23 (.sl true 5 (.int .u8)), x0⟩, ⟨.sl true 5 (.int .u8), x1⟩, ⟨.sl true 3 (.int .i64), x2⟩, ⟨.sl true 3 (.int .i64), x3⟩]] => some ⟨_, G.i_Space_take_oooo x0 x1 x2 x3, fun y => ⟨[.one ⟨.int .i64, y.1⟩, .one ⟨.bool, y.2.1⟩], [[⟨.sl true 23 (.sl true 5 (.int .u8)), y.2.2.1⟩, ⟨.sl true 5 (.int .u8), y.2.2.2.1⟩, ⟨.sl true 3 (.int .i64), y.2.2.2.2.1⟩, ⟨.sl true 3 (.int .i64), y.2.2.2.2.2⟩]], []⟩⟩
  | _, _ => none, []⟩
theorem s_i_Space_take_oooo : KnOk Try.prog k_i_Space_take_oooo := by
  intro args rows a h y hy
  simp only [k_i_Space_take_oooo] at h
  split at h
  · injection h with h
    subst h
    exact vfun_ok eok_i_Space_take_oooo Try.func81 rfl (by rw [v_i_Space_take_oooo]; simp only at hy; rw [hy]; rfl)
  · cases h
def J_i_Space_takeMany_oooo : Joins := [(.r, ⟨[.sl true 3 (.int .i64), .bool, .sl true 23 (.sl true 5 (.int .u8)), .sl true 5 (.int .u8), .sl true 3 (.int .i64), .sl true 3 (.int .i64)], [(4, .one (.vw 129097)), (5, .one (.h 1))], [(27, [.vw 129098, .vw 129099, .vw 129100, .vw 129101])], [(129097, 0), (129098, 2), (129099, 3), (129100, 4), (129101, 5)], [], []⟩)]
def ann_i_Space_takeMany_oooo : Ann := .seq .nil (.seq .nil (.seq (.seq .nil (.block [] (.loop ⟨[.sl true 3 (.int .i64), .int .i64, .int .i64, .sl true 23 (.sl true 5 (.int .u8)), .sl true 5 (.int .u8), .sl true 3 (.int .i64), .sl true 3 (.int .i64)], [(0, .pl 27 0), (6, .one (.vw 129024)), (10, .one (.h 1)), (11, .one (.h 2))], [(27, [.vw 129025, .vw 129026, .vw 129027, .vw 129028])], [(129024, 0), (129025, 3), (129026, 4), (129027, 5), (129028, 6)], [], []⟩ [(.x 0, ⟨[.sl true 3 (.int .i64), .sl true 23 (.sl true 5 (.int .u8)), .sl true 5 (.int .u8), .sl true 3 (.int .i64), .sl true 3 (.int .i64)], [(6, .one (.vw 129088))], [(27, [.vw 129089, .vw 129090, .vw 129091, .vw 129092])], [(129088, 0), (129089, 1), (129090, 2), (129091, 3), (129092, 4)], [], []⟩), (.r, ⟨[.bool, .sl true 23 (.sl true 5 (.int .u8)), .sl true 5 (.int .u8), .sl true 3 (.int .i64), .sl true 3 (.int .i64)], [(4, .one (.nil)), (5, .one (.h 0))], [(27, [.vw 129093, .vw 129094, .vw 129095, .vw 129096])], [(129093, 1), (129094, 2), (129095, 3), (129096, 4)], [], []⟩)] .nil))) .nil))
def env_i_Space_takeMany_oooo : Env := envOf ti [k_i_Space_take_oooo] []
theorem eok_i_Space_takeMany_oooo : EnvOk Try.prog env_i_Space_takeMany_oooo := envOf_ok tab mix _ _ (by
  intro k hk
  simp only [List.mem_cons, List.not_mem_nil, or_false] at hk
  rcases hk with rfl
  · exact s_i_Space_take_oooo)
theorem v_i_Space_takeMany_oooo (x0 : Int) (x1 : List (List Int)) (x2 : List Int) (x3 : List Int) (x4 : List Int) : (vfun env_i_Space_takeMany_oooo Try.f182 J_i_Space_takeMany_oooo ann_i_Space_takeMany_oooo [] [.pl 0 0, .one ⟨.int .i64, x0⟩] [[⟨.sl true 23 (.sl true 5 (.int .u8)), x1⟩, ⟨.sl true 5 (.int .u8), x2⟩, ⟨.sl true 3 (.int .i64), x3⟩, ⟨.sl true 3 (.int .i64), x4⟩]]).run = (G.i_Space_takeMany_oooo x0 x1 x2 x3 x4).bind fun y => some (Res.mk [.one ⟨.sl true 3 (.int .i64), y.1⟩, .one ⟨.bool, y.2.1⟩] [[⟨.sl true 23 (.sl true 5 (.int .u8)), y.2.2.1⟩, ⟨.sl true 5 (.int .u8), y.2.2.2.1⟩, ⟨.sl true 3 (.int .i64), y.2.2.2.2.1⟩, ⟨.sl true 3 (.int .i64), y.2.2.2.2.2⟩]] []) := by kernel_rfl
def k_i_Space_takeMany_oooo : Kn := ⟨182, [0, 0], fun args rows => match args, rows with
  | [.pl 0 0, .one ⟨.int .i64, x0⟩], [[⟨.sl true 23 (.sl true 5 (.int .u8)), x1⟩, ⟨.sl true 5 (.int .u8), x2⟩, ⟨.sl true 3 (.int .i64), x3⟩, ⟨.sl true 3 (.int .i64), x4⟩]] => some ⟨_, G.i_Space_takeMany_oooo x0 x1 x2 x3 x4, fun y => ⟨[.one ⟨.sl true 3 (.int .i64), y.1⟩, .one ⟨.bool, y.2.1⟩], [[⟨.sl true 23 (.sl true 5 (.int .u8)), y.2.2.1⟩, ⟨.sl true 5 (.int .u8), y.2.2.2.1⟩, ⟨.sl true 3 (.int .i64), y.2.2.2.2.1⟩, ⟨.sl true 3 (.int .i64), y.2.2.2.2.2⟩]], []⟩⟩
  | _, _ => none, []⟩
theorem s_i_Space_takeMany_oooo : KnOk Try.prog k_i_Space_takeMany_oooo := by
  intro args rows a h y hy
  simp only [k_i_Space_takeMany_oooo] at h
  split at h
  · injection h with h
    subst h
    exact vfun_ok eok_i_Space_takeMany_oooo Try.func182 rfl (by rw [v_i_Space_takeMany_oooo]; simp only at hy; rw [hy]; rfl)
  · cases h
def J_i_two : Joins := [(.r, ⟨[.sl true 5 (.int .u8)], [(2, .one (.vw 111616))], [], [(111616, 0)], [], []⟩)]
def ann_i_two : Ann := .nil
def env_i_two : Env := envOf ti [] []
theorem eok_i_two : EnvOk Try.prog env_i_two := envOf_ok tab mix _ _ (by
  intro k hk; cases hk)
theorem v_i_two (x0 : Int) : (vfun env_i_two Try.f183 J_i_two ann_i_two [] [.one ⟨.int .i64, x0⟩] []).run = (G.i_two x0).bind fun y => some (Res.mk [.one ⟨.sl true 5 (.int .u8), y⟩] [] []) := by kernel_rfl
def k_i_two : Kn := ⟨183, [0], fun args rows => match args, rows with
  | [.one ⟨.int .i64, x0⟩], [] => some ⟨_, G.i_two x0, fun y => ⟨[.one ⟨.sl true 5 (.int .u8), y⟩], [], []⟩⟩
  | _, _ => none, []⟩
theorem s_i_two : KnOk Try.prog k_i_two := by
  intro args rows a h y hy
  simp only [k_i_two] at h
  split at h
  · injection h with h
    subst h
    exact vfun_ok eok_i_two Try.func183 rfl (by rw [v_i_two]; simp only at hy; rw [hy]; rfl)
  · cases h
def J_i_padded : Joins := [(.r, ⟨[.sl true 5 (.int .u8)], [(4, .one (.vw 113664))], [], [(113664, 0)], [], []⟩)]
def ann_i_padded : Ann := .nil
def env_i_padded : Env := envOf ti [] []
theorem eok_i_padded : EnvOk Try.prog env_i_padded := envOf_ok tab mix _ _ (by
  intro k hk; cases hk)
theorem v_i_padded (x0 : List Int) (x1 : Int) : (vfun env_i_padded Try.f163 J_i_padded ann_i_padded [] [.one ⟨.sl true 5 (.int .u8), x0⟩, .one ⟨.int .i64, x1⟩] []).run = (G.i_padded x0 x1).bind fun y => some (Res.mk [.one ⟨.sl true 5 (.int .u8), y⟩] [] []) := by kernel_rfl
def k_i_padded : Kn := ⟨163, [1, 0], fun args rows => match args, rows with
  | [.one ⟨.sl true 5 (.int .u8), x0⟩, .one ⟨.int .i64, x1⟩], [] => some ⟨_, G.i_padded x0 x1, fun y => ⟨[.one ⟨.sl true 5 (.int .u8), y⟩], [], []⟩⟩
  | _, _ => none, []⟩
theorem s_i_padded : KnOk Try.prog k_i_padded := by
  intro args rows a h y hy
  simp only [k_i_padded] at h
  split at h
  · injection h with h
    subst h
    exact vfun_ok eok_i_padded Try.func163 rfl (by rw [v_i_padded]; simp only at hy; rw [hy]; rfl)
  · cases h
def J_i_Space_layRecord_oooo : Joins := [(.r, ⟨[.int .i64, .bool, .sl true 23 (.sl true 5 (.int .u8)), .sl true 5 (.int .u8), .sl true 3 (.int .i64), .sl true 3 (.int .i64)], [(4, .one (.h 0)), (5, .one (.h 1))], [(71, [.vw 174154, .vw 174155, .vw 174156, .vw 174157])], [(174154, 2), (174155, 3), (174156, 4), (174157, 5)], [], []⟩)]
def ann_i_Space_layRecord_oooo : Ann := .seq .nil (.seq .nil (.seq .nil (.seq (.seq .nil (.block [] (.loop ⟨[.sl false 5 (.int .u8), .sl true 3 (.int .i64), .int .i64, .int .i64, .sl true 23 (.sl true 5 (.int .u8)), .sl true 5 (.int .u8), .sl true 3 (.int .i64), .sl true 3 (.int .i64)], [(0, .pl 71 0), (1, .one (.h 0)), (6, .one (.vw 174080)), (23, .one (.vw 174080)), (24, .one (.h 2)), (25, .one (.h 3))], [(71, [.vw 174081, .vw 174082, .vw 174083, .vw 174084])], [(174080, 1), (174081, 4), (174082, 5), (174083, 6), (174084, 7)], [], []⟩ [(.x 0, ⟨[.sl true 3 (.int .i64), .sl true 23 (.sl true 5 (.int .u8)), .sl true 5 (.int .u8), .sl true 3 (.int .i64), .sl true 3 (.int .i64)], [(6, .one (.vw 174149))], [(71, [.vw 174150, .vw 174151, .vw 174152, .vw 174153])], [(174149, 0), (174150, 1), (174151, 2), (174152, 3), (174153, 4)], [], []⟩)] (.seq .nil (.seq .nil (.seq (.block [] (.seq .nil (.seq .nil (.seq .nil (.seq (.seq .nil (.cond [(.n, ⟨[.sl false 5 (.int .u8), .sl true 3 (.int .i64), .int .i64, .sl false 5 (.int .u8), .int .i64, .int .i64, .int .i64, .sl true 23 (.sl true 5 (.int .u8)), .sl true 5 (.int .u8), .sl true 3 (.int .i64), .sl true 3 (.int .i64)], [(0, .pl 71 0), (1, .one (.h 0)), (6, .one (.vw 174144)), (9, .one (.h 2)), (10, .one (.h 3)), (11, .one (.h 4)), (23, .one (.vw 174144)), (24, .one (.h 5)), (25, .one (.h 6))], [(71, [.vw 174145, .vw 174146, .vw 174147, .vw 174148])], [(174144, 1), (174145, 7), (174146, 8), (174147, 9), (174148, 10)], [], []⟩)] .nil .nil)) .nil))))) .nil)))))) .nil)))
def env_i_Space_layRecord_oooo : Env := envOf ti [k_i_needRecord, k_i_Space_takeMany_oooo, k_i_two, k_i_padded, k_i_Space_lay_oooo] []
theorem eok_i_Space_layRecord_oooo : EnvOk Try.prog env_i_Space_layRecord_oooo := envOf_ok tab mix _ _ (by
  intro k hk
  simp only [List.mem_cons, List.not_mem_nil, or_false] at hk
  rcases hk with rfl | rfl | rfl | rfl | rfl
  · exact s_i_needRecord
  · exact s_i_Space_takeMany_oooo
  · exact s_i_two
  · exact s_i_padded
  · exact s_i_Space_lay_oooo)
theorem v_i_Space_layRecord_oooo (x0 : List Int) (x1 : List (List Int)) (x2 : List Int) (x3 : List Int) (x4 : List Int) : (vfun env_i_Space_layRecord_oooo Try.f116 J_i_Space_layRecord_oooo ann_i_Space_layRecord_oooo [] [.pl 0 0, .one ⟨.sl false 5 (.int .u8), x0⟩] [[⟨.sl true 23 (.sl true 5 (.int .u8)), x1⟩, ⟨.sl true 5 (.int .u8), x2⟩, ⟨.sl true 3 (.int .i64), x3⟩, ⟨.sl true 3 (.int .i64), x4⟩]]).run = (G.i_Space_layRecord_oooo x0 x1 x2 x3 x4).bind fun y => some (Res.mk [.one ⟨.int .i64, y.1⟩, .one ⟨.bool, y.2.1⟩] [[⟨.sl true 23 (.sl true 5 (.int .u8)), y.2.2.1⟩, ⟨.sl true 5 (.int .u8), y.2.2.2.1⟩, ⟨.sl true 3 (.int .i64), y.2.2.2.2.1⟩, ⟨.sl true 3 (.int .i64), y.2.2.2.2.2⟩]] []) := by kernel_rfl
def k_i_Space_layRecord_oooo : Kn := ⟨116, [0, 0], fun args rows => match args, rows with
  | [.pl 0 0, .one ⟨.sl false 5 (.int .u8), x0⟩], [[⟨.sl true 23 (.sl true 5 (.int .u8)), x1⟩, ⟨.sl true 5 (.int .u8), x2⟩, ⟨.sl true 3 (.int .i64), x3⟩, ⟨.sl true 3 (.int .i64), x4⟩]] => some ⟨_, G.i_Space_layRecord_oooo x0 x1 x2 x3 x4, fun y => ⟨[.one ⟨.int .i64, y.1⟩, .one ⟨.bool, y.2.1⟩], [[⟨.sl true 23 (.sl true 5 (.int .u8)), y.2.2.1⟩, ⟨.sl true 5 (.int .u8), y.2.2.2.1⟩, ⟨.sl true 3 (.int .i64), y.2.2.2.2.1⟩, ⟨.sl true 3 (.int .i64), y.2.2.2.2.2⟩]], []⟩⟩
  | _, _ => none, []⟩
theorem s_i_Space_layRecord_oooo : KnOk Try.prog k_i_Space_layRecord_oooo := by
  intro args rows a h y hy
  simp only [k_i_Space_layRecord_oooo] at h
  split at h
  · injection h with h
    subst h
    exact vfun_ok eok_i_Space_layRecord_oooo Try.func116 rfl (by rw [v_i_Space_layRecord_oooo]; simp only at hy; rw [hy]; rfl)
  · cases h
end
end Go.Proofs.Ytggpihbcaebpjaa

set_option linter.unusedVariables false
set_option maxRecDepth 100000
namespace Go.Proofs.Ytggpihbcaebpjaa
open Go.V
noncomputable section
def J_i_LayRecord : Joins := [(.r, ⟨[.int .i64, .bool, .sl true 23 (.sl true 5 (.int .u8)), .sl true 5 (.int .u8), .sl true 3 (.int .i64), .sl true 3 (.int .i64)], [(4, .pl 4 0), (5, .one (.h 0)), (6, .one (.h 1))], [(4, [.vw 134144, .vw 134145, .vw 134146, .vw 134147])], [(134144, 2), (134145, 3), (134146, 4), (134147, 5)], [], []⟩)]
def ann_i_LayRecord : Ann := .seq .nil (.seq (.seq (.reg [(.n, ⟨[.sl false 5 (.int .u8), .bool, .sl false 23 (.sl false 5 (.int .u8)), .sl false 5 (.int .u8), .sl false 3 (.int .i64), .sl false 3 (.int .i64)], [(1, .one (.h 0)), (2, .pl 2 0), (4, .pl 4 0), (17, .one (.h 1))], [(2, [.h 2, .h 3, .h 4, .h 5]), (4, [.nil, .nil, .nil, .nil])], [], [], []⟩)]) .nil) .nil)
def env_i_LayRecord : Env := envOf ti [k_i_GoodSpace, k_i_Space_copied, k_i_Space_layRecord_oooo] []
theorem eok_i_LayRecord : EnvOk Try.prog env_i_LayRecord := envOf_ok tab mix _ _ (by
  intro k hk
  simp only [List.mem_cons, List.not_mem_nil, or_false] at hk
  rcases hk with rfl | rfl | rfl
  · exact s_i_GoodSpace
  · exact s_i_Space_copied
  · exact s_i_Space_layRecord_oooo)
theorem v_i_LayRecord (x0 : List (List Int)) (x1 : List Int) (x2 : List Int) (x3 : List Int) (x4 : List Int) : (vfun env_i_LayRecord Try.f47 J_i_LayRecord ann_i_LayRecord [] [.ag [⟨.sl false 23 (.sl false 5 (.int .u8)), x0⟩, ⟨.sl false 5 (.int .u8), x1⟩, ⟨.sl false 3 (.int .i64), x2⟩, ⟨.sl false 3 (.int .i64), x3⟩], .one ⟨.sl false 5 (.int .u8), x4⟩] []).run = (G.i_LayRecord x0 x1 x2 x3 x4).bind fun y => some (Res.mk [.ag [⟨.sl true 23 (.sl true 5 (.int .u8)), y.2.2.1⟩, ⟨.sl true 5 (.int .u8), y.2.2.2.1⟩, ⟨.sl true 3 (.int .i64), y.2.2.2.2.1⟩, ⟨.sl true 3 (.int .i64), y.2.2.2.2.2⟩], .one ⟨.int .i64, y.1⟩, .one ⟨.bool, y.2.1⟩] [] []) := by kernel_rfl
def k_i_LayRecord : Kn := ⟨47, [0, 0], fun args rows => match args, rows with
  | [.ag [⟨.sl false 23 (.sl false 5 (.int .u8)), x0⟩, ⟨.sl false 5 (.int .u8), x1⟩, ⟨.sl false 3 (.int .i64), x2⟩, ⟨.sl false 3 (.int .i64), x3⟩], .one ⟨.sl false 5 (.int .u8), x4⟩], [] => some ⟨_, G.i_LayRecord x0 x1 x2 x3 x4, fun y => ⟨[.ag [⟨.sl true 23 (.sl true 5 (.int .u8)), y.2.2.1⟩, ⟨.sl true 5 (.int .u8), y.2.2.2.1⟩, ⟨.sl true 3 (.int .i64), y.2.2.2.2.1⟩, ⟨.sl true 3 (.int .i64), y.2.2.2.2.2⟩], .one ⟨.int .i64, y.1⟩, .one ⟨.bool, y.2.1⟩], [], []⟩⟩
  | _, _ => none, []⟩
theorem s_i_LayRecord : KnOk Try.prog k_i_LayRecord := by
  intro args rows a h y hy
  simp only [k_i_LayRecord] at h
  split at h
  · injection h with h
    subst h
    exact vfun_ok eok_i_LayRecord Try.func47 rfl (by rw [v_i_LayRecord]; simp only at hy; rw [hy]; rfl)
  · cases h
def J_slices_Index_int_int : Joins := [(.r, ⟨[.int .i64], [(4, .one (.h 0))], [], [], [], []⟩)]
def ann_slices_Index_int_int : Ann := .seq .nil (.seq (.seq .nil (.block [] (.loop ⟨[.sl false 3 (.int .i64), .int .i64, .int .i64, .int .i64], [(0, .one (.h 0)), (1, .one (.h 1)), (7, .one (.h 2)), (8, .one (.h 3))], [], [], [], []⟩ [(.x 0, ⟨[], [], [], [], [], []⟩), (.r, ⟨[.int .i64], [(4, .one (.h 0))], [], [], [], []⟩)] .nil))) .nil)
def env_slices_Index_int_int : Env := envOf ti [] []
theorem eok_slices_Index_int_int : EnvOk Try.prog env_slices_Index_int_int := envOf_ok tab mix _ _ (by
  intro k hk; cases hk)
theorem v_slices_Index_int_int (x0 : List Int) (x1 : Int) : (vfun env_slices_Index_int_int Try.f207 J_slices_Index_int_int ann_slices_Index_int_int [] [.one ⟨.sl false 3 (.int .i64), x0⟩, .one ⟨.int .i64, x1⟩] []).run = (G.slices_Index_int_int x0 x1).bind fun y => some (Res.mk [.one ⟨.int .i64, y⟩] [] []) := by kernel_rfl
def k_slices_Index_int_int : Kn := ⟨207, [0, 0], fun args rows => match args, rows with
  | [.one ⟨.sl false 3 (.int .i64), x0⟩, .one ⟨.int .i64, x1⟩], [] => some ⟨_, G.slices_Index_int_int x0 x1, fun y => ⟨[.one ⟨.int .i64, y⟩], [], []⟩⟩
  | _, _ => none, []⟩
theorem s_slices_Index_int_int : KnOk Try.prog k_slices_Index_int_int := by
  intro args rows a h y hy
  simp only [k_slices_Index_int_int] at h
  split at h
  · injection h with h
    subst h
    exact vfun_ok eok_slices_Index_int_int Try.func207 rfl (by rw [v_slices_Index_int_int]; simp only at hy; rw [hy]; rfl)
  · cases h
def J_slices_Contains_int_int : Joins := [(.r, ⟨[.bool], [(4, .one (.h 0))], [], [], [], []⟩)]
def ann_slices_Contains_int_int : Ann := .nil
def env_slices_Contains_int_int : Env := envOf ti [k_slices_Index_int_int] []
theorem eok_slices_Contains_int_int : EnvOk Try.prog env_slices_Contains_int_int := envOf_ok tab mix _ _ (by
  intro k hk
  simp only [List.mem_cons, List.not_mem_nil, or_false] at hk
  rcases hk with rfl
  · exact s_slices_Index_int_int)
theorem v_slices_Contains_int_int (x0 : List Int) (x1 : Int) : (vfun env_slices_Contains_int_int Try.f161 J_slices_Contains_int_int ann_slices_Contains_int_int [] [.one ⟨.sl false 3 (.int .i64), x0⟩, .one ⟨.int .i64, x1⟩] []).run = (G.slices_Contains_int_int x0 x1).bind fun y => some (Res.mk [.one ⟨.bool, y⟩] [] []) := by kernel_rfl
def k_slices_Contains_int_int : Kn := ⟨161, [0, 0], fun args rows => match args, rows with
  | [.one ⟨.sl false 3 (.int .i64), x0⟩, .one ⟨.int .i64, x1⟩], [] => some ⟨_, G.slices_Contains_int_int x0 x1, fun y => ⟨[.one ⟨.bool, y⟩], [], []⟩⟩
  | _, _ => none, []⟩
theorem s_slices_Contains_int_int : KnOk Try.prog k_slices_Contains_int_int := by
  intro args rows a h y hy
  simp only [k_slices_Contains_int_int] at h
  split at h
  · injection h with h
    subst h
    exact vfun_ok eok_slices_Contains_int_int Try.func161 rfl (by rw [v_slices_Contains_int_int]; simp only at hy; rw [hy]; rfl)
  · cases h
def J_i_Space_isHere_ffff : Joins := [(.r, ⟨[.bool, .sl false 23 (.sl false 5 (.int .u8)), .sl false 5 (.int .u8), .sl false 3 (.int .i64), .sl false 3 (.int .i64)], [(4, .one (.h 0))], [(18, [.h 1, .h 2, .h 3, .h 4])], [], [], []⟩)]
def ann_i_Space_isHere_ffff : Ann := .seq .nil (.seq (.reg [(.n, ⟨[.bool, .sl false 23 (.sl false 5 (.int .u8)), .sl false 5 (.int .u8), .sl false 3 (.int .i64), .sl false 3 (.int .i64)], [(4, .one (.h 0))], [(18, [.h 1, .h 2, .h 3, .h 4])], [], [], []⟩)]) .nil)
def env_i_Space_isHere_ffff : Env := envOf ti [k_i_Space_isBlock_ffff, k_slices_Contains_int_int] []
theorem eok_i_Space_isHere_ffff : EnvOk Try.prog env_i_Space_isHere_ffff := envOf_ok tab mix _ _ (by
  intro k hk
  simp only [List.mem_cons, List.not_mem_nil, or_false] at hk
  rcases hk with rfl | rfl
  · exact s_i_Space_isBlock_ffff
  · exact s_slices_Contains_int_int)
theorem v_i_Space_isHere_ffff (x0 : Int) (x1 : List (List Int)) (x2 : List Int) (x3 : List Int) (x4 : List Int) : (vfun env_i_Space_isHere_ffff Try.f91 J_i_Space_isHere_ffff ann_i_Space_isHere_ffff [] [.pl 0 0, .one ⟨.int .i64, x0⟩] [[⟨.sl false 23 (.sl false 5 (.int .u8)), x1⟩, ⟨.sl false 5 (.int .u8), x2⟩, ⟨.sl false 3 (.int .i64), x3⟩, ⟨.sl false 3 (.int .i64), x4⟩]]).run = (G.i_Space_isHere_ffff x0 x1 x2 x3 x4).bind fun y => some (Res.mk [.one ⟨.bool, y.1⟩] [[⟨.sl false 23 (.sl false 5 (.int .u8)), y.2.1⟩, ⟨.sl false 5 (.int .u8), y.2.2.1⟩, ⟨.sl false 3 (.int .i64), y.2.2.2.1⟩, ⟨.sl false 3 (.int .i64), y.2.2.2.2⟩]] []) := by kernel_rfl
def k_i_Space_isHere_ffff : Kn := ⟨91, [0, 0], fun args rows => match args, rows with
  | [.pl 0 0, .one ⟨.int .i64, x0⟩], [[⟨.sl false 23 (.sl false 5 (.int .u8)), x1⟩, ⟨.sl false 5 (.int .u8), x2⟩, ⟨.sl false 3 (.int .i64), x3⟩, ⟨.sl false 3 (.int .i64), x4⟩]] => some ⟨_, G.i_Space_isHere_ffff x0 x1 x2 x3 x4, fun y => ⟨[.one ⟨.bool, y.1⟩], [[⟨.sl false 23 (.sl false 5 (.int .u8)), y.2.1⟩, ⟨.sl false 5 (.int .u8), y.2.2.1⟩, ⟨.sl false 3 (.int .i64), y.2.2.2.1⟩, ⟨.sl false 3 (.int .i64), y.2.2.2.2⟩]], []⟩⟩
  | _, _ => none, []⟩
theorem s_i_Space_isHere_ffff : KnOk Try.prog k_i_Space_isHere_ffff := by
  intro args rows a h y hy
  simp only [k_i_Space_isHere_ffff] at h
  split at h
  · injection h with h
    subst h
    exact vfun_ok eok_i_Space_isHere_ffff Try.func91 rfl (by rw [v_i_Space_isHere_ffff]; simp only at hy; rw [hy]; rfl)
  · cases h
def J_i_numberAt : Joins := [(.r, ⟨[.int .i64], [(4, .one (.h 0))], [], [], [], []⟩)]
def ann_i_numberAt : Ann := .nil
def env_i_numberAt : Env := envOf ti [] []
theorem eok_i_numberAt : EnvOk Try.prog env_i_numberAt := envOf_ok tab mix _ _ (by
  intro k hk; cases hk)
theorem v_i_numberAt (x0 : List Int) (x1 : Int) : (vfun env_i_numberAt Try.f199 J_i_numberAt ann_i_numberAt [] [.one ⟨.sl false 5 (.int .u8), x0⟩, .one ⟨.int .i64, x1⟩] []).run = (G.i_numberAt x0 x1).bind fun y => some (Res.mk [.one ⟨.int .i64, y⟩] [] []) := by kernel_rfl
def k_i_numberAt : Kn := ⟨199, [0, 0], fun args rows => match args, rows with
  | [.one ⟨.sl false 5 (.int .u8), x0⟩, .one ⟨.int .i64, x1⟩], [] => some ⟨_, G.i_numberAt x0 x1, fun y => ⟨[.one ⟨.int .i64, y⟩], [], []⟩⟩
  | _, _ => none, []⟩
theorem s_i_numberAt : KnOk Try.prog k_i_numberAt := by
  intro args rows a h y hy
  simp only [k_i_numberAt] at h
  split at h
  · injection h with h
    subst h
    exact vfun_ok eok_i_numberAt Try.func199 rfl (by rw [v_i_numberAt]; simp only at hy; rw [hy]; rfl)
  · cases h
def J_i_Space_record_1 : Joins := [(.r, ⟨[.bool], [(2, .one (.h 0))], [], [], [], []⟩)]
def ann_i_Space_record_1 : Ann := .nil
def env_i_Space_record_1 : Env := envOf ti [] []
theorem eok_i_Space_record_1 : EnvOk Try.prog env_i_Space_record_1 := envOf_ok tab mix _ _ (by
  intro k hk; cases hk)
theorem v_i_Space_record_1 (x0 : Int) : (vfun env_i_Space_record_1 Try.f201 J_i_Space_record_1 ann_i_Space_record_1 [] [.one ⟨.int .u8, x0⟩] []).run = (G.i_Space_record_1 x0).bind fun y => some (Res.mk [.one ⟨.bool, y⟩] [] []) := by kernel_rfl
def k_i_Space_record_1 : Kn := ⟨201, [0], fun args rows => match args, rows with
  | [.one ⟨.int .u8, x0⟩], [] => some ⟨_, G.i_Space_record_1 x0, fun y => ⟨[.one ⟨.bool, y⟩], [], []⟩⟩
  | _, _ => none, []⟩
theorem s_i_Space_record_1 : KnOk Try.prog k_i_Space_record_1 := by
  intro args rows a h y hy
  simp only [k_i_Space_record_1] at h
  split at h
  · injection h with h
    subst h
    exact vfun_ok eok_i_Space_record_1 Try.func201 rfl (by rw [v_i_Space_record_1]; simp only at hy; rw [hy]; rfl)
  · cases h
def J_slices_IndexFunc_byte_byte_i_Space_record_1 : Joins := [(.r, ⟨[.int .i64], [(4, .one (.h 0))], [], [], [], []⟩)]
def ann_slices_IndexFunc_byte_byte_i_Space_record_1 : Ann := .seq .nil (.seq (.seq .nil (.block [] (.loop ⟨[.sl false 5 (.int .u8), .int .i64, .int .i64], [(0, .one (.h 0)), (1, .fv 201 []), (7, .one (.h 1)), (8, .one (.h 2))], [], [], [], []⟩ [(.x 0, ⟨[], [], [], [], [], []⟩), (.r, ⟨[.int .i64], [(4, .one (.h 0))], [], [], [], []⟩)] .nil))) .nil)
def env_slices_IndexFunc_byte_byte_i_Space_record_1 : Env := envOf ti [k_i_Space_record_1] []
theorem eok_slices_IndexFunc_byte_byte_i_Space_record_1 : EnvOk Try.prog env_slices_IndexFunc_byte_byte_i_Space_record_1 := envOf_ok tab mix _ _ (by
  intro k hk
  simp only [List.mem_cons, List.not_mem_nil, or_false] at hk
  rcases hk with rfl
  · exact s_i_Space_record_1)
theorem v_slices_IndexFunc_byte_byte_i_Space_record_1 (x0 : List Int) : (vfun env_slices_IndexFunc_byte_byte_i_Space_record_1 Try.f225 J_slices_IndexFunc_byte_byte_i_Space_record_1 ann_slices_IndexFunc_byte_byte_i_Space_record_1 [] [.one ⟨.sl false 5 (.int .u8), x0⟩, .fv 201 []] []).run = (G.slices_IndexFunc_byte_byte_i_Space_record_1 x0).bind fun y => some (Res.mk [.one ⟨.int .i64, y⟩] [] []) := by kernel_rfl
def k_slices_IndexFunc_byte_byte_i_Space_record_1 : Kn := ⟨225, [0, 0], fun args rows => match args, rows with
  | [.one ⟨.sl false 5 (.int .u8), x0⟩, .fv 201 []], [] => some ⟨_, G.slices_IndexFunc_byte_byte_i_Space_record_1 x0, fun y => ⟨[.one ⟨.int .i64, y⟩], [], []⟩⟩
  | _, _ => none, []⟩
theorem s_slices_IndexFunc_byte_byte_i_Space_record_1 : KnOk Try.prog k_slices_IndexFunc_byte_byte_i_Space_record_1 := by
  intro args rows a h y hy
  simp only [k_slices_IndexFunc_byte_byte_i_Space_record_1] at h
  split at h
  · injection h with h
    subst h
    exact vfun_ok eok_slices_IndexFunc_byte_byte_i_Space_record_1 Try.func225 rfl (by rw [v_slices_IndexFunc_byte_byte_i_Space_record_1]; simp only at hy; rw [hy]; rfl)
  · cases h
def J_slices_ContainsFunc_byte_byte_i_Space_record_1 : Joins := [(.r, ⟨[.bool], [(4, .one (.h 0))], [], [], [], []⟩)]
def ann_slices_ContainsFunc_byte_byte_i_Space_record_1 : Ann := .nil
def env_slices_ContainsFunc_byte_byte_i_Space_record_1 : Env := envOf ti [k_slices_IndexFunc_byte_byte_i_Space_record_1] []
theorem eok_slices_ContainsFunc_byte_byte_i_Space_record_1 : EnvOk Try.prog env_slices_ContainsFunc_byte_byte_i_Space_record_1 := envOf_ok tab mix _ _ (by
  intro k hk
  simp only [List.mem_cons, List.not_mem_nil, or_false] at hk
  rcases hk with rfl
  · exact s_slices_IndexFunc_byte_byte_i_Space_record_1)
theorem v_slices_ContainsFunc_byte_byte_i_Space_record_1 (x0 : List Int) : (vfun env_slices_ContainsFunc_byte_byte_i_Space_record_1 Try.f200 J_slices_ContainsFunc_byte_byte_i_Space_record_1 ann_slices_ContainsFunc_byte_byte_i_Space_record_1 [] [.one ⟨.sl false 5 (.int .u8), x0⟩, .fv 201 []] []).run = (G.slices_ContainsFunc_byte_byte_i_Space_record_1 x0).bind fun y => some (Res.mk [.one ⟨.bool, y⟩] [] []) := by kernel_rfl
def k_slices_ContainsFunc_byte_byte_i_Space_record_1 : Kn := ⟨200, [0, 0], fun args rows => match args, rows with
  | [.one ⟨.sl false 5 (.int .u8), x0⟩, .fv 201 []], [] => some ⟨_, G.slices_ContainsFunc_byte_byte_i_Space_record_1 x0, fun y => ⟨[.one ⟨.bool, y⟩], [], []⟩⟩
  | _, _ => none, []⟩
theorem s_slices_ContainsFunc_byte_byte_i_Space_record_1 : KnOk Try.prog k_slices_ContainsFunc_byte_byte_i_Space_record_1 := by
  intro args rows a h y hy
  simp only [k_slices_ContainsFunc_byte_byte_i_Space_record_1] at h
  split at h
  · injection h with h
    subst h
    exact vfun_ok eok_slices_ContainsFunc_byte_byte_i_Space_record_1 Try.func200 rfl (by rw [v_slices_ContainsFunc_byte_byte_i_Space_record_1]; simp only at hy; rw [hy]; rfl)
  · cases h
def J_i_Space_record_ffff : Joins := [(.r, ⟨[.sl true 5 (.int .u8), .sl true 3 (.int .i64), .bool, .sl false 23 (.sl false 5 (.int .u8)), .sl false 5 (.int .u8), .sl false 3 (.int .i64), .sl false 3 (.int .i64)], [(4, .one (.vw 195654)), (5, .one (.vw 195655)), (6, .one (.h 2))], [(92, [.h 3, .h 4, .h 5, .h 6])], [(195654, 0), (195655, 1)], [], []⟩)]
def ann_i_Space_record_ffff : Ann := .seq .nil (.seq .nil (.block [] (.loop ⟨[.int .i64, .sl true 5 (.int .u8), .sl true 3 (.int .i64), .sl false 23 (.sl false 5 (.int .u8)), .sl false 5 (.int .u8), .sl false 3 (.int .i64), .sl false 3 (.int .i64)], [(0, .pl 92 0), (1, .one (.h 0)), (7, .one (.vw 195584)), (8, .one (.vw 195585))], [(92, [.h 3, .h 4, .h 5, .h 6])], [(195584, 1), (195585, 2)], [], []⟩ [(.r, ⟨[.sl true 5 (.int .u8), .sl true 3 (.int .i64), .bool, .sl false 23 (.sl false 5 (.int .u8)), .sl false 5 (.int .u8), .sl false 3 (.int .i64), .sl false 3 (.int .i64)], [(4, .one (.vw 195652)), (5, .one (.vw 195653)), (6, .one (.h 2))], [(92, [.h 3, .h 4, .h 5, .h 6])], [(195652, 0), (195653, 1)], [], []⟩)] (.block [] (.seq (.seq (.reg [(.n, ⟨[.int .i64, .sl true 5 (.int .u8), .sl true 3 (.int .i64), .bool, .sl false 23 (.sl false 5 (.int .u8)), .sl false 5 (.int .u8), .sl false 3 (.int .i64), .sl false 3 (.int .i64)], [(0, .pl 92 0), (1, .one (.h 0)), (7, .one (.vw 195648)), (8, .one (.vw 195649)), (28, .one (.h 3))], [(92, [.h 4, .h 5, .h 6, .h 7])], [(195648, 1), (195649, 2)], [], []⟩)]) .nil) (.seq .nil (.seq .nil (.seq .nil (.seq (.seq (.reg [(.n, ⟨[.int .i64, .sl true 5 (.int .u8), .sl true 3 (.int .i64), .sl false 5 (.int .u8), .int .i64, .int .i64, .bool, .sl false 23 (.sl false 5 (.int .u8)), .sl false 5 (.int .u8), .sl false 3 (.int .i64), .sl false 3 (.int .i64)], [(0, .pl 92 0), (1, .one (.h 0)), (7, .one (.vw 195650)), (8, .one (.vw 195651)), (9, .one (.h 3)), (10, .one (.h 4)), (11, .one (.h 5)), (75, .one (.h 6))], [(92, [.h 7, .h 8, .h 9, .h 10])], [(195650, 1), (195651, 2)], [], []⟩)]) .nil) .nil)))))))))
def env_i_Space_record_ffff : Env := envOf ti [k_i_Space_isHere_ffff, k_slices_Contains_int_int, k_i_numberAt, k_slices_ContainsFunc_byte_byte_i_Space_record_1] []
theorem eok_i_Space_record_ffff : EnvOk Try.prog env_i_Space_record_ffff := envOf_ok tab mix _ _ (by
  intro k hk
  simp only [List.mem_cons, List.not_mem_nil, or_false] at hk
  rcases hk with rfl | rfl | rfl | rfl
  · exact s_i_Space_isHere_ffff
  · exact s_slices_Contains_int_int
  · exact s_i_numberAt
  · exact s_slices_ContainsFunc_byte_byte_i_Space_record_1)
theorem v_i_Space_record_ffff (x0 : Int) (x1 : List (List Int)) (x2 : List Int) (x3 : List Int) (x4 : List Int) : (vfun env_i_Space_record_ffff Try.f140 J_i_Space_record_ffff ann_i_Space_record_ffff [] [.pl 0 0, .one ⟨.int .i64, x0⟩] [[⟨.sl false 23 (.sl false 5 (.int .u8)), x1⟩, ⟨.sl false 5 (.int .u8), x2⟩, ⟨.sl false 3 (.int .i64), x3⟩, ⟨.sl false 3 (.int .i64), x4⟩]]).run = (G.i_Space_record_ffff x0 x1 x2 x3 x4).bind fun y => some (Res.mk [.one ⟨.sl true 5 (.int .u8), y.1⟩, .one ⟨.sl true 3 (.int .i64), y.2.1⟩, .one ⟨.bool, y.2.2.1⟩] [[⟨.sl false 23 (.sl false 5 (.int .u8)), y.2.2.2.1⟩, ⟨.sl false 5 (.int .u8), y.2.2.2.2.1⟩, ⟨.sl false 3 (.int .i64), y.2.2.2.2.2.1⟩, ⟨.sl false 3 (.int .i64), y.2.2.2.2.2.2⟩]] []) := by kernel_rfl
def k_i_Space_record_ffff : Kn := ⟨140, [0, 0], fun args rows => match args, rows with
  | [.pl 0 0, .one ⟨.int .i64, x0⟩], [[⟨.sl false 23 (.sl false 5 (.int .u8)), x1⟩, ⟨.sl false 5 (.int .u8), x2⟩, ⟨.sl false 3 (.int .i64), x3⟩, ⟨.sl false 3 (.int .i64), x4⟩]] => some ⟨_, G.i_Space_record_ffff x0 x1 x2 x3 x4, fun y => ⟨[.one ⟨.sl true 5 (.int .u8), y.1⟩, .one ⟨.sl true 3 (.int .i64), y.2.1⟩, .one ⟨.bool, y.2.2.1⟩], [[⟨.sl false 23 (.sl false 5 (.int .u8)), y.2.2.2.1⟩, ⟨.sl false 5 (.int .u8), y.2.2.2.2.1⟩, ⟨.sl false 3 (.int .i64), y.2.2.2.2.2.1⟩, ⟨.sl false 3 (.int .i64), y.2.2.2.2.2.2⟩]], []⟩⟩
  | _, _ => none, []⟩
theorem s_i_Space_record_ffff : KnOk Try.prog k_i_Space_record_ffff := by
  intro args rows a h y hy
  simp only [k_i_Space_record_ffff] at h
  split at h
  · injection h with h
    subst h
    exact vfun_ok eok_i_Space_record_ffff Try.func140 rfl (by rw [v_i_Space_record_ffff]; simp only at hy; rw [hy]; rfl)
  · cases h
def J_i_RecordAt : Joins := [(.r, ⟨[.sl true 5 (.int .u8), .sl true 3 (.int .i64), .bool], [(4, .one (.vw 117760)), (5, .one (.vw 117761)), (6, .one (.h 2))], [], [(117760, 0), (117761, 1)], [], []⟩)]
def ann_i_RecordAt : Ann := .nil
def env_i_RecordAt : Env := envOf ti [k_i_GoodSpace, k_i_Space_record_ffff] []
theorem eok_i_RecordAt : EnvOk Try.prog env_i_RecordAt := envOf_ok tab mix _ _ (by
  intro k hk
  simp only [List.mem_cons, List.not_mem_nil, or_false] at hk
  rcases hk with rfl | rfl
  · exact s_i_GoodSpace
  · exact s_i_Space_record_ffff)
theorem v_i_RecordAt (x0 : List (List Int)) (x1 : List Int) (x2 : List Int) (x3 : List Int) (x4 : Int) : (vfun env_i_RecordAt Try.f61 J_i_RecordAt ann_i_RecordAt [] [.ag [⟨.sl false 23 (.sl false 5 (.int .u8)), x0⟩, ⟨.sl false 5 (.int .u8), x1⟩, ⟨.sl false 3 (.int .i64), x2⟩, ⟨.sl false 3 (.int .i64), x3⟩], .one ⟨.int .i64, x4⟩] []).run = (G.i_RecordAt x0 x1 x2 x3 x4).bind fun y => some (Res.mk [.one ⟨.sl true 5 (.int .u8), y.1⟩, .one ⟨.sl true 3 (.int .i64), y.2.1⟩, .one ⟨.bool, y.2.2⟩] [] []) := by kernel_rfl
def k_i_RecordAt : Kn := ⟨61, [0, 0], fun args rows => match args, rows with
  | [.ag [⟨.sl false 23 (.sl false 5 (.int .u8)), x0⟩, ⟨.sl false 5 (.int .u8), x1⟩, ⟨.sl false 3 (.int .i64), x2⟩, ⟨.sl false 3 (.int .i64), x3⟩], .one ⟨.int .i64, x4⟩], [] => some ⟨_, G.i_RecordAt x0 x1 x2 x3 x4, fun y => ⟨[.one ⟨.sl true 5 (.int .u8), y.1⟩, .one ⟨.sl true 3 (.int .i64), y.2.1⟩, .one ⟨.bool, y.2.2⟩], [], []⟩⟩
  | _, _ => none, []⟩
theorem s_i_RecordAt : KnOk Try.prog k_i_RecordAt := by
  intro args rows a h y hy
  simp only [k_i_RecordAt] at h
  split at h
  · injection h with h
    subst h
    exact vfun_ok eok_i_RecordAt Try.func61 rfl (by rw [v_i_RecordAt]; simp only at hy; rw [hy]; rfl)
  · cases h
def J_i_NeedForRecord : Joins := [(.r, ⟨[.int .i64], [(2, .one (.h 0))], [], [], [], []⟩)]
def ann_i_NeedForRecord : Ann := .nil
def env_i_NeedForRecord : Env := envOf ti [k_i_needRecord] []
theorem eok_i_NeedForRecord : EnvOk Try.prog env_i_NeedForRecord := envOf_ok tab mix _ _ (by
  intro k hk
  simp only [List.mem_cons, List.not_mem_nil, or_false] at hk
  rcases hk with rfl
  · exact s_i_needRecord)
theorem v_i_NeedForRecord (x0 : List Int) : (vfun env_i_NeedForRecord Try.f62 J_i_NeedForRecord ann_i_NeedForRecord [] [.one ⟨.sl false 5 (.int .u8), x0⟩] []).run = (G.i_NeedForRecord x0).bind fun y => some (Res.mk [.one ⟨.int .i64, y⟩] [] []) := by kernel_rfl
def k_i_NeedForRecord : Kn := ⟨62, [0], fun args rows => match args, rows with
  | [.one ⟨.sl false 5 (.int .u8), x0⟩], [] => some ⟨_, G.i_NeedForRecord x0, fun y => ⟨[.one ⟨.int .i64, y⟩], [], []⟩⟩
  | _, _ => none, []⟩
theorem s_i_NeedForRecord : KnOk Try.prog k_i_NeedForRecord := by
  intro args rows a h y hy
  simp only [k_i_NeedForRecord] at h
  split at h
  · injection h with h
    subst h
    exact vfun_ok eok_i_NeedForRecord Try.func62 rfl (by rw [v_i_NeedForRecord]; simp only at hy; rw [hy]; rfl)
  · cases h
end
end Go.Proofs.Ytggpihbcaebpjaa

set_option linter.unusedVariables false
set_option maxRecDepth 100000
namespace Go.Proofs.Ytggpihbcaebpjaa
open Go.V
noncomputable section
def J_s_l7Text : Joins := [(.r, ⟨[.str, .sl true 3 (.int .i64), .bool], [(4, .one (.h 0)), (5, .one (.vw 140353)), (6, .one (.h 2))], [], [(140353, 1)], [], []⟩)]
def ann_s_l7Text : Ann := .seq .nil (.seq .nil (.seq .nil (.seq .nil (.seq (.seq .nil (.block [] (.loop ⟨[.int .i64, .sl true 3 (.int .i64), .str, .int .i64, .int .i64, .sl false 23 (.sl false 5 (.int .u8)), .sl false 5 (.int .u8), .sl false 3 (.int .i64), .sl false 3 (.int .i64)], [(1, .one (.h 0)), (2, .pl 2 0), (7, .one (.vw 140288)), (9, .one (.h 2)), (20, .one (.vw 140288)), (21, .one (.h 3)), (22, .one (.h 4))], [(2, [.h 5, .h 6, .h 7, .h 8])], [(140288, 1)], [], []⟩ [(.x 0, ⟨[.int .i64, .sl true 3 (.int .i64), .str], [(1, .one (.h 0)), (7, .one (.vw 140352)), (9, .one (.h 2))], [], [(140352, 1)], [], []⟩)] .nil))) .nil))))
def env_s_l7Text : Env := envOf ti [k_s_l7Pieces, k_s_l7Piece] []
theorem eok_s_l7Text : EnvOk Try.prog env_s_l7Text := envOf_ok tab mix _ _ (by
  intro k hk
  simp only [List.mem_cons, List.not_mem_nil, or_false] at hk
  rcases hk with rfl | rfl
  · exact s_s_l7Pieces
  · exact s_s_l7Piece)
theorem v_s_l7Text (x0 : List (List Int)) (x1 : List Int) (x2 : List Int) (x3 : List Int) (x4 : Int) : (vfun env_s_l7Text Try.f145 J_s_l7Text ann_s_l7Text [] [.ag [⟨.sl false 23 (.sl false 5 (.int .u8)), x0⟩, ⟨.sl false 5 (.int .u8), x1⟩, ⟨.sl false 3 (.int .i64), x2⟩, ⟨.sl false 3 (.int .i64), x3⟩], .one ⟨.int .i64, x4⟩] []).run = (G.s_l7Text x0 x1 x2 x3 x4).bind fun y => some (Res.mk [.one ⟨.str, y.1⟩, .one ⟨.sl true 3 (.int .i64), y.2.1⟩, .one ⟨.bool, y.2.2⟩] [] []) := by kernel_rfl
def k_s_l7Text : Kn := ⟨145, [0, 0], fun args rows => match args, rows with
  | [.ag [⟨.sl false 23 (.sl false 5 (.int .u8)), x0⟩, ⟨.sl false 5 (.int .u8), x1⟩, ⟨.sl false 3 (.int .i64), x2⟩, ⟨.sl false 3 (.int .i64), x3⟩], .one ⟨.int .i64, x4⟩], [] => some ⟨_, G.s_l7Text x0 x1 x2 x3 x4, fun y => ⟨[.one ⟨.str, y.1⟩, .one ⟨.sl true 3 (.int .i64), y.2.1⟩, .one ⟨.bool, y.2.2⟩], [], []⟩⟩
  | _, _ => none, []⟩
theorem s_s_l7Text : KnOk Try.prog k_s_l7Text := by
  intro args rows a h y hy
  simp only [k_s_l7Text] at h
  split at h
  · injection h with h
    subst h
    exact vfun_ok eok_s_l7Text Try.func145 rfl (by rw [v_s_l7Text]; simp only at hy; rw [hy]; rfl)
  · cases h
def J_s_TextIn : Joins := [(.r, ⟨[.str, .sl true 3 (.int .i64), .bool], [(4, .one (.h 0)), (5, .one (.vw 118784)), (6, .one (.h 2))], [], [(118784, 1)], [], []⟩)]
def ann_s_TextIn : Ann := .nil
def env_s_TextIn : Env := envOf ti [k_s_GoodSpace, k_s_l7Text] []
theorem eok_s_TextIn : EnvOk Try.prog env_s_TextIn := envOf_ok tab mix _ _ (by
  intro k hk
  simp only [List.mem_cons, List.not_mem_nil, or_false] at hk
  rcases hk with rfl | rfl
  · exact s_s_GoodSpace
  · exact s_s_l7Text)
theorem v_s_TextIn (x0 : List (List Int)) (x1 : List Int) (x2 : List Int) (x3 : List Int) (x4 : Int) : (vfun env_s_TextIn Try.f65 J_s_TextIn ann_s_TextIn [] [.ag [⟨.sl false 23 (.sl false 5 (.int .u8)), x0⟩, ⟨.sl false 5 (.int .u8), x1⟩, ⟨.sl false 3 (.int .i64), x2⟩, ⟨.sl false 3 (.int .i64), x3⟩], .one ⟨.int .i64, x4⟩] []).run = (G.s_TextIn x0 x1 x2 x3 x4).bind fun y => some (Res.mk [.one ⟨.str, y.1⟩, .one ⟨.sl true 3 (.int .i64), y.2.1⟩, .one ⟨.bool, y.2.2⟩] [] []) := by kernel_rfl
def k_s_TextIn : Kn := ⟨65, [0, 0], fun args rows => match args, rows with
  | [.ag [⟨.sl false 23 (.sl false 5 (.int .u8)), x0⟩, ⟨.sl false 5 (.int .u8), x1⟩, ⟨.sl false 3 (.int .i64), x2⟩, ⟨.sl false 3 (.int .i64), x3⟩], .one ⟨.int .i64, x4⟩], [] => some ⟨_, G.s_TextIn x0 x1 x2 x3 x4, fun y => ⟨[.one ⟨.str, y.1⟩, .one ⟨.sl true 3 (.int .i64), y.2.1⟩, .one ⟨.bool, y.2.2⟩], [], []⟩⟩
  | _, _ => none, []⟩
theorem s_s_TextIn : KnOk Try.prog k_s_TextIn := by
  intro args rows a h y hy
  simp only [k_s_TextIn] at h
  split at h
  · injection h with h
    subst h
    exact vfun_ok eok_s_TextIn Try.func65 rfl (by rw [v_s_TextIn]; simp only at hy; rw [hy]; rfl)
  · cases h
def J_s_l1Cur_firstOf_l_f : Joins := [(.r, ⟨[.sl true 3 (.int .i64), .int .i64, .sl false 5 (.int .u8), .int .i64, .int .u64], [(1, .one (.vw 124929)), (4, .one (.h 1))], [(23, [.h 2, .h 3, .h 4])], [(124929, 0)], [], []⟩)]
def ann_s_l1Cur_firstOf_l_f : Ann := .seq .nil (.seq (.seq (.reg [(.n, ⟨[.sl true 3 (.int .i64), .bool, .sl false 5 (.int .u8), .int .i64, .int .u64], [(0, .pl 23 0), (1, .one (.vw 124928)), (11, .one (.h 1))], [(23, [.h 2, .h 3, .h 4])], [(124928, 0)], [], []⟩)]) .nil) .nil)
def env_s_l1Cur_firstOf_l_f : Env := envOf ti [k_s_l1Cur_one_f, k_s_l1Cur_among_f, k_s_l1Cur_pick_f] [1]
theorem eok_s_l1Cur_firstOf_l_f : EnvOk Try.prog env_s_l1Cur_firstOf_l_f := envOf_ok tab mix _ _ (by
  intro k hk
  simp only [List.mem_cons, List.not_mem_nil, or_false] at hk
  rcases hk with rfl | rfl | rfl
  · exact s_s_l1Cur_one_f
  · exact s_s_l1Cur_among_f
  · exact s_s_l1Cur_pick_f)
theorem v_s_l1Cur_firstOf_l_f (x0 : List Int) (x1 : List Int) (x2 : Int) (x3 : Int) : (vfun env_s_l1Cur_firstOf_l_f Try.f143 J_s_l1Cur_firstOf_l_f ann_s_l1Cur_firstOf_l_f [(1, 0)] [.pl 0 0, .one ⟨.sl true 3 (.int .i64), x0⟩] [[⟨.sl false 5 (.int .u8), x1⟩, ⟨.int .i64, x2⟩, ⟨.int .u64, x3⟩]]).run = (G.s_l1Cur_firstOf_l_f x0 x1 x2 x3).bind fun y => some (Res.mk [.one ⟨.int .i64, y.2.1⟩] [[⟨.sl false 5 (.int .u8), y.2.2.1⟩, ⟨.int .i64, y.2.2.2.1⟩, ⟨.int .u64, y.2.2.2.2⟩]] [((1, 0), ⟨.sl true 3 (.int .i64), y.1⟩)]) := by kernel_rfl
def k_s_l1Cur_firstOf_l_f : Kn := ⟨143, [0, 2], fun args rows => match args, rows with
  | [.pl 0 0, .one ⟨.sl true 3 (.int .i64), x0⟩], [[⟨.sl false 5 (.int .u8), x1⟩, ⟨.int .i64, x2⟩, ⟨.int .u64, x3⟩]] => some ⟨_, G.s_l1Cur_firstOf_l_f x0 x1 x2 x3, fun y => ⟨[.one ⟨.int .i64, y.2.1⟩], [[⟨.sl false 5 (.int .u8), y.2.2.1⟩, ⟨.int .i64, y.2.2.2.1⟩, ⟨.int .u64, y.2.2.2.2⟩]], [((1, 0), ⟨.sl true 3 (.int .i64), y.1⟩)]⟩⟩
  | _, _ => none, []⟩
theorem s_s_l1Cur_firstOf_l_f : KnOk Try.prog k_s_l1Cur_firstOf_l_f := by
  intro args rows a h y hy
  simp only [k_s_l1Cur_firstOf_l_f] at h
  split at h
  · injection h with h
    subst h
    exact vfun_ok eok_s_l1Cur_firstOf_l_f Try.func143 rfl (by rw [v_s_l1Cur_firstOf_l_f]; simp only at hy; rw [hy]; rfl)
  · cases h
def J_s_DrawLayText : Joins := [(.r, ⟨[.str, .int .i64, .sl true 23 (.sl true 5 (.int .u8)), .sl true 5 (.int .u8), .sl true 3 (.int .i64), .sl true 3 (.int .i64)], [(2, .pl 2 0), (3, .one (.h 0)), (4, .one (.h 1))], [(2, [.vw 180325, .vw 180326, .vw 180327, .vw 180328])], [(180325, 2), (180326, 3), (180327, 4), (180328, 5)], [], []⟩)]
def ann_s_DrawLayText : Ann := .seq .nil (.seq .nil (.seq .nil (.seq .nil (.seq .nil (.seq (.seq (.reg [(.n, ⟨[.sl true 3 (.int .i64), .int .i64, .str, .bool, .sl true 23 (.sl true 5 (.int .u8)), .sl true 5 (.int .u8), .sl true 3 (.int .i64), .sl true 3 (.int .i64), .sl false 5 (.int .u8), .int .i64, .int .u64], [(2, .pl 2 0), (5, .pl 16 0), (6, .pl 6 0), (8, .one (.vw 180224)), (9, .one (.h 1)), (10, .one (.h 2)), (32, .one (.h 3))], [(2, [.nil, .nil, .nil, .nil]), (6, [.vw 180225, .vw 180226, .vw 180227, .vw 180228]), (16, [.h 8, .h 9, .h 10])], [(180224, 0), (180225, 4), (180226, 5), (180227, 6), (180228, 7)], [], []⟩)]) (.cond [(.n, ⟨[.int .i64, .str, .sl true 23 (.sl true 5 (.int .u8)), .sl true 5 (.int .u8), .sl true 3 (.int .i64), .sl true 3 (.int .i64), .sl false 5 (.int .u8), .int .i64, .int .u64], [(2, .pl 2 0), (5, .pl 16 0), (6, .pl 6 0), (9, .one (.h 0)), (10, .one (.h 1))], [(2, [.nil, .nil, .nil, .nil]), (6, [.vw 180245, .vw 180246, .vw 180247, .vw 180248]), (16, [.h 6, .h 7, .h 8])], [(180245, 2), (180246, 3), (180247, 4), (180248, 5)], [], []⟩)] (.seq .nil (.seq .nil (.seq (.reg [(.n, ⟨[.int .i64, .str, .str, .bool, .sl true 23 (.sl true 5 (.int .u8)), .sl true 5 (.int .u8), .sl true 3 (.int .i64), .sl true 3 (.int .i64), .sl false 5 (.int .u8), .int .i64, .int .u64], [(2, .pl 2 0), (5, .pl 16 0), (6, .pl 6 0), (9, .one (.h 0)), (10, .one (.h 1)), (11, .one (.h 2)), (47, .one (.h 3))], [(2, [.nil, .nil, .nil, .nil]), (6, [.vw 180229, .vw 180230, .vw 180231, .vw 180232]), (16, [.h 8, .h 9, .h 10])], [(180229, 4), (180230, 5), (180231, 6), (180232, 7)], [], []⟩)]) (.cond [(.n, ⟨[.int .i64, .str, .sl true 23 (.sl true 5 (.int .u8)), .sl true 5 (.int .u8), .sl true 3 (.int .i64), .sl true 3 (.int .i64), .sl false 5 (.int .u8), .int .i64, .int .u64], [(2, .pl 2 0), (5, .pl 16 0), (6, .pl 6 0), (9, .one (.h 0)), (10, .one (.h 1))], [(2, [.nil, .nil, .nil, .nil]), (6, [.vw 180241, .vw 180242, .vw 180243, .vw 180244]), (16, [.h 6, .h 7, .h 8])], [(180241, 2), (180242, 3), (180243, 4), (180244, 5)], [], []⟩)] (.seq .nil (.seq (.reg [(.n, ⟨[.int .i64, .str, .str, .bool, .sl true 23 (.sl true 5 (.int .u8)), .sl true 5 (.int .u8), .sl true 3 (.int .i64), .sl true 3 (.int .i64), .sl false 5 (.int .u8), .int .i64, .int .u64], [(2, .pl 2 0), (5, .pl 16 0), (6, .pl 6 0), (9, .one (.h 0)), (10, .one (.h 1)), (11, .one (.h 2)), (55, .one (.h 3))], [(2, [.nil, .nil, .nil, .nil]), (6, [.vw 180233, .vw 180234, .vw 180235, .vw 180236]), (16, [.h 8, .h 9, .h 10])], [(180233, 4), (180234, 5), (180235, 6), (180236, 7)], [], []⟩)]) (.cond [(.n, ⟨[.int .i64, .str, .sl true 23 (.sl true 5 (.int .u8)), .sl true 5 (.int .u8), .sl true 3 (.int .i64), .sl true 3 (.int .i64), .sl false 5 (.int .u8), .int .i64, .int .u64], [(2, .pl 2 0), (5, .pl 16 0), (6, .pl 6 0), (9, .one (.h 0)), (10, .one (.h 1))], [(2, [.nil, .nil, .nil, .nil]), (6, [.vw 180237, .vw 180238, .vw 180239, .vw 180240]), (16, [.h 6, .h 7, .h 8])], [(180237, 2), (180238, 3), (180239, 4), (180240, 5)], [], []⟩)] .nil .nil))) .nil)))) .nil)) (.seq (.seq .nil (.cond [(.n, ⟨[.int .i64, .str, .sl true 23 (.sl true 5 (.int .u8)), .sl true 5 (.int .u8), .sl true 3 (.int .i64), .sl true 3 (.int .i64), .sl false 5 (.int .u8), .int .i64, .int .u64], [(2, .pl 2 0), (5, .pl 16 0), (6, .pl 6 0), (9, .one (.h 0)), (10, .one (.h 1))], [(2, [.nil, .nil, .nil, .nil]), (6, [.vw 180317, .vw 180318, .vw 180319, .vw 180320]), (16, [.h 6, .h 7, .h 8])], [(180317, 2), (180318, 3), (180319, 4), (180320, 5)], [], []⟩)] (.block [] (.loop ⟨[.int .i64, .str, .sl true 23 (.sl true 5 (.int .u8)), .sl true 5 (.int .u8), .sl true 3 (.int .i64), .sl true 3 (.int .i64), .sl false 5 (.int .u8), .int .i64, .int .u64], [(2, .pl 2 0), (5, .pl 16 0), (6, .pl 6 0), (9, .one (.h 0)), (10, .one (.h 1))], [(2, [.nil, .nil, .nil, .nil]), (6, [.vw 180249, .vw 180250, .vw 180251, .vw 180252]), (16, [.h 6, .h 7, .h 8])], [(180249, 2), (180250, 3), (180251, 4), (180252, 5)], [], []⟩ [(.x 0, ⟨[.int .i64, .str, .sl true 23 (.sl true 5 (.int .u8)), .sl true 5 (.int .u8), .sl true 3 (.int .i64), .sl true 3 (.int .i64), .sl false 5 (.int .u8), .int .i64, .int .u64], [(2, .pl 2 0), (5, .pl 16 0), (6, .pl 6 0), (9, .one (.h 0)), (10, .one (.h 1))], [(2, [.nil, .nil, .nil, .nil]), (6, [.vw 180313, .vw 180314, .vw 180315, .vw 180316]), (16, [.h 6, .h 7, .h 8])], [(180313, 2), (180314, 3), (180315, 4), (180316, 5)], [], []⟩)] .nil)) .nil)) (.seq (.seq .nil (.cond [(.n, ⟨[.int .i64, .str, .sl true 23 (.sl true 5 (.int .u8)), .sl true 5 (.int .u8), .sl true 3 (.int .i64), .sl true 3 (.int .i64)], [(2, .pl 2 0), (6, .pl 6 0), (9, .one (.h 0)), (10, .one (.h 1))], [(2, [.nil, .nil, .nil, .nil]), (6, [.vw 180321, .vw 180322, .vw 180323, .vw 180324])], [(180321, 2), (180322, 3), (180323, 4), (180324, 5)], [], []⟩)] .nil .nil)) .nil)))))))
def env_s_DrawLayText : Env := envOf ti [k_s_l1Cur_stocked_f, k_s_l1Cur_textSome_f, k_s_l1Cur_one_f, k_s_l1Cur_firstOf_l_f, k_s_TextIn, k_s_l5Free, k_s_l1Cur_pick_f, k_s_l5Take_oooo] []
theorem eok_s_DrawLayText : EnvOk Try.prog env_s_DrawLayText := envOf_ok tab mix _ _ (by
  intro k hk
  simp only [List.mem_cons, List.not_mem_nil, or_false] at hk
  rcases hk with rfl | rfl | rfl | rfl | rfl | rfl | rfl | rfl
  · exact s_s_l1Cur_stocked_f
  · exact s_s_l1Cur_textSome_f
  · exact s_s_l1Cur_one_f
  · exact s_s_l1Cur_firstOf_l_f
  · exact s_s_TextIn
  · exact s_s_l5Free
  · exact s_s_l1Cur_pick_f
  · exact s_s_l5Take_oooo)
theorem v_s_DrawLayText (x0 : List Int) : (vfun env_s_DrawLayText Try.f63 J_s_DrawLayText ann_s_DrawLayText [] [.one ⟨.sl false 5 (.int .u8), x0⟩] []).run = (G.s_DrawLayText x0).bind fun y => some (Res.mk [.ag [⟨.sl true 23 (.sl true 5 (.int .u8)), y.2.2.1⟩, ⟨.sl true 5 (.int .u8), y.2.2.2.1⟩, ⟨.sl true 3 (.int .i64), y.2.2.2.2.1⟩, ⟨.sl true 3 (.int .i64), y.2.2.2.2.2⟩], .one ⟨.str, y.1⟩, .one ⟨.int .i64, y.2.1⟩] [] []) := by kernel_rfl
def k_s_DrawLayText : Kn := ⟨63, [0], fun args rows => match args, rows with
  | [.one ⟨.sl false 5 (.int .u8), x0⟩], [] => some ⟨_, G.s_DrawLayText x0, fun y => ⟨[.ag [⟨.sl true 23 (.sl true 5 (.int .u8)), y.2.2.1⟩, ⟨.sl true 5 (.int .u8), y.2.2.2.1⟩, ⟨.sl true 3 (.int .i64), y.2.2.2.2.1⟩, ⟨.sl true 3 (.int .i64), y.2.2.2.2.2⟩], .one ⟨.str, y.1⟩, .one ⟨.int .i64, y.2.1⟩], [], []⟩⟩
  | _, _ => none, []⟩
theorem s_s_DrawLayText : KnOk Try.prog k_s_DrawLayText := by
  intro args rows a h y hy
  simp only [k_s_DrawLayText] at h
  split at h
  · injection h with h
    subst h
    exact vfun_ok eok_s_DrawLayText Try.func63 rfl (by rw [v_s_DrawLayText]; simp only at hy; rw [hy]; rfl)
  · cases h
def J_i_Space_pieces_1 : Joins := [(.r, ⟨[.bool], [(2, .one (.h 0))], [], [], [], []⟩)]
def ann_i_Space_pieces_1 : Ann := .nil
def env_i_Space_pieces_1 : Env := envOf ti [] []
theorem eok_i_Space_pieces_1 : EnvOk Try.prog env_i_Space_pieces_1 := envOf_ok tab mix _ _ (by
  intro k hk; cases hk)
theorem v_i_Space_pieces_1 (x0 : Int) : (vfun env_i_Space_pieces_1 Try.f216 J_i_Space_pieces_1 ann_i_Space_pieces_1 [] [.one ⟨.int .u8, x0⟩] []).run = (G.i_Space_pieces_1 x0).bind fun y => some (Res.mk [.one ⟨.bool, y⟩] [] []) := by kernel_rfl
def k_i_Space_pieces_1 : Kn := ⟨216, [0], fun args rows => match args, rows with
  | [.one ⟨.int .u8, x0⟩], [] => some ⟨_, G.i_Space_pieces_1 x0, fun y => ⟨[.one ⟨.bool, y⟩], [], []⟩⟩
  | _, _ => none, []⟩
theorem s_i_Space_pieces_1 : KnOk Try.prog k_i_Space_pieces_1 := by
  intro args rows a h y hy
  simp only [k_i_Space_pieces_1] at h
  split at h
  · injection h with h
    subst h
    exact vfun_ok eok_i_Space_pieces_1 Try.func216 rfl (by rw [v_i_Space_pieces_1]; simp only at hy; rw [hy]; rfl)
  · cases h
def J_i_Space_piece_1 : Joins := [(.r, ⟨[.bool], [(2, .one (.h 0))], [], [], [], []⟩)]
def ann_i_Space_piece_1 : Ann := .nil
def env_i_Space_piece_1 : Env := envOf ti [] []
theorem eok_i_Space_piece_1 : EnvOk Try.prog env_i_Space_piece_1 := envOf_ok tab mix _ _ (by
  intro k hk; cases hk)
theorem v_i_Space_piece_1 (x0 : Int) : (vfun env_i_Space_piece_1 Try.f236 J_i_Space_piece_1 ann_i_Space_piece_1 [] [.one ⟨.int .u8, x0⟩] []).run = (G.i_Space_piece_1 x0).bind fun y => some (Res.mk [.one ⟨.bool, y⟩] [] []) := by kernel_rfl
def k_i_Space_piece_1 : Kn := ⟨236, [0], fun args rows => match args, rows with
  | [.one ⟨.int .u8, x0⟩], [] => some ⟨_, G.i_Space_piece_1 x0, fun y => ⟨[.one ⟨.bool, y⟩], [], []⟩⟩
  | _, _ => none, []⟩
theorem s_i_Space_piece_1 : KnOk Try.prog k_i_Space_piece_1 := by
  intro args rows a h y hy
  simp only [k_i_Space_piece_1] at h
  split at h
  · injection h with h
    subst h
    exact vfun_ok eok_i_Space_piece_1 Try.func236 rfl (by rw [v_i_Space_piece_1]; simp only at hy; rw [hy]; rfl)
  · cases h
def J_i_Space_used_r : Joins := [(.r, ⟨[.bool], [(4, .one (.h 0))], [], [], [], []⟩)]
def ann_i_Space_used_r : Ann := .nil
def env_i_Space_used_r : Env := envOf ti [] []
theorem eok_i_Space_used_r : EnvOk Try.prog env_i_Space_used_r := envOf_ok tab mix _ _ (by
  intro k hk; cases hk)
theorem v_i_Space_used_r (x0 : (List (List Int) × (List Int × (List Int × List Int)))) (x1 : Int) : (vfun env_i_Space_used_r Try.f90 J_i_Space_used_r ann_i_Space_used_r [] [.rp (.pair (.sl false 23 (.sl false 5 (.int .u8))) (.pair (.sl false 5 (.int .u8)) (.pair (.sl false 3 (.int .i64)) (.sl false 3 (.int .i64))))) x0 0, .one ⟨.int .i64, x1⟩] []).run = (G.i_Space_used_r x0 x1).bind fun y => some (Res.mk [.one ⟨.bool, y⟩] [] []) := by kernel_rfl
def k_i_Space_used_r : Kn := ⟨90, [0, 0], fun args rows => match args, rows with
  | [.rp (.pair (.sl false 23 (.sl false 5 (.int .u8))) (.pair (.sl false 5 (.int .u8)) (.pair (.sl false 3 (.int .i64)) (.sl false 3 (.int .i64))))) x0 0, .one ⟨.int .i64, x1⟩], [] => some ⟨_, G.i_Space_used_r x0 x1, fun y => ⟨[.one ⟨.bool, y⟩], [], []⟩⟩
  | _, _ => none, []⟩
theorem s_i_Space_used_r : KnOk Try.prog k_i_Space_used_r := by
  intro args rows a h y hy
  simp only [k_i_Space_used_r] at h
  split at h
  · injection h with h
    subst h
    exact vfun_ok eok_i_Space_used_r Try.func90 rfl (by rw [v_i_Space_used_r]; simp only at hy; rw [hy]; rfl)
  · cases h
def J_i_Space_isBlock_r : Joins := [(.r, ⟨[.bool], [(4, .one (.h 0))], [], [], [], []⟩)]
def ann_i_Space_isBlock_r : Ann := .seq .nil (.seq (.reg [(.n, ⟨[.bool], [(4, .one (.h 0))], [], [], [], []⟩)]) .nil)
def env_i_Space_isBlock_r : Env := envOf ti [k_i_within, k_i_Space_used_r] []
theorem eok_i_Space_isBlock_r : EnvOk Try.prog env_i_Space_isBlock_r := envOf_ok tab mix _ _ (by
  intro k hk
  simp only [List.mem_cons, List.not_mem_nil, or_false] at hk
  rcases hk with rfl | rfl
  · exact s_i_within
  · exact s_i_Space_used_r)
theorem v_i_Space_isBlock_r (x0 : (List (List Int) × (List Int × (List Int × List Int)))) (x1 : Int) : (vfun env_i_Space_isBlock_r Try.f160 J_i_Space_isBlock_r ann_i_Space_isBlock_r [] [.rp (.pair (.sl false 23 (.sl false 5 (.int .u8))) (.pair (.sl false 5 (.int .u8)) (.pair (.sl false 3 (.int .i64)) (.sl false 3 (.int .i64))))) x0 0, .one ⟨.int .i64, x1⟩] []).run = (G.i_Space_isBlock_r x0 x1).bind fun y => some (Res.mk [.one ⟨.bool, y⟩] [] []) := by kernel_rfl
def k_i_Space_isBlock_r : Kn := ⟨160, [0, 0], fun args rows => match args, rows with
  | [.rp (.pair (.sl false 23 (.sl false 5 (.int .u8))) (.pair (.sl false 5 (.int .u8)) (.pair (.sl false 3 (.int .i64)) (.sl false 3 (.int .i64))))) x0 0, .one ⟨.int .i64, x1⟩], [] => some ⟨_, G.i_Space_isBlock_r x0 x1, fun y => ⟨[.one ⟨.bool, y⟩], [], []⟩⟩
  | _, _ => none, []⟩
theorem s_i_Space_isBlock_r : KnOk Try.prog k_i_Space_isBlock_r := by
  intro args rows a h y hy
  simp only [k_i_Space_isBlock_r] at h
  split at h
  · injection h with h
    subst h
    exact vfun_ok eok_i_Space_isBlock_r Try.func160 rfl (by rw [v_i_Space_isBlock_r]; simp only at hy; rw [hy]; rfl)
  · cases h
def J_i_Space_isHere_r : Joins := [(.r, ⟨[.bool], [(4, .one (.h 0))], [], [], [], []⟩)]
def ann_i_Space_isHere_r : Ann := .seq .nil (.seq (.reg [(.n, ⟨[.bool], [(4, .one (.h 0))], [], [], [], []⟩)]) .nil)
def env_i_Space_isHere_r : Env := envOf ti [k_i_Space_isBlock_r, k_slices_Contains_int_int] []
theorem eok_i_Space_isHere_r : EnvOk Try.prog env_i_Space_isHere_r := envOf_ok tab mix _ _ (by
  intro k hk
  simp only [List.mem_cons, List.not_mem_nil, or_false] at hk
  rcases hk with rfl | rfl
  · exact s_i_Space_isBlock_r
  · exact s_slices_Contains_int_int)
theorem v_i_Space_isHere_r (x0 : (List (List Int) × (List Int × (List Int × List Int)))) (x1 : Int) : (vfun env_i_Space_isHere_r Try.f91 J_i_Space_isHere_r ann_i_Space_isHere_r [] [.rp (.pair (.sl false 23 (.sl false 5 (.int .u8))) (.pair (.sl false 5 (.int .u8)) (.pair (.sl false 3 (.int .i64)) (.sl false 3 (.int .i64))))) x0 0, .one ⟨.int .i64, x1⟩] []).run = (G.i_Space_isHere_r x0 x1).bind fun y => some (Res.mk [.one ⟨.bool, y⟩] [] []) := by kernel_rfl
def k_i_Space_isHere_r : Kn := ⟨91, [0, 0], fun args rows => match args, rows with
  | [.rp (.pair (.sl false 23 (.sl false 5 (.int .u8))) (.pair (.sl false 5 (.int .u8)) (.pair (.sl false 3 (.int .i64)) (.sl false 3 (.int .i64))))) x0 0, .one ⟨.int .i64, x1⟩], [] => some ⟨_, G.i_Space_isHere_r x0 x1, fun y => ⟨[.one ⟨.bool, y⟩], [], []⟩⟩
  | _, _ => none, []⟩
theorem s_i_Space_isHere_r : KnOk Try.prog k_i_Space_isHere_r := by
  intro args rows a h y hy
  simp only [k_i_Space_isHere_r] at h
  split at h
  · injection h with h
    subst h
    exact vfun_ok eok_i_Space_isHere_r Try.func91 rfl (by rw [v_i_Space_isHere_r]; simp only at hy; rw [hy]; rfl)
  · cases h
def J_slices_IndexFunc_byte_byte_i_Space_piece_1 : Joins := [(.r, ⟨[.int .i64], [(4, .one (.h 0))], [], [], [], []⟩)]
def ann_slices_IndexFunc_byte_byte_i_Space_piece_1 : Ann := .seq .nil (.seq (.seq .nil (.block [] (.loop ⟨[.sl false 5 (.int .u8), .int .i64, .int .i64], [(0, .one (.h 0)), (1, .fv 236 []), (7, .one (.h 1)), (8, .one (.h 2))], [], [], [], []⟩ [(.x 0, ⟨[], [], [], [], [], []⟩), (.r, ⟨[.int .i64], [(4, .one (.h 0))], [], [], [], []⟩)] .nil))) .nil)
def env_slices_IndexFunc_byte_byte_i_Space_piece_1 : Env := envOf ti [k_i_Space_piece_1] []
theorem eok_slices_IndexFunc_byte_byte_i_Space_piece_1 : EnvOk Try.prog env_slices_IndexFunc_byte_byte_i_Space_piece_1 := envOf_ok tab mix _ _ (by
  intro k hk
  simp only [List.mem_cons, List.not_mem_nil, or_false] at hk
  rcases hk with rfl
  · exact s_i_Space_piece_1)
theorem v_slices_IndexFunc_byte_byte_i_Space_piece_1 (x0 : List Int) : (vfun env_slices_IndexFunc_byte_byte_i_Space_piece_1 Try.f225 J_slices_IndexFunc_byte_byte_i_Space_piece_1 ann_slices_IndexFunc_byte_byte_i_Space_piece_1 [] [.one ⟨.sl false 5 (.int .u8), x0⟩, .fv 236 []] []).run = (G.slices_IndexFunc_byte_byte_i_Space_piece_1 x0).bind fun y => some (Res.mk [.one ⟨.int .i64, y⟩] [] []) := by kernel_rfl
def k_slices_IndexFunc_byte_byte_i_Space_piece_1 : Kn := ⟨225, [0, 0], fun args rows => match args, rows with
  | [.one ⟨.sl false 5 (.int .u8), x0⟩, .fv 236 []], [] => some ⟨_, G.slices_IndexFunc_byte_byte_i_Space_piece_1 x0, fun y => ⟨[.one ⟨.int .i64, y⟩], [], []⟩⟩
  | _, _ => none, []⟩
theorem s_slices_IndexFunc_byte_byte_i_Space_piece_1 : KnOk Try.prog k_slices_IndexFunc_byte_byte_i_Space_piece_1 := by
  intro args rows a h y hy
  simp only [k_slices_IndexFunc_byte_byte_i_Space_piece_1] at h
  split at h
  · injection h with h
    subst h
    exact vfun_ok eok_slices_IndexFunc_byte_byte_i_Space_piece_1 Try.func225 rfl (by rw [v_slices_IndexFunc_byte_byte_i_Space_piece_1]; simp only at hy; rw [hy]; rfl)
  · cases h
def J_slices_ContainsFunc_byte_byte_i_Space_piece_1 : Joins := [(.r, ⟨[.bool], [(4, .one (.h 0))], [], [], [], []⟩)]
def ann_slices_ContainsFunc_byte_byte_i_Space_piece_1 : Ann := .nil
def env_slices_ContainsFunc_byte_byte_i_Space_piece_1 : Env := envOf ti [k_slices_IndexFunc_byte_byte_i_Space_piece_1] []
theorem eok_slices_ContainsFunc_byte_byte_i_Space_piece_1 : EnvOk Try.prog env_slices_ContainsFunc_byte_byte_i_Space_piece_1 := envOf_ok tab mix _ _ (by
  intro k hk
  simp only [List.mem_cons, List.not_mem_nil, or_false] at hk
  rcases hk with rfl
  · exact s_slices_IndexFunc_byte_byte_i_Space_piece_1)
theorem v_slices_ContainsFunc_byte_byte_i_Space_piece_1 (x0 : List Int) : (vfun env_slices_ContainsFunc_byte_byte_i_Space_piece_1 Try.f200 J_slices_ContainsFunc_byte_byte_i_Space_piece_1 ann_slices_ContainsFunc_byte_byte_i_Space_piece_1 [] [.one ⟨.sl false 5 (.int .u8), x0⟩, .fv 236 []] []).run = (G.slices_ContainsFunc_byte_byte_i_Space_piece_1 x0).bind fun y => some (Res.mk [.one ⟨.bool, y⟩] [] []) := by kernel_rfl
def k_slices_ContainsFunc_byte_byte_i_Space_piece_1 : Kn := ⟨200, [0, 0], fun args rows => match args, rows with
  | [.one ⟨.sl false 5 (.int .u8), x0⟩, .fv 236 []], [] => some ⟨_, G.slices_ContainsFunc_byte_byte_i_Space_piece_1 x0, fun y => ⟨[.one ⟨.bool, y⟩], [], []⟩⟩
  | _, _ => none, []⟩
theorem s_slices_ContainsFunc_byte_byte_i_Space_piece_1 : KnOk Try.prog k_slices_ContainsFunc_byte_byte_i_Space_piece_1 := by
  intro args rows a h y hy
  simp only [k_slices_ContainsFunc_byte_byte_i_Space_piece_1] at h
  split at h
  · injection h with h
    subst h
    exact vfun_ok eok_slices_ContainsFunc_byte_byte_i_Space_piece_1 Try.func200 rfl (by rw [v_slices_ContainsFunc_byte_byte_i_Space_piece_1]; simp only at hy; rw [hy]; rfl)
  · cases h
def J_i_Space_piece : Joins := [(.r, ⟨[.bool, .int .i64, .int .i64, .str], [(4, .pl 4 0), (5, .one (.h 0))], [(4, [.h 1, .h 2, .h 3])], [], [], []⟩)]
def ann_i_Space_piece : Ann := .seq .nil (.seq (.seq (.reg [(.n, ⟨[.pair (.sl false 23 (.sl false 5 (.int .u8))) (.pair (.sl false 5 (.int .u8)) (.pair (.sl false 3 (.int .i64)) (.sl false 3 (.int .i64)))), .int .i64, .bool, .int .i64, .int .i64, .str], [(0, .rp 0 0), (1, .one (.h 1)), (4, .pl 4 0), (24, .one (.h 2))], [(4, [.h 3, .h 4, .h 5])], [], [], []⟩)]) .nil) (.seq .nil (.seq .nil (.seq (.seq (.reg [(.n, ⟨[.int .i64, .sl false 5 (.int .u8), .int .i64, .int .i64, .bool, .int .i64, .int .i64, .str], [(1, .one (.h 0)), (4, .pl 4 0), (6, .one (.h 1)), (7, .one (.h 2)), (8, .one (.h 3)), (55, .one (.h 4))], [(4, [.h 5, .h 6, .h 7])], [], [], []⟩)]) .nil) .nil))))
def env_i_Space_piece : Env := envOf ti [k_i_Space_isHere_r, k_i_within, k_slices_ContainsFunc_byte_byte_i_Space_piece_1] []
theorem eok_i_Space_piece : EnvOk Try.prog env_i_Space_piece := envOf_ok tab mix _ _ (by
  intro k hk
  simp only [List.mem_cons, List.not_mem_nil, or_false] at hk
  rcases hk with rfl | rfl | rfl
  · exact s_i_Space_isHere_r
  · exact s_i_within
  · exact s_slices_ContainsFunc_byte_byte_i_Space_piece_1)
theorem v_i_Space_piece (x0 : (List (List Int) × (List Int × (List Int × List Int)))) (x1 : Int) : (vfun env_i_Space_piece Try.f217 J_i_Space_piece ann_i_Space_piece [] [.rp (.pair (.sl false 23 (.sl false 5 (.int .u8))) (.pair (.sl false 5 (.int .u8)) (.pair (.sl false 3 (.int .i64)) (.sl false 3 (.int .i64))))) x0 0, .one ⟨.int .i64, x1⟩] []).run = (G.i_Space_piece x0 x1).bind fun y => some (Res.mk [.ag [⟨.int .i64, y.2.1⟩, ⟨.int .i64, y.2.2.1⟩, ⟨.str, y.2.2.2⟩], .one ⟨.bool, y.1⟩] [] []) := by kernel_rfl
def k_i_Space_piece : Kn := ⟨217, [3, 0], fun args rows => match args, rows with
  | [.rp (.pair (.sl false 23 (.sl false 5 (.int .u8))) (.pair (.sl false 5 (.int .u8)) (.pair (.sl false 3 (.int .i64)) (.sl false 3 (.int .i64))))) x0 0, .one ⟨.int .i64, x1⟩], [] => some ⟨_, G.i_Space_piece x0 x1, fun y => ⟨[.ag [⟨.int .i64, y.2.1⟩, ⟨.int .i64, y.2.2.1⟩, ⟨.str, y.2.2.2⟩], .one ⟨.bool, y.1⟩], [], []⟩⟩
  | _, _ => none, []⟩
theorem s_i_Space_piece : KnOk Try.prog k_i_Space_piece := by
  intro args rows a h y hy
  simp only [k_i_Space_piece] at h
  split at h
  · injection h with h
    subst h
    exact vfun_ok eok_i_Space_piece Try.func217 rfl (by rw [v_i_Space_piece]; simp only at hy; rw [hy]; rfl)
  · cases h
end
end Go.Proofs.Ytggpihbcaebpjaa

set_option linter.unusedVariables false
set_option maxRecDepth 100000
namespace Go.Proofs.Ytggpihbcaebpjaa
open Go.V
noncomputable section
def J_slices_IndexFunc_byte_byte_i_Space_pieces_1 : Joins := [(.r, ⟨[.int .i64], [(4, .one (.h 0))], [], [], [], []⟩)]
def ann_slices_IndexFunc_byte_byte_i_Space_pieces_1 : Ann := .seq .nil (.seq (.seq .nil (.block [] (.loop ⟨[.sl false 5 (.int .u8), .int .i64, .int .i64], [(0, .one (.h 0)), (1, .fv 216 []), (7, .one (.h 1)), (8, .one (.h 2))], [], [], [], []⟩ [(.x 0, ⟨[], [], [], [], [], []⟩), (.r, ⟨[.int .i64], [(4, .one (.h 0))], [], [], [], []⟩)] .nil))) .nil)
def env_slices_IndexFunc_byte_byte_i_Space_pieces_1 : Env := envOf ti [k_i_Space_pieces_1] []
theorem eok_slices_IndexFunc_byte_byte_i_Space_pieces_1 : EnvOk Try.prog env_slices_IndexFunc_byte_byte_i_Space_pieces_1 := envOf_ok tab mix _ _ (by
  intro k hk
  simp only [List.mem_cons, List.not_mem_nil, or_false] at hk
  rcases hk with rfl
  · exact s_i_Space_pieces_1)
theorem v_slices_IndexFunc_byte_byte_i_Space_pieces_1 (x0 : List Int) : (vfun env_slices_IndexFunc_byte_byte_i_Space_pieces_1 Try.f225 J_slices_IndexFunc_byte_byte_i_Space_pieces_1 ann_slices_IndexFunc_byte_byte_i_Space_pieces_1 [] [.one ⟨.sl false 5 (.int .u8), x0⟩, .fv 216 []] []).run = (G.slices_IndexFunc_byte_byte_i_Space_pieces_1 x0).bind fun y => some (Res.mk [.one ⟨.int .i64, y⟩] [] []) := by kernel_rfl
def k_slices_IndexFunc_byte_byte_i_Space_pieces_1 : Kn := ⟨225, [0, 0], fun args rows => match args, rows with
  | [.one ⟨.sl false 5 (.int .u8), x0⟩, .fv 216 []], [] => some ⟨_, G.slices_IndexFunc_byte_byte_i_Space_pieces_1 x0, fun y => ⟨[.one ⟨.int .i64, y⟩], [], []⟩⟩
  | _, _ => none, []⟩
theorem s_slices_IndexFunc_byte_byte_i_Space_pieces_1 : KnOk Try.prog k_slices_IndexFunc_byte_byte_i_Space_pieces_1 := by
  intro args rows a h y hy
  simp only [k_slices_IndexFunc_byte_byte_i_Space_pieces_1] at h
  split at h
  · injection h with h
    subst h
    exact vfun_ok eok_slices_IndexFunc_byte_byte_i_Space_pieces_1 Try.func225 rfl (by rw [v_slices_IndexFunc_byte_byte_i_Space_pieces_1]; simp only at hy; rw [hy]; rfl)
  · cases h
def J_slices_ContainsFunc_byte_byte_i_Space_pieces_1 : Joins := [(.r, ⟨[.bool], [(4, .one (.h 0))], [], [], [], []⟩)]
def ann_slices_ContainsFunc_byte_byte_i_Space_pieces_1 : Ann := .nil
def env_slices_ContainsFunc_byte_byte_i_Space_pieces_1 : Env := envOf ti [k_slices_IndexFunc_byte_byte_i_Space_pieces_1] []
theorem eok_slices_ContainsFunc_byte_byte_i_Space_pieces_1 : EnvOk Try.prog env_slices_ContainsFunc_byte_byte_i_Space_pieces_1 := envOf_ok tab mix _ _ (by
  intro k hk
  simp only [List.mem_cons, List.not_mem_nil, or_false] at hk
  rcases hk with rfl
  · exact s_slices_IndexFunc_byte_byte_i_Space_pieces_1)
theorem v_slices_ContainsFunc_byte_byte_i_Space_pieces_1 (x0 : List Int) : (vfun env_slices_ContainsFunc_byte_byte_i_Space_pieces_1 Try.f200 J_slices_ContainsFunc_byte_byte_i_Space_pieces_1 ann_slices_ContainsFunc_byte_byte_i_Space_pieces_1 [] [.one ⟨.sl false 5 (.int .u8), x0⟩, .fv 216 []] []).run = (G.slices_ContainsFunc_byte_byte_i_Space_pieces_1 x0).bind fun y => some (Res.mk [.one ⟨.bool, y⟩] [] []) := by kernel_rfl
def k_slices_ContainsFunc_byte_byte_i_Space_pieces_1 : Kn := ⟨200, [0, 0], fun args rows => match args, rows with
  | [.one ⟨.sl false 5 (.int .u8), x0⟩, .fv 216 []], [] => some ⟨_, G.slices_ContainsFunc_byte_byte_i_Space_pieces_1 x0, fun y => ⟨[.one ⟨.bool, y⟩], [], []⟩⟩
  | _, _ => none, []⟩
theorem s_slices_ContainsFunc_byte_byte_i_Space_pieces_1 : KnOk Try.prog k_slices_ContainsFunc_byte_byte_i_Space_pieces_1 := by
  intro args rows a h y hy
  simp only [k_slices_ContainsFunc_byte_byte_i_Space_pieces_1] at h
  split at h
  · injection h with h
    subst h
    exact vfun_ok eok_slices_ContainsFunc_byte_byte_i_Space_pieces_1 Try.func200 rfl (by rw [v_slices_ContainsFunc_byte_byte_i_Space_pieces_1]; simp only at hy; rw [hy]; rfl)
  · cases h
def J_i_Space_pieces_2 : Joins := [(.r, ⟨[.bool, .int .i64, .int .i64, .str], [(3, .one (.h 0))], [(10, [.h 1, .h 2, .h 3])], [], [], []⟩)]
def ann_i_Space_pieces_2 : Ann := .nil
def env_i_Space_pieces_2 : Env := envOf ti [] []
theorem eok_i_Space_pieces_2 : EnvOk Try.prog env_i_Space_pieces_2 := envOf_ok tab mix _ _ (by
  intro k hk; cases hk)
theorem v_i_Space_pieces_2 (x0 : Int) (x1 : Int) (x2 : List UInt8) (x3 : Int) (x4 : Int) (x5 : List UInt8) : (vfun env_i_Space_pieces_2 Try.f219 J_i_Space_pieces_2 ann_i_Space_pieces_2 [] [.ag [⟨.int .i64, x0⟩, ⟨.int .i64, x1⟩, ⟨.str, x2⟩], .pl 0 0] [[⟨.int .i64, x3⟩, ⟨.int .i64, x4⟩, ⟨.str, x5⟩]]).run = (G.i_Space_pieces_2 x0 x1 x2 x3 x4 x5).bind fun y => some (Res.mk [.one ⟨.bool, y.1⟩] [[⟨.int .i64, y.2.1⟩, ⟨.int .i64, y.2.2.1⟩, ⟨.str, y.2.2.2⟩]] []) := by kernel_rfl
def k_i_Space_pieces_2 : Kn := ⟨219, [0], fun args rows => match args, rows with
  | [.ag [⟨.int .i64, x0⟩, ⟨.int .i64, x1⟩, ⟨.str, x2⟩], .pl 0 0], [[⟨.int .i64, x3⟩, ⟨.int .i64, x4⟩, ⟨.str, x5⟩]] => some ⟨_, G.i_Space_pieces_2 x0 x1 x2 x3 x4 x5, fun y => ⟨[.one ⟨.bool, y.1⟩], [[⟨.int .i64, y.2.1⟩, ⟨.int .i64, y.2.2.1⟩, ⟨.str, y.2.2.2⟩]], []⟩⟩
  | _, _ => none, [[.int .i64, .int .i64, .str]]⟩
theorem s_i_Space_pieces_2 : KnOk Try.prog k_i_Space_pieces_2 := by
  intro args rows a h y hy
  simp only [k_i_Space_pieces_2] at h
  split at h
  · injection h with h
    subst h
    exact vfun_ok eok_i_Space_pieces_2 Try.func219 rfl (by rw [v_i_Space_pieces_2]; simp only at hy; rw [hy]; rfl)
  · cases h
def J_slices_IndexFunc_loop_example_g00083_impl_piece_loop_example_g00083_impl_piece_i_Space_pieces_2 : Joins := [(.r, ⟨[.int .i64, .int .i64, .int .i64, .str], [(4, .one (.h 0))], [(20, [.h 1, .h 2, .h 3])], [], [], []⟩)]
def ann_slices_IndexFunc_loop_example_g00083_impl_piece_loop_example_g00083_impl_piece_i_Space_pieces_2 : Ann := .seq .nil (.seq (.seq .nil (.block [] (.loop ⟨[.sl false 216 (.pair (.int .i64) (.pair (.int .i64) .str)), .int .i64, .int .i64, .int .i64, .int .i64, .str], [(0, .one (.h 0)), (1, .fv 219 [(20, 0)]), (7, .one (.h 1)), (8, .one (.h 2))], [(20, [.h 3, .h 4, .h 5])], [], [], []⟩ [(.x 0, ⟨[.int .i64, .int .i64, .str], [], [(20, [.h 0, .h 1, .h 2])], [], [], []⟩), (.r, ⟨[.int .i64, .int .i64, .int .i64, .str], [(4, .one (.h 0))], [(20, [.h 1, .h 2, .h 3])], [], [], []⟩)] .nil))) .nil)
def env_slices_IndexFunc_loop_example_g00083_impl_piece_loop_example_g00083_impl_piece_i_Space_pieces_2 : Env := envOf ti [k_i_Space_pieces_2] []
theorem eok_slices_IndexFunc_loop_example_g00083_impl_piece_loop_example_g00083_impl_piece_i_Space_pieces_2 : EnvOk Try.prog env_slices_IndexFunc_loop_example_g00083_impl_piece_loop_example_g00083_impl_piece_i_Space_pieces_2 := envOf_ok tab mix _ _ (by
  intro k hk
  simp only [List.mem_cons, List.not_mem_nil, or_false] at hk
  rcases hk with rfl
  · exact s_i_Space_pieces_2)
theorem v_slices_IndexFunc_loop_example_g00083_impl_piece_loop_example_g00083_impl_piece_i_Space_pieces_2 (x0 : List (Int × (Int × List UInt8))) (x1 : Int) (x2 : Int) (x3 : List UInt8) : (vfun env_slices_IndexFunc_loop_example_g00083_impl_piece_loop_example_g00083_impl_piece_i_Space_pieces_2 Try.f237 J_slices_IndexFunc_loop_example_g00083_impl_piece_loop_example_g00083_impl_piece_i_Space_pieces_2 ann_slices_IndexFunc_loop_example_g00083_impl_piece_loop_example_g00083_impl_piece_i_Space_pieces_2 [] [.one ⟨.sl false 216 (.pair (.int .i64) (.pair (.int .i64) .str)), x0⟩, .fv 219 [(0, 0)]] [[⟨.int .i64, x1⟩, ⟨.int .i64, x2⟩, ⟨.str, x3⟩]]).run = (G.slices_IndexFunc_loop_example_g00083_impl_piece_loop_example_g00083_impl_piece_i_Space_pieces_2 x0 x1 x2 x3).bind fun y => some (Res.mk [.one ⟨.int .i64, y.1⟩] [[⟨.int .i64, y.2.1⟩, ⟨.int .i64, y.2.2.1⟩, ⟨.str, y.2.2.2⟩]] []) := by kernel_rfl
def k_slices_IndexFunc_loop_example_g00083_impl_piece_loop_example_g00083_impl_piece_i_Space_pieces_2 : Kn := ⟨237, [0, 0], fun args rows => match args, rows with
  | [.one ⟨.sl false 216 (.pair (.int .i64) (.pair (.int .i64) .str)), x0⟩, .fv 219 [(0, 0)]], [[⟨.int .i64, x1⟩, ⟨.int .i64, x2⟩, ⟨.str, x3⟩]] => some ⟨_, G.slices_IndexFunc_loop_example_g00083_impl_piece_loop_example_g00083_impl_piece_i_Space_pieces_2 x0 x1 x2 x3, fun y => ⟨[.one ⟨.int .i64, y.1⟩], [[⟨.int .i64, y.2.1⟩, ⟨.int .i64, y.2.2.1⟩, ⟨.str, y.2.2.2⟩]], []⟩⟩
  | _, _ => none, []⟩
theorem s_slices_IndexFunc_loop_example_g00083_impl_piece_loop_example_g00083_impl_piece_i_Space_pieces_2 : KnOk Try.prog k_slices_IndexFunc_loop_example_g00083_impl_piece_loop_example_g00083_impl_piece_i_Space_pieces_2 := by
  intro args rows a h y hy
  simp only [k_slices_IndexFunc_loop_example_g00083_impl_piece_loop_example_g00083_impl_piece_i_Space_pieces_2] at h
  split at h
  · injection h with h
    subst h
    exact vfun_ok eok_slices_IndexFunc_loop_example_g00083_impl_piece_loop_example_g00083_impl_piece_i_Space_pieces_2 Try.func237 rfl (by rw [v_slices_IndexFunc_loop_example_g00083_impl_piece_loop_example_g00083_impl_piece_i_Space_pieces_2]; simp only at hy; rw [hy]; rfl)
  · cases h
def J_slices_ContainsFunc_loop_example_g00083_impl_piece_loop_example_g00083_impl_piece_i_Space_pieces_2 : Joins := [(.r, ⟨[.bool, .int .i64, .int .i64, .str], [(4, .one (.h 0))], [(10, [.h 1, .h 2, .h 3])], [], [], []⟩)]
def ann_slices_ContainsFunc_loop_example_g00083_impl_piece_loop_example_g00083_impl_piece_i_Space_pieces_2 : Ann := .nil
def env_slices_ContainsFunc_loop_example_g00083_impl_piece_loop_example_g00083_impl_piece_i_Space_pieces_2 : Env := envOf ti [k_slices_IndexFunc_loop_example_g00083_impl_piece_loop_example_g00083_impl_piece_i_Space_pieces_2, k_i_Space_pieces_2] []
theorem eok_slices_ContainsFunc_loop_example_g00083_impl_piece_loop_example_g00083_impl_piece_i_Space_pieces_2 : EnvOk Try.prog env_slices_ContainsFunc_loop_example_g00083_impl_piece_loop_example_g00083_impl_piece_i_Space_pieces_2 := envOf_ok tab mix _ _ (by
  intro k hk
  simp only [List.mem_cons, List.not_mem_nil, or_false] at hk
  rcases hk with rfl | rfl
  · exact s_slices_IndexFunc_loop_example_g00083_impl_piece_loop_example_g00083_impl_piece_i_Space_pieces_2
  · exact s_i_Space_pieces_2)
theorem v_slices_ContainsFunc_loop_example_g00083_impl_piece_loop_example_g00083_impl_piece_i_Space_pieces_2 (x0 : List (Int × (Int × List UInt8))) (x1 : Int) (x2 : Int) (x3 : List UInt8) : (vfun env_slices_ContainsFunc_loop_example_g00083_impl_piece_loop_example_g00083_impl_piece_i_Space_pieces_2 Try.f218 J_slices_ContainsFunc_loop_example_g00083_impl_piece_loop_example_g00083_impl_piece_i_Space_pieces_2 ann_slices_ContainsFunc_loop_example_g00083_impl_piece_loop_example_g00083_impl_piece_i_Space_pieces_2 [] [.one ⟨.sl false 216 (.pair (.int .i64) (.pair (.int .i64) .str)), x0⟩, .fv 219 [(0, 0)]] [[⟨.int .i64, x1⟩, ⟨.int .i64, x2⟩, ⟨.str, x3⟩]]).run = (G.slices_ContainsFunc_loop_example_g00083_impl_piece_loop_example_g00083_impl_piece_i_Space_pieces_2 x0 x1 x2 x3).bind fun y => some (Res.mk [.one ⟨.bool, y.1⟩] [[⟨.int .i64, y.2.1⟩, ⟨.int .i64, y.2.2.1⟩, ⟨.str, y.2.2.2⟩]] []) := by kernel_rfl
def k_slices_ContainsFunc_loop_example_g00083_impl_piece_loop_example_g00083_impl_piece_i_Space_pieces_2 : Kn := ⟨218, [0, 0], fun args rows => match args, rows with
  | [.one ⟨.sl false 216 (.pair (.int .i64) (.pair (.int .i64) .str)), x0⟩, .fv 219 [(0, 0)]], [[⟨.int .i64, x1⟩, ⟨.int .i64, x2⟩, ⟨.str, x3⟩]] => some ⟨_, G.slices_ContainsFunc_loop_example_g00083_impl_piece_loop_example_g00083_impl_piece_i_Space_pieces_2 x0 x1 x2 x3, fun y => ⟨[.one ⟨.bool, y.1⟩], [[⟨.int .i64, y.2.1⟩, ⟨.int .i64, y.2.2.1⟩, ⟨.str, y.2.2.2⟩]], []⟩⟩
  | _, _ => none, []⟩
theorem s_slices_ContainsFunc_loop_example_g00083_impl_piece_loop_example_g00083_impl_piece_i_Space_pieces_2 : KnOk Try.prog k_slices_ContainsFunc_loop_example_g00083_impl_piece_loop_example_g00083_impl_piece_i_Space_pieces_2 := by
  intro args rows a h y hy
  simp only [k_slices_ContainsFunc_loop_example_g00083_impl_piece_loop_example_g00083_impl_piece_i_Space_pieces_2] at h
  split at h
  · injection h with h
    subst h
    exact vfun_ok eok_slices_ContainsFunc_loop_example_g00083_impl_piece_loop_example_g00083_impl_piece_i_Space_pieces_2 Try.func218 rfl (by rw [v_slices_ContainsFunc_loop_example_g00083_impl_piece_loop_example_g00083_impl_piece_i_Space_pieces_2]; simp only at hy; rw [hy]; rfl)
  · cases h
def J_i_Space_pieces : Joins := [(.r, ⟨[.sl true 216 (.pair (.int .i64) (.pair (.int .i64) .str)), .bool], [(4, .one (.vw 193602)), (5, .one (.h 1))], [], [(193602, 0)], [], []⟩)]
def ann_i_Space_pieces : Ann := .seq .nil (.seq (.seq (.reg [(.n, ⟨[.pair (.sl false 23 (.sl false 5 (.int .u8))) (.pair (.sl false 5 (.int .u8)) (.pair (.sl false 3 (.int .i64)) (.sl false 3 (.int .i64)))), .int .i64, .bool], [(0, .rp 0 0), (1, .one (.h 1)), (27, .one (.h 2))], [], [], [], []⟩)]) .nil) (.seq .nil (.seq .nil (.seq (.seq (.reg [(.n, ⟨[.pair (.sl false 23 (.sl false 5 (.int .u8))) (.pair (.sl false 5 (.int .u8)) (.pair (.sl false 3 (.int .i64)) (.sl false 3 (.int .i64)))), .sl false 5 (.int .u8), .int .i64, .bool], [(0, .rp 0 0), (6, .one (.h 1)), (7, .one (.h 2)), (48, .one (.h 3))], [], [], [], []⟩)]) .nil) (.seq .nil (.seq (.seq .nil (.block [] (.loop ⟨[.pair (.sl false 23 (.sl false 5 (.int .u8))) (.pair (.sl false 5 (.int .u8)) (.pair (.sl false 3 (.int .i64)) (.sl false 3 (.int .i64)))), .sl false 5 (.int .u8), .int .i64, .sl true 216 (.pair (.int .i64) (.pair (.int .i64) .str)), .int .i64, .int .i64], [(0, .rp 0 0), (6, .one (.h 1)), (7, .one (.h 2)), (8, .one (.vw 193536)), (50, .one (.h 4)), (51, .one (.h 5))], [], [(193536, 3)], [], []⟩ [(.x 0, ⟨[.sl true 216 (.pair (.int .i64) (.pair (.int .i64) .str))], [(8, .one (.vw 193601))], [], [(193601, 0)], [], []⟩), (.r, ⟨[.bool], [(4, .one (.nil)), (5, .one (.h 0))], [], [], [], []⟩)] (.seq .nil (.seq .nil (.seq (.block [] (.seq .nil (.seq .nil (.seq (.seq (.reg [(.n, ⟨[.pair (.sl false 23 (.sl false 5 (.int .u8))) (.pair (.sl false 5 (.int .u8)) (.pair (.sl false 3 (.int .i64)) (.sl false 3 (.int .i64)))), .sl false 5 (.int .u8), .int .i64, .sl true 216 (.pair (.int .i64) (.pair (.int .i64) .str)), .int .i64, .int .i64, .bool, .int .i64, .int .i64, .str], [(0, .rp 0 0), (6, .one (.h 1)), (7, .one (.h 2)), (8, .one (.vw 193600)), (10, .pl 10 0), (50, .one (.h 4)), (51, .one (.h 5)), (82, .one (.h 6))], [(10, [.h 7, .h 8, .h 9])], [(193600, 3)], [], []⟩)]) .nil) .nil)))) .nil)))))) .nil))))))
def env_i_Space_pieces : Env := envOf ti [k_i_Space_isHere_r, k_slices_ContainsFunc_byte_byte_i_Space_pieces_1, k_i_numberAt, k_i_Space_piece, k_slices_ContainsFunc_loop_example_g00083_impl_piece_loop_example_g00083_impl_piece_i_Space_pieces_2, k_i_Space_pieces_2] []
theorem eok_i_Space_pieces : EnvOk Try.prog env_i_Space_pieces := envOf_ok tab mix _ _ (by
  intro k hk
  simp only [List.mem_cons, List.not_mem_nil, or_false] at hk
  rcases hk with rfl | rfl | rfl | rfl | rfl | rfl
  · exact s_i_Space_isHere_r
  · exact s_slices_ContainsFunc_byte_byte_i_Space_pieces_1
  · exact s_i_numberAt
  · exact s_i_Space_piece
  · exact s_slices_ContainsFunc_loop_example_g00083_impl_piece_loop_example_g00083_impl_piece_i_Space_pieces_2
  · exact s_i_Space_pieces_2)
theorem v_i_Space_pieces (x0 : (List (List Int) × (List Int × (List Int × List Int)))) (x1 : Int) : (vfun env_i_Space_pieces Try.f185 J_i_Space_pieces ann_i_Space_pieces [] [.rp (.pair (.sl false 23 (.sl false 5 (.int .u8))) (.pair (.sl false 5 (.int .u8)) (.pair (.sl false 3 (.int .i64)) (.sl false 3 (.int .i64))))) x0 0, .one ⟨.int .i64, x1⟩] []).run = (G.i_Space_pieces x0 x1).bind fun y => some (Res.mk [.one ⟨.sl true 216 (.pair (.int .i64) (.pair (.int .i64) .str)), y.1⟩, .one ⟨.bool, y.2⟩] [] []) := by kernel_rfl
def k_i_Space_pieces : Kn := ⟨185, [3, 0], fun args rows => match args, rows with
  | [.rp (.pair (.sl false 23 (.sl false 5 (.int .u8))) (.pair (.sl false 5 (.int .u8)) (.pair (.sl false 3 (.int .i64)) (.sl false 3 (.int .i64))))) x0 0, .one ⟨.int .i64, x1⟩], [] => some ⟨_, G.i_Space_pieces x0 x1, fun y => ⟨[.one ⟨.sl true 216 (.pair (.int .i64) (.pair (.int .i64) .str)), y.1⟩, .one ⟨.bool, y.2⟩], [], []⟩⟩
  | _, _ => none, []⟩
theorem s_i_Space_pieces : KnOk Try.prog k_i_Space_pieces := by
  intro args rows a h y hy
  simp only [k_i_Space_pieces] at h
  split at h
  · injection h with h
    subst h
    exact vfun_ok eok_i_Space_pieces Try.func185 rfl (by rw [v_i_Space_pieces]; simp only at hy; rw [hy]; rfl)
  · cases h
def J_i_cut : Joins := [(.r, ⟨[.sl true 9 .str], [(2, .one (.vw 123969))], [], [(123969, 0)], [], []⟩)]
def ann_i_cut : Ann := .seq .nil (.seq .nil (.seq (.block [] (.loop ⟨[.str, .sl true 9 .str], [(0, .one (.h 0)), (3, .one (.vw 123904))], [], [(123904, 1)], [], []⟩ [(.x 0, ⟨[.sl true 9 .str], [(3, .one (.vw 123968))], [], [(123968, 0)], [], []⟩)] .nil)) .nil))
def env_i_cut : Env := envOf ti [] []
theorem eok_i_cut : EnvOk Try.prog env_i_cut := envOf_ok tab mix _ _ (by
  intro k hk; cases hk)
theorem v_i_cut (x0 : List UInt8) : (vfun env_i_cut Try.f220 J_i_cut ann_i_cut [] [.one ⟨.str, x0⟩] []).run = (G.i_cut x0).bind fun y => some (Res.mk [.one ⟨.sl true 9 .str, y⟩] [] []) := by kernel_rfl
def k_i_cut : Kn := ⟨220, [0], fun args rows => match args, rows with
  | [.one ⟨.str, x0⟩], [] => some ⟨_, G.i_cut x0, fun y => ⟨[.one ⟨.sl true 9 .str, y⟩], [], []⟩⟩
  | _, _ => none, []⟩
theorem s_i_cut : KnOk Try.prog k_i_cut := by
  intro args rows a h y hy
  simp only [k_i_cut] at h
  split at h
  · injection h with h
    subst h
    exact vfun_ok eok_i_cut Try.func220 rfl (by rw [v_i_cut]; simp only at hy; rw [hy]; rfl)
  · cases h
def J_i_Space_shared : Joins := [(.r, ⟨[.sl true 216 (.pair (.int .i64) (.pair (.int .i64) .str)), .sl true 4 .bool, .bool], [(6, .one (.vw 184395)), (7, .one (.vw 184396)), (8, .one (.h 2))], [], [(184395, 0), (184396, 1)], [], []⟩)]
def ann_i_Space_shared : Ann := .seq .nil (.seq .nil (.seq (.seq .nil (.cond [(.n, ⟨[.str, .sl true 216 (.pair (.int .i64) (.pair (.int .i64) .str))], [(1, .one (.h 0)), (9, .one (.vw 184320))], [], [(184320, 1)], [], []⟩), (.r, ⟨[.bool], [(6, .one (.nil)), (7, .one (.nil)), (8, .one (.h 0))], [], [], [], []⟩)] .nil .nil)) (.seq .nil (.seq (.seq .nil (.block [] (.loop ⟨[.sl true 216 (.pair (.int .i64) (.pair (.int .i64) .str)), .sl true 216 (.pair (.int .i64) (.pair (.int .i64) .str)), .sl true 4 .bool, .sl true 9 .str, .int .i64, .int .i64], [(9, .one (.vw 184321)), (12, .one (.vw 184322)), (13, .one (.vw 184323)), (31, .one (.vw 184324)), (32, .one (.h 4)), (33, .one (.h 5))], [], [(184321, 0), (184322, 1), (184323, 2), (184324, 3)], [], []⟩ [(.x 0, ⟨[.sl true 216 (.pair (.int .i64) (.pair (.int .i64) .str)), .sl true 4 .bool], [(12, .one (.vw 184393)), (13, .one (.vw 184394))], [], [(184393, 0), (184394, 1)], [], []⟩)] (.seq .nil (.seq .nil (.seq (.block [] (.seq .nil (.seq (.reg [(.n, ⟨[.sl true 216 (.pair (.int .i64) (.pair (.int .i64) .str)), .sl true 216 (.pair (.int .i64) (.pair (.int .i64) .str)), .sl true 4 .bool, .int .i64, .str, .sl true 9 .str, .int .i64, .int .i64, .bool], [(9, .one (.vw 184385)), (12, .one (.vw 184386)), (13, .one (.vw 184387)), (14, .one (.h 3)), (15, .one (.h 4)), (31, .one (.vw 184388)), (32, .one (.h 6)), (33, .one (.h 7)), (58, .one (.h 8))], [], [(184385, 0), (184386, 1), (184387, 2), (184388, 5)], [], []⟩)]) (.cond [(.n, ⟨[.sl true 216 (.pair (.int .i64) (.pair (.int .i64) .str)), .sl true 216 (.pair (.int .i64) (.pair (.int .i64) .str)), .sl true 4 .bool, .sl true 9 .str, .int .i64, .int .i64], [(9, .one (.vw 184389)), (12, .one (.vw 184390)), (13, .one (.vw 184391)), (31, .one (.vw 184392)), (32, .one (.h 4)), (33, .one (.h 5))], [], [(184389, 0), (184390, 1), (184391, 2), (184392, 3)], [], []⟩)] .nil .nil)))) .nil)))))) .nil))))
def env_i_Space_shared : Env := envOf ti [k_i_Space_pieces, k_i_cut] []
theorem eok_i_Space_shared : EnvOk Try.prog env_i_Space_shared := envOf_ok tab mix _ _ (by
  intro k hk
  simp only [List.mem_cons, List.not_mem_nil, or_false] at hk
  rcases hk with rfl | rfl
  · exact s_i_Space_pieces
  · exact s_i_cut)
theorem v_i_Space_shared (x0 : (List (List Int) × (List Int × (List Int × List Int)))) (x1 : List UInt8) (x2 : Int) : (vfun env_i_Space_shared Try.f189 J_i_Space_shared ann_i_Space_shared [] [.rp (.pair (.sl false 23 (.sl false 5 (.int .u8))) (.pair (.sl false 5 (.int .u8)) (.pair (.sl false 3 (.int .i64)) (.sl false 3 (.int .i64))))) x0 0, .one ⟨.str, x1⟩, .one ⟨.int .i64, x2⟩] []).run = (G.i_Space_shared x0 x1 x2).bind fun y => some (Res.mk [.one ⟨.sl true 216 (.pair (.int .i64) (.pair (.int .i64) .str)), y.1⟩, .one ⟨.sl true 4 .bool, y.2.1⟩, .one ⟨.bool, y.2.2⟩] [] []) := by kernel_rfl
def k_i_Space_shared : Kn := ⟨189, [3, 0, 0], fun args rows => match args, rows with
  | [.rp (.pair (.sl false 23 (.sl false 5 (.int .u8))) (.pair (.sl false 5 (.int .u8)) (.pair (.sl false 3 (.int .i64)) (.sl false 3 (.int .i64))))) x0 0, .one ⟨.str, x1⟩, .one ⟨.int .i64, x2⟩], [] => some ⟨_, G.i_Space_shared x0 x1 x2, fun y => ⟨[.one ⟨.sl true 216 (.pair (.int .i64) (.pair (.int .i64) .str)), y.1⟩, .one ⟨.sl true 4 .bool, y.2.1⟩, .one ⟨.bool, y.2.2⟩], [], []⟩⟩
  | _, _ => none, []⟩
theorem s_i_Space_shared : KnOk Try.prog k_i_Space_shared := by
  intro args rows a h y hy
  simp only [k_i_Space_shared] at h
  split at h
  · injection h with h
    subst h
    exact vfun_ok eok_i_Space_shared Try.func189 rfl (by rw [v_i_Space_shared]; simp only at hy; rw [hy]; rfl)
  · cases h
def J_i_canLay : Joins := [(.r, ⟨[.bool], [(6, .one (.h 0))], [], [], [], []⟩)]
def ann_i_canLay : Ann := .seq .nil (.seq (.seq (.reg [(.n, ⟨[.str, .int .i64, .bool, .sl false 23 (.sl false 5 (.int .u8)), .sl false 5 (.int .u8), .sl false 3 (.int .i64), .sl false 3 (.int .i64)], [(1, .one (.h 0)), (2, .one (.h 1)), (3, .pl 3 0), (17, .one (.h 2))], [(3, [.h 3, .h 4, .h 5, .h 6])], [], [], []⟩)]) .nil) .nil)
def env_i_canLay : Env := envOf ti [k_i_GoodSpace, k_i_Space_shared] []
theorem eok_i_canLay : EnvOk Try.prog env_i_canLay := envOf_ok tab mix _ _ (by
  intro k hk
  simp only [List.mem_cons, List.not_mem_nil, or_false] at hk
  rcases hk with rfl | rfl
  · exact s_i_GoodSpace
  · exact s_i_Space_shared)
theorem v_i_canLay (x0 : List (List Int)) (x1 : List Int) (x2 : List Int) (x3 : List Int) (x4 : List UInt8) (x5 : Int) : (vfun env_i_canLay Try.f122 J_i_canLay ann_i_canLay [] [.ag [⟨.sl false 23 (.sl false 5 (.int .u8)), x0⟩, ⟨.sl false 5 (.int .u8), x1⟩, ⟨.sl false 3 (.int .i64), x2⟩, ⟨.sl false 3 (.int .i64), x3⟩], .one ⟨.str, x4⟩, .one ⟨.int .i64, x5⟩] []).run = (G.i_canLay x0 x1 x2 x3 x4 x5).bind fun y => some (Res.mk [.one ⟨.bool, y⟩] [] []) := by kernel_rfl
def k_i_canLay : Kn := ⟨122, [0, 0, 0], fun args rows => match args, rows with
  | [.ag [⟨.sl false 23 (.sl false 5 (.int .u8)), x0⟩, ⟨.sl false 5 (.int .u8), x1⟩, ⟨.sl false 3 (.int .i64), x2⟩, ⟨.sl false 3 (.int .i64), x3⟩], .one ⟨.str, x4⟩, .one ⟨.int .i64, x5⟩], [] => some ⟨_, G.i_canLay x0 x1 x2 x3 x4 x5, fun y => ⟨[.one ⟨.bool, y⟩], [], []⟩⟩
  | _, _ => none, []⟩
theorem s_i_canLay : KnOk Try.prog k_i_canLay := by
  intro args rows a h y hy
  simp only [k_i_canLay] at h
  split at h
  · injection h with h
    subst h
    exact vfun_ok eok_i_canLay Try.func122 rfl (by rw [v_i_canLay]; simp only at hy; rw [hy]; rfl)
  · cases h
def J_i_Space_layPiece_oooo : Joins := [(.n, ⟨[.sl true 23 (.sl true 5 (.int .u8)), .sl true 5 (.int .u8), .sl true 3 (.int .i64), .sl true 3 (.int .i64)], [], [(23, [.vw 124928, .vw 124929, .vw 124930, .vw 124931])], [(124928, 0), (124929, 1), (124930, 2), (124931, 3)], [], []⟩)]
def ann_i_Space_layPiece_oooo : Ann := .nil
def env_i_Space_layPiece_oooo : Env := envOf ti [k_i_padded, k_i_Space_lay_oooo] []
theorem eok_i_Space_layPiece_oooo : EnvOk Try.prog env_i_Space_layPiece_oooo := envOf_ok tab mix _ _ (by
  intro k hk
  simp only [List.mem_cons, List.not_mem_nil, or_false] at hk
  rcases hk with rfl | rfl
  · exact s_i_padded
  · exact s_i_Space_lay_oooo)
theorem v_i_Space_layPiece_oooo (x0 : Int) (x1 : Int) (x2 : List UInt8) (x3 : List (List Int)) (x4 : List Int) (x5 : List Int) (x6 : List Int) : (vfun env_i_Space_layPiece_oooo Try.f186 J_i_Space_layPiece_oooo ann_i_Space_layPiece_oooo [] [.pl 0 0, .ag [⟨.int .i64, x0⟩, ⟨.int .i64, x1⟩, ⟨.str, x2⟩]] [[⟨.sl true 23 (.sl true 5 (.int .u8)), x3⟩, ⟨.sl true 5 (.int .u8), x4⟩, ⟨.sl true 3 (.int .i64), x5⟩, ⟨.sl true 3 (.int .i64), x6⟩]]).run = (G.i_Space_layPiece_oooo x0 x1 x2 x3 x4 x5 x6).bind fun y => some (Res.mk [] [[⟨.sl true 23 (.sl true 5 (.int .u8)), y.1⟩, ⟨.sl true 5 (.int .u8), y.2.1⟩, ⟨.sl true 3 (.int .i64), y.2.2.1⟩, ⟨.sl true 3 (.int .i64), y.2.2.2⟩]] []) := by kernel_rfl
def k_i_Space_layPiece_oooo : Kn := ⟨186, [0, 0], fun args rows => match args, rows with
  | [.pl 0 0, .ag [⟨.int .i64, x0⟩, ⟨.int .i64, x1⟩, ⟨.str, x2⟩]], [[⟨.sl true 23 (.sl true 5 (.int .u8)), x3⟩, ⟨.sl true 5 (.int .u8), x4⟩, ⟨.sl true 3 (.int .i64), x5⟩, ⟨.sl true 3 (.int .i64), x6⟩]] => some ⟨_, G.i_Space_layPiece_oooo x0 x1 x2 x3 x4 x5 x6, fun y => ⟨[], [[⟨.sl true 23 (.sl true 5 (.int .u8)), y.1⟩, ⟨.sl true 5 (.int .u8), y.2.1⟩, ⟨.sl true 3 (.int .i64), y.2.2.1⟩, ⟨.sl true 3 (.int .i64), y.2.2.2⟩]], []⟩⟩
  | _, _ => none, []⟩
theorem s_i_Space_layPiece_oooo : KnOk Try.prog k_i_Space_layPiece_oooo := by
  intro args rows a h y hy
  simp only [k_i_Space_layPiece_oooo] at h
  split at h
  · injection h with h
    subst h
    exact vfun_ok eok_i_Space_layPiece_oooo Try.func186 rfl (by rw [v_i_Space_layPiece_oooo]; simp only at hy; rw [hy]; rfl)
  · cases h
def J_i_Space_layText_oooo : Joins := [(.r, ⟨[.int .i64, .bool, .sl true 23 (.sl true 5 (.int .u8)), .sl true 5 (.int .u8), .sl true 3 (.int .i64), .sl true 3 (.int .i64)], [(6, .one (.h 0)), (7, .one (.h 1))], [(78, [.vw 181332, .vw 181333, .vw 181334, .vw 181335])], [(181332, 2), (181333, 3), (181334, 4), (181335, 5)], [], []⟩)]
def ann_i_Space_layText_oooo : Ann := .seq .nil (.seq .nil (.seq .nil (.seq (.seq .nil (.block [] (.loop ⟨[.sl true 4 .bool, .sl true 5 (.int .u8), .sl true 216 (.pair (.int .i64) (.pair (.int .i64) .str)), .int .i64, .int .i64, .sl true 23 (.sl true 5 (.int .u8)), .sl true 5 (.int .u8), .sl true 3 (.int .i64), .sl true 3 (.int .i64)], [(0, .pl 78 0), (9, .one (.vw 181248)), (11, .one (.vw 181249)), (30, .one (.vw 181250)), (31, .one (.h 3)), (32, .one (.h 4))], [(78, [.vw 181251, .vw 181252, .vw 181253, .vw 181254])], [(181248, 0), (181249, 1), (181250, 2), (181251, 5), (181252, 6), (181253, 7), (181254, 8)], [], []⟩ [(.x 0, ⟨[.sl true 5 (.int .u8), .sl true 23 (.sl true 5 (.int .u8)), .sl true 5 (.int .u8), .sl true 3 (.int .i64), .sl true 3 (.int .i64)], [(0, .pl 78 0), (11, .one (.vw 181323))], [(78, [.vw 181324, .vw 181325, .vw 181326, .vw 181327])], [(181323, 0), (181324, 1), (181325, 2), (181326, 3), (181327, 4)], [], []⟩), (.r, ⟨[.int .i64, .bool, .sl true 23 (.sl true 5 (.int .u8)), .sl true 5 (.int .u8), .sl true 3 (.int .i64), .sl true 3 (.int .i64)], [(6, .one (.h 0)), (7, .one (.h 1))], [(78, [.vw 181328, .vw 181329, .vw 181330, .vw 181331])], [(181328, 2), (181329, 3), (181330, 4), (181331, 5)], [], []⟩)] (.seq .nil (.seq .nil (.seq (.block [] (.seq .nil (.seq (.seq .nil (.cond [(.n, ⟨[.sl true 4 .bool, .sl true 5 (.int .u8), .sl true 216 (.pair (.int .i64) (.pair (.int .i64) .str)), .int .i64, .int .i64, .int .i64, .int .i64, .str, .sl true 23 (.sl true 5 (.int .u8)), .sl true 5 (.int .u8), .sl true 3 (.int .i64), .sl true 3 (.int .i64)], [(0, .pl 78 0), (9, .one (.vw 181312)), (11, .one (.vw 181313)), (13, .pl 13 0), (30, .one (.vw 181314)), (31, .one (.h 3)), (32, .one (.h 4))], [(13, [.h 5, .h 6, .h 7]), (78, [.vw 181315, .vw 181316, .vw 181317, .vw 181318])], [(181312, 0), (181313, 1), (181314, 2), (181315, 8), (181316, 9), (181317, 10), (181318, 11)], [], []⟩), (.r, ⟨[.int .i64, .bool, .sl true 23 (.sl true 5 (.int .u8)), .sl true 5 (.int .u8), .sl true 3 (.int .i64), .sl true 3 (.int .i64)], [(6, .one (.h 0)), (7, .one (.h 1))], [(78, [.vw 181319, .vw 181320, .vw 181321, .vw 181322])], [(181319, 2), (181320, 3), (181321, 4), (181322, 5)], [], []⟩)] .nil .nil)) .nil))) .nil)))))) .nil)))
def env_i_Space_layText_oooo : Env := envOf ti [k_i_Space_shared, k_i_Space_take_oooo, k_i_Space_layPiece_oooo, k_i_two, k_i_padded, k_i_Space_lay_oooo] []
theorem eok_i_Space_layText_oooo : EnvOk Try.prog env_i_Space_layText_oooo := envOf_ok tab mix _ _ (by
  intro k hk
  simp only [List.mem_cons, List.not_mem_nil, or_false] at hk
  rcases hk with rfl | rfl | rfl | rfl | rfl | rfl
  · exact s_i_Space_shared
  · exact s_i_Space_take_oooo
  · exact s_i_Space_layPiece_oooo
  · exact s_i_two
  · exact s_i_padded
  · exact s_i_Space_lay_oooo)
theorem v_i_Space_layText_oooo (x0 : List UInt8) (x1 : Int) (x2 : List (List Int)) (x3 : List Int) (x4 : List Int) (x5 : List Int) : (vfun env_i_Space_layText_oooo Try.f123 J_i_Space_layText_oooo ann_i_Space_layText_oooo [] [.pl 0 0, .one ⟨.str, x0⟩, .one ⟨.int .i64, x1⟩] [[⟨.sl true 23 (.sl true 5 (.int .u8)), x2⟩, ⟨.sl true 5 (.int .u8), x3⟩, ⟨.sl true 3 (.int .i64), x4⟩, ⟨.sl true 3 (.int .i64), x5⟩]]).run = (G.i_Space_layText_oooo x0 x1 x2 x3 x4 x5).bind fun y => some (Res.mk [.one ⟨.int .i64, y.1⟩, .one ⟨.bool, y.2.1⟩] [[⟨.sl true 23 (.sl true 5 (.int .u8)), y.2.2.1⟩, ⟨.sl true 5 (.int .u8), y.2.2.2.1⟩, ⟨.sl true 3 (.int .i64), y.2.2.2.2.1⟩, ⟨.sl true 3 (.int .i64), y.2.2.2.2.2⟩]] []) := by kernel_rfl
def k_i_Space_layText_oooo : Kn := ⟨123, [0, 0, 0], fun args rows => match args, rows with
  | [.pl 0 0, .one ⟨.str, x0⟩, .one ⟨.int .i64, x1⟩], [[⟨.sl true 23 (.sl true 5 (.int .u8)), x2⟩, ⟨.sl true 5 (.int .u8), x3⟩, ⟨.sl true 3 (.int .i64), x4⟩, ⟨.sl true 3 (.int .i64), x5⟩]] => some ⟨_, G.i_Space_layText_oooo x0 x1 x2 x3 x4 x5, fun y => ⟨[.one ⟨.int .i64, y.1⟩, .one ⟨.bool, y.2.1⟩], [[⟨.sl true 23 (.sl true 5 (.int .u8)), y.2.2.1⟩, ⟨.sl true 5 (.int .u8), y.2.2.2.1⟩, ⟨.sl true 3 (.int .i64), y.2.2.2.2.1⟩, ⟨.sl true 3 (.int .i64), y.2.2.2.2.2⟩]], []⟩⟩
  | _, _ => none, []⟩
theorem s_i_Space_layText_oooo : KnOk Try.prog k_i_Space_layText_oooo := by
  intro args rows a h y hy
  simp only [k_i_Space_layText_oooo] at h
  split at h
  · injection h with h
    subst h
    exact vfun_ok eok_i_Space_layText_oooo Try.func123 rfl (by rw [v_i_Space_layText_oooo]; simp only at hy; rw [hy]; rfl)
  · cases h
def J_i_LayText : Joins := [(.r, ⟨[.int .i64, .bool, .sl true 23 (.sl true 5 (.int .u8)), .sl true 5 (.int .u8), .sl true 3 (.int .i64), .sl true 3 (.int .i64)], [(6, .pl 6 0), (7, .one (.h 0)), (8, .one (.h 1))], [(6, [.vw 134144, .vw 134145, .vw 134146, .vw 134147])], [(134144, 2), (134145, 3), (134146, 4), (134147, 5)], [], []⟩)]
def ann_i_LayText : Ann := .nil
def env_i_LayText : Env := envOf ti [k_i_canLay, k_i_Space_copied, k_i_Space_layText_oooo] []
theorem eok_i_LayText : EnvOk Try.prog env_i_LayText := envOf_ok tab mix _ _ (by
  intro k hk
  simp only [List.mem_cons, List.not_mem_nil, or_false] at hk
  rcases hk with rfl | rfl | rfl
  · exact s_i_canLay
  · exact s_i_Space_copied
  · exact s_i_Space_layText_oooo)
theorem v_i_LayText (x0 : List (List Int)) (x1 : List Int) (x2 : List Int) (x3 : List Int) (x4 : List UInt8) (x5 : Int) : (vfun env_i_LayText Try.f51 J_i_LayText ann_i_LayText [] [.ag [⟨.sl false 23 (.sl false 5 (.int .u8)), x0⟩, ⟨.sl false 5 (.int .u8), x1⟩, ⟨.sl false 3 (.int .i64), x2⟩, ⟨.sl false 3 (.int .i64), x3⟩], .one ⟨.str, x4⟩, .one ⟨.int .i64, x5⟩] []).run = (G.i_LayText x0 x1 x2 x3 x4 x5).bind fun y => some (Res.mk [.ag [⟨.sl true 23 (.sl true 5 (.int .u8)), y.2.2.1⟩, ⟨.sl true 5 (.int .u8), y.2.2.2.1⟩, ⟨.sl true 3 (.int .i64), y.2.2.2.2.1⟩, ⟨.sl true 3 (.int .i64), y.2.2.2.2.2⟩], .one ⟨.int .i64, y.1⟩, .one ⟨.bool, y.2.1⟩] [] []) := by kernel_rfl
def k_i_LayText : Kn := ⟨51, [0, 0, 0], fun args rows => match args, rows with
  | [.ag [⟨.sl false 23 (.sl false 5 (.int .u8)), x0⟩, ⟨.sl false 5 (.int .u8), x1⟩, ⟨.sl false 3 (.int .i64), x2⟩, ⟨.sl false 3 (.int .i64), x3⟩], .one ⟨.str, x4⟩, .one ⟨.int .i64, x5⟩], [] => some ⟨_, G.i_LayText x0 x1 x2 x3 x4 x5, fun y => ⟨[.ag [⟨.sl true 23 (.sl true 5 (.int .u8)), y.2.2.1⟩, ⟨.sl true 5 (.int .u8), y.2.2.2.1⟩, ⟨.sl true 3 (.int .i64), y.2.2.2.2.1⟩, ⟨.sl true 3 (.int .i64), y.2.2.2.2.2⟩], .one ⟨.int .i64, y.1⟩, .one ⟨.bool, y.2.1⟩], [], []⟩⟩
  | _, _ => none, []⟩
theorem s_i_LayText : KnOk Try.prog k_i_LayText := by
  intro args rows a h y hy
  simp only [k_i_LayText] at h
  split at h
  · injection h with h
    subst h
    exact vfun_ok eok_i_LayText Try.func51 rfl (by rw [v_i_LayText]; simp only at hy; rw [hy]; rfl)
  · cases h
end
end Go.Proofs.Ytggpihbcaebpjaa

set_option linter.unusedVariables false
set_option maxRecDepth 100000
namespace Go.Proofs.Ytggpihbcaebpjaa
open Go.V
noncomputable section
def J_i_Space_text_ffff : Joins := [(.r, ⟨[.str, .sl true 3 (.int .i64), .bool, .sl false 23 (.sl false 5 (.int .u8)), .sl false 5 (.int .u8), .sl false 3 (.int .i64), .sl false 3 (.int .i64)], [(4, .one (.h 0)), (5, .one (.vw 146497)), (6, .one (.h 2))], [(44, [.h 3, .h 4, .h 5, .h 6])], [(146497, 1)], [], []⟩)]
def ann_i_Space_text_ffff : Ann := .seq .nil (.seq .nil (.seq .nil (.seq .nil (.seq (.seq .nil (.block [] (.loop ⟨[.int .i64, .str, .sl true 3 (.int .i64), .sl true 216 (.pair (.int .i64) (.pair (.int .i64) .str)), .int .i64, .int .i64, .sl false 23 (.sl false 5 (.int .u8)), .sl false 5 (.int .u8), .sl false 3 (.int .i64), .sl false 3 (.int .i64)], [(1, .one (.h 0)), (9, .one (.h 1)), (10, .one (.vw 146432)), (22, .one (.vw 146433)), (23, .one (.h 4)), (24, .one (.h 5))], [(44, [.h 6, .h 7, .h 8, .h 9])], [(146432, 2), (146433, 3)], [], []⟩ [(.x 0, ⟨[.int .i64, .str, .sl true 3 (.int .i64), .sl false 23 (.sl false 5 (.int .u8)), .sl false 5 (.int .u8), .sl false 3 (.int .i64), .sl false 3 (.int .i64)], [(1, .one (.h 0)), (9, .one (.h 1)), (10, .one (.vw 146496))], [(44, [.h 3, .h 4, .h 5, .h 6])], [(146496, 2)], [], []⟩)] .nil))) .nil))))
def env_i_Space_text_ffff : Env := envOf ti [k_i_Space_pieces] []
theorem eok_i_Space_text_ffff : EnvOk Try.prog env_i_Space_text_ffff := envOf_ok tab mix _ _ (by
  intro k hk
  simp only [List.mem_cons, List.not_mem_nil, or_false] at hk
  rcases hk with rfl
  · exact s_i_Space_pieces)
theorem v_i_Space_text_ffff (x0 : Int) (x1 : List (List Int)) (x2 : List Int) (x3 : List Int) (x4 : List Int) : (vfun env_i_Space_text_ffff Try.f144 J_i_Space_text_ffff ann_i_Space_text_ffff [] [.pl 0 0, .one ⟨.int .i64, x0⟩] [[⟨.sl false 23 (.sl false 5 (.int .u8)), x1⟩, ⟨.sl false 5 (.int .u8), x2⟩, ⟨.sl false 3 (.int .i64), x3⟩, ⟨.sl false 3 (.int .i64), x4⟩]]).run = (G.i_Space_text_ffff x0 x1 x2 x3 x4).bind fun y => some (Res.mk [.one ⟨.str, y.1⟩, .one ⟨.sl true 3 (.int .i64), y.2.1⟩, .one ⟨.bool, y.2.2.1⟩] [[⟨.sl false 23 (.sl false 5 (.int .u8)), y.2.2.2.1⟩, ⟨.sl false 5 (.int .u8), y.2.2.2.2.1⟩, ⟨.sl false 3 (.int .i64), y.2.2.2.2.2.1⟩, ⟨.sl false 3 (.int .i64), y.2.2.2.2.2.2⟩]] []) := by kernel_rfl
def k_i_Space_text_ffff : Kn := ⟨144, [0, 0], fun args rows => match args, rows with
  | [.pl 0 0, .one ⟨.int .i64, x0⟩], [[⟨.sl false 23 (.sl false 5 (.int .u8)), x1⟩, ⟨.sl false 5 (.int .u8), x2⟩, ⟨.sl false 3 (.int .i64), x3⟩, ⟨.sl false 3 (.int .i64), x4⟩]] => some ⟨_, G.i_Space_text_ffff x0 x1 x2 x3 x4, fun y => ⟨[.one ⟨.str, y.1⟩, .one ⟨.sl true 3 (.int .i64), y.2.1⟩, .one ⟨.bool, y.2.2.1⟩], [[⟨.sl false 23 (.sl false 5 (.int .u8)), y.2.2.2.1⟩, ⟨.sl false 5 (.int .u8), y.2.2.2.2.1⟩, ⟨.sl false 3 (.int .i64), y.2.2.2.2.2.1⟩, ⟨.sl false 3 (.int .i64), y.2.2.2.2.2.2⟩]], []⟩⟩
  | _, _ => none, []⟩
theorem s_i_Space_text_ffff : KnOk Try.prog k_i_Space_text_ffff := by
  intro args rows a h y hy
  simp only [k_i_Space_text_ffff] at h
  split at h
  · injection h with h
    subst h
    exact vfun_ok eok_i_Space_text_ffff Try.func144 rfl (by rw [v_i_Space_text_ffff]; simp only at hy; rw [hy]; rfl)
  · cases h
def J_i_TextIn : Joins := [(.r, ⟨[.str, .sl true 3 (.int .i64), .bool], [(4, .one (.h 0)), (5, .one (.vw 117760)), (6, .one (.h 2))], [], [(117760, 1)], [], []⟩)]
def ann_i_TextIn : Ann := .nil
def env_i_TextIn : Env := envOf ti [k_i_GoodSpace, k_i_Space_text_ffff] []
theorem eok_i_TextIn : EnvOk Try.prog env_i_TextIn := envOf_ok tab mix _ _ (by
  intro k hk
  simp only [List.mem_cons, List.not_mem_nil, or_false] at hk
  rcases hk with rfl | rfl
  · exact s_i_GoodSpace
  · exact s_i_Space_text_ffff)
theorem v_i_TextIn (x0 : List (List Int)) (x1 : List Int) (x2 : List Int) (x3 : List Int) (x4 : Int) : (vfun env_i_TextIn Try.f64 J_i_TextIn ann_i_TextIn [] [.ag [⟨.sl false 23 (.sl false 5 (.int .u8)), x0⟩, ⟨.sl false 5 (.int .u8), x1⟩, ⟨.sl false 3 (.int .i64), x2⟩, ⟨.sl false 3 (.int .i64), x3⟩], .one ⟨.int .i64, x4⟩] []).run = (G.i_TextIn x0 x1 x2 x3 x4).bind fun y => some (Res.mk [.one ⟨.str, y.1⟩, .one ⟨.sl true 3 (.int .i64), y.2.1⟩, .one ⟨.bool, y.2.2⟩] [] []) := by kernel_rfl
def k_i_TextIn : Kn := ⟨64, [0, 0], fun args rows => match args, rows with
  | [.ag [⟨.sl false 23 (.sl false 5 (.int .u8)), x0⟩, ⟨.sl false 5 (.int .u8), x1⟩, ⟨.sl false 3 (.int .i64), x2⟩, ⟨.sl false 3 (.int .i64), x3⟩], .one ⟨.int .i64, x4⟩], [] => some ⟨_, G.i_TextIn x0 x1 x2 x3 x4, fun y => ⟨[.one ⟨.str, y.1⟩, .one ⟨.sl true 3 (.int .i64), y.2.1⟩, .one ⟨.bool, y.2.2⟩], [], []⟩⟩
  | _, _ => none, []⟩
theorem s_i_TextIn : KnOk Try.prog k_i_TextIn := by
  intro args rows a h y hy
  simp only [k_i_TextIn] at h
  split at h
  · injection h with h
    subst h
    exact vfun_ok eok_i_TextIn Try.func64 rfl (by rw [v_i_TextIn]; simp only at hy; rw [hy]; rfl)
  · cases h
def J_i_Space_give_oooo : Joins := [(.n, ⟨[.sl true 23 (.sl true 5 (.int .u8)), .sl true 5 (.int .u8), .sl true 3 (.int .i64), .sl true 3 (.int .i64)], [], [(14, [.vw 115712, .vw 115713, .vw 115714, .vw 115715])], [(115712, 0), (115713, 1), (115714, 2), (115715, 3)], [], []⟩)]
def ann_i_Space_give_oooo : Ann := .nil
def env_i_Space_give_oooo : Env := envOf ti [k_i_insert] []
theorem eok_i_Space_give_oooo : EnvOk Try.prog env_i_Space_give_oooo := envOf_ok tab mix _ _ (by
  intro k hk
  simp only [List.mem_cons, List.not_mem_nil, or_false] at hk
  rcases hk with rfl
  · exact s_i_insert)
theorem v_i_Space_give_oooo (x0 : Int) (x1 : List (List Int)) (x2 : List Int) (x3 : List Int) (x4 : List Int) : (vfun env_i_Space_give_oooo Try.f92 J_i_Space_give_oooo ann_i_Space_give_oooo [] [.pl 0 0, .one ⟨.int .i64, x0⟩] [[⟨.sl true 23 (.sl true 5 (.int .u8)), x1⟩, ⟨.sl true 5 (.int .u8), x2⟩, ⟨.sl true 3 (.int .i64), x3⟩, ⟨.sl true 3 (.int .i64), x4⟩]]).run = (G.i_Space_give_oooo x0 x1 x2 x3 x4).bind fun y => some (Res.mk [] [[⟨.sl true 23 (.sl true 5 (.int .u8)), y.1⟩, ⟨.sl true 5 (.int .u8), y.2.1⟩, ⟨.sl true 3 (.int .i64), y.2.2.1⟩, ⟨.sl true 3 (.int .i64), y.2.2.2⟩]] []) := by kernel_rfl
def k_i_Space_give_oooo : Kn := ⟨92, [0, 0], fun args rows => match args, rows with
  | [.pl 0 0, .one ⟨.int .i64, x0⟩], [[⟨.sl true 23 (.sl true 5 (.int .u8)), x1⟩, ⟨.sl true 5 (.int .u8), x2⟩, ⟨.sl true 3 (.int .i64), x3⟩, ⟨.sl true 3 (.int .i64), x4⟩]] => some ⟨_, G.i_Space_give_oooo x0 x1 x2 x3 x4, fun y => ⟨[], [[⟨.sl true 23 (.sl true 5 (.int .u8)), y.1⟩, ⟨.sl true 5 (.int .u8), y.2.1⟩, ⟨.sl true 3 (.int .i64), y.2.2.1⟩, ⟨.sl true 3 (.int .i64), y.2.2.2⟩]], []⟩⟩
  | _, _ => none, []⟩
theorem s_i_Space_give_oooo : KnOk Try.prog k_i_Space_give_oooo := by
  intro args rows a h y hy
  simp only [k_i_Space_give_oooo] at h
  split at h
  · injection h with h
    subst h
    exact vfun_ok eok_i_Space_give_oooo Try.func92 rfl (by rw [v_i_Space_give_oooo]; simp only at hy; rw [hy]; rfl)
  · cases h
def J_i_Space_dropText_oooo : Joins := [(.n, ⟨[.sl true 23 (.sl true 5 (.int .u8)), .sl true 5 (.int .u8), .sl true 3 (.int .i64), .sl true 3 (.int .i64)], [], [(39, [.vw 141385, .vw 141386, .vw 141387, .vw 141388])], [(141385, 0), (141386, 1), (141387, 2), (141388, 3)], [], []⟩)]
def ann_i_Space_dropText_oooo : Ann := .seq .nil (.seq .nil (.seq .nil (.block [] (.loop ⟨[.sl true 216 (.pair (.int .i64) (.pair (.int .i64) .str)), .int .i64, .int .i64, .sl true 23 (.sl true 5 (.int .u8)), .sl true 5 (.int .u8), .sl true 3 (.int .i64), .sl true 3 (.int .i64)], [(0, .pl 39 0), (17, .one (.vw 141312)), (18, .one (.h 1)), (19, .one (.h 2))], [(39, [.vw 141313, .vw 141314, .vw 141315, .vw 141316])], [(141312, 0), (141313, 3), (141314, 4), (141315, 5), (141316, 6)], [], []⟩ [(.x 0, ⟨[.sl true 23 (.sl true 5 (.int .u8)), .sl true 5 (.int .u8), .sl true 3 (.int .i64), .sl true 3 (.int .i64)], [], [(39, [.vw 141381, .vw 141382, .vw 141383, .vw 141384])], [(141381, 0), (141382, 1), (141383, 2), (141384, 3)], [], []⟩)] (.seq .nil (.seq .nil (.seq (.block [] (.seq .nil (.seq .nil (.seq .nil (.cond [(.n, ⟨[.sl true 216 (.pair (.int .i64) (.pair (.int .i64) .str)), .int .i64, .int .i64, .sl true 23 (.sl true 5 (.int .u8)), .sl true 5 (.int .u8), .sl true 3 (.int .i64), .sl true 3 (.int .i64)], [(0, .pl 39 0), (17, .one (.vw 141376)), (18, .one (.h 1)), (19, .one (.h 2))], [(39, [.vw 141377, .vw 141378, .vw 141379, .vw 141380])], [(141376, 0), (141377, 3), (141378, 4), (141379, 5), (141380, 6)], [], []⟩)] .nil .nil))))) .nil)))))))
def env_i_Space_dropText_oooo : Env := envOf ti [k_i_Space_pieces, k_i_Space_give_oooo, k_i_Space_layPiece_oooo] []
theorem eok_i_Space_dropText_oooo : EnvOk Try.prog env_i_Space_dropText_oooo := envOf_ok tab mix _ _ (by
  intro k hk
  simp only [List.mem_cons, List.not_mem_nil, or_false] at hk
  rcases hk with rfl | rfl | rfl
  · exact s_i_Space_pieces
  · exact s_i_Space_give_oooo
  · exact s_i_Space_layPiece_oooo)
theorem v_i_Space_dropText_oooo (x0 : Int) (x1 : List (List Int)) (x2 : List Int) (x3 : List Int) (x4 : List Int) : (vfun env_i_Space_dropText_oooo Try.f118 J_i_Space_dropText_oooo ann_i_Space_dropText_oooo [] [.pl 0 0, .one ⟨.int .i64, x0⟩] [[⟨.sl true 23 (.sl true 5 (.int .u8)), x1⟩, ⟨.sl true 5 (.int .u8), x2⟩, ⟨.sl true 3 (.int .i64), x3⟩, ⟨.sl true 3 (.int .i64), x4⟩]]).run = (G.i_Space_dropText_oooo x0 x1 x2 x3 x4).bind fun y => some (Res.mk [] [[⟨.sl true 23 (.sl true 5 (.int .u8)), y.1⟩, ⟨.sl true 5 (.int .u8), y.2.1⟩, ⟨.sl true 3 (.int .i64), y.2.2.1⟩, ⟨.sl true 3 (.int .i64), y.2.2.2⟩]] []) := by kernel_rfl
def k_i_Space_dropText_oooo : Kn := ⟨118, [0, 0], fun args rows => match args, rows with
  | [.pl 0 0, .one ⟨.int .i64, x0⟩], [[⟨.sl true 23 (.sl true 5 (.int .u8)), x1⟩, ⟨.sl true 5 (.int .u8), x2⟩, ⟨.sl true 3 (.int .i64), x3⟩, ⟨.sl true 3 (.int .i64), x4⟩]] => some ⟨_, G.i_Space_dropText_oooo x0 x1 x2 x3 x4, fun y => ⟨[], [[⟨.sl true 23 (.sl true 5 (.int .u8)), y.1⟩, ⟨.sl true 5 (.int .u8), y.2.1⟩, ⟨.sl true 3 (.int .i64), y.2.2.1⟩, ⟨.sl true 3 (.int .i64), y.2.2.2⟩]], []⟩⟩
  | _, _ => none, []⟩
theorem s_i_Space_dropText_oooo : KnOk Try.prog k_i_Space_dropText_oooo := by
  intro args rows a h y hy
  simp only [k_i_Space_dropText_oooo] at h
  split at h
  · injection h with h
    subst h
    exact vfun_ok eok_i_Space_dropText_oooo Try.func118 rfl (by rw [v_i_Space_dropText_oooo]; simp only at hy; rw [hy]; rfl)
  · cases h
def J_i_DropText : Joins := [(.r, ⟨[.bool, .sl true 23 (.sl true 5 (.int .u8)), .sl true 5 (.int .u8), .sl true 3 (.int .i64), .sl true 3 (.int .i64)], [(4, .pl 4 0), (5, .one (.h 0))], [(4, [.vw 128000, .vw 128001, .vw 128002, .vw 128003])], [(128000, 1), (128001, 2), (128002, 3), (128003, 4)], [], []⟩)]
def ann_i_DropText : Ann := .nil
def env_i_DropText : Env := envOf ti [k_i_TextIn, k_i_Space_copied, k_i_Space_dropText_oooo] []
theorem eok_i_DropText : EnvOk Try.prog env_i_DropText := envOf_ok tab mix _ _ (by
  intro k hk
  simp only [List.mem_cons, List.not_mem_nil, or_false] at hk
  rcases hk with rfl | rfl | rfl
  · exact s_i_TextIn
  · exact s_i_Space_copied
  · exact s_i_Space_dropText_oooo)
theorem v_i_DropText (x0 : List (List Int)) (x1 : List Int) (x2 : List Int) (x3 : List Int) (x4 : Int) : (vfun env_i_DropText Try.f49 J_i_DropText ann_i_DropText [] [.ag [⟨.sl false 23 (.sl false 5 (.int .u8)), x0⟩, ⟨.sl false 5 (.int .u8), x1⟩, ⟨.sl false 3 (.int .i64), x2⟩, ⟨.sl false 3 (.int .i64), x3⟩], .one ⟨.int .i64, x4⟩] []).run = (G.i_DropText x0 x1 x2 x3 x4).bind fun y => some (Res.mk [.ag [⟨.sl true 23 (.sl true 5 (.int .u8)), y.2.1⟩, ⟨.sl true 5 (.int .u8), y.2.2.1⟩, ⟨.sl true 3 (.int .i64), y.2.2.2.1⟩, ⟨.sl true 3 (.int .i64), y.2.2.2.2⟩], .one ⟨.bool, y.1⟩] [] []) := by kernel_rfl
def k_i_DropText : Kn := ⟨49, [0, 0], fun args rows => match args, rows with
  | [.ag [⟨.sl false 23 (.sl false 5 (.int .u8)), x0⟩, ⟨.sl false 5 (.int .u8), x1⟩, ⟨.sl false 3 (.int .i64), x2⟩, ⟨.sl false 3 (.int .i64), x3⟩], .one ⟨.int .i64, x4⟩], [] => some ⟨_, G.i_DropText x0 x1 x2 x3 x4, fun y => ⟨[.ag [⟨.sl true 23 (.sl true 5 (.int .u8)), y.2.1⟩, ⟨.sl true 5 (.int .u8), y.2.2.1⟩, ⟨.sl true 3 (.int .i64), y.2.2.2.1⟩, ⟨.sl true 3 (.int .i64), y.2.2.2.2⟩], .one ⟨.bool, y.1⟩], [], []⟩⟩
  | _, _ => none, []⟩
theorem s_i_DropText : KnOk Try.prog k_i_DropText := by
  intro args rows a h y hy
  simp only [k_i_DropText] at h
  split at h
  · injection h with h
    subst h
    exact vfun_ok eok_i_DropText Try.func49 rfl (by rw [v_i_DropText]; simp only at hy; rw [hy]; rfl)
  · cases h
def J_l_FnRecords : Joins := [(.r, ⟨[.bool], [(4, .one (.h 0))], [], [], [], []⟩)]
def ann_l_FnRecords : Ann := .seq .nil (.seq .nil (.seq .nil (.seq .nil (.seq .nil (.seq .nil (.seq (.seq .nil (.cond [(.n, ⟨[.sl false 5 (.int .u8)], [(1, .one (.h 0))], [], [], [], []⟩), (.r, ⟨[.bool], [(4, .one (.h 0))], [], [], [], []⟩)] (.seq .nil (.seq (.reg [(.n, ⟨[.sl false 5 (.int .u8), .bool], [(1, .one (.h 0)), (93, .one (.h 1))], [], [], [], []⟩)]) .nil)) .nil)) (.seq .nil (.seq .nil (.seq .nil (.seq .nil (.seq .nil (.seq .nil (.seq (.seq (.reg [(.n, ⟨[.int .i64, .int .i64, .bool, .sl true 23 (.sl true 5 (.int .u8)), .sl true 5 (.int .u8), .sl true 3 (.int .i64), .sl true 3 (.int .i64), .sl true 23 (.sl true 5 (.int .u8)), .sl true 5 (.int .u8), .sl true 3 (.int .i64), .sl true 3 (.int .i64)], [(16, .pl 16 0), (18, .one (.h 0)), (19, .pl 19 0), (20, .one (.h 1)), (134, .one (.h 2))], [(16, [.vw 294912, .vw 294913, .vw 294914, .vw 294915]), (19, [.vw 294916, .vw 294917, .vw 294918, .vw 294919])], [(294912, 3), (294913, 4), (294914, 5), (294915, 6), (294916, 7), (294917, 8), (294918, 9), (294919, 10)], [], []⟩)]) .nil) (.seq (.seq .nil (.cond [(.n, ⟨[.int .i64, .int .i64, .sl true 23 (.sl true 5 (.int .u8)), .sl true 5 (.int .u8), .sl true 3 (.int .i64), .sl true 3 (.int .i64), .sl true 23 (.sl true 5 (.int .u8)), .sl true 5 (.int .u8), .sl true 3 (.int .i64), .sl true 3 (.int .i64)], [(16, .pl 16 0), (18, .one (.h 0)), (19, .pl 19 0), (20, .one (.h 1))], [(16, [.vw 294928, .vw 294929, .vw 294930, .vw 294931]), (19, [.vw 294932, .vw 294933, .vw 294934, .vw 294935])], [(294928, 2), (294929, 3), (294930, 4), (294931, 5), (294932, 6), (294933, 7), (294934, 8), (294935, 9)], [], []⟩), (.r, ⟨[.bool], [(4, .one (.h 0))], [], [], [], []⟩)] (.seq .nil (.seq .nil (.seq (.reg [(.n, ⟨[.int .i64, .int .i64, .bool, .sl true 23 (.sl true 5 (.int .u8)), .sl true 5 (.int .u8), .sl true 3 (.int .i64), .sl true 3 (.int .i64), .sl true 23 (.sl true 5 (.int .u8)), .sl true 5 (.int .u8), .sl true 3 (.int .i64), .sl true 3 (.int .i64)], [(16, .pl 16 0), (18, .one (.h 0)), (19, .pl 19 0), (20, .one (.h 1)), (157, .one (.h 2))], [(16, [.vw 294920, .vw 294921, .vw 294922, .vw 294923]), (19, [.vw 294924, .vw 294925, .vw 294926, .vw 294927])], [(294920, 3), (294921, 4), (294922, 5), (294923, 6), (294924, 7), (294925, 8), (294926, 9), (294927, 10)], [], []⟩)]) .nil))) .nil)) (.seq .nil (.seq .nil (.seq (.seq .nil (.cond [] (.seq .nil (.seq .nil (.seq (.reg [(.n, ⟨[.bool], [(4, .one (.h 0))], [], [], [], []⟩)]) .nil))) .nil)) .nil)))))))))))))))))
def env_l_FnRecords : Env := envOf ti [k_s_DrawLayRecord, k_i_LayRecord, k_s_LayRecord, k_i_RecordAt, k_i_NeedForRecord, k_s_DrawLayText, k_i_LayText, k_s_LayText, k_i_TextIn, k_s_TextIn, k_i_DropText] []
theorem eok_l_FnRecords : EnvOk Try.prog env_l_FnRecords := envOf_ok tab mix _ _ (by
  intro k hk
  simp only [List.mem_cons, List.not_mem_nil, or_false] at hk
  rcases hk with rfl | rfl | rfl | rfl | rfl | rfl | rfl | rfl | rfl | rfl | rfl
  · exact s_s_DrawLayRecord
  · exact s_i_LayRecord
  · exact s_s_LayRecord
  · exact s_i_RecordAt
  · exact s_i_NeedForRecord
  · exact s_s_DrawLayText
  · exact s_i_LayText
  · exact s_s_LayText
  · exact s_i_TextIn
  · exact s_s_TextIn
  · exact s_i_DropText)
theorem v_l_FnRecords (x0 : List Int) (x1 : List Int) : (vfun env_l_FnRecords Try.f12 J_l_FnRecords ann_l_FnRecords [] [.one ⟨.sl false 5 (.int .u8), x0⟩, .one ⟨.sl false 5 (.int .u8), x1⟩] []).run = (G.l_FnRecords x0 x1).bind fun y => some (Res.mk [.one ⟨.bool, y⟩] [] []) := by kernel_rfl
def k_l_FnRecords : Kn := ⟨12, [0, 0], fun args rows => match args, rows with
  | [.one ⟨.sl false 5 (.int .u8), x0⟩, .one ⟨.sl false 5 (.int .u8), x1⟩], [] => some ⟨_, G.l_FnRecords x0 x1, fun y => ⟨[.one ⟨.bool, y⟩], [], []⟩⟩
  | _, _ => none, []⟩
theorem s_l_FnRecords : KnOk Try.prog k_l_FnRecords := by
  intro args rows a h y hy
  simp only [k_l_FnRecords] at h
  split at h
  · injection h with h
    subst h
    exact vfun_ok eok_l_FnRecords Try.func12 rfl (by rw [v_l_FnRecords]; simp only at hy; rw [hy]; rfl)
  · cases h
end
end Go.Proofs.Ytggpihbcaebpjaa
