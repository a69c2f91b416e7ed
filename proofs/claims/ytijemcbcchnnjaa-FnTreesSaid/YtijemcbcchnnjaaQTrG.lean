import Derived.Test.YtijemcbcchnnjaaQTrF
import Derived.Test.YtijemcbcchnnjaaProg
import Derived.KernelRfl
import Derived.Test.YtijemcbcchnnjaaRows
import Derived.WalkKit
import Derived.ProofKit
import Derived.OpenShut
import Derived.ShutString
import Derived.ChangeOld
import Derived.Below
set_option linter.unusedVariables false
set_option maxRecDepth 100000
namespace Go.Proofs.Ytijemcbcchnnjaa
open Go.V
def tiL : List TI := [
  .other,
  .other,
  .cell (.int .i64),
  .cell (.int .i64),
  .cell .bool,
  .cell (.int .u8),
  .cell (.int .u8),
  .other,
  .other,
  .cell .str,
  .cell .str,
  .cell .str,
  .cell (.int .u64),
  .other,
  .other,
  .ptr 208,
  .ptr 211,
  .ptr 220,
  .other,
  .other,
  .other,
  .cell (.int .i32),
  .slice 5 [(.int .u8)] 1,
  .slice 22 [(.sl true 5 (.int .u8))] 24,
  .slice 3 [(.int .i64)] 8,
  .struct [(0, 1, false), (1, 1, false), (2, 1, false), (3, 1, false)] [(.sl true 22 (.sl true 5 (.int .u8))), (.sl true 5 (.int .u8)), (.sl true 3 (.int .i64)), (.sl true 3 (.int .i64))] false,
  .struct [(0, 1, false), (1, 1, false), (2, 1, false), (3, 1, false)] [(.sl true 22 (.sl true 5 (.int .u8))), (.sl true 5 (.int .u8)), (.sl true 3 (.int .i64)), (.sl true 3 (.int .i64))] false,
  .slice 35 [(.int .i64), (.int .i64)] 16,
  .other,
  .other,
  .other,
  .other,
  .other,
  .other,
  .struct [(0, 1, false), (1, 1, false)] [(.int .i64), (.int .i64)] true,
  .struct [(0, 1, false), (1, 1, false)] [(.int .i64), (.int .i64)] true,
  .other,
  .other,
  .other,
  .other,
  .other,
  .other,
  .other,
  .struct [(0, 1, false), (1, 1, false), (2, 1, false), (3, 1, false)] [(.sl true 22 (.sl true 5 (.int .u8))), (.sl true 5 (.int .u8)), (.sl true 3 (.int .i64)), (.sl true 3 (.int .i64))] false,
  .slice 119 [(.int .i64), (.int .i64)] 16,
  .other,
  .other,
  .other,
  .other,
  .other,
  .other,
  .other,
  .other,
  .other,
  .slice 161 [(.int .i64), (.sl true 5 (.int .u8)), .bool, (.int .i64), (.int .i64)] 56,
  .struct [(0, 1, false), (1, 1, false), (2, 1, false)] [(.int .i64), (.int .i64), (.sl true 161 (.pair (.int .i64) (.pair (.sl true 5 (.int .u8)) (.pair .bool (.pair (.int .i64) (.int .i64))))))] false,
  .struct [(0, 1, false), (1, 1, false), (2, 1, false)] [(.int .i64), (.int .i64), (.sl true 161 (.pair (.int .i64) (.pair (.sl true 5 (.int .u8)) (.pair .bool (.pair (.int .i64) (.int .i64))))))] false,
  .struct [(0, 1, false), (1, 1, false), (2, 1, false), (3, 1, false)] [(.sl true 22 (.sl true 5 (.int .u8))), (.int .i64), .bool, (.int .i64)] false,
  .struct [(0, 1, false), (1, 1, false), (2, 1, false), (3, 1, false)] [(.sl true 22 (.sl true 5 (.int .u8))), (.int .i64), .bool, (.int .i64)] false,
  .other,
  .other,
  .slice 129 [(.int .i64), (.sl true 5 (.int .u8)), .bool, (.int .i64), (.int .i64)] 56,
  .struct [(0, 1, false), (1, 1, false), (2, 1, false)] [(.int .i64), (.int .i64), (.sl true 129 (.pair (.int .i64) (.pair (.sl true 5 (.int .u8)) (.pair .bool (.pair (.int .i64) (.int .i64))))))] false,
  .struct [(0, 1, false), (1, 1, false), (2, 1, false)] [(.int .i64), (.int .i64), (.sl true 129 (.pair (.int .i64) (.pair (.sl true 5 (.int .u8)) (.pair .bool (.pair (.int .i64) (.int .i64))))))] false,
  .struct [(0, 1, false), (1, 1, false), (2, 1, false), (3, 1, false)] [(.sl true 22 (.sl true 5 (.int .u8))), (.int .i64), .bool, (.int .i64)] false,
  .other,
  .other,
  .other,
  .other,
  .other,
  .other,
  .other,
  .other,
  .other,
  .other,
  .other,
  .other,
  .other,
  .other,
  .other,
  .other,
  .other,
  .other,
  .ptr 86,
  .cell (.int .u64),
  .struct [(0, 1, false), (1, 1, false), (2, 1, false)] [(.sl true 5 (.int .u8)), (.int .i64), (.int .u64)] false,
  .struct [(0, 1, false), (1, 1, false), (2, 1, false)] [(.sl true 5 (.int .u8)), (.int .i64), (.int .u64)] false,
  .other,
  .other,
  .other,
  .other,
  .other,
  .other,
  .other,
  .ptr 26,
  .slice 24 [(.sl true 3 (.int .i64))] 24,
  .struct [(0, 1, false), (1, 1, false), (2, 1, false)] [(.int .i64), (.sl true 3 (.int .i64)), (.sl true 24 (.sl true 3 (.int .i64)))] false,
  .struct [(0, 1, false), (1, 1, false), (2, 1, false)] [(.int .i64), (.sl true 3 (.int .i64)), (.sl true 24 (.sl true 3 (.int .i64)))] false,
  .other,
  .other,
  .other,
  .other,
  .other,
  .other,
  .other,
  .other,
  .other,
  .other,
  .other,
  .other,
  .other,
  .other,
  .other,
  .other,
  .other,
  .other,
  .other,
  .other,
  .other,
  .struct [(0, 1, false), (1, 1, false)] [(.int .i64), (.int .i64)] true,
  .other,
  .other,
  .other,
  .other,
  .other,
  .other,
  .other,
  .other,
  .struct [(0, 1, false), (1, 1, false), (2, 1, false), (3, 1, false), (4, 1, false)] [(.int .i64), (.sl true 5 (.int .u8)), .bool, (.int .i64), (.int .i64)] false,
  .struct [(0, 1, false), (1, 1, false), (2, 1, false), (3, 1, false), (4, 1, false)] [(.int .i64), (.sl true 5 (.int .u8)), .bool, (.int .i64), (.int .i64)] false,
  .other,
  .other,
  .ptr 129,
  .other,
  .other,
  .other,
  .other,
  .other,
  .other,
  .other,
  .other,
  .other,
  .other,
  .other,
  .other,
  .other,
  .other,
  .other,
  .other,
  .other,
  .other,
  .other,
  .other,
  .other,
  .slice 4 [.bool] 1,
  .other,
  .other,
  .other,
  .other,
  .other,
  .other,
  .struct [(0, 1, false), (1, 1, false), (2, 1, false), (3, 1, false), (4, 1, false)] [(.int .i64), (.sl true 5 (.int .u8)), .bool, (.int .i64), (.int .i64)] false,
  .other,
  .ptr 64,
  .other,
  .other,
  .other,
  .other,
  .other,
  .other,
  .other,
  .other,
  .other,
  .other,
  .other,
  .other,
  .other,
  .cell (.int .u64),
  .other,
  .other,
  .other,
  .other,
  .other,
  .other,
  .other,
  .other,
  .other,
  .other,
  .ptr 63,
  .other,
  .other,
  .other,
  .other,
  .other,
  .other,
  .other,
  .other,
  .other,
  .other,
  .other,
  .other,
  .other,
  .other,
  .other,
  .other,
  .other,
  .other,
  .other,
  .other,
  .other,
  .other,
  .other,
  .cell (.int .u32),
  .cell (.int .u8),
  .cell (.int .u8),
  .other,
  .ptr 5,
  .cell (.int .i32),
  .cell (.int .i32),
  .other,
  .other,
  .other]
def ti (t : TypeId) : TI := tiL.getD t .other
theorem tab : TabOk Try.prog ti := tabOf Try.prog tiL (by kernel_rfl)
theorem mix : Try.prog.follows .mixedOrders = true := by kernel_rfl
end Go.Proofs.Ytijemcbcchnnjaa

set_option maxRecDepth 100000
namespace Go.Proofs.Ytijemcbcchnnjaa
open Go.V
theorem own : ownKnob Try.prog.godebug = none := by kernel_rfl
theorem laidOut : laidOutB Try.prog = true := by kernel_rfl
theorem tab2 : ∀ t, tyOk2 Try.prog ti t (ti t) = true := tabOf2 Try.prog tiL (by kernel_rfl)
end Go.Proofs.Ytijemcbcchnnjaa

set_option linter.unusedVariables false
set_option maxRecDepth 100000
namespace Go.Proofs.Ytijemcbcchnnjaa
open Go.V
noncomputable section
def J_s_l1Cur_next_f : Joins := [(.r, ⟨[.int .i64, .sl false 5 (.int .u8), .int .i64, .int .u64], [(2, .one (.h 0))], [(63, [.h 1, .h 2, .h 3])], [], [], []⟩)]
def ann_s_l1Cur_next_f : Ann := .seq .nil (.seq .nil (.seq (.seq .nil (.cond [(.n, ⟨[.int .i64, .sl false 5 (.int .u8), .int .i64, .int .u64], [(0, .pl 63 0), (3, .one (.h 0))], [(63, [.h 1, .h 2, .h 3])], [], [], []⟩)] .nil .nil)) .nil))
def env_s_l1Cur_next_f : Env := envOf ti [] []
theorem eok_s_l1Cur_next_f : EnvOk Try.prog env_s_l1Cur_next_f := envOf_ok tab mix _ _ (by
  intro k hk; cases hk)
theorem v_s_l1Cur_next_f (x0 : List Int) (x1 : Int) (x2 : Int) : (vfun env_s_l1Cur_next_f Try.f105 J_s_l1Cur_next_f ann_s_l1Cur_next_f [] [.pl 0 0] [[⟨.sl false 5 (.int .u8), x0⟩, ⟨.int .i64, x1⟩, ⟨.int .u64, x2⟩]]).run = (G.s_l1Cur_next_f x0 x1 x2).bind fun y => some (Res.mk [.one ⟨.int .i64, y.1⟩] [[⟨.sl false 5 (.int .u8), y.2.1⟩, ⟨.int .i64, y.2.2.1⟩, ⟨.int .u64, y.2.2.2⟩]] []) := by kernel_rfl
def k_s_l1Cur_next_f : Kn := ⟨105, [0], fun args rows => match args, rows with
  | [.pl 0 0], [[⟨.sl false 5 (.int .u8), x0⟩, ⟨.int .i64, x1⟩, ⟨.int .u64, x2⟩]] => some ⟨_, G.s_l1Cur_next_f x0 x1 x2, fun y => ⟨[.one ⟨.int .i64, y.1⟩], [[⟨.sl false 5 (.int .u8), y.2.1⟩, ⟨.int .i64, y.2.2.1⟩, ⟨.int .u64, y.2.2.2⟩]], []⟩⟩
  | _, _ => none, []⟩
theorem s_s_l1Cur_next_f : KnOk Try.prog k_s_l1Cur_next_f := by
  intro args rows a h y hy
  simp only [k_s_l1Cur_next_f] at h
  split at h
  · injection h with h
    subst h
    exact vfun_ok eok_s_l1Cur_next_f Try.func105 rfl (by rw [v_s_l1Cur_next_f]; simp only at hy; rw [hy]; rfl)
  · cases h
def J_s_l1Cur_pick_f : Joins := [(.r, ⟨[.int .i64, .sl false 5 (.int .u8), .int .i64, .int .u64], [(4, .one (.h 0))], [(21, [.h 1, .h 2, .h 3])], [], [], []⟩)]
def ann_s_l1Cur_pick_f : Ann := .seq .nil (.seq .nil (.seq .nil (.seq (.seq .nil (.cond [(.n, ⟨[.int .i64, .int .i64, .sl false 5 (.int .u8), .int .i64, .int .u64], [(1, .one (.h 0)), (5, .one (.h 1))], [(21, [.h 2, .h 3, .h 4])], [], [], []⟩)] .nil .nil)) .nil)))
def env_s_l1Cur_pick_f : Env := envOf ti [k_s_l1Cur_next_f] []
theorem eok_s_l1Cur_pick_f : EnvOk Try.prog env_s_l1Cur_pick_f := envOf_ok tab mix _ _ (by
  intro k hk
  simp only [List.mem_cons, List.not_mem_nil, or_false] at hk
  rcases hk with rfl
  · exact s_s_l1Cur_next_f)
theorem v_s_l1Cur_pick_f (x0 : Int) (x1 : List Int) (x2 : Int) (x3 : Int) : (vfun env_s_l1Cur_pick_f Try.f50 J_s_l1Cur_pick_f ann_s_l1Cur_pick_f [] [.pl 0 0, .one ⟨.int .i64, x0⟩] [[⟨.sl false 5 (.int .u8), x1⟩, ⟨.int .i64, x2⟩, ⟨.int .u64, x3⟩]]).run = (G.s_l1Cur_pick_f x0 x1 x2 x3).bind fun y => some (Res.mk [.one ⟨.int .i64, y.1⟩] [[⟨.sl false 5 (.int .u8), y.2.1⟩, ⟨.int .i64, y.2.2.1⟩, ⟨.int .u64, y.2.2.2⟩]] []) := by kernel_rfl
def k_s_l1Cur_pick_f : Kn := ⟨50, [0, 0], fun args rows => match args, rows with
  | [.pl 0 0, .one ⟨.int .i64, x0⟩], [[⟨.sl false 5 (.int .u8), x1⟩, ⟨.int .i64, x2⟩, ⟨.int .u64, x3⟩]] => some ⟨_, G.s_l1Cur_pick_f x0 x1 x2 x3, fun y => ⟨[.one ⟨.int .i64, y.1⟩], [[⟨.sl false 5 (.int .u8), y.2.1⟩, ⟨.int .i64, y.2.2.1⟩, ⟨.int .u64, y.2.2.2⟩]], []⟩⟩
  | _, _ => none, []⟩
theorem s_s_l1Cur_pick_f : KnOk Try.prog k_s_l1Cur_pick_f := by
  intro args rows a h y hy
  simp only [k_s_l1Cur_pick_f] at h
  split at h
  · injection h with h
    subst h
    exact vfun_ok eok_s_l1Cur_pick_f Try.func50 rfl (by rw [v_s_l1Cur_pick_f]; simp only at hy; rw [hy]; rfl)
  · cases h
def J_s_l1In : Joins := [(.r, ⟨[.bool], [(6, .one (.h 0))], [], [], [], []⟩)]
def ann_s_l1In : Ann := .seq .nil (.seq (.reg [(.n, ⟨[.bool], [(6, .one (.h 0))], [], [], [], []⟩)]) .nil)
def env_s_l1In : Env := envOf ti [] []
theorem eok_s_l1In : EnvOk Try.prog env_s_l1In := envOf_ok tab mix _ _ (by
  intro k hk; cases hk)
theorem v_s_l1In (x0 : Int) (x1 : Int) (x2 : Int) : (vfun env_s_l1In Try.f116 J_s_l1In ann_s_l1In [] [.one ⟨.int .i64, x0⟩, .one ⟨.int .i64, x1⟩, .one ⟨.int .i64, x2⟩] []).run = (G.s_l1In x0 x1 x2).bind fun y => some (Res.mk [.one ⟨.bool, y⟩] [] []) := by kernel_rfl
def k_s_l1In : Kn := ⟨116, [0, 0, 0], fun args rows => match args, rows with
  | [.one ⟨.int .i64, x0⟩, .one ⟨.int .i64, x1⟩, .one ⟨.int .i64, x2⟩], [] => some ⟨_, G.s_l1In x0 x1 x2, fun y => ⟨[.one ⟨.bool, y⟩], [], []⟩⟩
  | _, _ => none, []⟩
theorem s_s_l1In : KnOk Try.prog k_s_l1In := by
  intro args rows a h y hy
  simp only [k_s_l1In] at h
  split at h
  · injection h with h
    subst h
    exact vfun_ok eok_s_l1In Try.func116 rfl (by rw [v_s_l1In]; simp only at hy; rw [hy]; rfl)
  · cases h
def J_s_NewDisk : Joins := [(.r, ⟨[.bool, .sl true 22 (.sl true 5 (.int .u8)), .int .i64, .bool, .int .i64], [(2, .pl 2 0), (3, .one (.h 0))], [(2, [.vw 123969, .h 2, .h 3, .h 4])], [(123969, 1)], [], []⟩)]
def ann_s_NewDisk : Ann := .seq .nil (.seq .nil (.seq .nil (.seq (.block [] (.loop ⟨[.int .i64, .int .i64, .bool, .int .i64, .sl true 22 (.sl true 5 (.int .u8)), .int .i64, .bool, .int .i64], [(0, .one (.h 0)), (2, .pl 2 0), (4, .pl 4 0)], [(2, [.nil, .h 1, .h 2, .h 3]), (4, [.vw 123904, .h 5, .h 6, .h 7])], [(123904, 4)], [], []⟩ [(.x 0, ⟨[.int .i64, .bool, .int .i64, .sl true 22 (.sl true 5 (.int .u8)), .int .i64, .bool, .int .i64], [(2, .pl 2 0), (4, .pl 4 0)], [(2, [.nil, .h 0, .h 1, .h 2]), (4, [.vw 123968, .h 4, .h 5, .h 6])], [(123968, 3)], [], []⟩)] .nil)) .nil)))
def env_s_NewDisk : Env := envOf ti [k_s_l1In] []
theorem eok_s_NewDisk : EnvOk Try.prog env_s_NewDisk := envOf_ok tab mix _ _ (by
  intro k hk
  simp only [List.mem_cons, List.not_mem_nil, or_false] at hk
  rcases hk with rfl
  · exact s_s_l1In)
theorem v_s_NewDisk (x0 : Int) : (vfun env_s_NewDisk Try.f142 J_s_NewDisk ann_s_NewDisk [] [.one ⟨.int .i64, x0⟩] []).run = (G.s_NewDisk x0).bind fun y => some (Res.mk [.ag [⟨.sl true 22 (.sl true 5 (.int .u8)), y.2.1⟩, ⟨.int .i64, y.2.2.1⟩, ⟨.bool, y.2.2.2.1⟩, ⟨.int .i64, y.2.2.2.2⟩], .one ⟨.bool, y.1⟩] [] []) := by kernel_rfl
def k_s_NewDisk : Kn := ⟨142, [0], fun args rows => match args, rows with
  | [.one ⟨.int .i64, x0⟩], [] => some ⟨_, G.s_NewDisk x0, fun y => ⟨[.ag [⟨.sl true 22 (.sl true 5 (.int .u8)), y.2.1⟩, ⟨.int .i64, y.2.2.1⟩, ⟨.bool, y.2.2.2.1⟩, ⟨.int .i64, y.2.2.2.2⟩], .one ⟨.bool, y.1⟩], [], []⟩⟩
  | _, _ => none, []⟩
theorem s_s_NewDisk : KnOk Try.prog k_s_NewDisk := by
  intro args rows a h y hy
  simp only [k_s_NewDisk] at h
  split at h
  · injection h with h
    subst h
    exact vfun_ok eok_s_NewDisk Try.func142 rfl (by rw [v_s_NewDisk]; simp only at hy; rw [hy]; rfl)
  · cases h
def J_s_l5Set_l : Joins := [(.n, ⟨[.sl true 5 (.int .u8)], [(0, .one (.vw 132097))], [], [(132097, 0)], [], []⟩)]
def ann_s_l5Set_l : Ann := .seq .nil (.cond [(.n, ⟨[.sl true 5 (.int .u8)], [(0, .one (.vw 132096))], [], [(132096, 0)], [], []⟩)] .nil .nil)
def env_s_l5Set_l : Env := envOf ti [] [0]
theorem eok_s_l5Set_l : EnvOk Try.prog env_s_l5Set_l := envOf_ok tab mix _ _ (by
  intro k hk; cases hk)
theorem v_s_l5Set_l (x0 : List Int) (x1 : Int) (x2 : Bool) : (vfun env_s_l5Set_l Try.f101 J_s_l5Set_l ann_s_l5Set_l [(0, 0)] [.one ⟨.sl true 5 (.int .u8), x0⟩, .one ⟨.int .i64, x1⟩, .one ⟨.bool, x2⟩] []).run = (G.s_l5Set_l x0 x1 x2).bind fun y => some (Res.mk [] [] [((0, 0), ⟨.sl true 5 (.int .u8), y⟩)]) := by kernel_rfl
def k_s_l5Set_l : Kn := ⟨101, [2, 0, 0], fun args rows => match args, rows with
  | [.one ⟨.sl true 5 (.int .u8), x0⟩, .one ⟨.int .i64, x1⟩, .one ⟨.bool, x2⟩], [] => some ⟨_, G.s_l5Set_l x0 x1 x2, fun y => ⟨[], [], [((0, 0), ⟨.sl true 5 (.int .u8), y⟩)]⟩⟩
  | _, _ => none, []⟩
theorem s_s_l5Set_l : KnOk Try.prog k_s_l5Set_l := by
  intro args rows a h y hy
  simp only [k_s_l5Set_l] at h
  split at h
  · injection h with h
    subst h
    exact vfun_ok eok_s_l5Set_l Try.func101 rfl (by rw [v_s_l5Set_l]; simp only at hy; rw [hy]; rfl)
  · cases h
def J_s_l5Fresh : Joins := [(.r, ⟨[.sl true 22 (.sl true 5 (.int .u8)), .sl true 5 (.int .u8)], [(2, .pl 2 0)], [(2, [.vw 128066, .vw 128067, .nil, .nil])], [(128066, 0), (128067, 1)], [], []⟩)]
def ann_s_l5Fresh : Ann := .seq .nil (.seq .nil (.seq .nil (.seq (.seq .nil (.block [] (.loop ⟨[.int .i64, .sl true 22 (.sl true 5 (.int .u8)), .sl true 5 (.int .u8)], [(2, .pl 2 0), (5, .pl 5 0), (6, .one (.h 0))], [(2, [.nil, .nil, .nil, .nil]), (5, [.vw 128000, .vw 128001, .nil, .nil])], [(128000, 1), (128001, 2)], [], []⟩ [(.x 0, ⟨[.sl true 22 (.sl true 5 (.int .u8)), .sl true 5 (.int .u8)], [(2, .pl 2 0), (5, .pl 5 0)], [(2, [.nil, .nil, .nil, .nil]), (5, [.vw 128064, .vw 128065, .nil, .nil])], [(128064, 0), (128065, 1)], [], []⟩)] .nil))) .nil)))
def env_s_l5Fresh : Env := envOf ti [k_s_NewDisk, k_s_l5Set_l] []
theorem eok_s_l5Fresh : EnvOk Try.prog env_s_l5Fresh := envOf_ok tab mix _ _ (by
  intro k hk
  simp only [List.mem_cons, List.not_mem_nil, or_false] at hk
  rcases hk with rfl | rfl
  · exact s_s_NewDisk
  · exact s_s_l5Set_l)
theorem v_s_l5Fresh (x0 : Int) : (vfun env_s_l5Fresh Try.f100 J_s_l5Fresh ann_s_l5Fresh [] [.one ⟨.int .i64, x0⟩] []).run = (G.s_l5Fresh x0).bind fun y => some (Res.mk [.ag [⟨.sl true 22 (.sl true 5 (.int .u8)), y.1⟩, ⟨.sl true 5 (.int .u8), y.2⟩, ⟨.sl true 3 (.int .i64), []⟩, ⟨.sl true 3 (.int .i64), []⟩]] [] []) := by kernel_rfl
def k_s_l5Fresh : Kn := ⟨100, [0], fun args rows => match args, rows with
  | [.one ⟨.int .i64, x0⟩], [] => some ⟨_, G.s_l5Fresh x0, fun y => ⟨[.ag [⟨.sl true 22 (.sl true 5 (.int .u8)), y.1⟩, ⟨.sl true 5 (.int .u8), y.2⟩, ⟨.sl true 3 (.int .i64), []⟩, ⟨.sl true 3 (.int .i64), []⟩]], [], []⟩⟩
  | _, _ => none, []⟩
theorem s_s_l5Fresh : KnOk Try.prog k_s_l5Fresh := by
  intro args rows a h y hy
  simp only [k_s_l5Fresh] at h
  split at h
  · injection h with h
    subst h
    exact vfun_ok eok_s_l5Fresh Try.func100 rfl (by rw [v_s_l5Fresh]; simp only at hy; rw [hy]; rfl)
  · cases h
def J_s_l5Used : Joins := [(.r, ⟨[.bool], [(4, .one (.h 0))], [], [], [], []⟩)]
def ann_s_l5Used : Ann := .nil
def env_s_l5Used : Env := envOf ti [] []
theorem eok_s_l5Used : EnvOk Try.prog env_s_l5Used := envOf_ok tab mix _ _ (by
  intro k hk; cases hk)
theorem v_s_l5Used (x0 : List Int) (x1 : Int) : (vfun env_s_l5Used Try.f104 J_s_l5Used ann_s_l5Used [] [.one ⟨.sl false 5 (.int .u8), x0⟩, .one ⟨.int .i64, x1⟩] []).run = (G.s_l5Used x0 x1).bind fun y => some (Res.mk [.one ⟨.bool, y⟩] [] []) := by kernel_rfl
def k_s_l5Used : Kn := ⟨104, [0, 0], fun args rows => match args, rows with
  | [.one ⟨.sl false 5 (.int .u8), x0⟩, .one ⟨.int .i64, x1⟩], [] => some ⟨_, G.s_l5Used x0 x1, fun y => ⟨[.one ⟨.bool, y⟩], [], []⟩⟩
  | _, _ => none, []⟩
theorem s_s_l5Used : KnOk Try.prog k_s_l5Used := by
  intro args rows a h y hy
  simp only [k_s_l5Used] at h
  split at h
  · injection h with h
    subst h
    exact vfun_ok eok_s_l5Used Try.func104 rfl (by rw [v_s_l5Used]; simp only at hy; rw [hy]; rfl)
  · cases h
def J_s_l5Put : Joins := [(.r, ⟨[.sl true 3 (.int .i64)], [(4, .one (.vw 151619))], [], [(151619, 0)], [], []⟩)]
def ann_s_l5Put : Ann := .seq .nil (.seq .nil (.seq (.block [] (.loop ⟨[.sl true 3 (.int .i64), .int .i64, .int .i64], [(0, .one (.vw 151552)), (1, .one (.h 1)), (5, .one (.h 2))], [], [(151552, 0)], [], []⟩ [(.x 0, ⟨[.sl true 3 (.int .i64), .int .i64, .int .i64], [(0, .one (.vw 151617)), (1, .one (.h 1)), (5, .one (.h 2))], [], [(151617, 0)], [], []⟩)] (.seq (.seq (.reg [(.n, ⟨[.sl true 3 (.int .i64), .int .i64, .int .i64, .bool], [(0, .one (.vw 151616)), (1, .one (.h 1)), (5, .one (.h 2)), (18, .one (.h 3))], [], [(151616, 0)], [], []⟩)]) .nil) .nil))) (.seq (.seq (.reg [(.n, ⟨[.sl true 3 (.int .i64), .int .i64, .int .i64, .bool], [(0, .one (.vw 151618)), (1, .one (.h 1)), (5, .one (.h 2)), (32, .one (.h 3))], [], [(151618, 0)], [], []⟩)]) .nil) .nil)))
def env_s_l5Put : Env := envOf ti [] []
theorem eok_s_l5Put : EnvOk Try.prog env_s_l5Put := envOf_ok tab mix _ _ (by
  intro k hk; cases hk)
theorem v_s_l5Put (x0 : List Int) (x1 : Int) : (vfun env_s_l5Put Try.f63 J_s_l5Put ann_s_l5Put [] [.one ⟨.sl true 3 (.int .i64), x0⟩, .one ⟨.int .i64, x1⟩] []).run = (G.s_l5Put x0 x1).bind fun y => some (Res.mk [.one ⟨.sl true 3 (.int .i64), y⟩] [] []) := by kernel_rfl
def k_s_l5Put : Kn := ⟨63, [1, 0], fun args rows => match args, rows with
  | [.one ⟨.sl true 3 (.int .i64), x0⟩, .one ⟨.int .i64, x1⟩], [] => some ⟨_, G.s_l5Put x0 x1, fun y => ⟨[.one ⟨.sl true 3 (.int .i64), y⟩], [], []⟩⟩
  | _, _ => none, []⟩
theorem s_s_l5Put : KnOk Try.prog k_s_l5Put := by
  intro args rows a h y hy
  simp only [k_s_l5Put] at h
  split at h
  · injection h with h
    subst h
    exact vfun_ok eok_s_l5Put Try.func63 rfl (by rw [v_s_l5Put]; simp only at hy; rw [hy]; rfl)
  · cases h
def J_s_l5Take_oooo : Joins := [(.r, ⟨[.int .i64, .sl true 22 (.sl true 5 (.int .u8)), .sl true 5 (.int .u8), .sl true 3 (.int .i64), .sl true 3 (.int .i64)], [(2, .one (.h 0))], [(44, [.vw 146504, .vw 146505, .vw 146506, .vw 146507])], [(146504, 1), (146505, 2), (146506, 3), (146507, 4)], [], []⟩)]
def ann_s_l5Take_oooo : Ann := .seq .nil (.seq (.seq .nil (.block [] (.loop ⟨[.int .i64, .sl true 22 (.sl true 5 (.int .u8)), .sl true 5 (.int .u8), .sl true 3 (.int .i64), .sl true 3 (.int .i64)], [(0, .pl 44 0), (3, .one (.h 0))], [(44, [.vw 146432, .vw 146433, .vw 146434, .vw 146435])], [(146432, 1), (146433, 2), (146434, 3), (146435, 4)], [], []⟩ [(.x 0, ⟨[.sl true 22 (.sl true 5 (.int .u8)), .sl true 5 (.int .u8), .sl true 3 (.int .i64), .sl true 3 (.int .i64)], [], [(44, [.vw 146496, .vw 146497, .vw 146498, .vw 146499])], [(146496, 0), (146497, 1), (146498, 2), (146499, 3)], [], []⟩), (.r, ⟨[.int .i64, .sl true 22 (.sl true 5 (.int .u8)), .sl true 5 (.int .u8), .sl true 3 (.int .i64), .sl true 3 (.int .i64)], [(2, .one (.h 0))], [(44, [.vw 146500, .vw 146501, .vw 146502, .vw 146503])], [(146500, 1), (146501, 2), (146502, 3), (146503, 4)], [], []⟩)] .nil))) .nil)
def env_s_l5Take_oooo : Env := envOf ti [k_s_l5Used, k_s_l5Set_l, k_s_l5Put] []
theorem eok_s_l5Take_oooo : EnvOk Try.prog env_s_l5Take_oooo := envOf_ok tab mix _ _ (by
  intro k hk
  simp only [List.mem_cons, List.not_mem_nil, or_false] at hk
  rcases hk with rfl | rfl | rfl
  · exact s_s_l5Used
  · exact s_s_l5Set_l
  · exact s_s_l5Put)
theorem v_s_l5Take_oooo (x0 : List (List Int)) (x1 : List Int) (x2 : List Int) (x3 : List Int) : (vfun env_s_l5Take_oooo Try.f51 J_s_l5Take_oooo ann_s_l5Take_oooo [] [.pl 0 0] [[⟨.sl true 22 (.sl true 5 (.int .u8)), x0⟩, ⟨.sl true 5 (.int .u8), x1⟩, ⟨.sl true 3 (.int .i64), x2⟩, ⟨.sl true 3 (.int .i64), x3⟩]]).run = (G.s_l5Take_oooo x0 x1 x2 x3).bind fun y => some (Res.mk [.one ⟨.int .i64, y.1⟩] [[⟨.sl true 22 (.sl true 5 (.int .u8)), y.2.1⟩, ⟨.sl true 5 (.int .u8), y.2.2.1⟩, ⟨.sl true 3 (.int .i64), y.2.2.2.1⟩, ⟨.sl true 3 (.int .i64), y.2.2.2.2⟩]] []) := by kernel_rfl
def k_s_l5Take_oooo : Kn := ⟨51, [0], fun args rows => match args, rows with
  | [.pl 0 0], [[⟨.sl true 22 (.sl true 5 (.int .u8)), x0⟩, ⟨.sl true 5 (.int .u8), x1⟩, ⟨.sl true 3 (.int .i64), x2⟩, ⟨.sl true 3 (.int .i64), x3⟩]] => some ⟨_, G.s_l5Take_oooo x0 x1 x2 x3, fun y => ⟨[.one ⟨.int .i64, y.1⟩], [[⟨.sl true 22 (.sl true 5 (.int .u8)), y.2.1⟩, ⟨.sl true 5 (.int .u8), y.2.2.1⟩, ⟨.sl true 3 (.int .i64), y.2.2.2.1⟩, ⟨.sl true 3 (.int .i64), y.2.2.2.2⟩]], []⟩⟩
  | _, _ => none, []⟩
theorem s_s_l5Take_oooo : KnOk Try.prog k_s_l5Take_oooo := by
  intro args rows a h y hy
  simp only [k_s_l5Take_oooo] at h
  split at h
  · injection h with h
    subst h
    exact vfun_ok eok_s_l5Take_oooo Try.func51 rfl (by rw [v_s_l5Take_oooo]; simp only at hy; rw [hy]; rfl)
  · cases h
def J_s_l5Has : Joins := [(.r, ⟨[.bool], [(4, .one (.h 0))], [], [], [], []⟩)]
def ann_s_l5Has : Ann := .seq .nil (.seq (.seq .nil (.block [] (.loop ⟨[.int .i64, .sl false 3 (.int .i64), .int .i64, .int .i64], [(1, .one (.h 0)), (7, .one (.h 1)), (8, .one (.h 2)), (9, .one (.h 3))], [], [], [], []⟩ [(.x 0, ⟨[], [], [], [], [], []⟩), (.r, ⟨[.bool], [(4, .one (.h 0))], [], [], [], []⟩)] .nil))) .nil)
def env_s_l5Has : Env := envOf ti [] []
theorem eok_s_l5Has : EnvOk Try.prog env_s_l5Has := envOf_ok tab mix _ _ (by
  intro k hk; cases hk)
theorem v_s_l5Has (x0 : List Int) (x1 : Int) : (vfun env_s_l5Has Try.f143 J_s_l5Has ann_s_l5Has [] [.one ⟨.sl false 3 (.int .i64), x0⟩, .one ⟨.int .i64, x1⟩] []).run = (G.s_l5Has x0 x1).bind fun y => some (Res.mk [.one ⟨.bool, y⟩] [] []) := by kernel_rfl
def k_s_l5Has : Kn := ⟨143, [0, 0], fun args rows => match args, rows with
  | [.one ⟨.sl false 3 (.int .i64), x0⟩, .one ⟨.int .i64, x1⟩], [] => some ⟨_, G.s_l5Has x0 x1, fun y => ⟨[.one ⟨.bool, y⟩], [], []⟩⟩
  | _, _ => none, []⟩
theorem s_s_l5Has : KnOk Try.prog k_s_l5Has := by
  intro args rows a h y hy
  simp only [k_s_l5Has] at h
  split at h
  · injection h with h
    subst h
    exact vfun_ok eok_s_l5Has Try.func143 rfl (by rw [v_s_l5Has]; simp only at hy; rw [hy]; rfl)
  · cases h
def J_s_l5Live : Joins := [(.r, ⟨[.bool], [(4, .one (.h 0))], [], [], [], []⟩)]
def ann_s_l5Live : Ann := .seq .nil (.seq (.reg [(.n, ⟨[.bool], [(4, .one (.h 0))], [], [], [], []⟩)]) .nil)
def env_s_l5Live : Env := envOf ti [k_s_l1In, k_s_l5Used, k_s_l5Has] []
theorem eok_s_l5Live : EnvOk Try.prog env_s_l5Live := envOf_ok tab mix _ _ (by
  intro k hk
  simp only [List.mem_cons, List.not_mem_nil, or_false] at hk
  rcases hk with rfl | rfl | rfl
  · exact s_s_l1In
  · exact s_s_l5Used
  · exact s_s_l5Has)
theorem v_s_l5Live (x0 : List (List Int)) (x1 : List Int) (x2 : List Int) (x3 : List Int) (x4 : Int) : (vfun env_s_l5Live Try.f103 J_s_l5Live ann_s_l5Live [] [.ag [⟨.sl false 22 (.sl false 5 (.int .u8)), x0⟩, ⟨.sl false 5 (.int .u8), x1⟩, ⟨.sl false 3 (.int .i64), x2⟩, ⟨.sl false 3 (.int .i64), x3⟩], .one ⟨.int .i64, x4⟩] []).run = (G.s_l5Live x0 x1 x2 x3 x4).bind fun y => some (Res.mk [.one ⟨.bool, y⟩] [] []) := by kernel_rfl
def k_s_l5Live : Kn := ⟨103, [0, 0], fun args rows => match args, rows with
  | [.ag [⟨.sl false 22 (.sl false 5 (.int .u8)), x0⟩, ⟨.sl false 5 (.int .u8), x1⟩, ⟨.sl false 3 (.int .i64), x2⟩, ⟨.sl false 3 (.int .i64), x3⟩], .one ⟨.int .i64, x4⟩], [] => some ⟨_, G.s_l5Live x0 x1 x2 x3 x4, fun y => ⟨[.one ⟨.bool, y⟩], [], []⟩⟩
  | _, _ => none, []⟩
theorem s_s_l5Live : KnOk Try.prog k_s_l5Live := by
  intro args rows a h y hy
  simp only [k_s_l5Live] at h
  split at h
  · injection h with h
    subst h
    exact vfun_ok eok_s_l5Live Try.func103 rfl (by rw [v_s_l5Live]; simp only at hy; rw [hy]; rfl)
  · cases h
def J_s_l1Cur_one_f : Joins := [(.r, ⟨[.bool, .sl false 5 (.int .u8), .int .i64, .int .u64], [(4, .one (.h 0))], [(10, [.h 1, .h 2, .h 3])], [], [], []⟩)]
def ann_s_l1Cur_one_f : Ann := .nil
def env_s_l1Cur_one_f : Env := envOf ti [k_s_l1Cur_pick_f] []
theorem eok_s_l1Cur_one_f : EnvOk Try.prog env_s_l1Cur_one_f := envOf_ok tab mix _ _ (by
  intro k hk
  simp only [List.mem_cons, List.not_mem_nil, or_false] at hk
  rcases hk with rfl
  · exact s_s_l1Cur_pick_f)
theorem v_s_l1Cur_one_f (x0 : Int) (x1 : List Int) (x2 : Int) (x3 : Int) : (vfun env_s_l1Cur_one_f Try.f48 J_s_l1Cur_one_f ann_s_l1Cur_one_f [] [.pl 0 0, .one ⟨.int .i64, x0⟩] [[⟨.sl false 5 (.int .u8), x1⟩, ⟨.int .i64, x2⟩, ⟨.int .u64, x3⟩]]).run = (G.s_l1Cur_one_f x0 x1 x2 x3).bind fun y => some (Res.mk [.one ⟨.bool, y.1⟩] [[⟨.sl false 5 (.int .u8), y.2.1⟩, ⟨.int .i64, y.2.2.1⟩, ⟨.int .u64, y.2.2.2⟩]] []) := by kernel_rfl
def k_s_l1Cur_one_f : Kn := ⟨48, [0, 0], fun args rows => match args, rows with
  | [.pl 0 0, .one ⟨.int .i64, x0⟩], [[⟨.sl false 5 (.int .u8), x1⟩, ⟨.int .i64, x2⟩, ⟨.int .u64, x3⟩]] => some ⟨_, G.s_l1Cur_one_f x0 x1 x2 x3, fun y => ⟨[.one ⟨.bool, y.1⟩], [[⟨.sl false 5 (.int .u8), y.2.1⟩, ⟨.int .i64, y.2.2.1⟩, ⟨.int .u64, y.2.2.2⟩]], []⟩⟩
  | _, _ => none, []⟩
theorem s_s_l1Cur_one_f : KnOk Try.prog k_s_l1Cur_one_f := by
  intro args rows a h y hy
  simp only [k_s_l1Cur_one_f] at h
  split at h
  · injection h with h
    subst h
    exact vfun_ok eok_s_l1Cur_one_f Try.func48 rfl (by rw [v_s_l1Cur_one_f]; simp only at hy; rw [hy]; rfl)
  · cases h
end
end Go.Proofs.Ytijemcbcchnnjaa

set_option linter.unusedVariables false
set_option maxRecDepth 100000
namespace Go.Proofs.Ytijemcbcchnnjaa
open Go.V
noncomputable section
def J_s_l1Cur_among_f : Joins := [(.r, ⟨[.int .i64, .sl false 5 (.int .u8), .int .i64, .int .u64], [(4, .one (.h 0))], [(13, [.h 1, .h 2, .h 3])], [], [], []⟩)]
def ann_s_l1Cur_among_f : Ann := .nil
def env_s_l1Cur_among_f : Env := envOf ti [k_s_l1Cur_pick_f] []
theorem eok_s_l1Cur_among_f : EnvOk Try.prog env_s_l1Cur_among_f := envOf_ok tab mix _ _ (by
  intro k hk
  simp only [List.mem_cons, List.not_mem_nil, or_false] at hk
  rcases hk with rfl
  · exact s_s_l1Cur_pick_f)
theorem v_s_l1Cur_among_f (x0 : List Int) (x1 : List Int) (x2 : Int) (x3 : Int) : (vfun env_s_l1Cur_among_f Try.f102 J_s_l1Cur_among_f ann_s_l1Cur_among_f [] [.pl 0 0, .one ⟨.sl true 3 (.int .i64), x0⟩] [[⟨.sl false 5 (.int .u8), x1⟩, ⟨.int .i64, x2⟩, ⟨.int .u64, x3⟩]]).run = (G.s_l1Cur_among_f x0 x1 x2 x3).bind fun y => some (Res.mk [.one ⟨.int .i64, y.1⟩] [[⟨.sl false 5 (.int .u8), y.2.1⟩, ⟨.int .i64, y.2.2.1⟩, ⟨.int .u64, y.2.2.2⟩]] []) := by kernel_rfl
def k_s_l1Cur_among_f : Kn := ⟨102, [0, 1], fun args rows => match args, rows with
  | [.pl 0 0, .one ⟨.sl true 3 (.int .i64), x0⟩], [[⟨.sl false 5 (.int .u8), x1⟩, ⟨.int .i64, x2⟩, ⟨.int .u64, x3⟩]] => some ⟨_, G.s_l1Cur_among_f x0 x1 x2 x3, fun y => ⟨[.one ⟨.int .i64, y.1⟩], [[⟨.sl false 5 (.int .u8), y.2.1⟩, ⟨.int .i64, y.2.2.1⟩, ⟨.int .u64, y.2.2.2⟩]], []⟩⟩
  | _, _ => none, []⟩
theorem s_s_l1Cur_among_f : KnOk Try.prog k_s_l1Cur_among_f := by
  intro args rows a h y hy
  simp only [k_s_l1Cur_among_f] at h
  split at h
  · injection h with h
    subst h
    exact vfun_ok eok_s_l1Cur_among_f Try.func102 rfl (by rw [v_s_l1Cur_among_f]; simp only at hy; rw [hy]; rfl)
  · cases h
def J_s_GoodSpace : Joins := [(.r, ⟨[.bool], [(2, .one (.h 0))], [], [], [], []⟩)]
def ann_s_GoodSpace : Ann := .seq .nil (.seq .nil (.seq (.seq (.reg [(.n, ⟨[.int .i64, .bool, .sl false 22 (.sl false 5 (.int .u8)), .sl false 5 (.int .u8), .sl false 3 (.int .i64), .sl false 3 (.int .i64)], [(1, .pl 1 0), (3, .one (.h 0)), (23, .one (.h 1))], [(1, [.h 2, .h 3, .h 4, .h 5])], [], [], []⟩)]) .nil) (.seq (.seq .nil (.block [] (.loop ⟨[.int .i64, .sl false 22 (.sl false 5 (.int .u8)), .int .i64, .int .i64, .sl false 22 (.sl false 5 (.int .u8)), .sl false 5 (.int .u8), .sl false 3 (.int .i64), .sl false 3 (.int .i64)], [(1, .pl 1 0), (3, .one (.h 0)), (25, .one (.h 1)), (26, .one (.h 2)), (27, .one (.h 3))], [(1, [.h 4, .h 5, .h 6, .h 7])], [], [], []⟩ [(.x 0, ⟨[.int .i64, .sl false 22 (.sl false 5 (.int .u8)), .sl false 5 (.int .u8), .sl false 3 (.int .i64), .sl false 3 (.int .i64)], [(1, .pl 1 0), (3, .one (.h 0))], [(1, [.h 1, .h 2, .h 3, .h 4])], [], [], []⟩), (.r, ⟨[.bool], [(2, .one (.h 0))], [], [], [], []⟩)] .nil))) (.seq (.seq .nil (.block [] (.loop ⟨[.int .i64, .int .i64, .sl false 22 (.sl false 5 (.int .u8)), .sl false 5 (.int .u8), .sl false 3 (.int .i64), .sl false 3 (.int .i64)], [(1, .pl 1 0), (3, .one (.h 0)), (6, .one (.h 1))], [(1, [.h 2, .h 3, .h 4, .h 5])], [], [], []⟩ [(.x 2, ⟨[.int .i64, .sl false 22 (.sl false 5 (.int .u8)), .sl false 5 (.int .u8), .sl false 3 (.int .i64), .sl false 3 (.int .i64)], [(1, .pl 1 0), (3, .one (.h 0))], [(1, [.h 1, .h 2, .h 3, .h 4])], [], [], []⟩), (.r, ⟨[.bool], [(2, .one (.h 0))], [], [], [], []⟩)] (.seq .nil (.seq (.block [] (.seq .nil (.seq (.reg [(.n, ⟨[.int .i64, .int .i64, .bool, .sl false 22 (.sl false 5 (.int .u8)), .sl false 5 (.int .u8), .sl false 3 (.int .i64), .sl false 3 (.int .i64)], [(1, .pl 1 0), (3, .one (.h 0)), (6, .one (.h 1)), (56, .one (.h 2))], [(1, [.h 3, .h 4, .h 5, .h 6])], [], [], []⟩)]) .nil))) .nil))))) (.seq (.seq .nil (.block [] (.loop ⟨[.int .i64, .sl true 24 (.sl false 3 (.int .i64)), .int .i64, .int .i64, .sl false 22 (.sl false 5 (.int .u8)), .sl false 5 (.int .u8), .sl false 3 (.int .i64), .sl false 3 (.int .i64)], [(1, .pl 1 0), (3, .one (.h 0)), (61, .one (.vw 205952)), (62, .one (.h 2)), (63, .one (.h 3))], [(1, [.h 4, .h 5, .h 6, .h 7])], [(205952, 1)], [], []⟩ [(.x 4, ⟨[], [], [], [], [], []⟩), (.r, ⟨[.bool], [(2, .one (.h 0))], [], [], [], []⟩)] (.seq .nil (.seq .nil (.seq (.block [] (.seq .nil (.seq .nil (.block [] (.loop ⟨[.int .i64, .sl false 3 (.int .i64), .sl true 24 (.sl false 3 (.int .i64)), .int .i64, .int .i64, .sl false 3 (.int .i64), .int .i64, .int .i64, .sl false 22 (.sl false 5 (.int .u8)), .sl false 5 (.int .u8), .sl false 3 (.int .i64), .sl false 3 (.int .i64)], [(1, .pl 1 0), (3, .one (.h 0)), (9, .one (.h 1)), (61, .one (.vw 206016)), (62, .one (.h 3)), (63, .one (.h 4)), (67, .one (.h 5)), (68, .one (.h 6)), (69, .one (.h 7))], [(1, [.h 8, .h 9, .h 10, .h 11])], [(206016, 2)], [], []⟩ [(.x 6, ⟨[.int .i64, .sl true 24 (.sl false 3 (.int .i64)), .int .i64, .int .i64, .sl false 22 (.sl false 5 (.int .u8)), .sl false 5 (.int .u8), .sl false 3 (.int .i64), .sl false 3 (.int .i64)], [(1, .pl 1 0), (3, .one (.h 0)), (61, .one (.vw 206081)), (62, .one (.h 2)), (63, .one (.h 3))], [(1, [.h 4, .h 5, .h 6, .h 7])], [(206081, 1)], [], []⟩), (.r, ⟨[.bool], [(2, .one (.h 0))], [], [], [], []⟩)] (.seq .nil (.seq .nil (.seq (.block [] (.seq .nil (.seq (.reg [(.n, ⟨[.int .i64, .sl false 3 (.int .i64), .sl true 24 (.sl false 3 (.int .i64)), .int .i64, .int .i64, .sl false 3 (.int .i64), .int .i64, .int .i64, .bool, .sl false 22 (.sl false 5 (.int .u8)), .sl false 5 (.int .u8), .sl false 3 (.int .i64), .sl false 3 (.int .i64)], [(1, .pl 1 0), (3, .one (.h 0)), (9, .one (.h 1)), (61, .one (.vw 206080)), (62, .one (.h 3)), (63, .one (.h 4)), (67, .one (.h 5)), (68, .one (.h 6)), (69, .one (.h 7)), (98, .one (.h 8))], [(1, [.h 9, .h 10, .h 11, .h 12])], [(206080, 2)], [], []⟩)]) .nil))) .nil)))))))) .nil)))))) .nil)))))
def env_s_GoodSpace : Env := envOf ti [k_s_l1In, k_s_l5Used] []
theorem eok_s_GoodSpace : EnvOk Try.prog env_s_GoodSpace := envOf_ok tab mix _ _ (by
  intro k hk
  simp only [List.mem_cons, List.not_mem_nil, or_false] at hk
  rcases hk with rfl | rfl
  · exact s_s_l1In
  · exact s_s_l5Used)
theorem v_s_GoodSpace (x0 : List (List Int)) (x1 : List Int) (x2 : List Int) (x3 : List Int) : (vfun env_s_GoodSpace Try.f120 J_s_GoodSpace ann_s_GoodSpace [] [.ag [⟨.sl false 22 (.sl false 5 (.int .u8)), x0⟩, ⟨.sl false 5 (.int .u8), x1⟩, ⟨.sl false 3 (.int .i64), x2⟩, ⟨.sl false 3 (.int .i64), x3⟩]] []).run = (G.s_GoodSpace x0 x1 x2 x3).bind fun y => some (Res.mk [.one ⟨.bool, y⟩] [] []) := by kernel_rfl
def k_s_GoodSpace : Kn := ⟨120, [0], fun args rows => match args, rows with
  | [.ag [⟨.sl false 22 (.sl false 5 (.int .u8)), x0⟩, ⟨.sl false 5 (.int .u8), x1⟩, ⟨.sl false 3 (.int .i64), x2⟩, ⟨.sl false 3 (.int .i64), x3⟩]], [] => some ⟨_, G.s_GoodSpace x0 x1 x2 x3, fun y => ⟨[.one ⟨.bool, y⟩], [], []⟩⟩
  | _, _ => none, []⟩
theorem s_s_GoodSpace : KnOk Try.prog k_s_GoodSpace := by
  intro args rows a h y hy
  simp only [k_s_GoodSpace] at h
  split at h
  · injection h with h
    subst h
    exact vfun_ok eok_s_GoodSpace Try.func120 rfl (by rw [v_s_GoodSpace]; simp only at hy; rw [hy]; rfl)
  · cases h
def J_s_l6Numbers : Joins := [(.r, ⟨[.sl true 3 (.int .i64), .bool], [(6, .one (.vw 177282)), (7, .one (.h 1))], [], [(177282, 0)], [], []⟩)]
def ann_s_l6Numbers : Ann := .seq .nil (.seq (.seq (.reg [(.n, ⟨[.int .i64, .bool, .sl false 22 (.sl false 5 (.int .u8)), .sl false 5 (.int .u8), .sl false 3 (.int .i64), .sl false 3 (.int .i64)], [(1, .one (.h 0)), (3, .pl 3 0), (26, .one (.h 1))], [(3, [.h 2, .h 3, .h 4, .h 5])], [], [], []⟩)]) .nil) (.seq .nil (.seq (.seq .nil (.block [] (.loop ⟨[.int .i64, .sl true 3 (.int .i64), .int .i64, .sl false 22 (.sl false 5 (.int .u8)), .sl false 5 (.int .u8), .sl false 3 (.int .i64), .sl false 3 (.int .i64)], [(1, .one (.h 0)), (3, .pl 3 0), (8, .one (.vw 177152)), (9, .one (.h 2))], [(3, [.h 3, .h 4, .h 5, .h 6])], [(177152, 1)], [], []⟩ [(.x 0, ⟨[.int .i64, .sl true 3 (.int .i64), .sl false 22 (.sl false 5 (.int .u8)), .sl false 5 (.int .u8), .sl false 3 (.int .i64), .sl false 3 (.int .i64)], [(1, .one (.h 0)), (3, .pl 3 0), (8, .one (.vw 177216))], [(3, [.h 2, .h 3, .h 4, .h 5])], [(177216, 1)], [], []⟩)] .nil))) (.seq (.seq .nil (.block [] (.loop ⟨[.sl true 3 (.int .i64), .sl false 5 (.int .u8), .int .i64, .int .i64], [(8, .one (.vw 177217)), (63, .one (.h 1)), (64, .one (.h 2)), (65, .one (.h 3))], [], [(177217, 0)], [], []⟩ [(.x 2, ⟨[.sl true 3 (.int .i64)], [(8, .one (.vw 177281))], [], [(177281, 0)], [], []⟩), (.r, ⟨[.bool], [(6, .one (.nil)), (7, .one (.h 0))], [], [], [], []⟩)] .nil))) .nil))))
def env_s_l6Numbers : Env := envOf ti [k_s_l5Live] []
theorem eok_s_l6Numbers : EnvOk Try.prog env_s_l6Numbers := envOf_ok tab mix _ _ (by
  intro k hk
  simp only [List.mem_cons, List.not_mem_nil, or_false] at hk
  rcases hk with rfl
  · exact s_s_l5Live)
theorem v_s_l6Numbers (x0 : List (List Int)) (x1 : List Int) (x2 : List Int) (x3 : List Int) (x4 : Int) (x5 : Int) : (vfun env_s_l6Numbers Try.f121 J_s_l6Numbers ann_s_l6Numbers [] [.ag [⟨.sl false 22 (.sl false 5 (.int .u8)), x0⟩, ⟨.sl false 5 (.int .u8), x1⟩, ⟨.sl false 3 (.int .i64), x2⟩, ⟨.sl false 3 (.int .i64), x3⟩], .one ⟨.int .i64, x4⟩, .one ⟨.int .u8, x5⟩] []).run = (G.s_l6Numbers x0 x1 x2 x3 x4 x5).bind fun y => some (Res.mk [.one ⟨.sl true 3 (.int .i64), y.1⟩, .one ⟨.bool, y.2⟩] [] []) := by kernel_rfl
def k_s_l6Numbers : Kn := ⟨121, [0, 0, 0], fun args rows => match args, rows with
  | [.ag [⟨.sl false 22 (.sl false 5 (.int .u8)), x0⟩, ⟨.sl false 5 (.int .u8), x1⟩, ⟨.sl false 3 (.int .i64), x2⟩, ⟨.sl false 3 (.int .i64), x3⟩], .one ⟨.int .i64, x4⟩, .one ⟨.int .u8, x5⟩], [] => some ⟨_, G.s_l6Numbers x0 x1 x2 x3 x4 x5, fun y => ⟨[.one ⟨.sl true 3 (.int .i64), y.1⟩, .one ⟨.bool, y.2⟩], [], []⟩⟩
  | _, _ => none, []⟩
theorem s_s_l6Numbers : KnOk Try.prog k_s_l6Numbers := by
  intro args rows a h y hy
  simp only [k_s_l6Numbers] at h
  split at h
  · injection h with h
    subst h
    exact vfun_ok eok_s_l6Numbers Try.func121 rfl (by rw [v_s_l6Numbers]; simp only at hy; rw [hy]; rfl)
  · cases h
def J_s_l6Any : Joins := [(.r, ⟨[.bool], [(2, .one (.h 0))], [], [], [], []⟩)]
def ann_s_l6Any : Ann := .seq .nil (.seq (.seq .nil (.block [] (.loop ⟨[.sl false 3 (.int .i64), .int .i64, .int .i64], [(5, .one (.h 0)), (6, .one (.h 1)), (7, .one (.h 2))], [], [], [], []⟩ [(.x 0, ⟨[], [], [], [], [], []⟩), (.r, ⟨[.bool], [(2, .one (.h 0))], [], [], [], []⟩)] .nil))) .nil)
def env_s_l6Any : Env := envOf ti [] []
theorem eok_s_l6Any : EnvOk Try.prog env_s_l6Any := envOf_ok tab mix _ _ (by
  intro k hk; cases hk)
theorem v_s_l6Any (x0 : List Int) : (vfun env_s_l6Any Try.f118 J_s_l6Any ann_s_l6Any [] [.one ⟨.sl false 3 (.int .i64), x0⟩] []).run = (G.s_l6Any x0).bind fun y => some (Res.mk [.one ⟨.bool, y⟩] [] []) := by kernel_rfl
def k_s_l6Any : Kn := ⟨118, [0], fun args rows => match args, rows with
  | [.one ⟨.sl false 3 (.int .i64), x0⟩], [] => some ⟨_, G.s_l6Any x0, fun y => ⟨[.one ⟨.bool, y⟩], [], []⟩⟩
  | _, _ => none, []⟩
theorem s_s_l6Any : KnOk Try.prog k_s_l6Any := by
  intro args rows a h y hy
  simp only [k_s_l6Any] at h
  split at h
  · injection h with h
    subst h
    exact vfun_ok eok_s_l6Any Try.func118 rfl (by rw [v_s_l6Any]; simp only at hy; rw [hy]; rfl)
  · cases h
def J_s_l6Value : Joins := [(.r, ⟨[.bool], [(4, .one (.h 0))], [], [], [], []⟩)]
def ann_s_l6Value : Ann := .seq .nil (.seq (.reg [(.n, ⟨[.bool], [(4, .one (.h 0))], [], [], [], []⟩)]) .nil)
def env_s_l6Value : Env := envOf ti [k_s_l1In, k_s_l5Used] []
theorem eok_s_l6Value : EnvOk Try.prog env_s_l6Value := envOf_ok tab mix _ _ (by
  intro k hk
  simp only [List.mem_cons, List.not_mem_nil, or_false] at hk
  rcases hk with rfl | rfl
  · exact s_s_l1In
  · exact s_s_l5Used)
theorem v_s_l6Value (x0 : List (List Int)) (x1 : List Int) (x2 : List Int) (x3 : List Int) (x4 : Int) : (vfun env_s_l6Value Try.f122 J_s_l6Value ann_s_l6Value [] [.ag [⟨.sl false 22 (.sl false 5 (.int .u8)), x0⟩, ⟨.sl false 5 (.int .u8), x1⟩, ⟨.sl false 3 (.int .i64), x2⟩, ⟨.sl false 3 (.int .i64), x3⟩], .one ⟨.int .i64, x4⟩] []).run = (G.s_l6Value x0 x1 x2 x3 x4).bind fun y => some (Res.mk [.one ⟨.bool, y⟩] [] []) := by kernel_rfl
def k_s_l6Value : Kn := ⟨122, [0, 0], fun args rows => match args, rows with
  | [.ag [⟨.sl false 22 (.sl false 5 (.int .u8)), x0⟩, ⟨.sl false 5 (.int .u8), x1⟩, ⟨.sl false 3 (.int .i64), x2⟩, ⟨.sl false 3 (.int .i64), x3⟩], .one ⟨.int .i64, x4⟩], [] => some ⟨_, G.s_l6Value x0 x1 x2 x3 x4, fun y => ⟨[.one ⟨.bool, y⟩], [], []⟩⟩
  | _, _ => none, []⟩
theorem s_s_l6Value : KnOk Try.prog k_s_l6Value := by
  intro args rows a h y hy
  simp only [k_s_l6Value] at h
  split at h
  · injection h with h
    subst h
    exact vfun_ok eok_s_l6Value Try.func122 rfl (by rw [v_s_l6Value]; simp only at hy; rw [hy]; rfl)
  · cases h
def J_s_l6Tree : Joins := [(.r, ⟨[.sl true 24 (.sl true 3 (.int .i64)), .sl true 3 (.int .i64), .bool], [(4, .one (.vw 197841)), (5, .one (.vw 197842)), (6, .one (.h 2))], [], [(197841, 0), (197842, 1)], [], []⟩)]
def ann_s_l6Tree : Ann := .seq .nil (.seq .nil (.seq .nil (.seq .nil (.seq .nil (.seq (.seq (.reg [(.n, ⟨[.sl true 24 (.sl true 3 (.int .i64)), .sl true 3 (.int .i64), .bool, .sl false 22 (.sl false 5 (.int .u8)), .sl false 5 (.int .u8), .sl false 3 (.int .i64), .sl false 3 (.int .i64)], [(2, .pl 2 0), (7, .one (.vw 197632)), (8, .one (.vw 197633)), (36, .one (.h 2))], [(2, [.h 3, .h 4, .h 5, .h 6])], [(197632, 0), (197633, 1)], [], []⟩)]) .nil) (.seq (.seq .nil (.block [] (.loop ⟨[.sl true 24 (.sl true 3 (.int .i64)), .sl true 3 (.int .i64), .int .i64, .int .i64, .sl false 22 (.sl false 5 (.int .u8)), .sl false 5 (.int .u8), .sl false 3 (.int .i64), .sl false 3 (.int .i64)], [(2, .pl 2 0), (7, .one (.vw 197634)), (8, .one (.vw 197635)), (37, .one (.vw 197635)), (38, .one (.h 2)), (39, .one (.h 3))], [(2, [.h 4, .h 5, .h 6, .h 7])], [(197634, 0), (197635, 1)], [], []⟩ [(.x 0, ⟨[.sl true 24 (.sl true 3 (.int .i64)), .sl true 3 (.int .i64)], [(7, .one (.vw 197839)), (8, .one (.vw 197840))], [], [(197839, 0), (197840, 1)], [], []⟩), (.r, ⟨[.bool], [(4, .one (.nil)), (5, .one (.nil)), (6, .one (.h 0))], [], [], [], []⟩)] (.seq .nil (.seq .nil (.seq (.block [(.n, ⟨[.sl true 24 (.sl true 3 (.int .i64)), .sl true 3 (.int .i64), .int .i64, .int .i64, .sl false 22 (.sl false 5 (.int .u8)), .sl false 5 (.int .u8), .sl false 3 (.int .i64), .sl false 3 (.int .i64)], [(2, .pl 2 0), (7, .one (.vw 197837)), (8, .one (.vw 197838)), (37, .one (.vw 197838)), (38, .one (.h 2)), (39, .one (.h 3))], [(2, [.h 4, .h 5, .h 6, .h 7])], [(197837, 0), (197838, 1)], [], []⟩), (.r, ⟨[.bool], [(4, .one (.nil)), (5, .one (.nil)), (6, .one (.h 0))], [], [], [], []⟩)] (.seq .nil (.seq .nil (.seq (.seq .nil (.block [] (.loop ⟨[.sl true 24 (.sl true 3 (.int .i64)), .sl true 3 (.int .i64), .int .i64, .int .i64, .int .i64, .int .i64, .int .i64, .int .i64, .int .i64, .int .i64, .sl false 22 (.sl false 5 (.int .u8)), .sl false 5 (.int .u8), .sl false 3 (.int .i64), .sl false 3 (.int .i64)], [(2, .pl 2 0), (7, .one (.vw 197698)), (8, .one (.vw 197699)), (10, .one (.h 2)), (11, .one (.h 3)), (37, .one (.vw 197699)), (38, .one (.h 4)), (39, .one (.h 5)), (48, .one (.ww 197699 6 7)), (49, .one (.h 8)), (50, .one (.h 9))], [(2, [.h 10, .h 11, .h 12, .h 13])], [(197698, 0), (197699, 1)], [], []⟩ [(.x 2, ⟨[.sl true 24 (.sl true 3 (.int .i64)), .sl true 3 (.int .i64), .int .i64, .int .i64, .int .i64, .int .i64, .sl false 22 (.sl false 5 (.int .u8)), .sl false 5 (.int .u8), .sl false 3 (.int .i64), .sl false 3 (.int .i64)], [(2, .pl 2 0), (7, .one (.vw 197762)), (8, .one (.vw 197763)), (10, .one (.h 2)), (11, .one (.h 3)), (37, .one (.vw 197763)), (38, .one (.h 4)), (39, .one (.h 5))], [(2, [.h 6, .h 7, .h 8, .h 9])], [(197762, 0), (197763, 1)], [], []⟩), (.r, ⟨[.bool], [(4, .one (.nil)), (5, .one (.nil)), (6, .one (.h 0))], [], [], [], []⟩)] .nil))) (.seq .nil (.seq (.seq (.reg [(.n, ⟨[.sl true 24 (.sl true 3 (.int .i64)), .sl true 3 (.int .i64), .int .i64, .sl true 3 (.int .i64), .int .i64, .int .i64, .bool, .sl false 22 (.sl false 5 (.int .u8)), .sl false 5 (.int .u8), .sl false 3 (.int .i64), .sl false 3 (.int .i64)], [(2, .pl 2 0), (7, .one (.vw 197764)), (8, .one (.vw 197765)), (10, .one (.h 2)), (14, .one (.vw 197766)), (37, .one (.vw 197765)), (38, .one (.h 4)), (39, .one (.h 5)), (70, .one (.h 6))], [(2, [.h 7, .h 8, .h 9, .h 10])], [(197764, 0), (197765, 1), (197766, 3)], [], []⟩)]) .nil) (.seq (.seq .nil (.block [] (.loop ⟨[.sl true 24 (.sl true 3 (.int .i64)), .sl true 3 (.int .i64), .int .i64, .sl true 3 (.int .i64), .int .i64, .int .i64, .int .i64, .int .i64, .sl false 22 (.sl false 5 (.int .u8)), .sl false 5 (.int .u8), .sl false 3 (.int .i64), .sl false 3 (.int .i64)], [(2, .pl 2 0), (7, .one (.vw 197767)), (8, .one (.vw 197768)), (10, .one (.h 2)), (14, .one (.vw 197769)), (37, .one (.vw 197768)), (38, .one (.h 4)), (39, .one (.h 5)), (71, .one (.vw 197769)), (72, .one (.h 6)), (73, .one (.h 7))], [(2, [.h 8, .h 9, .h 10, .h 11])], [(197767, 0), (197768, 1), (197769, 3)], [], []⟩ [(.x 4, ⟨[.sl true 24 (.sl true 3 (.int .i64)), .sl true 3 (.int .i64), .int .i64, .sl true 3 (.int .i64), .int .i64, .int .i64, .sl false 22 (.sl false 5 (.int .u8)), .sl false 5 (.int .u8), .sl false 3 (.int .i64), .sl false 3 (.int .i64)], [(2, .pl 2 0), (7, .one (.vw 197834)), (8, .one (.vw 197835)), (10, .one (.h 2)), (14, .one (.vw 197836)), (37, .one (.vw 197835)), (38, .one (.h 4)), (39, .one (.h 5))], [(2, [.h 6, .h 7, .h 8, .h 9])], [(197834, 0), (197835, 1), (197836, 3)], [], []⟩), (.r, ⟨[.bool], [(4, .one (.nil)), (5, .one (.nil)), (6, .one (.h 0))], [], [], [], []⟩)] (.seq .nil (.seq .nil (.seq (.block [] (.seq .nil (.seq (.reg [(.n, ⟨[.sl true 24 (.sl true 3 (.int .i64)), .sl true 3 (.int .i64), .int .i64, .sl true 3 (.int .i64), .int .i64, .int .i64, .int .i64, .int .i64, .bool, .sl false 22 (.sl false 5 (.int .u8)), .sl false 5 (.int .u8), .sl false 3 (.int .i64), .sl false 3 (.int .i64)], [(2, .pl 2 0), (7, .one (.vw 197831)), (8, .one (.vw 197832)), (10, .one (.h 2)), (14, .one (.vw 197833)), (37, .one (.vw 197832)), (38, .one (.h 4)), (39, .one (.h 5)), (71, .one (.vw 197833)), (72, .one (.h 6)), (73, .one (.h 7)), (84, .one (.h 8))], [(2, [.h 9, .h 10, .h 11, .h 12])], [(197831, 0), (197832, 1), (197833, 3)], [], []⟩)]) .nil))) .nil)))))) .nil))))))) .nil)))))) .nil))))))
def env_s_l6Tree : Env := envOf ti [k_s_l6Numbers, k_s_l6Any, k_s_l6Value] []
theorem eok_s_l6Tree : EnvOk Try.prog env_s_l6Tree := envOf_ok tab mix _ _ (by
  intro k hk
  simp only [List.mem_cons, List.not_mem_nil, or_false] at hk
  rcases hk with rfl | rfl | rfl
  · exact s_s_l6Numbers
  · exact s_s_l6Any
  · exact s_s_l6Value)
theorem v_s_l6Tree (x0 : List (List Int)) (x1 : List Int) (x2 : List Int) (x3 : List Int) (x4 : Int) : (vfun env_s_l6Tree Try.f61 J_s_l6Tree ann_s_l6Tree [] [.ag [⟨.sl false 22 (.sl false 5 (.int .u8)), x0⟩, ⟨.sl false 5 (.int .u8), x1⟩, ⟨.sl false 3 (.int .i64), x2⟩, ⟨.sl false 3 (.int .i64), x3⟩], .one ⟨.int .i64, x4⟩] []).run = (G.s_l6Tree x0 x1 x2 x3 x4).bind fun y => some (Res.mk [.one ⟨.sl true 24 (.sl true 3 (.int .i64)), y.1⟩, .one ⟨.sl true 3 (.int .i64), y.2.1⟩, .one ⟨.bool, y.2.2⟩] [] []) := by kernel_rfl
def k_s_l6Tree : Kn := ⟨61, [0, 0], fun args rows => match args, rows with
  | [.ag [⟨.sl false 22 (.sl false 5 (.int .u8)), x0⟩, ⟨.sl false 5 (.int .u8), x1⟩, ⟨.sl false 3 (.int .i64), x2⟩, ⟨.sl false 3 (.int .i64), x3⟩], .one ⟨.int .i64, x4⟩], [] => some ⟨_, G.s_l6Tree x0 x1 x2 x3 x4, fun y => ⟨[.one ⟨.sl true 24 (.sl true 3 (.int .i64)), y.1⟩, .one ⟨.sl true 3 (.int .i64), y.2.1⟩, .one ⟨.bool, y.2.2⟩], [], []⟩⟩
  | _, _ => none, []⟩
theorem s_s_l6Tree : KnOk Try.prog k_s_l6Tree := by
  intro args rows a h y hy
  simp only [k_s_l6Tree] at h
  split at h
  · injection h with h
    subst h
    exact vfun_ok eok_s_l6Tree Try.func61 rfl (by rw [v_s_l6Tree]; simp only at hy; rw [hy]; rfl)
  · cases h
def J_s_GoodTree : Joins := [(.r, ⟨[.bool], [(4, .one (.h 0))], [], [], [], []⟩)]
def ann_s_GoodTree : Ann := .nil
def env_s_GoodTree : Env := envOf ti [k_s_GoodSpace, k_s_l6Tree] []
theorem eok_s_GoodTree : EnvOk Try.prog env_s_GoodTree := envOf_ok tab mix _ _ (by
  intro k hk
  simp only [List.mem_cons, List.not_mem_nil, or_false] at hk
  rcases hk with rfl | rfl
  · exact s_s_GoodSpace
  · exact s_s_l6Tree)
theorem v_s_GoodTree (x0 : List (List Int)) (x1 : List Int) (x2 : List Int) (x3 : List Int) (x4 : Int) : (vfun env_s_GoodTree Try.f60 J_s_GoodTree ann_s_GoodTree [] [.ag [⟨.sl false 22 (.sl false 5 (.int .u8)), x0⟩, ⟨.sl false 5 (.int .u8), x1⟩, ⟨.sl false 3 (.int .i64), x2⟩, ⟨.sl false 3 (.int .i64), x3⟩], .one ⟨.int .i64, x4⟩] []).run = (G.s_GoodTree x0 x1 x2 x3 x4).bind fun y => some (Res.mk [.one ⟨.bool, y⟩] [] []) := by kernel_rfl
def k_s_GoodTree : Kn := ⟨60, [0, 0], fun args rows => match args, rows with
  | [.ag [⟨.sl false 22 (.sl false 5 (.int .u8)), x0⟩, ⟨.sl false 5 (.int .u8), x1⟩, ⟨.sl false 3 (.int .i64), x2⟩, ⟨.sl false 3 (.int .i64), x3⟩], .one ⟨.int .i64, x4⟩], [] => some ⟨_, G.s_GoodTree x0 x1 x2 x3 x4, fun y => ⟨[.one ⟨.bool, y⟩], [], []⟩⟩
  | _, _ => none, []⟩
theorem s_s_GoodTree : KnOk Try.prog k_s_GoodTree := by
  intro args rows a h y hy
  simp only [k_s_GoodTree] at h
  split at h
  · injection h with h
    subst h
    exact vfun_ok eok_s_GoodTree Try.func60 rfl (by rw [v_s_GoodTree]; simp only at hy; rw [hy]; rfl)
  · cases h
def J_s_l6Sets : Joins := [(.r, ⟨[.bool], [(6, .one (.h 0))], [], [], [], []⟩)]
def ann_s_l6Sets : Ann := .seq .nil (.seq (.seq (.reg [(.n, ⟨[.sl false 35 (.pair (.int .i64) (.int .i64)), .bool, .sl false 22 (.sl false 5 (.int .u8)), .sl false 5 (.int .u8), .sl false 3 (.int .i64), .sl false 3 (.int .i64)], [(2, .one (.h 0)), (3, .pl 3 0), (17, .one (.h 1))], [(3, [.h 2, .h 3, .h 4, .h 5])], [], [], []⟩)]) .nil) (.seq (.seq .nil (.block [] (.loop ⟨[.sl false 35 (.pair (.int .i64) (.int .i64)), .sl false 35 (.pair (.int .i64) (.int .i64)), .int .i64, .int .i64, .sl false 22 (.sl false 5 (.int .u8)), .sl false 5 (.int .u8), .sl false 3 (.int .i64), .sl false 3 (.int .i64)], [(2, .one (.h 0)), (3, .pl 3 0), (18, .one (.h 1)), (19, .one (.h 2)), (20, .one (.h 3))], [(3, [.h 4, .h 5, .h 6, .h 7])], [], [], []⟩ [(.x 0, ⟨[], [], [], [], [], []⟩), (.r, ⟨[.bool], [(6, .one (.h 0))], [], [], [], []⟩)] (.seq .nil (.seq .nil (.seq (.block [] (.seq .nil (.seq (.reg [(.n, ⟨[.sl false 35 (.pair (.int .i64) (.int .i64)), .sl false 35 (.pair (.int .i64) (.int .i64)), .int .i64, .int .i64, .bool, .sl false 22 (.sl false 5 (.int .u8)), .sl false 5 (.int .u8), .sl false 3 (.int .i64), .sl false 3 (.int .i64)], [(2, .one (.h 0)), (3, .pl 3 0), (18, .one (.h 1)), (19, .one (.h 2)), (20, .one (.h 3)), (55, .one (.h 4))], [(3, [.h 5, .h 6, .h 7, .h 8])], [], [], []⟩)]) .nil))) .nil)))))) .nil))
def env_s_l6Sets : Env := envOf ti [k_s_GoodTree, k_s_l1In, k_s_l5Live] []
theorem eok_s_l6Sets : EnvOk Try.prog env_s_l6Sets := envOf_ok tab mix _ _ (by
  intro k hk
  simp only [List.mem_cons, List.not_mem_nil, or_false] at hk
  rcases hk with rfl | rfl | rfl
  · exact s_s_GoodTree
  · exact s_s_l1In
  · exact s_s_l5Live)
theorem v_s_l6Sets (x0 : List (List Int)) (x1 : List Int) (x2 : List Int) (x3 : List Int) (x4 : Int) (x5 : List (Int × Int)) : (vfun env_s_l6Sets Try.f56 J_s_l6Sets ann_s_l6Sets [] [.ag [⟨.sl false 22 (.sl false 5 (.int .u8)), x0⟩, ⟨.sl false 5 (.int .u8), x1⟩, ⟨.sl false 3 (.int .i64), x2⟩, ⟨.sl false 3 (.int .i64), x3⟩], .one ⟨.int .i64, x4⟩, .one ⟨.sl false 35 (.pair (.int .i64) (.int .i64)), x5⟩] []).run = (G.s_l6Sets x0 x1 x2 x3 x4 x5).bind fun y => some (Res.mk [.one ⟨.bool, y⟩] [] []) := by kernel_rfl
def k_s_l6Sets : Kn := ⟨56, [0, 0, 0], fun args rows => match args, rows with
  | [.ag [⟨.sl false 22 (.sl false 5 (.int .u8)), x0⟩, ⟨.sl false 5 (.int .u8), x1⟩, ⟨.sl false 3 (.int .i64), x2⟩, ⟨.sl false 3 (.int .i64), x3⟩], .one ⟨.int .i64, x4⟩, .one ⟨.sl false 35 (.pair (.int .i64) (.int .i64)), x5⟩], [] => some ⟨_, G.s_l6Sets x0 x1 x2 x3 x4 x5, fun y => ⟨[.one ⟨.bool, y⟩], [], []⟩⟩
  | _, _ => none, []⟩
theorem s_s_l6Sets : KnOk Try.prog k_s_l6Sets := by
  intro args rows a h y hy
  simp only [k_s_l6Sets] at h
  split at h
  · injection h with h
    subst h
    exact vfun_ok eok_s_l6Sets Try.func56 rfl (by rw [v_s_l6Sets]; simp only at hy; rw [hy]; rfl)
  · cases h
def J_s_l5Free : Joins := [(.r, ⟨[.int .i64], [(2, .one (.h 0))], [], [], [], []⟩)]
def ann_s_l5Free : Ann := .seq .nil (.seq .nil (.seq (.seq .nil (.block [] (.loop ⟨[.int .i64, .int .i64, .int .i64, .sl false 22 (.sl false 5 (.int .u8)), .sl false 5 (.int .u8), .sl false 3 (.int .i64), .sl false 3 (.int .i64)], [(1, .pl 1 0), (3, .one (.h 0)), (7, .one (.h 1)), (8, .one (.h 2))], [(1, [.h 3, .h 4, .h 5, .h 6])], [], [], []⟩ [(.x 0, ⟨[.int .i64], [(3, .one (.h 0))], [], [], [], []⟩)] (.seq .nil (.seq .nil (.seq (.block [] (.seq .nil (.seq .nil (.cond [(.n, ⟨[.int .i64, .int .i64, .int .i64, .sl false 22 (.sl false 5 (.int .u8)), .sl false 5 (.int .u8), .sl false 3 (.int .i64), .sl false 3 (.int .i64)], [(1, .pl 1 0), (3, .one (.h 0)), (7, .one (.h 1)), (8, .one (.h 2))], [(1, [.h 3, .h 4, .h 5, .h 6])], [], [], []⟩)] .nil .nil)))) .nil)))))) .nil))
def env_s_l5Free : Env := envOf ti [k_s_l5Used] []
theorem eok_s_l5Free : EnvOk Try.prog env_s_l5Free := envOf_ok tab mix _ _ (by
  intro k hk
  simp only [List.mem_cons, List.not_mem_nil, or_false] at hk
  rcases hk with rfl
  · exact s_s_l5Used)
theorem v_s_l5Free (x0 : List (List Int)) (x1 : List Int) (x2 : List Int) (x3 : List Int) : (vfun env_s_l5Free Try.f49 J_s_l5Free ann_s_l5Free [] [.ag [⟨.sl false 22 (.sl false 5 (.int .u8)), x0⟩, ⟨.sl false 5 (.int .u8), x1⟩, ⟨.sl false 3 (.int .i64), x2⟩, ⟨.sl false 3 (.int .i64), x3⟩]] []).run = (G.s_l5Free x0 x1 x2 x3).bind fun y => some (Res.mk [.one ⟨.int .i64, y⟩] [] []) := by kernel_rfl
def k_s_l5Free : Kn := ⟨49, [0], fun args rows => match args, rows with
  | [.ag [⟨.sl false 22 (.sl false 5 (.int .u8)), x0⟩, ⟨.sl false 5 (.int .u8), x1⟩, ⟨.sl false 3 (.int .i64), x2⟩, ⟨.sl false 3 (.int .i64), x3⟩]], [] => some ⟨_, G.s_l5Free x0 x1 x2 x3, fun y => ⟨[.one ⟨.int .i64, y⟩], [], []⟩⟩
  | _, _ => none, []⟩
theorem s_s_l5Free : KnOk Try.prog k_s_l5Free := by
  intro args rows a h y hy
  simp only [k_s_l5Free] at h
  split at h
  · injection h with h
    subst h
    exact vfun_ok eok_s_l5Free Try.func49 rfl (by rw [v_s_l5Free]; simp only at hy; rw [hy]; rfl)
  · cases h
def J_s_l6After : Joins := [(.r, ⟨[.sl true 24 (.sl true 3 (.int .i64)), .sl true 4 .bool], [(6, .one (.vw 161860)), (7, .one (.vw 161861))], [], [(161860, 0), (161861, 1)], [], []⟩)]
def ann_s_l6After : Ann := .seq .nil (.seq .nil (.seq .nil (.seq (.seq .nil (.block [] (.loop ⟨[.sl true 24 (.sl true 3 (.int .i64)), .sl true 4 .bool, .sl false 35 (.pair (.int .i64) (.int .i64)), .int .i64, .int .i64], [(8, .one (.vw 161792)), (11, .one (.vw 161793)), (23, .one (.h 2)), (24, .one (.h 3)), (25, .one (.h 4))], [], [(161792, 0), (161793, 1)], [], []⟩ [(.x 0, ⟨[.sl true 24 (.sl true 3 (.int .i64)), .sl true 4 .bool], [(8, .one (.vw 161858)), (11, .one (.vw 161859))], [], [(161858, 0), (161859, 1)], [], []⟩)] (.seq .nil (.seq .nil (.seq (.block [] (.seq .nil (.seq .nil (.seq .nil (.seq (.seq .nil (.cond [(.n, ⟨[.sl true 24 (.sl true 3 (.int .i64)), .sl true 4 .bool, .int .i64, .sl false 35 (.pair (.int .i64) (.int .i64)), .int .i64, .int .i64, .int .i64, .int .i64], [(8, .one (.vw 161856)), (11, .one (.vw 161857)), (13, .pl 13 0), (14, .one (.h 2)), (23, .one (.h 3)), (24, .one (.h 4)), (25, .one (.h 5))], [(13, [.h 6, .h 7])], [(161856, 0), (161857, 1)], [], []⟩)] .nil .nil)) .nil))))) .nil)))))) .nil)))
def env_s_l6After : Env := envOf ti [k_s_l6Tree] []
theorem eok_s_l6After : EnvOk Try.prog env_s_l6After := envOf_ok tab mix _ _ (by
  intro k hk
  simp only [List.mem_cons, List.not_mem_nil, or_false] at hk
  rcases hk with rfl
  · exact s_s_l6Tree)
theorem v_s_l6After (x0 : List (List Int)) (x1 : List Int) (x2 : List Int) (x3 : List Int) (x4 : Int) (x5 : List (Int × Int)) : (vfun env_s_l6After Try.f117 J_s_l6After ann_s_l6After [] [.ag [⟨.sl false 22 (.sl false 5 (.int .u8)), x0⟩, ⟨.sl false 5 (.int .u8), x1⟩, ⟨.sl false 3 (.int .i64), x2⟩, ⟨.sl false 3 (.int .i64), x3⟩], .one ⟨.int .i64, x4⟩, .one ⟨.sl false 35 (.pair (.int .i64) (.int .i64)), x5⟩] []).run = (G.s_l6After x0 x1 x2 x3 x4 x5).bind fun y => some (Res.mk [.one ⟨.sl true 24 (.sl true 3 (.int .i64)), y.1⟩, .one ⟨.sl true 4 .bool, y.2⟩] [] []) := by kernel_rfl
def k_s_l6After : Kn := ⟨117, [0, 0, 0], fun args rows => match args, rows with
  | [.ag [⟨.sl false 22 (.sl false 5 (.int .u8)), x0⟩, ⟨.sl false 5 (.int .u8), x1⟩, ⟨.sl false 3 (.int .i64), x2⟩, ⟨.sl false 3 (.int .i64), x3⟩], .one ⟨.int .i64, x4⟩, .one ⟨.sl false 35 (.pair (.int .i64) (.int .i64)), x5⟩], [] => some ⟨_, G.s_l6After x0 x1 x2 x3 x4 x5, fun y => ⟨[.one ⟨.sl true 24 (.sl true 3 (.int .i64)), y.1⟩, .one ⟨.sl true 4 .bool, y.2⟩], [], []⟩⟩
  | _, _ => none, []⟩
theorem s_s_l6After : KnOk Try.prog k_s_l6After := by
  intro args rows a h y hy
  simp only [k_s_l6After] at h
  split at h
  · injection h with h
    subst h
    exact vfun_ok eok_s_l6After Try.func117 rfl (by rw [v_s_l6After]; simp only at hy; rw [hy]; rfl)
  · cases h
def J_s_l6Need : Joins := [(.r, ⟨[.int .i64], [(6, .one (.h 0))], [], [], [], []⟩)]
def ann_s_l6Need : Ann := .seq .nil (.seq .nil (.seq .nil (.seq .nil (.seq .nil (.seq (.seq .nil (.block [] (.loop ⟨[.sl true 4 .bool, .int .i64, .int .i64, .sl true 24 (.sl true 3 (.int .i64)), .int .i64, .int .i64], [(8, .one (.vw 145408)), (9, .one (.h 1)), (10, .one (.h 2)), (23, .one (.vw 145409)), (24, .one (.h 4)), (25, .one (.h 5))], [], [(145408, 0), (145409, 3)], [], []⟩ [(.x 0, ⟨[.int .i64, .int .i64], [(9, .one (.h 0)), (10, .one (.h 1))], [], [], [], []⟩)] (.seq .nil (.seq .nil (.seq (.block [] (.seq .nil (.seq .nil (.cond [(.n, ⟨[.sl true 4 .bool, .int .i64, .int .i64, .sl true 24 (.sl true 3 (.int .i64)), .int .i64, .int .i64], [(8, .one (.vw 145474)), (9, .one (.h 1)), (10, .one (.h 2)), (23, .one (.vw 145475)), (24, .one (.h 4)), (25, .one (.h 5))], [], [(145474, 0), (145475, 3)], [], []⟩)] (.seq .nil (.seq .nil (.cond [(.n, ⟨[.sl true 4 .bool, .int .i64, .int .i64, .sl true 24 (.sl true 3 (.int .i64)), .int .i64, .int .i64], [(8, .one (.vw 145472)), (9, .one (.h 1)), (10, .one (.h 2)), (23, .one (.vw 145473)), (24, .one (.h 4)), (25, .one (.h 5))], [], [(145472, 0), (145473, 3)], [], []⟩)] .nil .nil))) .nil)))) .nil)))))) .nil)))))
def env_s_l6Need : Env := envOf ti [k_s_l6After, k_s_l6Any] []
theorem eok_s_l6Need : EnvOk Try.prog env_s_l6Need := envOf_ok tab mix _ _ (by
  intro k hk
  simp only [List.mem_cons, List.not_mem_nil, or_false] at hk
  rcases hk with rfl | rfl
  · exact s_s_l6After
  · exact s_s_l6Any)
theorem v_s_l6Need (x0 : List (List Int)) (x1 : List Int) (x2 : List Int) (x3 : List Int) (x4 : Int) (x5 : List (Int × Int)) : (vfun env_s_l6Need Try.f57 J_s_l6Need ann_s_l6Need [] [.ag [⟨.sl false 22 (.sl false 5 (.int .u8)), x0⟩, ⟨.sl false 5 (.int .u8), x1⟩, ⟨.sl false 3 (.int .i64), x2⟩, ⟨.sl false 3 (.int .i64), x3⟩], .one ⟨.int .i64, x4⟩, .one ⟨.sl false 35 (.pair (.int .i64) (.int .i64)), x5⟩] []).run = (G.s_l6Need x0 x1 x2 x3 x4 x5).bind fun y => some (Res.mk [.one ⟨.int .i64, y⟩] [] []) := by kernel_rfl
def k_s_l6Need : Kn := ⟨57, [0, 0, 0], fun args rows => match args, rows with
  | [.ag [⟨.sl false 22 (.sl false 5 (.int .u8)), x0⟩, ⟨.sl false 5 (.int .u8), x1⟩, ⟨.sl false 3 (.int .i64), x2⟩, ⟨.sl false 3 (.int .i64), x3⟩], .one ⟨.int .i64, x4⟩, .one ⟨.sl false 35 (.pair (.int .i64) (.int .i64)), x5⟩], [] => some ⟨_, G.s_l6Need x0 x1 x2 x3 x4 x5, fun y => ⟨[.one ⟨.int .i64, y⟩], [], []⟩⟩
  | _, _ => none, []⟩
theorem s_s_l6Need : KnOk Try.prog k_s_l6Need := by
  intro args rows a h y hy
  simp only [k_s_l6Need] at h
  split at h
  · injection h with h
    subst h
    exact vfun_ok eok_s_l6Need Try.func57 rfl (by rw [v_s_l6Need]; simp only at hy; rw [hy]; rfl)
  · cases h
end
end Go.Proofs.Ytijemcbcchnnjaa

set_option linter.unusedVariables false
set_option maxRecDepth 100000
namespace Go.Proofs.Ytijemcbcchnnjaa
open Go.V
noncomputable section
def J_s_l5Own : Joins := [(.r, ⟨[.sl true 22 (.sl true 5 (.int .u8)), .sl true 5 (.int .u8), .sl true 3 (.int .i64), .sl true 3 (.int .i64)], [(2, .pl 2 0)], [(2, [.vw 137281, .vw 137282, .vw 137283, .vw 137284])], [(137281, 0), (137282, 1), (137283, 2), (137284, 3)], [], []⟩)]
def ann_s_l5Own : Ann := .seq .nil (.seq .nil (.seq (.seq .nil (.block [] (.loop ⟨[.sl true 22 (.sl true 5 (.int .u8)), .sl false 22 (.sl false 5 (.int .u8)), .int .i64, .int .i64, .sl false 22 (.sl false 5 (.int .u8)), .sl false 5 (.int .u8), .sl false 3 (.int .i64), .sl false 3 (.int .i64)], [(1, .pl 1 0), (2, .pl 2 0), (3, .one (.vw 137216)), (7, .one (.h 1)), (8, .one (.h 2)), (9, .one (.h 3))], [(1, [.h 4, .h 5, .h 6, .h 7]), (2, [.nil, .nil, .nil, .nil])], [(137216, 0)], [], []⟩ [(.x 0, ⟨[.sl true 22 (.sl true 5 (.int .u8)), .sl false 22 (.sl false 5 (.int .u8)), .sl false 5 (.int .u8), .sl false 3 (.int .i64), .sl false 3 (.int .i64)], [(1, .pl 1 0), (2, .pl 2 0), (3, .one (.vw 137280))], [(1, [.h 1, .h 2, .h 3, .h 4]), (2, [.nil, .nil, .nil, .nil])], [(137280, 0)], [], []⟩)] .nil))) .nil))
def env_s_l5Own : Env := envOf ti [] []
theorem eok_s_l5Own : EnvOk Try.prog env_s_l5Own := envOf_ok tab mix _ _ (by
  intro k hk; cases hk)
theorem v_s_l5Own (x0 : List (List Int)) (x1 : List Int) (x2 : List Int) (x3 : List Int) : (vfun env_s_l5Own Try.f58 J_s_l5Own ann_s_l5Own [] [.ag [⟨.sl false 22 (.sl false 5 (.int .u8)), x0⟩, ⟨.sl false 5 (.int .u8), x1⟩, ⟨.sl false 3 (.int .i64), x2⟩, ⟨.sl false 3 (.int .i64), x3⟩]] []).run = (G.s_l5Own x0 x1 x2 x3).bind fun y => some (Res.mk [.ag [⟨.sl true 22 (.sl true 5 (.int .u8)), y.1⟩, ⟨.sl true 5 (.int .u8), y.2.1⟩, ⟨.sl true 3 (.int .i64), y.2.2.1⟩, ⟨.sl true 3 (.int .i64), y.2.2.2⟩]] [] []) := by kernel_rfl
def k_s_l5Own : Kn := ⟨58, [0], fun args rows => match args, rows with
  | [.ag [⟨.sl false 22 (.sl false 5 (.int .u8)), x0⟩, ⟨.sl false 5 (.int .u8), x1⟩, ⟨.sl false 3 (.int .i64), x2⟩, ⟨.sl false 3 (.int .i64), x3⟩]], [] => some ⟨_, G.s_l5Own x0 x1 x2 x3, fun y => ⟨[.ag [⟨.sl true 22 (.sl true 5 (.int .u8)), y.1⟩, ⟨.sl true 5 (.int .u8), y.2.1⟩, ⟨.sl true 3 (.int .i64), y.2.2.1⟩, ⟨.sl true 3 (.int .i64), y.2.2.2⟩]], [], []⟩⟩
  | _, _ => none, []⟩
theorem s_s_l5Own : KnOk Try.prog k_s_l5Own := by
  intro args rows a h y hy
  simp only [k_s_l5Own] at h
  split at h
  · injection h with h
    subst h
    exact vfun_ok eok_s_l5Own Try.func58 rfl (by rw [v_s_l5Own]; simp only at hy; rw [hy]; rfl)
  · cases h
def J_s_l5Lay_oooo : Joins := [(.n, ⟨[.sl true 22 (.sl true 5 (.int .u8)), .sl true 5 (.int .u8), .sl true 3 (.int .i64), .sl true 3 (.int .i64)], [], [(28, [.vw 130048, .vw 130049, .vw 130050, .vw 130051])], [(130048, 0), (130049, 1), (130050, 2), (130051, 3)], [], []⟩)]
def ann_s_l5Lay_oooo : Ann := .nil
def env_s_l5Lay_oooo : Env := envOf ti [k_s_l5Put] []
theorem eok_s_l5Lay_oooo : EnvOk Try.prog env_s_l5Lay_oooo := envOf_ok tab mix _ _ (by
  intro k hk
  simp only [List.mem_cons, List.not_mem_nil, or_false] at hk
  rcases hk with rfl
  · exact s_s_l5Put)
theorem v_s_l5Lay_oooo (x0 : Int) (x1 : List Int) (x2 : List (List Int)) (x3 : List Int) (x4 : List Int) (x5 : List Int) : (vfun env_s_l5Lay_oooo Try.f155 J_s_l5Lay_oooo ann_s_l5Lay_oooo [] [.pl 0 0, .one ⟨.int .i64, x0⟩, .one ⟨.sl false 5 (.int .u8), x1⟩] [[⟨.sl true 22 (.sl true 5 (.int .u8)), x2⟩, ⟨.sl true 5 (.int .u8), x3⟩, ⟨.sl true 3 (.int .i64), x4⟩, ⟨.sl true 3 (.int .i64), x5⟩]]).run = (G.s_l5Lay_oooo x0 x1 x2 x3 x4 x5).bind fun y => some (Res.mk [] [[⟨.sl true 22 (.sl true 5 (.int .u8)), y.1⟩, ⟨.sl true 5 (.int .u8), y.2.1⟩, ⟨.sl true 3 (.int .i64), y.2.2.1⟩, ⟨.sl true 3 (.int .i64), y.2.2.2⟩]] []) := by kernel_rfl
def k_s_l5Lay_oooo : Kn := ⟨155, [0, 0, 0], fun args rows => match args, rows with
  | [.pl 0 0, .one ⟨.int .i64, x0⟩, .one ⟨.sl false 5 (.int .u8), x1⟩], [[⟨.sl true 22 (.sl true 5 (.int .u8)), x2⟩, ⟨.sl true 5 (.int .u8), x3⟩, ⟨.sl true 3 (.int .i64), x4⟩, ⟨.sl true 3 (.int .i64), x5⟩]] => some ⟨_, G.s_l5Lay_oooo x0 x1 x2 x3 x4 x5, fun y => ⟨[], [[⟨.sl true 22 (.sl true 5 (.int .u8)), y.1⟩, ⟨.sl true 5 (.int .u8), y.2.1⟩, ⟨.sl true 3 (.int .i64), y.2.2.1⟩, ⟨.sl true 3 (.int .i64), y.2.2.2⟩]], []⟩⟩
  | _, _ => none, []⟩
theorem s_s_l5Lay_oooo : KnOk Try.prog k_s_l5Lay_oooo := by
  intro args rows a h y hy
  simp only [k_s_l5Lay_oooo] at h
  split at h
  · injection h with h
    subst h
    exact vfun_ok eok_s_l5Lay_oooo Try.func155 rfl (by rw [v_s_l5Lay_oooo]; simp only at hy; rw [hy]; rfl)
  · cases h
def J_s_l6Page_oooo : Joins := [(.n, ⟨[.sl true 22 (.sl true 5 (.int .u8)), .sl true 5 (.int .u8), .sl true 3 (.int .i64), .sl true 3 (.int .i64)], [], [(33, [.vw 135237, .vw 135238, .vw 135239, .vw 135240])], [(135237, 0), (135238, 1), (135239, 2), (135240, 3)], [], []⟩)]
def ann_s_l6Page_oooo : Ann := .seq .nil (.seq (.seq .nil (.block [] (.loop ⟨[.int .i64, .sl true 5 (.int .u8), .sl false 3 (.int .i64), .int .i64, .int .i64, .sl true 22 (.sl true 5 (.int .u8)), .sl true 5 (.int .u8), .sl true 3 (.int .i64), .sl true 3 (.int .i64)], [(0, .pl 33 0), (1, .one (.h 0)), (8, .one (.vw 135168)), (13, .one (.h 2)), (14, .one (.h 3)), (15, .one (.h 4))], [(33, [.vw 135169, .vw 135170, .vw 135171, .vw 135172])], [(135168, 1), (135169, 5), (135170, 6), (135171, 7), (135172, 8)], [], []⟩ [(.x 0, ⟨[.int .i64, .sl true 5 (.int .u8), .sl true 22 (.sl true 5 (.int .u8)), .sl true 5 (.int .u8), .sl true 3 (.int .i64), .sl true 3 (.int .i64)], [(0, .pl 33 0), (1, .one (.h 0)), (8, .one (.vw 135232))], [(33, [.vw 135233, .vw 135234, .vw 135235, .vw 135236])], [(135232, 1), (135233, 2), (135234, 3), (135235, 4), (135236, 5)], [], []⟩)] .nil))) .nil)
def env_s_l6Page_oooo : Env := envOf ti [k_s_l5Lay_oooo] []
theorem eok_s_l6Page_oooo : EnvOk Try.prog env_s_l6Page_oooo := envOf_ok tab mix _ _ (by
  intro k hk
  simp only [List.mem_cons, List.not_mem_nil, or_false] at hk
  rcases hk with rfl
  · exact s_s_l5Lay_oooo)
theorem v_s_l6Page_oooo (x0 : Int) (x1 : Int) (x2 : List Int) (x3 : List (List Int)) (x4 : List Int) (x5 : List Int) (x6 : List Int) : (vfun env_s_l6Page_oooo Try.f119 J_s_l6Page_oooo ann_s_l6Page_oooo [] [.pl 0 0, .one ⟨.int .i64, x0⟩, .one ⟨.int .u8, x1⟩, .one ⟨.sl false 3 (.int .i64), x2⟩] [[⟨.sl true 22 (.sl true 5 (.int .u8)), x3⟩, ⟨.sl true 5 (.int .u8), x4⟩, ⟨.sl true 3 (.int .i64), x5⟩, ⟨.sl true 3 (.int .i64), x6⟩]]).run = (G.s_l6Page_oooo x0 x1 x2 x3 x4 x5 x6).bind fun y => some (Res.mk [] [[⟨.sl true 22 (.sl true 5 (.int .u8)), y.1⟩, ⟨.sl true 5 (.int .u8), y.2.1⟩, ⟨.sl true 3 (.int .i64), y.2.2.1⟩, ⟨.sl true 3 (.int .i64), y.2.2.2⟩]] []) := by kernel_rfl
def k_s_l6Page_oooo : Kn := ⟨119, [0, 0, 0, 0], fun args rows => match args, rows with
  | [.pl 0 0, .one ⟨.int .i64, x0⟩, .one ⟨.int .u8, x1⟩, .one ⟨.sl false 3 (.int .i64), x2⟩], [[⟨.sl true 22 (.sl true 5 (.int .u8)), x3⟩, ⟨.sl true 5 (.int .u8), x4⟩, ⟨.sl true 3 (.int .i64), x5⟩, ⟨.sl true 3 (.int .i64), x6⟩]] => some ⟨_, G.s_l6Page_oooo x0 x1 x2 x3 x4 x5 x6, fun y => ⟨[], [[⟨.sl true 22 (.sl true 5 (.int .u8)), y.1⟩, ⟨.sl true 5 (.int .u8), y.2.1⟩, ⟨.sl true 3 (.int .i64), y.2.2.1⟩, ⟨.sl true 3 (.int .i64), y.2.2.2⟩]], []⟩⟩
  | _, _ => none, []⟩
theorem s_s_l6Page_oooo : KnOk Try.prog k_s_l6Page_oooo := by
  intro args rows a h y hy
  simp only [k_s_l6Page_oooo] at h
  split at h
  · injection h with h
    subst h
    exact vfun_ok eok_s_l6Page_oooo Try.func119 rfl (by rw [v_s_l6Page_oooo]; simp only at hy; rw [hy]; rfl)
  · cases h
def J_s_l6Set_oooo : Joins := [(.r, ⟨[.int .i64, .sl true 22 (.sl true 5 (.int .u8)), .sl true 5 (.int .u8), .sl true 3 (.int .i64), .sl true 3 (.int .i64)], [(6, .one (.h 0))], [(118, [.vw 222386, .vw 222387, .vw 222388, .vw 222389])], [(222386, 1), (222387, 2), (222388, 3), (222389, 4)], [], []⟩)]
def ann_s_l6Set_oooo : Ann := .seq .nil (.seq .nil (.seq .nil (.seq .nil (.seq .nil (.seq (.seq .nil (.cond [(.n, ⟨[.sl true 3 (.int .i64), .sl true 24 (.sl true 3 (.int .i64)), .sl true 4 .bool, .sl true 3 (.int .i64), .sl true 22 (.sl true 5 (.int .u8)), .sl true 5 (.int .u8), .sl true 3 (.int .i64), .sl true 3 (.int .i64)], [(0, .pl 118 0), (8, .one (.vw 222208)), (10, .one (.vw 222209)), (11, .one (.vw 222210)), (12, .one (.vw 222211))], [(118, [.vw 222212, .vw 222213, .vw 222214, .vw 222215])], [(222208, 0), (222209, 1), (222210, 2), (222211, 3), (222212, 4), (222213, 5), (222214, 6), (222215, 7)], [], []⟩)] .nil .nil)) (.seq .nil (.seq (.seq .nil (.block [] (.loop ⟨[.sl true 3 (.int .i64), .sl true 4 .bool, .sl true 3 (.int .i64), .sl true 3 (.int .i64), .sl true 24 (.sl true 3 (.int .i64)), .int .i64, .int .i64, .sl true 22 (.sl true 5 (.int .u8)), .sl true 5 (.int .u8), .sl true 3 (.int .i64), .sl true 3 (.int .i64)], [(0, .pl 118 0), (8, .one (.vw 222216)), (11, .one (.vw 222217)), (12, .one (.vw 222218)), (13, .one (.vw 222219)), (50, .one (.vw 222220)), (51, .one (.h 5)), (52, .one (.h 6))], [(118, [.vw 222221, .vw 222222, .vw 222223, .vw 222224])], [(222216, 0), (222217, 1), (222218, 2), (222219, 3), (222220, 4), (222221, 7), (222222, 8), (222223, 9), (222224, 10)], [], []⟩ [(.x 0, ⟨[.sl true 3 (.int .i64), .sl true 3 (.int .i64), .sl true 22 (.sl true 5 (.int .u8)), .sl true 5 (.int .u8), .sl true 3 (.int .i64), .sl true 3 (.int .i64)], [(0, .pl 118 0), (12, .one (.vw 222307)), (13, .one (.vw 222308))], [(118, [.vw 222309, .vw 222310, .vw 222311, .vw 222312])], [(222307, 0), (222308, 1), (222309, 2), (222310, 3), (222311, 4), (222312, 5)], [], []⟩)] (.seq .nil (.seq .nil (.seq (.block [(.n, ⟨[.sl true 3 (.int .i64), .sl true 4 .bool, .sl true 3 (.int .i64), .sl true 3 (.int .i64), .sl true 24 (.sl true 3 (.int .i64)), .int .i64, .int .i64, .sl true 22 (.sl true 5 (.int .u8)), .sl true 5 (.int .u8), .sl true 3 (.int .i64), .sl true 3 (.int .i64)], [(0, .pl 118 0), (8, .one (.vw 222298)), (11, .one (.vw 222299)), (12, .one (.vw 222300)), (13, .one (.vw 222301)), (50, .one (.vw 222302)), (51, .one (.h 5)), (52, .one (.h 6))], [(118, [.vw 222303, .vw 222304, .vw 222305, .vw 222306])], [(222298, 0), (222299, 1), (222300, 2), (222301, 3), (222302, 4), (222303, 7), (222304, 8), (222305, 9), (222306, 10)], [], []⟩)] (.seq .nil (.seq .nil (.seq (.seq .nil (.cond [(.n, ⟨[.sl true 3 (.int .i64), .sl true 4 .bool, .sl true 3 (.int .i64), .sl true 3 (.int .i64), .int .i64, .sl true 24 (.sl true 3 (.int .i64)), .int .i64, .int .i64, .int .i64, .sl true 22 (.sl true 5 (.int .u8)), .sl true 5 (.int .u8), .sl true 3 (.int .i64), .sl true 3 (.int .i64)], [(0, .pl 118 0), (8, .one (.vw 222280)), (11, .one (.vw 222281)), (12, .one (.vw 222282)), (13, .one (.vw 222283)), (14, .one (.h 4)), (15, .one (.vs 222284 6 0)), (50, .one (.vw 222284)), (51, .one (.h 7)), (52, .one (.h 8))], [(118, [.vw 222285, .vw 222286, .vw 222287, .vw 222288])], [(222280, 0), (222281, 1), (222282, 2), (222283, 3), (222284, 5), (222285, 9), (222286, 10), (222287, 11), (222288, 12)], [], []⟩)] .nil .nil)) (.seq .nil (.seq .nil (.cond [(.n, ⟨[.sl true 3 (.int .i64), .sl true 4 .bool, .sl true 3 (.int .i64), .sl true 3 (.int .i64), .sl true 24 (.sl true 3 (.int .i64)), .int .i64, .int .i64, .sl true 22 (.sl true 5 (.int .u8)), .sl true 5 (.int .u8), .sl true 3 (.int .i64), .sl true 3 (.int .i64)], [(0, .pl 118 0), (8, .one (.vw 222289)), (11, .one (.vw 222290)), (12, .one (.vw 222291)), (13, .one (.vw 222292)), (50, .one (.vw 222293)), (51, .one (.h 5)), (52, .one (.h 6))], [(118, [.vw 222294, .vw 222295, .vw 222296, .vw 222297])], [(222289, 0), (222290, 1), (222291, 2), (222292, 3), (222293, 4), (222294, 7), (222295, 8), (222296, 9), (222297, 10)], [], []⟩)] .nil .nil))))))) .nil)))))) (.seq .nil (.seq (.seq .nil (.cond [(.n, ⟨[.sl true 3 (.int .i64), .int .i64, .sl true 22 (.sl true 5 (.int .u8)), .sl true 5 (.int .u8), .sl true 3 (.int .i64), .sl true 3 (.int .i64)], [(0, .pl 118 0), (12, .one (.vw 222313)), (16, .one (.h 1))], [(118, [.vw 222314, .vw 222315, .vw 222316, .vw 222317])], [(222313, 0), (222314, 2), (222315, 3), (222316, 4), (222317, 5)], [], []⟩)] .nil .nil)) (.seq (.seq .nil (.block [] (.loop ⟨[.int .i64, .sl true 3 (.int .i64), .int .i64, .int .i64, .sl true 22 (.sl true 5 (.int .u8)), .sl true 5 (.int .u8), .sl true 3 (.int .i64), .sl true 3 (.int .i64)], [(0, .pl 118 0), (16, .one (.h 0)), (100, .one (.vw 222318)), (101, .one (.h 2)), (102, .one (.h 3))], [(118, [.vw 222319, .vw 222320, .vw 222321, .vw 222322])], [(222318, 1), (222319, 4), (222320, 5), (222321, 6), (222322, 7)], [], []⟩ [(.x 2, ⟨[.int .i64, .sl true 22 (.sl true 5 (.int .u8)), .sl true 5 (.int .u8), .sl true 3 (.int .i64), .sl true 3 (.int .i64)], [(16, .one (.h 0))], [(118, [.vw 222382, .vw 222383, .vw 222384, .vw 222385])], [(222382, 1), (222383, 2), (222384, 3), (222385, 4)], [], []⟩)] .nil))) .nil))))))))))
def env_s_l6Set_oooo : Env := envOf ti [k_s_l6Tree, k_s_l6After, k_s_l6Any, k_s_l5Take_oooo, k_s_l6Page_oooo, k_s_l5Put] []
theorem eok_s_l6Set_oooo : EnvOk Try.prog env_s_l6Set_oooo := envOf_ok tab mix _ _ (by
  intro k hk
  simp only [List.mem_cons, List.not_mem_nil, or_false] at hk
  rcases hk with rfl | rfl | rfl | rfl | rfl | rfl
  · exact s_s_l6Tree
  · exact s_s_l6After
  · exact s_s_l6Any
  · exact s_s_l5Take_oooo
  · exact s_s_l6Page_oooo
  · exact s_s_l5Put)
theorem v_s_l6Set_oooo (x0 : Int) (x1 : List (Int × Int)) (x2 : List (List Int)) (x3 : List Int) (x4 : List Int) (x5 : List Int) : (vfun env_s_l6Set_oooo Try.f59 J_s_l6Set_oooo ann_s_l6Set_oooo [] [.pl 0 0, .one ⟨.int .i64, x0⟩, .one ⟨.sl false 35 (.pair (.int .i64) (.int .i64)), x1⟩] [[⟨.sl true 22 (.sl true 5 (.int .u8)), x2⟩, ⟨.sl true 5 (.int .u8), x3⟩, ⟨.sl true 3 (.int .i64), x4⟩, ⟨.sl true 3 (.int .i64), x5⟩]]).run = (G.s_l6Set_oooo x0 x1 x2 x3 x4 x5).bind fun y => some (Res.mk [.one ⟨.int .i64, y.1⟩] [[⟨.sl true 22 (.sl true 5 (.int .u8)), y.2.1⟩, ⟨.sl true 5 (.int .u8), y.2.2.1⟩, ⟨.sl true 3 (.int .i64), y.2.2.2.1⟩, ⟨.sl true 3 (.int .i64), y.2.2.2.2⟩]] []) := by kernel_rfl
def k_s_l6Set_oooo : Kn := ⟨59, [0, 0, 0], fun args rows => match args, rows with
  | [.pl 0 0, .one ⟨.int .i64, x0⟩, .one ⟨.sl false 35 (.pair (.int .i64) (.int .i64)), x1⟩], [[⟨.sl true 22 (.sl true 5 (.int .u8)), x2⟩, ⟨.sl true 5 (.int .u8), x3⟩, ⟨.sl true 3 (.int .i64), x4⟩, ⟨.sl true 3 (.int .i64), x5⟩]] => some ⟨_, G.s_l6Set_oooo x0 x1 x2 x3 x4 x5, fun y => ⟨[.one ⟨.int .i64, y.1⟩], [[⟨.sl true 22 (.sl true 5 (.int .u8)), y.2.1⟩, ⟨.sl true 5 (.int .u8), y.2.2.1⟩, ⟨.sl true 3 (.int .i64), y.2.2.2.1⟩, ⟨.sl true 3 (.int .i64), y.2.2.2.2⟩]], []⟩⟩
  | _, _ => none, []⟩
theorem s_s_l6Set_oooo : KnOk Try.prog k_s_l6Set_oooo := by
  intro args rows a h y hy
  simp only [k_s_l6Set_oooo] at h
  split at h
  · injection h with h
    subst h
    exact vfun_ok eok_s_l6Set_oooo Try.func59 rfl (by rw [v_s_l6Set_oooo]; simp only at hy; rw [hy]; rfl)
  · cases h
def J_s_SetKeys : Joins := [(.r, ⟨[.int .i64, .bool, .sl true 22 (.sl true 5 (.int .u8)), .sl true 5 (.int .u8), .sl true 3 (.int .i64), .sl true 3 (.int .i64)], [(6, .pl 6 0), (7, .one (.h 0)), (8, .one (.h 1))], [(6, [.vw 135168, .vw 135169, .vw 135170, .vw 135171])], [(135168, 2), (135169, 3), (135170, 4), (135171, 5)], [], []⟩)]
def ann_s_SetKeys : Ann := .seq .nil (.seq (.seq (.reg [(.n, ⟨[.int .i64, .sl false 35 (.pair (.int .i64) (.int .i64)), .bool, .sl false 22 (.sl false 5 (.int .u8)), .sl false 5 (.int .u8), .sl false 3 (.int .i64), .sl false 3 (.int .i64)], [(1, .one (.h 0)), (2, .one (.h 1)), (3, .pl 3 0), (6, .pl 6 0), (23, .one (.h 2))], [(3, [.h 3, .h 4, .h 5, .h 6]), (6, [.nil, .nil, .nil, .nil])], [], [], []⟩)]) .nil) .nil)
def env_s_SetKeys : Env := envOf ti [k_s_l6Sets, k_s_l5Free, k_s_l6Need, k_s_l5Own, k_s_l6Set_oooo] []
theorem eok_s_SetKeys : EnvOk Try.prog env_s_SetKeys := envOf_ok tab mix _ _ (by
  intro k hk
  simp only [List.mem_cons, List.not_mem_nil, or_false] at hk
  rcases hk with rfl | rfl | rfl | rfl | rfl
  · exact s_s_l6Sets
  · exact s_s_l5Free
  · exact s_s_l6Need
  · exact s_s_l5Own
  · exact s_s_l6Set_oooo)
theorem v_s_SetKeys (x0 : List (List Int)) (x1 : List Int) (x2 : List Int) (x3 : List Int) (x4 : Int) (x5 : List (Int × Int)) : (vfun env_s_SetKeys Try.f10 J_s_SetKeys ann_s_SetKeys [] [.ag [⟨.sl false 22 (.sl false 5 (.int .u8)), x0⟩, ⟨.sl false 5 (.int .u8), x1⟩, ⟨.sl false 3 (.int .i64), x2⟩, ⟨.sl false 3 (.int .i64), x3⟩], .one ⟨.int .i64, x4⟩, .one ⟨.sl false 35 (.pair (.int .i64) (.int .i64)), x5⟩] []).run = (G.s_SetKeys x0 x1 x2 x3 x4 x5).bind fun y => some (Res.mk [.ag [⟨.sl true 22 (.sl true 5 (.int .u8)), y.2.2.1⟩, ⟨.sl true 5 (.int .u8), y.2.2.2.1⟩, ⟨.sl true 3 (.int .i64), y.2.2.2.2.1⟩, ⟨.sl true 3 (.int .i64), y.2.2.2.2.2⟩], .one ⟨.int .i64, y.1⟩, .one ⟨.bool, y.2.1⟩] [] []) := by kernel_rfl
def k_s_SetKeys : Kn := ⟨10, [0, 0, 0], fun args rows => match args, rows with
  | [.ag [⟨.sl false 22 (.sl false 5 (.int .u8)), x0⟩, ⟨.sl false 5 (.int .u8), x1⟩, ⟨.sl false 3 (.int .i64), x2⟩, ⟨.sl false 3 (.int .i64), x3⟩], .one ⟨.int .i64, x4⟩, .one ⟨.sl false 35 (.pair (.int .i64) (.int .i64)), x5⟩], [] => some ⟨_, G.s_SetKeys x0 x1 x2 x3 x4 x5, fun y => ⟨[.ag [⟨.sl true 22 (.sl true 5 (.int .u8)), y.2.2.1⟩, ⟨.sl true 5 (.int .u8), y.2.2.2.1⟩, ⟨.sl true 3 (.int .i64), y.2.2.2.2.1⟩, ⟨.sl true 3 (.int .i64), y.2.2.2.2.2⟩], .one ⟨.int .i64, y.1⟩, .one ⟨.bool, y.2.1⟩], [], []⟩⟩
  | _, _ => none, []⟩
theorem s_s_SetKeys : KnOk Try.prog k_s_SetKeys := by
  intro args rows a h y hy
  simp only [k_s_SetKeys] at h
  split at h
  · injection h with h
    subst h
    exact vfun_ok eok_s_SetKeys Try.func10 rfl (by rw [v_s_SetKeys]; simp only at hy; rw [hy]; rfl)
  · cases h
def J_s_l1Cur_sets_l_f : Joins := [(.r, ⟨[.sl true 22 (.sl true 5 (.int .u8)), .sl true 5 (.int .u8), .sl true 3 (.int .i64), .sl true 3 (.int .i64), .sl true 35 (.pair (.int .i64) (.int .i64)), .sl false 5 (.int .u8), .int .i64, .int .u64], [(1, .ag [.vw 189678, .vw 189679, .vw 189680, .vw 189681]), (4, .one (.vw 189682))], [(86, [.h 5, .h 6, .h 7])], [(189678, 0), (189679, 1), (189680, 2), (189681, 3), (189682, 4)], [], []⟩)]
def ann_s_l1Cur_sets_l_f : Ann := .seq .nil (.seq .nil (.seq (.seq .nil (.block [] (.loop ⟨[.sl true 22 (.sl true 5 (.int .u8)), .sl true 5 (.int .u8), .sl true 3 (.int .i64), .sl true 3 (.int .i64), .sl true 3 (.int .i64), .int .i64, .int .i64, .sl false 5 (.int .u8), .int .i64, .int .u64], [(0, .pl 86 0), (1, .ag [.vw 189440, .vw 189441, .vw 189442, .vw 189443]), (3, .pl 3 0), (5, .one (.vw 189444)), (16, .one (.h 5)), (17, .one (.h 6))], [(3, [.vw 189440, .vw 189441, .vw 189442, .vw 189443]), (86, [.h 7, .h 8, .h 9])], [(189440, 0), (189441, 1), (189442, 2), (189443, 3), (189444, 4)], [], []⟩ [(.x 0, ⟨[.sl true 22 (.sl true 5 (.int .u8)), .sl true 5 (.int .u8), .sl true 3 (.int .i64), .sl true 3 (.int .i64), .sl true 3 (.int .i64), .sl false 5 (.int .u8), .int .i64, .int .u64], [(0, .pl 86 0), (1, .ag [.vw 189509, .vw 189510, .vw 189511, .vw 189512]), (5, .one (.vw 189513))], [(86, [.h 5, .h 6, .h 7])], [(189509, 0), (189510, 1), (189511, 2), (189512, 3), (189513, 4)], [], []⟩)] (.seq .nil (.seq .nil (.seq (.block [] (.seq .nil (.seq .nil (.cond [(.n, ⟨[.sl true 22 (.sl true 5 (.int .u8)), .sl true 5 (.int .u8), .sl true 3 (.int .i64), .sl true 3 (.int .i64), .sl true 3 (.int .i64), .int .i64, .int .i64, .sl false 5 (.int .u8), .int .i64, .int .u64], [(0, .pl 86 0), (1, .ag [.vw 189504, .vw 189505, .vw 189506, .vw 189507]), (3, .pl 3 0), (5, .one (.vw 189508)), (16, .one (.h 5)), (17, .one (.h 6))], [(3, [.vw 189504, .vw 189505, .vw 189506, .vw 189507]), (86, [.h 7, .h 8, .h 9])], [(189504, 0), (189505, 1), (189506, 2), (189507, 3), (189508, 4)], [], []⟩)] .nil .nil)))) .nil)))))) (.seq .nil (.seq (.seq .nil (.block [] (.loop ⟨[.sl true 22 (.sl true 5 (.int .u8)), .sl true 5 (.int .u8), .sl true 3 (.int .i64), .sl true 3 (.int .i64), .sl true 3 (.int .i64), .sl true 3 (.int .i64), .int .i64, .sl false 5 (.int .u8), .int .i64, .int .u64], [(0, .pl 86 0), (1, .ag [.vw 189514, .vw 189515, .vw 189516, .vw 189517]), (5, .one (.vw 189518)), (7, .one (.vw 189519)), (8, .one (.h 6))], [(86, [.h 7, .h 8, .h 9])], [(189514, 0), (189515, 1), (189516, 2), (189517, 3), (189518, 4), (189519, 5)], [], []⟩ [(.x 2, ⟨[.sl true 22 (.sl true 5 (.int .u8)), .sl true 5 (.int .u8), .sl true 3 (.int .i64), .sl true 3 (.int .i64), .sl true 3 (.int .i64), .sl true 3 (.int .i64), .sl false 5 (.int .u8), .int .i64, .int .u64], [(0, .pl 86 0), (1, .ag [.vw 189584, .vw 189585, .vw 189586, .vw 189587]), (5, .one (.vw 189588)), (7, .one (.vw 189589))], [(86, [.h 6, .h 7, .h 8])], [(189584, 0), (189585, 1), (189586, 2), (189587, 3), (189588, 4), (189589, 5)], [], []⟩)] (.seq .nil (.seq (.block [] (.seq .nil (.seq (.seq .nil (.cond [(.n, ⟨[.sl true 22 (.sl true 5 (.int .u8)), .sl true 5 (.int .u8), .sl true 3 (.int .i64), .sl true 3 (.int .i64), .sl true 3 (.int .i64), .sl true 3 (.int .i64), .int .i64, .int .i64, .sl false 5 (.int .u8), .int .i64, .int .u64], [(0, .pl 86 0), (1, .ag [.vw 189578, .vw 189579, .vw 189580, .vw 189581]), (5, .one (.vw 189582)), (7, .one (.vw 189583)), (8, .one (.h 6)), (9, .one (.h 7))], [(86, [.h 8, .h 9, .h 10])], [(189578, 0), (189579, 1), (189580, 2), (189581, 3), (189582, 4), (189583, 5)], [], []⟩)] .nil .nil)) .nil))) .nil))))) (.seq .nil (.seq (.seq .nil (.block [] (.loop ⟨[.sl true 22 (.sl true 5 (.int .u8)), .sl true 5 (.int .u8), .sl true 3 (.int .i64), .sl true 3 (.int .i64), .sl true 3 (.int .i64), .sl true 35 (.pair (.int .i64) (.int .i64)), .sl true 3 (.int .i64), .int .i64, .int .i64, .sl false 5 (.int .u8), .int .i64, .int .u64], [(0, .pl 86 0), (1, .ag [.vw 189590, .vw 189591, .vw 189592, .vw 189593]), (5, .one (.vw 189594)), (10, .one (.vw 189595)), (43, .one (.vw 189596)), (44, .one (.h 7)), (45, .one (.h 8))], [(86, [.h 9, .h 10, .h 11])], [(189590, 0), (189591, 1), (189592, 2), (189593, 3), (189594, 4), (189595, 5), (189596, 6)], [], []⟩ [(.x 4, ⟨[.sl true 22 (.sl true 5 (.int .u8)), .sl true 5 (.int .u8), .sl true 3 (.int .i64), .sl true 3 (.int .i64), .sl true 35 (.pair (.int .i64) (.int .i64)), .sl false 5 (.int .u8), .int .i64, .int .u64], [(0, .pl 86 0), (1, .ag [.vw 189668, .vw 189669, .vw 189670, .vw 189671]), (10, .one (.vw 189672))], [(86, [.h 5, .h 6, .h 7])], [(189668, 0), (189669, 1), (189670, 2), (189671, 3), (189672, 4)], [], []⟩)] (.seq .nil (.seq .nil (.seq (.block [] (.seq .nil (.seq .nil (.seq (.seq (.reg [(.n, ⟨[.sl true 22 (.sl true 5 (.int .u8)), .sl true 5 (.int .u8), .sl true 3 (.int .i64), .sl true 3 (.int .i64), .sl true 3 (.int .i64), .sl true 35 (.pair (.int .i64) (.int .i64)), .sl true 3 (.int .i64), .int .i64, .int .i64, .bool, .int .i64, .int .i64, .sl false 5 (.int .u8), .int .i64, .int .u64], [(0, .pl 86 0), (1, .ag [.vw 189654, .vw 189655, .vw 189656, .vw 189657]), (5, .one (.vw 189658)), (10, .one (.vw 189659)), (13, .pl 13 0), (43, .one (.vw 189660)), (44, .one (.h 7)), (45, .one (.h 8)), (58, .one (.h 9))], [(13, [.h 10, .h 11]), (86, [.h 12, .h 13, .h 14])], [(189654, 0), (189655, 1), (189656, 2), (189657, 3), (189658, 4), (189659, 5), (189660, 6)], [], []⟩)]) (.cond [(.n, ⟨[.sl true 22 (.sl true 5 (.int .u8)), .sl true 5 (.int .u8), .sl true 3 (.int .i64), .sl true 3 (.int .i64), .sl true 3 (.int .i64), .sl true 35 (.pair (.int .i64) (.int .i64)), .sl true 3 (.int .i64), .int .i64, .int .i64, .int .i64, .int .i64, .sl false 5 (.int .u8), .int .i64, .int .u64], [(0, .pl 86 0), (1, .ag [.vw 189661, .vw 189662, .vw 189663, .vw 189664]), (5, .one (.vw 189665)), (10, .one (.vw 189666)), (13, .pl 13 0), (43, .one (.vw 189667)), (44, .one (.h 7)), (45, .one (.h 8))], [(13, [.h 9, .h 10]), (86, [.h 11, .h 12, .h 13])], [(189661, 0), (189662, 1), (189663, 2), (189664, 3), (189665, 4), (189666, 5), (189667, 6)], [], []⟩)] .nil .nil)) .nil)))) .nil)))))) (.seq (.seq .nil (.cond [(.n, ⟨[.sl true 22 (.sl true 5 (.int .u8)), .sl true 5 (.int .u8), .sl true 3 (.int .i64), .sl true 3 (.int .i64), .sl true 35 (.pair (.int .i64) (.int .i64)), .sl false 5 (.int .u8), .int .i64, .int .u64], [(1, .ag [.vw 189673, .vw 189674, .vw 189675, .vw 189676]), (10, .one (.vw 189677))], [(86, [.h 5, .h 6, .h 7])], [(189673, 0), (189674, 1), (189675, 2), (189676, 3), (189677, 4)], [], []⟩)] .nil .nil)) .nil)))))))
def env_s_l1Cur_sets_l_f : Env := envOf ti [k_s_l5Live, k_s_l1Cur_pick_f, k_s_l1Cur_one_f, k_s_l5Put, k_s_l1Cur_among_f] [1]
theorem eok_s_l1Cur_sets_l_f : EnvOk Try.prog env_s_l1Cur_sets_l_f := envOf_ok tab mix _ _ (by
  intro k hk
  simp only [List.mem_cons, List.not_mem_nil, or_false] at hk
  rcases hk with rfl | rfl | rfl | rfl | rfl
  · exact s_s_l5Live
  · exact s_s_l1Cur_pick_f
  · exact s_s_l1Cur_one_f
  · exact s_s_l5Put
  · exact s_s_l1Cur_among_f)
theorem v_s_l1Cur_sets_l_f (x0 : List (List Int)) (x1 : List Int) (x2 : List Int) (x3 : List Int) (x4 : List Int) (x5 : Int) (x6 : Int) : (vfun env_s_l1Cur_sets_l_f Try.f47 J_s_l1Cur_sets_l_f ann_s_l1Cur_sets_l_f [(1, 0), (1, 1), (1, 2), (1, 3)] [.pl 0 0, .ag [⟨.sl true 22 (.sl true 5 (.int .u8)), x0⟩, ⟨.sl true 5 (.int .u8), x1⟩, ⟨.sl true 3 (.int .i64), x2⟩, ⟨.sl true 3 (.int .i64), x3⟩]] [[⟨.sl false 5 (.int .u8), x4⟩, ⟨.int .i64, x5⟩, ⟨.int .u64, x6⟩]]).run = (G.s_l1Cur_sets_l_f x0 x1 x2 x3 x4 x5 x6).bind fun y => some (Res.mk [.one ⟨.sl true 35 (.pair (.int .i64) (.int .i64)), y.2.2.2.2.1⟩] [[⟨.sl false 5 (.int .u8), y.2.2.2.2.2.1⟩, ⟨.int .i64, y.2.2.2.2.2.2.1⟩, ⟨.int .u64, y.2.2.2.2.2.2.2⟩]] [((1, 0), ⟨.sl true 22 (.sl true 5 (.int .u8)), y.1⟩), ((1, 1), ⟨.sl true 5 (.int .u8), y.2.1⟩), ((1, 2), ⟨.sl true 3 (.int .i64), y.2.2.1⟩), ((1, 3), ⟨.sl true 3 (.int .i64), y.2.2.2.1⟩)]) := by kernel_rfl
def k_s_l1Cur_sets_l_f : Kn := ⟨47, [0, 2], fun args rows => match args, rows with
  | [.pl 0 0, .ag [⟨.sl true 22 (.sl true 5 (.int .u8)), x0⟩, ⟨.sl true 5 (.int .u8), x1⟩, ⟨.sl true 3 (.int .i64), x2⟩, ⟨.sl true 3 (.int .i64), x3⟩]], [[⟨.sl false 5 (.int .u8), x4⟩, ⟨.int .i64, x5⟩, ⟨.int .u64, x6⟩]] => some ⟨_, G.s_l1Cur_sets_l_f x0 x1 x2 x3 x4 x5 x6, fun y => ⟨[.one ⟨.sl true 35 (.pair (.int .i64) (.int .i64)), y.2.2.2.2.1⟩], [[⟨.sl false 5 (.int .u8), y.2.2.2.2.2.1⟩, ⟨.int .i64, y.2.2.2.2.2.2.1⟩, ⟨.int .u64, y.2.2.2.2.2.2.2⟩]], [((1, 0), ⟨.sl true 22 (.sl true 5 (.int .u8)), y.1⟩), ((1, 1), ⟨.sl true 5 (.int .u8), y.2.1⟩), ((1, 2), ⟨.sl true 3 (.int .i64), y.2.2.1⟩), ((1, 3), ⟨.sl true 3 (.int .i64), y.2.2.2.1⟩)]⟩⟩
  | _, _ => none, []⟩
theorem s_s_l1Cur_sets_l_f : KnOk Try.prog k_s_l1Cur_sets_l_f := by
  intro args rows a h y hy
  simp only [k_s_l1Cur_sets_l_f] at h
  split at h
  · injection h with h
    subst h
    exact vfun_ok eok_s_l1Cur_sets_l_f Try.func47 rfl (by rw [v_s_l1Cur_sets_l_f]; simp only at hy; rw [hy]; rfl)
  · cases h
def J_s_l1Cur_tree_f : Joins := [(.r, ⟨[.int .i64, .sl true 22 (.sl true 5 (.int .u8)), .sl true 5 (.int .u8), .sl true 3 (.int .i64), .sl true 3 (.int .i64), .sl false 5 (.int .u8), .int .i64, .int .u64], [(2, .pl 2 0), (3, .one (.h 0))], [(2, [.vw 188640, .vw 188641, .vw 188642, .vw 188643]), (85, [.h 5, .h 6, .h 7])], [(188640, 1), (188641, 2), (188642, 3), (188643, 4)], [], []⟩)]
def ann_s_l1Cur_tree_f : Ann := .seq .nil (.seq .nil (.seq (.seq .nil (.block [] (.loop ⟨[.int .i64, .sl true 22 (.sl true 5 (.int .u8)), .sl true 5 (.int .u8), .sl true 3 (.int .i64), .sl true 3 (.int .i64), .sl false 5 (.int .u8), .int .i64, .int .u64], [(0, .pl 85 0), (2, .pl 2 0), (4, .pl 4 0), (5, .one (.h 0))], [(2, [.nil, .nil, .nil, .nil]), (4, [.vw 188416, .vw 188417, .vw 188418, .vw 188419]), (85, [.h 5, .h 6, .h 7])], [(188416, 1), (188417, 2), (188418, 3), (188419, 4)], [], []⟩ [(.x 0, ⟨[.sl true 22 (.sl true 5 (.int .u8)), .sl true 5 (.int .u8), .sl true 3 (.int .i64), .sl true 3 (.int .i64), .sl false 5 (.int .u8), .int .i64, .int .u64], [(0, .pl 85 0), (2, .pl 2 0), (4, .pl 4 0)], [(2, [.nil, .nil, .nil, .nil]), (4, [.vw 188480, .vw 188481, .vw 188482, .vw 188483]), (85, [.h 4, .h 5, .h 6])], [(188480, 0), (188481, 1), (188482, 2), (188483, 3)], [], []⟩)] .nil))) (.seq .nil (.seq (.seq .nil (.block [] (.loop ⟨[.int .i64, .int .i64, .sl true 22 (.sl true 5 (.int .u8)), .sl true 5 (.int .u8), .sl true 3 (.int .i64), .sl true 3 (.int .i64), .sl false 5 (.int .u8), .int .i64, .int .u64], [(0, .pl 85 0), (2, .pl 2 0), (4, .pl 4 0), (6, .one (.h 0)), (7, .one (.h 1))], [(2, [.nil, .nil, .nil, .nil]), (4, [.vw 188484, .vw 188485, .vw 188486, .vw 188487]), (85, [.h 6, .h 7, .h 8])], [(188484, 2), (188485, 3), (188486, 4), (188487, 5)], [], []⟩ [(.x 2, ⟨[.int .i64, .sl true 22 (.sl true 5 (.int .u8)), .sl true 5 (.int .u8), .sl true 3 (.int .i64), .sl true 3 (.int .i64), .sl false 5 (.int .u8), .int .i64, .int .u64], [(0, .pl 85 0), (2, .pl 2 0), (4, .pl 4 0), (6, .one (.h 0))], [(2, [.nil, .nil, .nil, .nil]), (4, [.vw 188624, .vw 188625, .vw 188626, .vw 188627]), (85, [.h 5, .h 6, .h 7])], [(188624, 1), (188625, 2), (188626, 3), (188627, 4)], [], []⟩)] (.seq .nil (.seq (.block [] (.seq .nil (.seq .nil (.cond [(.n, ⟨[.int .i64, .int .i64, .sl true 22 (.sl true 5 (.int .u8)), .sl true 5 (.int .u8), .sl true 3 (.int .i64), .sl true 3 (.int .i64), .sl false 5 (.int .u8), .int .i64, .int .u64], [(0, .pl 85 0), (2, .pl 2 0), (4, .pl 4 0), (6, .one (.h 0)), (7, .one (.h 1))], [(2, [.nil, .nil, .nil, .nil]), (4, [.vw 188620, .vw 188621, .vw 188622, .vw 188623]), (85, [.h 6, .h 7, .h 8])], [(188620, 2), (188621, 3), (188622, 4), (188623, 5)], [], []⟩)] (.seq .nil (.seq .nil (.seq .nil (.cond [(.n, ⟨[.int .i64, .int .i64, .sl true 22 (.sl true 5 (.int .u8)), .sl true 5 (.int .u8), .sl true 3 (.int .i64), .sl true 3 (.int .i64), .sl false 5 (.int .u8), .int .i64, .int .u64], [(0, .pl 85 0), (2, .pl 2 0), (4, .pl 4 0), (6, .one (.h 0)), (7, .one (.h 1))], [(2, [.nil, .nil, .nil, .nil]), (4, [.vw 188616, .vw 188617, .vw 188618, .vw 188619]), (85, [.h 6, .h 7, .h 8])], [(188616, 2), (188617, 3), (188618, 4), (188619, 5)], [], []⟩)] (.seq (.seq .nil (.block [] (.loop ⟨[.int .i64, .int .i64, .sl true 3 (.int .i64), .int .i64, .int .i64, .sl true 22 (.sl true 5 (.int .u8)), .sl true 5 (.int .u8), .sl true 3 (.int .i64), .sl false 5 (.int .u8), .int .i64, .int .u64], [(0, .pl 85 0), (2, .pl 2 0), (4, .pl 4 0), (6, .one (.h 0)), (7, .one (.h 1)), (47, .one (.vw 188548)), (48, .one (.h 3)), (49, .one (.h 4))], [(2, [.nil, .nil, .nil, .nil]), (4, [.vw 188549, .vw 188550, .vw 188548, .vw 188551]), (85, [.h 8, .h 9, .h 10])], [(188548, 2), (188549, 5), (188550, 6), (188551, 7)], [], []⟩ [(.x 4, ⟨[.int .i64, .int .i64, .sl true 22 (.sl true 5 (.int .u8)), .sl true 5 (.int .u8), .sl true 3 (.int .i64), .sl true 3 (.int .i64), .sl false 5 (.int .u8), .int .i64, .int .u64], [(0, .pl 85 0), (2, .pl 2 0), (4, .pl 4 0), (6, .one (.h 0)), (7, .one (.h 1))], [(2, [.nil, .nil, .nil, .nil]), (4, [.vw 188612, .vw 188613, .vw 188614, .vw 188615]), (85, [.h 6, .h 7, .h 8])], [(188612, 2), (188613, 3), (188614, 4), (188615, 5)], [], []⟩)] .nil))) .nil) .nil)))) .nil)))) .nil))))) (.seq (.seq .nil (.block [] (.seq .nil (.cond [(.n, ⟨[.int .i64, .sl true 22 (.sl true 5 (.int .u8)), .sl true 5 (.int .u8), .sl true 3 (.int .i64), .sl true 3 (.int .i64), .sl false 5 (.int .u8), .int .i64, .int .u64], [(2, .pl 2 0), (4, .pl 4 0), (6, .one (.h 0))], [(2, [.nil, .nil, .nil, .nil]), (4, [.vw 188636, .vw 188637, .vw 188638, .vw 188639]), (85, [.h 5, .h 6, .h 7])], [(188636, 1), (188637, 2), (188638, 3), (188639, 4)], [], []⟩)] (.seq .nil (.cond [(.n, ⟨[.int .i64, .sl true 22 (.sl true 5 (.int .u8)), .sl true 5 (.int .u8), .sl true 3 (.int .i64), .sl true 3 (.int .i64), .sl false 5 (.int .u8), .int .i64, .int .u64], [(2, .pl 2 0), (4, .pl 4 0), (6, .one (.h 0))], [(2, [.nil, .nil, .nil, .nil]), (4, [.vw 188628, .vw 188629, .vw 188630, .vw 188631]), (85, [.h 5, .h 6, .h 7])], [(188628, 1), (188629, 2), (188630, 3), (188631, 4)], [], []⟩)] .nil .nil)) (.seq .nil (.cond [(.n, ⟨[.int .i64, .sl true 22 (.sl true 5 (.int .u8)), .sl true 5 (.int .u8), .sl true 3 (.int .i64), .sl true 3 (.int .i64), .sl false 5 (.int .u8), .int .i64, .int .u64], [(2, .pl 2 0), (4, .pl 4 0), (6, .one (.h 0))], [(2, [.nil, .nil, .nil, .nil]), (4, [.vw 188632, .vw 188633, .vw 188634, .vw 188635]), (85, [.h 5, .h 6, .h 7])], [(188632, 1), (188633, 2), (188634, 3), (188635, 4)], [], []⟩)] .nil .nil)))))) .nil)))))
def env_s_l1Cur_tree_f : Env := envOf ti [k_s_l1Cur_pick_f, k_s_l5Fresh, k_s_l5Take_oooo, k_s_l1Cur_sets_l_f, k_s_SetKeys, k_s_l1Cur_one_f, k_s_l5Set_l, k_s_l1Cur_among_f] []
theorem eok_s_l1Cur_tree_f : EnvOk Try.prog env_s_l1Cur_tree_f := envOf_ok tab mix _ _ (by
  intro k hk
  simp only [List.mem_cons, List.not_mem_nil, or_false] at hk
  rcases hk with rfl | rfl | rfl | rfl | rfl | rfl | rfl | rfl
  · exact s_s_l1Cur_pick_f
  · exact s_s_l5Fresh
  · exact s_s_l5Take_oooo
  · exact s_s_l1Cur_sets_l_f
  · exact s_s_SetKeys
  · exact s_s_l1Cur_one_f
  · exact s_s_l5Set_l
  · exact s_s_l1Cur_among_f)
theorem v_s_l1Cur_tree_f (x0 : List Int) (x1 : Int) (x2 : Int) : (vfun env_s_l1Cur_tree_f Try.f46 J_s_l1Cur_tree_f ann_s_l1Cur_tree_f [] [.pl 0 0] [[⟨.sl false 5 (.int .u8), x0⟩, ⟨.int .i64, x1⟩, ⟨.int .u64, x2⟩]]).run = (G.s_l1Cur_tree_f x0 x1 x2).bind fun y => some (Res.mk [.ag [⟨.sl true 22 (.sl true 5 (.int .u8)), y.2.1⟩, ⟨.sl true 5 (.int .u8), y.2.2.1⟩, ⟨.sl true 3 (.int .i64), y.2.2.2.1⟩, ⟨.sl true 3 (.int .i64), y.2.2.2.2.1⟩], .one ⟨.int .i64, y.1⟩] [[⟨.sl false 5 (.int .u8), y.2.2.2.2.2.1⟩, ⟨.int .i64, y.2.2.2.2.2.2.1⟩, ⟨.int .u64, y.2.2.2.2.2.2.2⟩]] []) := by kernel_rfl
def k_s_l1Cur_tree_f : Kn := ⟨46, [0], fun args rows => match args, rows with
  | [.pl 0 0], [[⟨.sl false 5 (.int .u8), x0⟩, ⟨.int .i64, x1⟩, ⟨.int .u64, x2⟩]] => some ⟨_, G.s_l1Cur_tree_f x0 x1 x2, fun y => ⟨[.ag [⟨.sl true 22 (.sl true 5 (.int .u8)), y.2.1⟩, ⟨.sl true 5 (.int .u8), y.2.2.1⟩, ⟨.sl true 3 (.int .i64), y.2.2.2.1⟩, ⟨.sl true 3 (.int .i64), y.2.2.2.2.1⟩], .one ⟨.int .i64, y.1⟩], [[⟨.sl false 5 (.int .u8), y.2.2.2.2.2.1⟩, ⟨.int .i64, y.2.2.2.2.2.2.1⟩, ⟨.int .u64, y.2.2.2.2.2.2.2⟩]], []⟩⟩
  | _, _ => none, []⟩
theorem s_s_l1Cur_tree_f : KnOk Try.prog k_s_l1Cur_tree_f := by
  intro args rows a h y hy
  simp only [k_s_l1Cur_tree_f] at h
  split at h
  · injection h with h
    subst h
    exact vfun_ok eok_s_l1Cur_tree_f Try.func46 rfl (by rw [v_s_l1Cur_tree_f]; simp only at hy; rw [hy]; rfl)
  · cases h
def J_s_DrawSetKeys : Joins := [(.r, ⟨[.int .i64, .sl true 35 (.pair (.int .i64) (.int .i64)), .sl true 22 (.sl true 5 (.int .u8)), .sl true 5 (.int .u8), .sl true 3 (.int .i64), .sl true 3 (.int .i64)], [(2, .pl 2 0), (3, .one (.h 0)), (4, .one (.vw 134218))], [(2, [.vw 134219, .vw 134220, .vw 134221, .vw 134222])], [(134218, 1), (134219, 2), (134220, 3), (134221, 4), (134222, 5)], [], []⟩)]
def ann_s_DrawSetKeys : Ann := .seq .nil (.seq .nil (.seq .nil (.seq .nil (.seq (.seq .nil (.cond [(.n, ⟨[.int .i64, .sl true 35 (.pair (.int .i64) (.int .i64)), .sl true 22 (.sl true 5 (.int .u8)), .sl true 5 (.int .u8), .sl true 3 (.int .i64), .sl true 3 (.int .i64)], [(2, .pl 2 0), (6, .pl 6 0), (7, .one (.h 0)), (8, .one (.vw 134213))], [(2, [.nil, .nil, .nil, .nil]), (6, [.vw 134214, .vw 134215, .vw 134216, .vw 134217])], [(134213, 1), (134214, 2), (134215, 3), (134216, 4), (134217, 5)], [], []⟩)] (.block [] (.loop ⟨[.int .i64, .sl true 35 (.pair (.int .i64) (.int .i64)), .sl true 22 (.sl true 5 (.int .u8)), .sl true 5 (.int .u8), .sl true 3 (.int .i64), .sl true 3 (.int .i64), .sl false 5 (.int .u8), .int .i64, .int .u64], [(2, .pl 2 0), (5, .pl 11 0), (6, .pl 6 0), (7, .one (.h 0)), (8, .one (.vw 134144))], [(2, [.nil, .nil, .nil, .nil]), (6, [.vw 134145, .vw 134146, .vw 134147, .vw 134148]), (11, [.h 6, .h 7, .h 8])], [(134144, 1), (134145, 2), (134146, 3), (134147, 4), (134148, 5)], [], []⟩ [(.x 0, ⟨[.int .i64, .sl true 35 (.pair (.int .i64) (.int .i64)), .sl true 22 (.sl true 5 (.int .u8)), .sl true 5 (.int .u8), .sl true 3 (.int .i64), .sl true 3 (.int .i64)], [(2, .pl 2 0), (6, .pl 6 0), (7, .one (.h 0)), (8, .one (.vw 134208))], [(2, [.nil, .nil, .nil, .nil]), (6, [.vw 134209, .vw 134210, .vw 134211, .vw 134212])], [(134208, 1), (134209, 2), (134210, 3), (134211, 4), (134212, 5)], [], []⟩)] .nil)) .nil)) .nil))))
def env_s_DrawSetKeys : Env := envOf ti [k_s_l1Cur_tree_f, k_s_l1Cur_sets_l_f, k_s_l1Cur_one_f, k_s_l5Free, k_s_l1Cur_pick_f, k_s_l5Take_oooo] []
theorem eok_s_DrawSetKeys : EnvOk Try.prog env_s_DrawSetKeys := envOf_ok tab mix _ _ (by
  intro k hk
  simp only [List.mem_cons, List.not_mem_nil, or_false] at hk
  rcases hk with rfl | rfl | rfl | rfl | rfl | rfl
  · exact s_s_l1Cur_tree_f
  · exact s_s_l1Cur_sets_l_f
  · exact s_s_l1Cur_one_f
  · exact s_s_l5Free
  · exact s_s_l1Cur_pick_f
  · exact s_s_l5Take_oooo)
theorem v_s_DrawSetKeys (x0 : List Int) : (vfun env_s_DrawSetKeys Try.f8 J_s_DrawSetKeys ann_s_DrawSetKeys [] [.one ⟨.sl false 5 (.int .u8), x0⟩] []).run = (G.s_DrawSetKeys x0).bind fun y => some (Res.mk [.ag [⟨.sl true 22 (.sl true 5 (.int .u8)), y.2.2.1⟩, ⟨.sl true 5 (.int .u8), y.2.2.2.1⟩, ⟨.sl true 3 (.int .i64), y.2.2.2.2.1⟩, ⟨.sl true 3 (.int .i64), y.2.2.2.2.2⟩], .one ⟨.int .i64, y.1⟩, .one ⟨.sl true 35 (.pair (.int .i64) (.int .i64)), y.2.1⟩] [] []) := by kernel_rfl
def k_s_DrawSetKeys : Kn := ⟨8, [0], fun args rows => match args, rows with
  | [.one ⟨.sl false 5 (.int .u8), x0⟩], [] => some ⟨_, G.s_DrawSetKeys x0, fun y => ⟨[.ag [⟨.sl true 22 (.sl true 5 (.int .u8)), y.2.2.1⟩, ⟨.sl true 5 (.int .u8), y.2.2.2.1⟩, ⟨.sl true 3 (.int .i64), y.2.2.2.2.1⟩, ⟨.sl true 3 (.int .i64), y.2.2.2.2.2⟩], .one ⟨.int .i64, y.1⟩, .one ⟨.sl true 35 (.pair (.int .i64) (.int .i64)), y.2.1⟩], [], []⟩⟩
  | _, _ => none, []⟩
theorem s_s_DrawSetKeys : KnOk Try.prog k_s_DrawSetKeys := by
  intro args rows a h y hy
  simp only [k_s_DrawSetKeys] at h
  split at h
  · injection h with h
    subst h
    exact vfun_ok eok_s_DrawSetKeys Try.func8 rfl (by rw [v_s_DrawSetKeys]; simp only at hy; rw [hy]; rfl)
  · cases h
def J_i_within : Joins := [(.r, ⟨[.bool], [(6, .one (.h 0))], [], [], [], []⟩)]
def ann_i_within : Ann := .seq .nil (.seq (.reg [(.n, ⟨[.bool], [(6, .one (.h 0))], [], [], [], []⟩)]) .nil)
def env_i_within : Env := envOf ti [] []
theorem eok_i_within : EnvOk Try.prog env_i_within := envOf_ok tab mix _ _ (by
  intro k hk; cases hk)
theorem v_i_within (x0 : Int) (x1 : Int) (x2 : Int) : (vfun env_i_within Try.f107 J_i_within ann_i_within [] [.one ⟨.int .i64, x0⟩, .one ⟨.int .i64, x1⟩, .one ⟨.int .i64, x2⟩] []).run = (G.i_within x0 x1 x2).bind fun y => some (Res.mk [.one ⟨.bool, y⟩] [] []) := by kernel_rfl
def k_i_within : Kn := ⟨107, [0, 0, 0], fun args rows => match args, rows with
  | [.one ⟨.int .i64, x0⟩, .one ⟨.int .i64, x1⟩, .one ⟨.int .i64, x2⟩], [] => some ⟨_, G.i_within x0 x1 x2, fun y => ⟨[.one ⟨.bool, y⟩], [], []⟩⟩
  | _, _ => none, []⟩
theorem s_i_within : KnOk Try.prog k_i_within := by
  intro args rows a h y hy
  simp only [k_i_within] at h
  split at h
  · injection h with h
    subst h
    exact vfun_ok eok_i_within Try.func107 rfl (by rw [v_i_within]; simp only at hy; rw [hy]; rfl)
  · cases h
def J_i_areBlocks_1 : Joins := [(.r, ⟨[.bool], [(2, .one (.h 0))], [], [], [], []⟩)]
def ann_i_areBlocks_1 : Ann := .nil
def env_i_areBlocks_1 : Env := envOf ti [] []
theorem eok_i_areBlocks_1 : EnvOk Try.prog env_i_areBlocks_1 := envOf_ok tab mix _ _ (by
  intro k hk; cases hk)
theorem v_i_areBlocks_1 (x0 : List Int) : (vfun env_i_areBlocks_1 Try.f157 J_i_areBlocks_1 ann_i_areBlocks_1 [] [.one ⟨.sl false 5 (.int .u8), x0⟩] []).run = (G.i_areBlocks_1 x0).bind fun y => some (Res.mk [.one ⟨.bool, y⟩] [] []) := by kernel_rfl
def k_i_areBlocks_1 : Kn := ⟨157, [0], fun args rows => match args, rows with
  | [.one ⟨.sl false 5 (.int .u8), x0⟩], [] => some ⟨_, G.i_areBlocks_1 x0, fun y => ⟨[.one ⟨.bool, y⟩], [], []⟩⟩
  | _, _ => none, []⟩
theorem s_i_areBlocks_1 : KnOk Try.prog k_i_areBlocks_1 := by
  intro args rows a h y hy
  simp only [k_i_areBlocks_1] at h
  split at h
  · injection h with h
    subst h
    exact vfun_ok eok_i_areBlocks_1 Try.func157 rfl (by rw [v_i_areBlocks_1]; simp only at hy; rw [hy]; rfl)
  · cases h
def J_slices_IndexFunc_byte_byte_i_areBlocks_1 : Joins := [(.r, ⟨[.int .i64], [(4, .one (.h 0))], [], [], [], []⟩)]
def ann_slices_IndexFunc_byte_byte_i_areBlocks_1 : Ann := .seq .nil (.seq (.seq .nil (.block [] (.loop ⟨[.sl false 22 (.sl false 5 (.int .u8)), .int .i64, .int .i64], [(0, .one (.h 0)), (1, .fv 157 []), (7, .one (.h 1)), (8, .one (.h 2))], [], [], [], []⟩ [(.x 0, ⟨[], [], [], [], [], []⟩), (.r, ⟨[.int .i64], [(4, .one (.h 0))], [], [], [], []⟩)] .nil))) .nil)
def env_slices_IndexFunc_byte_byte_i_areBlocks_1 : Env := envOf ti [k_i_areBlocks_1] []
theorem eok_slices_IndexFunc_byte_byte_i_areBlocks_1 : EnvOk Try.prog env_slices_IndexFunc_byte_byte_i_areBlocks_1 := envOf_ok tab mix _ _ (by
  intro k hk
  simp only [List.mem_cons, List.not_mem_nil, or_false] at hk
  rcases hk with rfl
  · exact s_i_areBlocks_1)
theorem v_slices_IndexFunc_byte_byte_i_areBlocks_1 (x0 : List (List Int)) : (vfun env_slices_IndexFunc_byte_byte_i_areBlocks_1 Try.f172 J_slices_IndexFunc_byte_byte_i_areBlocks_1 ann_slices_IndexFunc_byte_byte_i_areBlocks_1 [] [.one ⟨.sl false 22 (.sl false 5 (.int .u8)), x0⟩, .fv 157 []] []).run = (G.slices_IndexFunc_byte_byte_i_areBlocks_1 x0).bind fun y => some (Res.mk [.one ⟨.int .i64, y⟩] [] []) := by kernel_rfl
def k_slices_IndexFunc_byte_byte_i_areBlocks_1 : Kn := ⟨172, [0, 0], fun args rows => match args, rows with
  | [.one ⟨.sl false 22 (.sl false 5 (.int .u8)), x0⟩, .fv 157 []], [] => some ⟨_, G.slices_IndexFunc_byte_byte_i_areBlocks_1 x0, fun y => ⟨[.one ⟨.int .i64, y⟩], [], []⟩⟩
  | _, _ => none, []⟩
theorem s_slices_IndexFunc_byte_byte_i_areBlocks_1 : KnOk Try.prog k_slices_IndexFunc_byte_byte_i_areBlocks_1 := by
  intro args rows a h y hy
  simp only [k_slices_IndexFunc_byte_byte_i_areBlocks_1] at h
  split at h
  · injection h with h
    subst h
    exact vfun_ok eok_slices_IndexFunc_byte_byte_i_areBlocks_1 Try.func172 rfl (by rw [v_slices_IndexFunc_byte_byte_i_areBlocks_1]; simp only at hy; rw [hy]; rfl)
  · cases h
def J_slices_ContainsFunc_byte_byte_i_areBlocks_1 : Joins := [(.r, ⟨[.bool], [(4, .one (.h 0))], [], [], [], []⟩)]
def ann_slices_ContainsFunc_byte_byte_i_areBlocks_1 : Ann := .nil
def env_slices_ContainsFunc_byte_byte_i_areBlocks_1 : Env := envOf ti [k_slices_IndexFunc_byte_byte_i_areBlocks_1] []
theorem eok_slices_ContainsFunc_byte_byte_i_areBlocks_1 : EnvOk Try.prog env_slices_ContainsFunc_byte_byte_i_areBlocks_1 := envOf_ok tab mix _ _ (by
  intro k hk
  simp only [List.mem_cons, List.not_mem_nil, or_false] at hk
  rcases hk with rfl
  · exact s_slices_IndexFunc_byte_byte_i_areBlocks_1)
theorem v_slices_ContainsFunc_byte_byte_i_areBlocks_1 (x0 : List (List Int)) : (vfun env_slices_ContainsFunc_byte_byte_i_areBlocks_1 Try.f156 J_slices_ContainsFunc_byte_byte_i_areBlocks_1 ann_slices_ContainsFunc_byte_byte_i_areBlocks_1 [] [.one ⟨.sl false 22 (.sl false 5 (.int .u8)), x0⟩, .fv 157 []] []).run = (G.slices_ContainsFunc_byte_byte_i_areBlocks_1 x0).bind fun y => some (Res.mk [.one ⟨.bool, y⟩] [] []) := by kernel_rfl
def k_slices_ContainsFunc_byte_byte_i_areBlocks_1 : Kn := ⟨156, [0, 0], fun args rows => match args, rows with
  | [.one ⟨.sl false 22 (.sl false 5 (.int .u8)), x0⟩, .fv 157 []], [] => some ⟨_, G.slices_ContainsFunc_byte_byte_i_areBlocks_1 x0, fun y => ⟨[.one ⟨.bool, y⟩], [], []⟩⟩
  | _, _ => none, []⟩
theorem s_slices_ContainsFunc_byte_byte_i_areBlocks_1 : KnOk Try.prog k_slices_ContainsFunc_byte_byte_i_areBlocks_1 := by
  intro args rows a h y hy
  simp only [k_slices_ContainsFunc_byte_byte_i_areBlocks_1] at h
  split at h
  · injection h with h
    subst h
    exact vfun_ok eok_slices_ContainsFunc_byte_byte_i_areBlocks_1 Try.func156 rfl (by rw [v_slices_ContainsFunc_byte_byte_i_areBlocks_1]; simp only at hy; rw [hy]; rfl)
  · cases h
end
end Go.Proofs.Ytijemcbcchnnjaa

set_option linter.unusedVariables false
set_option maxRecDepth 100000
namespace Go.Proofs.Ytijemcbcchnnjaa
open Go.V
noncomputable section
def J_i_areBlocks : Joins := [(.r, ⟨[.bool], [(2, .one (.h 0))], [], [], [], []⟩)]
def ann_i_areBlocks : Ann := .seq .nil (.seq (.reg [(.n, ⟨[.bool], [(2, .one (.h 0))], [], [], [], []⟩)]) .nil)
def env_i_areBlocks : Env := envOf ti [k_i_within, k_slices_ContainsFunc_byte_byte_i_areBlocks_1] []
theorem eok_i_areBlocks : EnvOk Try.prog env_i_areBlocks := envOf_ok tab mix _ _ (by
  intro k hk
  simp only [List.mem_cons, List.not_mem_nil, or_false] at hk
  rcases hk with rfl | rfl
  · exact s_i_within
  · exact s_slices_ContainsFunc_byte_byte_i_areBlocks_1)
theorem v_i_areBlocks (x0 : List (List Int)) : (vfun env_i_areBlocks Try.f124 J_i_areBlocks ann_i_areBlocks [] [.one ⟨.sl false 22 (.sl false 5 (.int .u8)), x0⟩] []).run = (G.i_areBlocks x0).bind fun y => some (Res.mk [.one ⟨.bool, y⟩] [] []) := by kernel_rfl
def k_i_areBlocks : Kn := ⟨124, [0], fun args rows => match args, rows with
  | [.one ⟨.sl false 22 (.sl false 5 (.int .u8)), x0⟩], [] => some ⟨_, G.i_areBlocks x0, fun y => ⟨[.one ⟨.bool, y⟩], [], []⟩⟩
  | _, _ => none, []⟩
theorem s_i_areBlocks : KnOk Try.prog k_i_areBlocks := by
  intro args rows a h y hy
  simp only [k_i_areBlocks] at h
  split at h
  · injection h with h
    subst h
    exact vfun_ok eok_i_areBlocks Try.func124 rfl (by rw [v_i_areBlocks]; simp only at hy; rw [hy]; rfl)
  · cases h
def J_i_Space_used_ffff : Joins := [(.r, ⟨[.bool, .sl false 22 (.sl false 5 (.int .u8)), .sl false 5 (.int .u8), .sl false 3 (.int .i64), .sl false 3 (.int .i64)], [(4, .one (.h 0))], [(19, [.h 1, .h 2, .h 3, .h 4])], [], [], []⟩)]
def ann_i_Space_used_ffff : Ann := .nil
def env_i_Space_used_ffff : Env := envOf ti [] []
theorem eok_i_Space_used_ffff : EnvOk Try.prog env_i_Space_used_ffff := envOf_ok tab mix _ _ (by
  intro k hk; cases hk)
theorem v_i_Space_used_ffff (x0 : Int) (x1 : List (List Int)) (x2 : List Int) (x3 : List Int) (x4 : List Int) : (vfun env_i_Space_used_ffff Try.f66 J_i_Space_used_ffff ann_i_Space_used_ffff [] [.pl 0 0, .one ⟨.int .i64, x0⟩] [[⟨.sl false 22 (.sl false 5 (.int .u8)), x1⟩, ⟨.sl false 5 (.int .u8), x2⟩, ⟨.sl false 3 (.int .i64), x3⟩, ⟨.sl false 3 (.int .i64), x4⟩]]).run = (G.i_Space_used_ffff x0 x1 x2 x3 x4).bind fun y => some (Res.mk [.one ⟨.bool, y.1⟩] [[⟨.sl false 22 (.sl false 5 (.int .u8)), y.2.1⟩, ⟨.sl false 5 (.int .u8), y.2.2.1⟩, ⟨.sl false 3 (.int .i64), y.2.2.2.1⟩, ⟨.sl false 3 (.int .i64), y.2.2.2.2⟩]] []) := by kernel_rfl
def k_i_Space_used_ffff : Kn := ⟨66, [0, 0], fun args rows => match args, rows with
  | [.pl 0 0, .one ⟨.int .i64, x0⟩], [[⟨.sl false 22 (.sl false 5 (.int .u8)), x1⟩, ⟨.sl false 5 (.int .u8), x2⟩, ⟨.sl false 3 (.int .i64), x3⟩, ⟨.sl false 3 (.int .i64), x4⟩]] => some ⟨_, G.i_Space_used_ffff x0 x1 x2 x3 x4, fun y => ⟨[.one ⟨.bool, y.1⟩], [[⟨.sl false 22 (.sl false 5 (.int .u8)), y.2.1⟩, ⟨.sl false 5 (.int .u8), y.2.2.1⟩, ⟨.sl false 3 (.int .i64), y.2.2.2.1⟩, ⟨.sl false 3 (.int .i64), y.2.2.2.2⟩]], []⟩⟩
  | _, _ => none, []⟩
theorem s_i_Space_used_ffff : KnOk Try.prog k_i_Space_used_ffff := by
  intro args rows a h y hy
  simp only [k_i_Space_used_ffff] at h
  split at h
  · injection h with h
    subst h
    exact vfun_ok eok_i_Space_used_ffff Try.func66 rfl (by rw [v_i_Space_used_ffff]; simp only at hy; rw [hy]; rfl)
  · cases h
def J_i_Space_isBlock_ffff : Joins := [(.r, ⟨[.bool, .sl false 22 (.sl false 5 (.int .u8)), .sl false 5 (.int .u8), .sl false 3 (.int .i64), .sl false 3 (.int .i64)], [(4, .one (.h 0))], [(19, [.h 1, .h 2, .h 3, .h 4])], [], [], []⟩)]
def ann_i_Space_isBlock_ffff : Ann := .seq .nil (.seq (.reg [(.n, ⟨[.bool, .sl false 22 (.sl false 5 (.int .u8)), .sl false 5 (.int .u8), .sl false 3 (.int .i64), .sl false 3 (.int .i64)], [(4, .one (.h 0))], [(19, [.h 1, .h 2, .h 3, .h 4])], [], [], []⟩)]) .nil)
def env_i_Space_isBlock_ffff : Env := envOf ti [k_i_within, k_i_Space_used_ffff] []
theorem eok_i_Space_isBlock_ffff : EnvOk Try.prog env_i_Space_isBlock_ffff := envOf_ok tab mix _ _ (by
  intro k hk
  simp only [List.mem_cons, List.not_mem_nil, or_false] at hk
  rcases hk with rfl | rfl
  · exact s_i_within
  · exact s_i_Space_used_ffff)
theorem v_i_Space_isBlock_ffff (x0 : Int) (x1 : List (List Int)) (x2 : List Int) (x3 : List Int) (x4 : List Int) : (vfun env_i_Space_isBlock_ffff Try.f148 J_i_Space_isBlock_ffff ann_i_Space_isBlock_ffff [] [.pl 0 0, .one ⟨.int .i64, x0⟩] [[⟨.sl false 22 (.sl false 5 (.int .u8)), x1⟩, ⟨.sl false 5 (.int .u8), x2⟩, ⟨.sl false 3 (.int .i64), x3⟩, ⟨.sl false 3 (.int .i64), x4⟩]]).run = (G.i_Space_isBlock_ffff x0 x1 x2 x3 x4).bind fun y => some (Res.mk [.one ⟨.bool, y.1⟩] [[⟨.sl false 22 (.sl false 5 (.int .u8)), y.2.1⟩, ⟨.sl false 5 (.int .u8), y.2.2.1⟩, ⟨.sl false 3 (.int .i64), y.2.2.2.1⟩, ⟨.sl false 3 (.int .i64), y.2.2.2.2⟩]] []) := by kernel_rfl
def k_i_Space_isBlock_ffff : Kn := ⟨148, [0, 0], fun args rows => match args, rows with
  | [.pl 0 0, .one ⟨.int .i64, x0⟩], [[⟨.sl false 22 (.sl false 5 (.int .u8)), x1⟩, ⟨.sl false 5 (.int .u8), x2⟩, ⟨.sl false 3 (.int .i64), x3⟩, ⟨.sl false 3 (.int .i64), x4⟩]] => some ⟨_, G.i_Space_isBlock_ffff x0 x1 x2 x3 x4, fun y => ⟨[.one ⟨.bool, y.1⟩], [[⟨.sl false 22 (.sl false 5 (.int .u8)), y.2.1⟩, ⟨.sl false 5 (.int .u8), y.2.2.1⟩, ⟨.sl false 3 (.int .i64), y.2.2.2.1⟩, ⟨.sl false 3 (.int .i64), y.2.2.2.2⟩]], []⟩⟩
  | _, _ => none, []⟩
theorem s_i_Space_isBlock_ffff : KnOk Try.prog k_i_Space_isBlock_ffff := by
  intro args rows a h y hy
  simp only [k_i_Space_isBlock_ffff] at h
  split at h
  · injection h with h
    subst h
    exact vfun_ok eok_i_Space_isBlock_ffff Try.func148 rfl (by rw [v_i_Space_isBlock_ffff]; simp only at hy; rw [hy]; rfl)
  · cases h
def J_i_Space_areUsed_ffff : Joins := [(.r, ⟨[.bool, .sl false 22 (.sl false 5 (.int .u8)), .sl false 5 (.int .u8), .sl false 3 (.int .i64), .sl false 3 (.int .i64)], [(4, .one (.h 0))], [(33, [.h 1, .h 2, .h 3, .h 4])], [], [], []⟩)]
def ann_i_Space_areUsed_ffff : Ann := .seq .nil (.seq (.seq .nil (.block [] (.loop ⟨[.sl false 3 (.int .i64), .sl false 3 (.int .i64), .int .i64, .int .i64, .sl false 22 (.sl false 5 (.int .u8)), .sl false 5 (.int .u8), .sl false 3 (.int .i64), .sl false 3 (.int .i64)], [(0, .pl 33 0), (1, .one (.h 0)), (7, .one (.h 1)), (8, .one (.h 2)), (9, .one (.h 3))], [(33, [.h 4, .h 5, .h 6, .h 7])], [], [], []⟩ [(.x 0, ⟨[.sl false 22 (.sl false 5 (.int .u8)), .sl false 5 (.int .u8), .sl false 3 (.int .i64), .sl false 3 (.int .i64)], [], [(33, [.h 0, .h 1, .h 2, .h 3])], [], [], []⟩), (.r, ⟨[.bool, .sl false 22 (.sl false 5 (.int .u8)), .sl false 5 (.int .u8), .sl false 3 (.int .i64), .sl false 3 (.int .i64)], [(4, .one (.h 0))], [(33, [.h 1, .h 2, .h 3, .h 4])], [], [], []⟩)] (.seq .nil (.seq .nil (.seq (.block [] (.seq .nil (.seq (.reg [(.n, ⟨[.sl false 3 (.int .i64), .sl false 3 (.int .i64), .int .i64, .int .i64, .bool, .sl false 22 (.sl false 5 (.int .u8)), .sl false 5 (.int .u8), .sl false 3 (.int .i64), .sl false 3 (.int .i64)], [(0, .pl 33 0), (1, .one (.h 0)), (7, .one (.h 1)), (8, .one (.h 2)), (9, .one (.h 3)), (30, .one (.h 4))], [(33, [.h 5, .h 6, .h 7, .h 8])], [], [], []⟩)]) .nil))) .nil)))))) .nil)
def env_i_Space_areUsed_ffff : Env := envOf ti [k_i_Space_isBlock_ffff] []
theorem eok_i_Space_areUsed_ffff : EnvOk Try.prog env_i_Space_areUsed_ffff := envOf_ok tab mix _ _ (by
  intro k hk
  simp only [List.mem_cons, List.not_mem_nil, or_false] at hk
  rcases hk with rfl
  · exact s_i_Space_isBlock_ffff)
theorem v_i_Space_areUsed_ffff (x0 : List Int) (x1 : List (List Int)) (x2 : List Int) (x3 : List Int) (x4 : List Int) : (vfun env_i_Space_areUsed_ffff Try.f125 J_i_Space_areUsed_ffff ann_i_Space_areUsed_ffff [] [.pl 0 0, .one ⟨.sl false 3 (.int .i64), x0⟩] [[⟨.sl false 22 (.sl false 5 (.int .u8)), x1⟩, ⟨.sl false 5 (.int .u8), x2⟩, ⟨.sl false 3 (.int .i64), x3⟩, ⟨.sl false 3 (.int .i64), x4⟩]]).run = (G.i_Space_areUsed_ffff x0 x1 x2 x3 x4).bind fun y => some (Res.mk [.one ⟨.bool, y.1⟩] [[⟨.sl false 22 (.sl false 5 (.int .u8)), y.2.1⟩, ⟨.sl false 5 (.int .u8), y.2.2.1⟩, ⟨.sl false 3 (.int .i64), y.2.2.2.1⟩, ⟨.sl false 3 (.int .i64), y.2.2.2.2⟩]] []) := by kernel_rfl
def k_i_Space_areUsed_ffff : Kn := ⟨125, [0, 0], fun args rows => match args, rows with
  | [.pl 0 0, .one ⟨.sl false 3 (.int .i64), x0⟩], [[⟨.sl false 22 (.sl false 5 (.int .u8)), x1⟩, ⟨.sl false 5 (.int .u8), x2⟩, ⟨.sl false 3 (.int .i64), x3⟩, ⟨.sl false 3 (.int .i64), x4⟩]] => some ⟨_, G.i_Space_areUsed_ffff x0 x1 x2 x3 x4, fun y => ⟨[.one ⟨.bool, y.1⟩], [[⟨.sl false 22 (.sl false 5 (.int .u8)), y.2.1⟩, ⟨.sl false 5 (.int .u8), y.2.2.1⟩, ⟨.sl false 3 (.int .i64), y.2.2.2.1⟩, ⟨.sl false 3 (.int .i64), y.2.2.2.2⟩]], []⟩⟩
  | _, _ => none, []⟩
theorem s_i_Space_areUsed_ffff : KnOk Try.prog k_i_Space_areUsed_ffff := by
  intro args rows a h y hy
  simp only [k_i_Space_areUsed_ffff] at h
  split at h
  · injection h with h
    subst h
    exact vfun_ok eok_i_Space_areUsed_ffff Try.func125 rfl (by rw [v_i_Space_areUsed_ffff]; simp only at hy; rw [hy]; rfl)
  · cases h
def J_i_GoodSpace : Joins := [(.r, ⟨[.bool], [(2, .one (.h 0))], [], [], [], []⟩)]
def ann_i_GoodSpace : Ann := .seq .nil (.seq (.seq (.reg [(.n, ⟨[.bool, .sl false 22 (.sl false 5 (.int .u8)), .sl false 5 (.int .u8), .sl false 3 (.int .i64), .sl false 3 (.int .i64)], [(1, .pl 1 0), (14, .one (.h 0))], [(1, [.h 1, .h 2, .h 3, .h 4])], [], [], []⟩)]) .nil) (.seq (.seq .nil (.block [] (.loop ⟨[.int .i64, .sl false 22 (.sl false 5 (.int .u8)), .sl false 5 (.int .u8), .sl false 3 (.int .i64), .sl false 3 (.int .i64)], [(1, .pl 1 0), (15, .one (.h 0))], [(1, [.h 1, .h 2, .h 3, .h 4])], [], [], []⟩ [(.x 0, ⟨[.sl false 22 (.sl false 5 (.int .u8)), .sl false 5 (.int .u8), .sl false 3 (.int .i64), .sl false 3 (.int .i64)], [(1, .pl 1 0)], [(1, [.h 0, .h 1, .h 2, .h 3])], [], [], []⟩), (.r, ⟨[.bool], [(2, .one (.h 0))], [], [], [], []⟩)] (.seq .nil (.seq .nil (.seq (.block [] (.seq .nil (.seq .nil (.seq (.reg [(.n, ⟨[.int .i64, .bool, .sl false 22 (.sl false 5 (.int .u8)), .sl false 5 (.int .u8), .sl false 3 (.int .i64), .sl false 3 (.int .i64)], [(1, .pl 1 0), (15, .one (.h 0)), (35, .one (.h 1))], [(1, [.h 2, .h 3, .h 4, .h 5])], [], [], []⟩)]) .nil)))) .nil)))))) (.seq (.reg [(.n, ⟨[.bool], [(2, .one (.h 0))], [], [], [], []⟩)]) .nil)))
def env_i_GoodSpace : Env := envOf ti [k_i_areBlocks, k_i_Space_used_ffff, k_i_Space_areUsed_ffff] []
theorem eok_i_GoodSpace : EnvOk Try.prog env_i_GoodSpace := envOf_ok tab mix _ _ (by
  intro k hk
  simp only [List.mem_cons, List.not_mem_nil, or_false] at hk
  rcases hk with rfl | rfl | rfl
  · exact s_i_areBlocks
  · exact s_i_Space_used_ffff
  · exact s_i_Space_areUsed_ffff)
theorem v_i_GoodSpace (x0 : List (List Int)) (x1 : List Int) (x2 : List Int) (x3 : List Int) : (vfun env_i_GoodSpace Try.f65 J_i_GoodSpace ann_i_GoodSpace [] [.ag [⟨.sl false 22 (.sl false 5 (.int .u8)), x0⟩, ⟨.sl false 5 (.int .u8), x1⟩, ⟨.sl false 3 (.int .i64), x2⟩, ⟨.sl false 3 (.int .i64), x3⟩]] []).run = (G.i_GoodSpace x0 x1 x2 x3).bind fun y => some (Res.mk [.one ⟨.bool, y⟩] [] []) := by kernel_rfl
def k_i_GoodSpace : Kn := ⟨65, [0], fun args rows => match args, rows with
  | [.ag [⟨.sl false 22 (.sl false 5 (.int .u8)), x0⟩, ⟨.sl false 5 (.int .u8), x1⟩, ⟨.sl false 3 (.int .i64), x2⟩, ⟨.sl false 3 (.int .i64), x3⟩]], [] => some ⟨_, G.i_GoodSpace x0 x1 x2 x3, fun y => ⟨[.one ⟨.bool, y⟩], [], []⟩⟩
  | _, _ => none, []⟩
theorem s_i_GoodSpace : KnOk Try.prog k_i_GoodSpace := by
  intro args rows a h y hy
  simp only [k_i_GoodSpace] at h
  split at h
  · injection h with h
    subst h
    exact vfun_ok eok_i_GoodSpace Try.func65 rfl (by rw [v_i_GoodSpace]; simp only at hy; rw [hy]; rfl)
  · cases h
def J_slices_Index_int_int : Joins := [(.r, ⟨[.int .i64], [(4, .one (.h 0))], [], [], [], []⟩)]
def ann_slices_Index_int_int : Ann := .seq .nil (.seq (.seq .nil (.block [] (.loop ⟨[.sl false 3 (.int .i64), .int .i64, .int .i64, .int .i64], [(0, .one (.h 0)), (1, .one (.h 1)), (7, .one (.h 2)), (8, .one (.h 3))], [], [], [], []⟩ [(.x 0, ⟨[], [], [], [], [], []⟩), (.r, ⟨[.int .i64], [(4, .one (.h 0))], [], [], [], []⟩)] .nil))) .nil)
def env_slices_Index_int_int : Env := envOf ti [] []
theorem eok_slices_Index_int_int : EnvOk Try.prog env_slices_Index_int_int := envOf_ok tab mix _ _ (by
  intro k hk; cases hk)
theorem v_slices_Index_int_int (x0 : List Int) (x1 : Int) : (vfun env_slices_Index_int_int Try.f166 J_slices_Index_int_int ann_slices_Index_int_int [] [.one ⟨.sl false 3 (.int .i64), x0⟩, .one ⟨.int .i64, x1⟩] []).run = (G.slices_Index_int_int x0 x1).bind fun y => some (Res.mk [.one ⟨.int .i64, y⟩] [] []) := by kernel_rfl
def k_slices_Index_int_int : Kn := ⟨166, [0, 0], fun args rows => match args, rows with
  | [.one ⟨.sl false 3 (.int .i64), x0⟩, .one ⟨.int .i64, x1⟩], [] => some ⟨_, G.slices_Index_int_int x0 x1, fun y => ⟨[.one ⟨.int .i64, y⟩], [], []⟩⟩
  | _, _ => none, []⟩
theorem s_slices_Index_int_int : KnOk Try.prog k_slices_Index_int_int := by
  intro args rows a h y hy
  simp only [k_slices_Index_int_int] at h
  split at h
  · injection h with h
    subst h
    exact vfun_ok eok_slices_Index_int_int Try.func166 rfl (by rw [v_slices_Index_int_int]; simp only at hy; rw [hy]; rfl)
  · cases h
def J_slices_Contains_int_int : Joins := [(.r, ⟨[.bool], [(4, .one (.h 0))], [], [], [], []⟩)]
def ann_slices_Contains_int_int : Ann := .nil
def env_slices_Contains_int_int : Env := envOf ti [k_slices_Index_int_int] []
theorem eok_slices_Contains_int_int : EnvOk Try.prog env_slices_Contains_int_int := envOf_ok tab mix _ _ (by
  intro k hk
  simp only [List.mem_cons, List.not_mem_nil, or_false] at hk
  rcases hk with rfl
  · exact s_slices_Index_int_int)
theorem v_slices_Contains_int_int (x0 : List Int) (x1 : Int) : (vfun env_slices_Contains_int_int Try.f145 J_slices_Contains_int_int ann_slices_Contains_int_int [] [.one ⟨.sl false 3 (.int .i64), x0⟩, .one ⟨.int .i64, x1⟩] []).run = (G.slices_Contains_int_int x0 x1).bind fun y => some (Res.mk [.one ⟨.bool, y⟩] [] []) := by kernel_rfl
def k_slices_Contains_int_int : Kn := ⟨145, [0, 0], fun args rows => match args, rows with
  | [.one ⟨.sl false 3 (.int .i64), x0⟩, .one ⟨.int .i64, x1⟩], [] => some ⟨_, G.slices_Contains_int_int x0 x1, fun y => ⟨[.one ⟨.bool, y⟩], [], []⟩⟩
  | _, _ => none, []⟩
theorem s_slices_Contains_int_int : KnOk Try.prog k_slices_Contains_int_int := by
  intro args rows a h y hy
  simp only [k_slices_Contains_int_int] at h
  split at h
  · injection h with h
    subst h
    exact vfun_ok eok_slices_Contains_int_int Try.func145 rfl (by rw [v_slices_Contains_int_int]; simp only at hy; rw [hy]; rfl)
  · cases h
def J_i_Space_isHere_ffff : Joins := [(.r, ⟨[.bool, .sl false 22 (.sl false 5 (.int .u8)), .sl false 5 (.int .u8), .sl false 3 (.int .i64), .sl false 3 (.int .i64)], [(4, .one (.h 0))], [(18, [.h 1, .h 2, .h 3, .h 4])], [], [], []⟩)]
def ann_i_Space_isHere_ffff : Ann := .seq .nil (.seq (.reg [(.n, ⟨[.bool, .sl false 22 (.sl false 5 (.int .u8)), .sl false 5 (.int .u8), .sl false 3 (.int .i64), .sl false 3 (.int .i64)], [(4, .one (.h 0))], [(18, [.h 1, .h 2, .h 3, .h 4])], [], [], []⟩)]) .nil)
def env_i_Space_isHere_ffff : Env := envOf ti [k_i_Space_isBlock_ffff, k_slices_Contains_int_int] []
theorem eok_i_Space_isHere_ffff : EnvOk Try.prog env_i_Space_isHere_ffff := envOf_ok tab mix _ _ (by
  intro k hk
  simp only [List.mem_cons, List.not_mem_nil, or_false] at hk
  rcases hk with rfl | rfl
  · exact s_i_Space_isBlock_ffff
  · exact s_slices_Contains_int_int)
theorem v_i_Space_isHere_ffff (x0 : Int) (x1 : List (List Int)) (x2 : List Int) (x3 : List Int) (x4 : List Int) : (vfun env_i_Space_isHere_ffff Try.f108 J_i_Space_isHere_ffff ann_i_Space_isHere_ffff [] [.pl 0 0, .one ⟨.int .i64, x0⟩] [[⟨.sl false 22 (.sl false 5 (.int .u8)), x1⟩, ⟨.sl false 5 (.int .u8), x2⟩, ⟨.sl false 3 (.int .i64), x3⟩, ⟨.sl false 3 (.int .i64), x4⟩]]).run = (G.i_Space_isHere_ffff x0 x1 x2 x3 x4).bind fun y => some (Res.mk [.one ⟨.bool, y.1⟩] [[⟨.sl false 22 (.sl false 5 (.int .u8)), y.2.1⟩, ⟨.sl false 5 (.int .u8), y.2.2.1⟩, ⟨.sl false 3 (.int .i64), y.2.2.2.1⟩, ⟨.sl false 3 (.int .i64), y.2.2.2.2⟩]] []) := by kernel_rfl
def k_i_Space_isHere_ffff : Kn := ⟨108, [0, 0], fun args rows => match args, rows with
  | [.pl 0 0, .one ⟨.int .i64, x0⟩], [[⟨.sl false 22 (.sl false 5 (.int .u8)), x1⟩, ⟨.sl false 5 (.int .u8), x2⟩, ⟨.sl false 3 (.int .i64), x3⟩, ⟨.sl false 3 (.int .i64), x4⟩]] => some ⟨_, G.i_Space_isHere_ffff x0 x1 x2 x3 x4, fun y => ⟨[.one ⟨.bool, y.1⟩], [[⟨.sl false 22 (.sl false 5 (.int .u8)), y.2.1⟩, ⟨.sl false 5 (.int .u8), y.2.2.1⟩, ⟨.sl false 3 (.int .i64), y.2.2.2.1⟩, ⟨.sl false 3 (.int .i64), y.2.2.2.2⟩]], []⟩⟩
  | _, _ => none, []⟩
theorem s_i_Space_isHere_ffff : KnOk Try.prog k_i_Space_isHere_ffff := by
  intro args rows a h y hy
  simp only [k_i_Space_isHere_ffff] at h
  split at h
  · injection h with h
    subst h
    exact vfun_ok eok_i_Space_isHere_ffff Try.func108 rfl (by rw [v_i_Space_isHere_ffff]; simp only at hy; rw [hy]; rfl)
  · cases h
def J_i_Space_page_1 : Joins := [(.r, ⟨[.bool], [(2, .one (.h 0))], [], [], [], []⟩)]
def ann_i_Space_page_1 : Ann := .nil
def env_i_Space_page_1 : Env := envOf ti [] []
theorem eok_i_Space_page_1 : EnvOk Try.prog env_i_Space_page_1 := envOf_ok tab mix _ _ (by
  intro k hk; cases hk)
theorem v_i_Space_page_1 (x0 : Int) : (vfun env_i_Space_page_1 Try.f164 J_i_Space_page_1 ann_i_Space_page_1 [] [.one ⟨.int .u8, x0⟩] []).run = (G.i_Space_page_1 x0).bind fun y => some (Res.mk [.one ⟨.bool, y⟩] [] []) := by kernel_rfl
def k_i_Space_page_1 : Kn := ⟨164, [0], fun args rows => match args, rows with
  | [.one ⟨.int .u8, x0⟩], [] => some ⟨_, G.i_Space_page_1 x0, fun y => ⟨[.one ⟨.bool, y⟩], [], []⟩⟩
  | _, _ => none, []⟩
theorem s_i_Space_page_1 : KnOk Try.prog k_i_Space_page_1 := by
  intro args rows a h y hy
  simp only [k_i_Space_page_1] at h
  split at h
  · injection h with h
    subst h
    exact vfun_ok eok_i_Space_page_1 Try.func164 rfl (by rw [v_i_Space_page_1]; simp only at hy; rw [hy]; rfl)
  · cases h
def J_i_numberAt : Joins := [(.r, ⟨[.int .i64], [(4, .one (.h 0))], [], [], [], []⟩)]
def ann_i_numberAt : Ann := .nil
def env_i_numberAt : Env := envOf ti [] []
theorem eok_i_numberAt : EnvOk Try.prog env_i_numberAt := envOf_ok tab mix _ _ (by
  intro k hk; cases hk)
theorem v_i_numberAt (x0 : List Int) (x1 : Int) : (vfun env_i_numberAt Try.f165 J_i_numberAt ann_i_numberAt [] [.one ⟨.sl false 5 (.int .u8), x0⟩, .one ⟨.int .i64, x1⟩] []).run = (G.i_numberAt x0 x1).bind fun y => some (Res.mk [.one ⟨.int .i64, y⟩] [] []) := by kernel_rfl
def k_i_numberAt : Kn := ⟨165, [0, 0], fun args rows => match args, rows with
  | [.one ⟨.sl false 5 (.int .u8), x0⟩, .one ⟨.int .i64, x1⟩], [] => some ⟨_, G.i_numberAt x0 x1, fun y => ⟨[.one ⟨.int .i64, y⟩], [], []⟩⟩
  | _, _ => none, []⟩
theorem s_i_numberAt : KnOk Try.prog k_i_numberAt := by
  intro args rows a h y hy
  simp only [k_i_numberAt] at h
  split at h
  · injection h with h
    subst h
    exact vfun_ok eok_i_numberAt Try.func165 rfl (by rw [v_i_numberAt]; simp only at hy; rw [hy]; rfl)
  · cases h
def J_i_Space_used_r : Joins := [(.r, ⟨[.bool], [(4, .one (.h 0))], [], [], [], []⟩)]
def ann_i_Space_used_r : Ann := .nil
def env_i_Space_used_r : Env := envOf ti [] []
theorem eok_i_Space_used_r : EnvOk Try.prog env_i_Space_used_r := envOf_ok tab mix _ _ (by
  intro k hk; cases hk)
theorem v_i_Space_used_r (x0 : (List (List Int) × (List Int × (List Int × List Int)))) (x1 : Int) : (vfun env_i_Space_used_r Try.f66 J_i_Space_used_r ann_i_Space_used_r [] [.rp (.pair (.sl false 22 (.sl false 5 (.int .u8))) (.pair (.sl false 5 (.int .u8)) (.pair (.sl false 3 (.int .i64)) (.sl false 3 (.int .i64))))) x0 0, .one ⟨.int .i64, x1⟩] []).run = (G.i_Space_used_r x0 x1).bind fun y => some (Res.mk [.one ⟨.bool, y⟩] [] []) := by kernel_rfl
def k_i_Space_used_r : Kn := ⟨66, [0, 0], fun args rows => match args, rows with
  | [.rp (.pair (.sl false 22 (.sl false 5 (.int .u8))) (.pair (.sl false 5 (.int .u8)) (.pair (.sl false 3 (.int .i64)) (.sl false 3 (.int .i64))))) x0 0, .one ⟨.int .i64, x1⟩], [] => some ⟨_, G.i_Space_used_r x0 x1, fun y => ⟨[.one ⟨.bool, y⟩], [], []⟩⟩
  | _, _ => none, []⟩
theorem s_i_Space_used_r : KnOk Try.prog k_i_Space_used_r := by
  intro args rows a h y hy
  simp only [k_i_Space_used_r] at h
  split at h
  · injection h with h
    subst h
    exact vfun_ok eok_i_Space_used_r Try.func66 rfl (by rw [v_i_Space_used_r]; simp only at hy; rw [hy]; rfl)
  · cases h
def J_i_Space_isBlock_r : Joins := [(.r, ⟨[.bool], [(4, .one (.h 0))], [], [], [], []⟩)]
def ann_i_Space_isBlock_r : Ann := .seq .nil (.seq (.reg [(.n, ⟨[.bool], [(4, .one (.h 0))], [], [], [], []⟩)]) .nil)
def env_i_Space_isBlock_r : Env := envOf ti [k_i_within, k_i_Space_used_r] []
theorem eok_i_Space_isBlock_r : EnvOk Try.prog env_i_Space_isBlock_r := envOf_ok tab mix _ _ (by
  intro k hk
  simp only [List.mem_cons, List.not_mem_nil, or_false] at hk
  rcases hk with rfl | rfl
  · exact s_i_within
  · exact s_i_Space_used_r)
theorem v_i_Space_isBlock_r (x0 : (List (List Int) × (List Int × (List Int × List Int)))) (x1 : Int) : (vfun env_i_Space_isBlock_r Try.f148 J_i_Space_isBlock_r ann_i_Space_isBlock_r [] [.rp (.pair (.sl false 22 (.sl false 5 (.int .u8))) (.pair (.sl false 5 (.int .u8)) (.pair (.sl false 3 (.int .i64)) (.sl false 3 (.int .i64))))) x0 0, .one ⟨.int .i64, x1⟩] []).run = (G.i_Space_isBlock_r x0 x1).bind fun y => some (Res.mk [.one ⟨.bool, y⟩] [] []) := by kernel_rfl
def k_i_Space_isBlock_r : Kn := ⟨148, [0, 0], fun args rows => match args, rows with
  | [.rp (.pair (.sl false 22 (.sl false 5 (.int .u8))) (.pair (.sl false 5 (.int .u8)) (.pair (.sl false 3 (.int .i64)) (.sl false 3 (.int .i64))))) x0 0, .one ⟨.int .i64, x1⟩], [] => some ⟨_, G.i_Space_isBlock_r x0 x1, fun y => ⟨[.one ⟨.bool, y⟩], [], []⟩⟩
  | _, _ => none, []⟩
theorem s_i_Space_isBlock_r : KnOk Try.prog k_i_Space_isBlock_r := by
  intro args rows a h y hy
  simp only [k_i_Space_isBlock_r] at h
  split at h
  · injection h with h
    subst h
    exact vfun_ok eok_i_Space_isBlock_r Try.func148 rfl (by rw [v_i_Space_isBlock_r]; simp only at hy; rw [hy]; rfl)
  · cases h
end
end Go.Proofs.Ytijemcbcchnnjaa

set_option linter.unusedVariables false
set_option maxRecDepth 100000
namespace Go.Proofs.Ytijemcbcchnnjaa
open Go.V
noncomputable section
def J_i_Space_isHere_r : Joins := [(.r, ⟨[.bool], [(4, .one (.h 0))], [], [], [], []⟩)]
def ann_i_Space_isHere_r : Ann := .seq .nil (.seq (.reg [(.n, ⟨[.bool], [(4, .one (.h 0))], [], [], [], []⟩)]) .nil)
def env_i_Space_isHere_r : Env := envOf ti [k_i_Space_isBlock_r, k_slices_Contains_int_int] []
theorem eok_i_Space_isHere_r : EnvOk Try.prog env_i_Space_isHere_r := envOf_ok tab mix _ _ (by
  intro k hk
  simp only [List.mem_cons, List.not_mem_nil, or_false] at hk
  rcases hk with rfl | rfl
  · exact s_i_Space_isBlock_r
  · exact s_slices_Contains_int_int)
theorem v_i_Space_isHere_r (x0 : (List (List Int) × (List Int × (List Int × List Int)))) (x1 : Int) : (vfun env_i_Space_isHere_r Try.f108 J_i_Space_isHere_r ann_i_Space_isHere_r [] [.rp (.pair (.sl false 22 (.sl false 5 (.int .u8))) (.pair (.sl false 5 (.int .u8)) (.pair (.sl false 3 (.int .i64)) (.sl false 3 (.int .i64))))) x0 0, .one ⟨.int .i64, x1⟩] []).run = (G.i_Space_isHere_r x0 x1).bind fun y => some (Res.mk [.one ⟨.bool, y⟩] [] []) := by kernel_rfl
def k_i_Space_isHere_r : Kn := ⟨108, [0, 0], fun args rows => match args, rows with
  | [.rp (.pair (.sl false 22 (.sl false 5 (.int .u8))) (.pair (.sl false 5 (.int .u8)) (.pair (.sl false 3 (.int .i64)) (.sl false 3 (.int .i64))))) x0 0, .one ⟨.int .i64, x1⟩], [] => some ⟨_, G.i_Space_isHere_r x0 x1, fun y => ⟨[.one ⟨.bool, y⟩], [], []⟩⟩
  | _, _ => none, []⟩
theorem s_i_Space_isHere_r : KnOk Try.prog k_i_Space_isHere_r := by
  intro args rows a h y hy
  simp only [k_i_Space_isHere_r] at h
  split at h
  · injection h with h
    subst h
    exact vfun_ok eok_i_Space_isHere_r Try.func108 rfl (by rw [v_i_Space_isHere_r]; simp only at hy; rw [hy]; rfl)
  · cases h
def J_slices_IndexFunc_byte_byte_i_Space_page_1 : Joins := [(.r, ⟨[.int .i64], [(4, .one (.h 0))], [], [], [], []⟩)]
def ann_slices_IndexFunc_byte_byte_i_Space_page_1 : Ann := .seq .nil (.seq (.seq .nil (.block [] (.loop ⟨[.sl false 5 (.int .u8), .int .i64, .int .i64], [(0, .one (.h 0)), (1, .fv 164 []), (7, .one (.h 1)), (8, .one (.h 2))], [], [], [], []⟩ [(.x 0, ⟨[], [], [], [], [], []⟩), (.r, ⟨[.int .i64], [(4, .one (.h 0))], [], [], [], []⟩)] .nil))) .nil)
def env_slices_IndexFunc_byte_byte_i_Space_page_1 : Env := envOf ti [k_i_Space_page_1] []
theorem eok_slices_IndexFunc_byte_byte_i_Space_page_1 : EnvOk Try.prog env_slices_IndexFunc_byte_byte_i_Space_page_1 := envOf_ok tab mix _ _ (by
  intro k hk
  simp only [List.mem_cons, List.not_mem_nil, or_false] at hk
  rcases hk with rfl
  · exact s_i_Space_page_1)
theorem v_slices_IndexFunc_byte_byte_i_Space_page_1 (x0 : List Int) : (vfun env_slices_IndexFunc_byte_byte_i_Space_page_1 Try.f178 J_slices_IndexFunc_byte_byte_i_Space_page_1 ann_slices_IndexFunc_byte_byte_i_Space_page_1 [] [.one ⟨.sl false 5 (.int .u8), x0⟩, .fv 164 []] []).run = (G.slices_IndexFunc_byte_byte_i_Space_page_1 x0).bind fun y => some (Res.mk [.one ⟨.int .i64, y⟩] [] []) := by kernel_rfl
def k_slices_IndexFunc_byte_byte_i_Space_page_1 : Kn := ⟨178, [0, 0], fun args rows => match args, rows with
  | [.one ⟨.sl false 5 (.int .u8), x0⟩, .fv 164 []], [] => some ⟨_, G.slices_IndexFunc_byte_byte_i_Space_page_1 x0, fun y => ⟨[.one ⟨.int .i64, y⟩], [], []⟩⟩
  | _, _ => none, []⟩
theorem s_slices_IndexFunc_byte_byte_i_Space_page_1 : KnOk Try.prog k_slices_IndexFunc_byte_byte_i_Space_page_1 := by
  intro args rows a h y hy
  simp only [k_slices_IndexFunc_byte_byte_i_Space_page_1] at h
  split at h
  · injection h with h
    subst h
    exact vfun_ok eok_slices_IndexFunc_byte_byte_i_Space_page_1 Try.func178 rfl (by rw [v_slices_IndexFunc_byte_byte_i_Space_page_1]; simp only at hy; rw [hy]; rfl)
  · cases h
def J_slices_ContainsFunc_byte_byte_i_Space_page_1 : Joins := [(.r, ⟨[.bool], [(4, .one (.h 0))], [], [], [], []⟩)]
def ann_slices_ContainsFunc_byte_byte_i_Space_page_1 : Ann := .nil
def env_slices_ContainsFunc_byte_byte_i_Space_page_1 : Env := envOf ti [k_slices_IndexFunc_byte_byte_i_Space_page_1] []
theorem eok_slices_ContainsFunc_byte_byte_i_Space_page_1 : EnvOk Try.prog env_slices_ContainsFunc_byte_byte_i_Space_page_1 := envOf_ok tab mix _ _ (by
  intro k hk
  simp only [List.mem_cons, List.not_mem_nil, or_false] at hk
  rcases hk with rfl
  · exact s_slices_IndexFunc_byte_byte_i_Space_page_1)
theorem v_slices_ContainsFunc_byte_byte_i_Space_page_1 (x0 : List Int) : (vfun env_slices_ContainsFunc_byte_byte_i_Space_page_1 Try.f163 J_slices_ContainsFunc_byte_byte_i_Space_page_1 ann_slices_ContainsFunc_byte_byte_i_Space_page_1 [] [.one ⟨.sl false 5 (.int .u8), x0⟩, .fv 164 []] []).run = (G.slices_ContainsFunc_byte_byte_i_Space_page_1 x0).bind fun y => some (Res.mk [.one ⟨.bool, y⟩] [] []) := by kernel_rfl
def k_slices_ContainsFunc_byte_byte_i_Space_page_1 : Kn := ⟨163, [0, 0], fun args rows => match args, rows with
  | [.one ⟨.sl false 5 (.int .u8), x0⟩, .fv 164 []], [] => some ⟨_, G.slices_ContainsFunc_byte_byte_i_Space_page_1 x0, fun y => ⟨[.one ⟨.bool, y⟩], [], []⟩⟩
  | _, _ => none, []⟩
theorem s_slices_ContainsFunc_byte_byte_i_Space_page_1 : KnOk Try.prog k_slices_ContainsFunc_byte_byte_i_Space_page_1 := by
  intro args rows a h y hy
  simp only [k_slices_ContainsFunc_byte_byte_i_Space_page_1] at h
  split at h
  · injection h with h
    subst h
    exact vfun_ok eok_slices_ContainsFunc_byte_byte_i_Space_page_1 Try.func163 rfl (by rw [v_slices_ContainsFunc_byte_byte_i_Space_page_1]; simp only at hy; rw [hy]; rfl)
  · cases h
def J_i_Space_page : Joins := [(.r, ⟨[.sl true 3 (.int .i64), .bool], [(6, .one (.vw 155713)), (7, .one (.h 1))], [], [(155713, 0)], [], []⟩)]
def ann_i_Space_page : Ann := .seq .nil (.seq (.seq (.reg [(.n, ⟨[.pair (.sl false 22 (.sl false 5 (.int .u8))) (.pair (.sl false 5 (.int .u8)) (.pair (.sl false 3 (.int .i64)) (.sl false 3 (.int .i64)))), .int .i64, .bool], [(0, .rp 0 0), (1, .one (.h 1)), (27, .one (.h 2))], [], [], [], []⟩)]) .nil) (.seq .nil (.seq .nil (.seq .nil (.seq (.seq .nil (.block [] (.loop ⟨[.sl false 5 (.int .u8), .sl true 3 (.int .i64), .int .i64], [(8, .one (.h 0)), (9, .one (.vw 155648)), (39, .one (.h 2))], [], [(155648, 1)], [], []⟩ [(.x 0, ⟨[.sl true 3 (.int .i64)], [(9, .one (.vw 155712))], [], [(155712, 0)], [], []⟩)] .nil))) .nil)))))
def env_i_Space_page : Env := envOf ti [k_i_Space_isHere_r, k_slices_ContainsFunc_byte_byte_i_Space_page_1, k_i_numberAt] []
theorem eok_i_Space_page : EnvOk Try.prog env_i_Space_page := envOf_ok tab mix _ _ (by
  intro k hk
  simp only [List.mem_cons, List.not_mem_nil, or_false] at hk
  rcases hk with rfl | rfl | rfl
  · exact s_i_Space_isHere_r
  · exact s_slices_ContainsFunc_byte_byte_i_Space_page_1
  · exact s_i_numberAt)
theorem v_i_Space_page (x0 : (List (List Int) × (List Int × (List Int × List Int)))) (x1 : Int) (x2 : Int) : (vfun env_i_Space_page Try.f144 J_i_Space_page ann_i_Space_page [] [.rp (.pair (.sl false 22 (.sl false 5 (.int .u8))) (.pair (.sl false 5 (.int .u8)) (.pair (.sl false 3 (.int .i64)) (.sl false 3 (.int .i64))))) x0 0, .one ⟨.int .i64, x1⟩, .one ⟨.int .u8, x2⟩] []).run = (G.i_Space_page x0 x1 x2).bind fun y => some (Res.mk [.one ⟨.sl true 3 (.int .i64), y.1⟩, .one ⟨.bool, y.2⟩] [] []) := by kernel_rfl
def k_i_Space_page : Kn := ⟨144, [3, 0, 0], fun args rows => match args, rows with
  | [.rp (.pair (.sl false 22 (.sl false 5 (.int .u8))) (.pair (.sl false 5 (.int .u8)) (.pair (.sl false 3 (.int .i64)) (.sl false 3 (.int .i64))))) x0 0, .one ⟨.int .i64, x1⟩, .one ⟨.int .u8, x2⟩], [] => some ⟨_, G.i_Space_page x0 x1 x2, fun y => ⟨[.one ⟨.sl true 3 (.int .i64), y.1⟩, .one ⟨.bool, y.2⟩], [], []⟩⟩
  | _, _ => none, []⟩
theorem s_i_Space_page : KnOk Try.prog k_i_Space_page := by
  intro args rows a h y hy
  simp only [k_i_Space_page] at h
  split at h
  · injection h with h
    subst h
    exact vfun_ok eok_i_Space_page Try.func144 rfl (by rw [v_i_Space_page]; simp only at hy; rw [hy]; rfl)
  · cases h
def J_i_isEmpty_1 : Joins := [(.r, ⟨[.bool], [(2, .one (.h 0))], [], [], [], []⟩)]
def ann_i_isEmpty_1 : Ann := .nil
def env_i_isEmpty_1 : Env := envOf ti [] []
theorem eok_i_isEmpty_1 : EnvOk Try.prog env_i_isEmpty_1 := envOf_ok tab mix _ _ (by
  intro k hk; cases hk)
theorem v_i_isEmpty_1 (x0 : Int) : (vfun env_i_isEmpty_1 Try.f151 J_i_isEmpty_1 ann_i_isEmpty_1 [] [.one ⟨.int .i64, x0⟩] []).run = (G.i_isEmpty_1 x0).bind fun y => some (Res.mk [.one ⟨.bool, y⟩] [] []) := by kernel_rfl
def k_i_isEmpty_1 : Kn := ⟨151, [0], fun args rows => match args, rows with
  | [.one ⟨.int .i64, x0⟩], [] => some ⟨_, G.i_isEmpty_1 x0, fun y => ⟨[.one ⟨.bool, y⟩], [], []⟩⟩
  | _, _ => none, []⟩
theorem s_i_isEmpty_1 : KnOk Try.prog k_i_isEmpty_1 := by
  intro args rows a h y hy
  simp only [k_i_isEmpty_1] at h
  split at h
  · injection h with h
    subst h
    exact vfun_ok eok_i_isEmpty_1 Try.func151 rfl (by rw [v_i_isEmpty_1]; simp only at hy; rw [hy]; rfl)
  · cases h
def J_slices_IndexFunc_int_int_i_isEmpty_1 : Joins := [(.r, ⟨[.int .i64], [(4, .one (.h 0))], [], [], [], []⟩)]
def ann_slices_IndexFunc_int_int_i_isEmpty_1 : Ann := .seq .nil (.seq (.seq .nil (.block [] (.loop ⟨[.sl false 3 (.int .i64), .int .i64, .int .i64], [(0, .one (.h 0)), (1, .fv 151 []), (7, .one (.h 1)), (8, .one (.h 2))], [], [], [], []⟩ [(.x 0, ⟨[], [], [], [], [], []⟩), (.r, ⟨[.int .i64], [(4, .one (.h 0))], [], [], [], []⟩)] .nil))) .nil)
def env_slices_IndexFunc_int_int_i_isEmpty_1 : Env := envOf ti [k_i_isEmpty_1] []
theorem eok_slices_IndexFunc_int_int_i_isEmpty_1 : EnvOk Try.prog env_slices_IndexFunc_int_int_i_isEmpty_1 := envOf_ok tab mix _ _ (by
  intro k hk
  simp only [List.mem_cons, List.not_mem_nil, or_false] at hk
  rcases hk with rfl
  · exact s_i_isEmpty_1)
theorem v_slices_IndexFunc_int_int_i_isEmpty_1 (x0 : List Int) : (vfun env_slices_IndexFunc_int_int_i_isEmpty_1 Try.f167 J_slices_IndexFunc_int_int_i_isEmpty_1 ann_slices_IndexFunc_int_int_i_isEmpty_1 [] [.one ⟨.sl false 3 (.int .i64), x0⟩, .fv 151 []] []).run = (G.slices_IndexFunc_int_int_i_isEmpty_1 x0).bind fun y => some (Res.mk [.one ⟨.int .i64, y⟩] [] []) := by kernel_rfl
def k_slices_IndexFunc_int_int_i_isEmpty_1 : Kn := ⟨167, [0, 0], fun args rows => match args, rows with
  | [.one ⟨.sl false 3 (.int .i64), x0⟩, .fv 151 []], [] => some ⟨_, G.slices_IndexFunc_int_int_i_isEmpty_1 x0, fun y => ⟨[.one ⟨.int .i64, y⟩], [], []⟩⟩
  | _, _ => none, []⟩
theorem s_slices_IndexFunc_int_int_i_isEmpty_1 : KnOk Try.prog k_slices_IndexFunc_int_int_i_isEmpty_1 := by
  intro args rows a h y hy
  simp only [k_slices_IndexFunc_int_int_i_isEmpty_1] at h
  split at h
  · injection h with h
    subst h
    exact vfun_ok eok_slices_IndexFunc_int_int_i_isEmpty_1 Try.func167 rfl (by rw [v_slices_IndexFunc_int_int_i_isEmpty_1]; simp only at hy; rw [hy]; rfl)
  · cases h
def J_slices_ContainsFunc_int_int_i_isEmpty_1 : Joins := [(.r, ⟨[.bool], [(4, .one (.h 0))], [], [], [], []⟩)]
def ann_slices_ContainsFunc_int_int_i_isEmpty_1 : Ann := .nil
def env_slices_ContainsFunc_int_int_i_isEmpty_1 : Env := envOf ti [k_slices_IndexFunc_int_int_i_isEmpty_1] []
theorem eok_slices_ContainsFunc_int_int_i_isEmpty_1 : EnvOk Try.prog env_slices_ContainsFunc_int_int_i_isEmpty_1 := envOf_ok tab mix _ _ (by
  intro k hk
  simp only [List.mem_cons, List.not_mem_nil, or_false] at hk
  rcases hk with rfl
  · exact s_slices_IndexFunc_int_int_i_isEmpty_1)
theorem v_slices_ContainsFunc_int_int_i_isEmpty_1 (x0 : List Int) : (vfun env_slices_ContainsFunc_int_int_i_isEmpty_1 Try.f146 J_slices_ContainsFunc_int_int_i_isEmpty_1 ann_slices_ContainsFunc_int_int_i_isEmpty_1 [] [.one ⟨.sl false 3 (.int .i64), x0⟩, .fv 151 []] []).run = (G.slices_ContainsFunc_int_int_i_isEmpty_1 x0).bind fun y => some (Res.mk [.one ⟨.bool, y⟩] [] []) := by kernel_rfl
def k_slices_ContainsFunc_int_int_i_isEmpty_1 : Kn := ⟨146, [0, 0], fun args rows => match args, rows with
  | [.one ⟨.sl false 3 (.int .i64), x0⟩, .fv 151 []], [] => some ⟨_, G.slices_ContainsFunc_int_int_i_isEmpty_1 x0, fun y => ⟨[.one ⟨.bool, y⟩], [], []⟩⟩
  | _, _ => none, []⟩
theorem s_slices_ContainsFunc_int_int_i_isEmpty_1 : KnOk Try.prog k_slices_ContainsFunc_int_int_i_isEmpty_1 := by
  intro args rows a h y hy
  simp only [k_slices_ContainsFunc_int_int_i_isEmpty_1] at h
  split at h
  · injection h with h
    subst h
    exact vfun_ok eok_slices_ContainsFunc_int_int_i_isEmpty_1 Try.func146 rfl (by rw [v_slices_ContainsFunc_int_int_i_isEmpty_1]; simp only at hy; rw [hy]; rfl)
  · cases h
def J_i_isEmpty : Joins := [(.r, ⟨[.bool], [(2, .one (.h 0))], [], [], [], []⟩)]
def ann_i_isEmpty : Ann := .nil
def env_i_isEmpty : Env := envOf ti [k_slices_ContainsFunc_int_int_i_isEmpty_1] []
theorem eok_i_isEmpty : EnvOk Try.prog env_i_isEmpty := envOf_ok tab mix _ _ (by
  intro k hk
  simp only [List.mem_cons, List.not_mem_nil, or_false] at hk
  rcases hk with rfl
  · exact s_slices_ContainsFunc_int_int_i_isEmpty_1)
theorem v_i_isEmpty (x0 : List Int) : (vfun env_i_isEmpty Try.f112 J_i_isEmpty ann_i_isEmpty [] [.one ⟨.sl false 3 (.int .i64), x0⟩] []).run = (G.i_isEmpty x0).bind fun y => some (Res.mk [.one ⟨.bool, y⟩] [] []) := by kernel_rfl
def k_i_isEmpty : Kn := ⟨112, [0], fun args rows => match args, rows with
  | [.one ⟨.sl false 3 (.int .i64), x0⟩], [] => some ⟨_, G.i_isEmpty x0, fun y => ⟨[.one ⟨.bool, y⟩], [], []⟩⟩
  | _, _ => none, []⟩
theorem s_i_isEmpty : KnOk Try.prog k_i_isEmpty := by
  intro args rows a h y hy
  simp only [k_i_isEmpty] at h
  split at h
  · injection h with h
    subst h
    exact vfun_ok eok_i_isEmpty Try.func112 rfl (by rw [v_i_isEmpty]; simp only at hy; rw [hy]; rfl)
  · cases h
def J_i_Space_tree_1 : Joins := [(.r, ⟨[.bool, .pt (.pair (.sl false 22 (.sl false 5 (.int .u8))) (.pair (.sl false 5 (.int .u8)) (.pair (.sl false 3 (.int .i64)) (.sl false 3 (.int .i64)))))], [(3, .one (.h 0))], [(13, [.h 1])], [], [], []⟩)]
def ann_i_Space_tree_1 : Ann := .seq .nil (.seq (.reg [(.n, ⟨[.bool, .pt (.pair (.sl false 22 (.sl false 5 (.int .u8))) (.pair (.sl false 5 (.int .u8)) (.pair (.sl false 3 (.int .i64)) (.sl false 3 (.int .i64)))))], [(3, .one (.h 0))], [(13, [.h 1])], [], [], []⟩)]) .nil)
def env_i_Space_tree_1 : Env := envOf ti [k_i_Space_isBlock_r] []
theorem eok_i_Space_tree_1 : EnvOk Try.prog env_i_Space_tree_1 := envOf_ok tab mix _ _ (by
  intro k hk
  simp only [List.mem_cons, List.not_mem_nil, or_false] at hk
  rcases hk with rfl
  · exact s_i_Space_isBlock_r)
theorem v_i_Space_tree_1 (x0 : Int) (x1 : (Option (List (List Int) × (List Int × (List Int × List Int))))) : (vfun env_i_Space_tree_1 Try.f147 J_i_Space_tree_1 ann_i_Space_tree_1 [] [.one ⟨.int .i64, x0⟩, .pl 0 0] [[⟨.pt (.pair (.sl false 22 (.sl false 5 (.int .u8))) (.pair (.sl false 5 (.int .u8)) (.pair (.sl false 3 (.int .i64)) (.sl false 3 (.int .i64))))), x1⟩]]).run = (G.i_Space_tree_1 x0 x1).bind fun y => some (Res.mk [.one ⟨.bool, y.1⟩] [[⟨.pt (.pair (.sl false 22 (.sl false 5 (.int .u8))) (.pair (.sl false 5 (.int .u8)) (.pair (.sl false 3 (.int .i64)) (.sl false 3 (.int .i64))))), y.2⟩]] []) := by kernel_rfl
def k_i_Space_tree_1 : Kn := ⟨147, [0], fun args rows => match args, rows with
  | [.one ⟨.int .i64, x0⟩, .pl 0 0], [[⟨.pt (.pair (.sl false 22 (.sl false 5 (.int .u8))) (.pair (.sl false 5 (.int .u8)) (.pair (.sl false 3 (.int .i64)) (.sl false 3 (.int .i64))))), x1⟩]] => some ⟨_, G.i_Space_tree_1 x0 x1, fun y => ⟨[.one ⟨.bool, y.1⟩], [[⟨.pt (.pair (.sl false 22 (.sl false 5 (.int .u8))) (.pair (.sl false 5 (.int .u8)) (.pair (.sl false 3 (.int .i64)) (.sl false 3 (.int .i64))))), y.2⟩]], []⟩⟩
  | _, _ => none, [[.pt (.pair (.sl false 22 (.sl false 5 (.int .u8))) (.pair (.sl false 5 (.int .u8)) (.pair (.sl false 3 (.int .i64)) (.sl false 3 (.int .i64)))))]]⟩
theorem s_i_Space_tree_1 : KnOk Try.prog k_i_Space_tree_1 := by
  intro args rows a h y hy
  simp only [k_i_Space_tree_1] at h
  split at h
  · injection h with h
    subst h
    exact vfun_ok eok_i_Space_tree_1 Try.func147 rfl (by rw [v_i_Space_tree_1]; simp only at hy; rw [hy]; rfl)
  · cases h
def J_slices_IndexFunc_int_int_l_i_Space_tree_1 : Joins := [(.r, ⟨[.sl true 3 (.int .i64), .int .i64, .pt (.pair (.sl false 22 (.sl false 5 (.int .u8))) (.pair (.sl false 5 (.int .u8)) (.pair (.sl false 3 (.int .i64)) (.sl false 3 (.int .i64)))))], [(0, .one (.vw 121922)), (4, .one (.h 1))], [(20, [.h 2])], [(121922, 0)], [], []⟩)]
def ann_slices_IndexFunc_int_int_l_i_Space_tree_1 : Ann := .seq .nil (.seq (.seq .nil (.block [] (.loop ⟨[.sl true 3 (.int .i64), .int .i64, .int .i64, .pt (.pair (.sl false 22 (.sl false 5 (.int .u8))) (.pair (.sl false 5 (.int .u8)) (.pair (.sl false 3 (.int .i64)) (.sl false 3 (.int .i64)))))], [(0, .one (.vw 121856)), (1, .fv 147 [(20, 0)]), (7, .one (.h 1)), (8, .one (.h 2))], [(20, [.h 3])], [(121856, 0)], [], []⟩ [(.x 0, ⟨[.sl true 3 (.int .i64), .pt (.pair (.sl false 22 (.sl false 5 (.int .u8))) (.pair (.sl false 5 (.int .u8)) (.pair (.sl false 3 (.int .i64)) (.sl false 3 (.int .i64)))))], [(0, .one (.vw 121920))], [(20, [.h 1])], [(121920, 0)], [], []⟩), (.r, ⟨[.sl true 3 (.int .i64), .int .i64, .pt (.pair (.sl false 22 (.sl false 5 (.int .u8))) (.pair (.sl false 5 (.int .u8)) (.pair (.sl false 3 (.int .i64)) (.sl false 3 (.int .i64)))))], [(0, .one (.vw 121921)), (4, .one (.h 1))], [(20, [.h 2])], [(121921, 0)], [], []⟩)] .nil))) .nil)
def env_slices_IndexFunc_int_int_l_i_Space_tree_1 : Env := envOf ti [k_i_Space_tree_1] [0]
theorem eok_slices_IndexFunc_int_int_l_i_Space_tree_1 : EnvOk Try.prog env_slices_IndexFunc_int_int_l_i_Space_tree_1 := envOf_ok tab mix _ _ (by
  intro k hk
  simp only [List.mem_cons, List.not_mem_nil, or_false] at hk
  rcases hk with rfl
  · exact s_i_Space_tree_1)
theorem v_slices_IndexFunc_int_int_l_i_Space_tree_1 (x0 : List Int) (x1 : (Option (List (List Int) × (List Int × (List Int × List Int))))) : (vfun env_slices_IndexFunc_int_int_l_i_Space_tree_1 Try.f167 J_slices_IndexFunc_int_int_l_i_Space_tree_1 ann_slices_IndexFunc_int_int_l_i_Space_tree_1 [(0, 0)] [.one ⟨.sl true 3 (.int .i64), x0⟩, .fv 147 [(0, 0)]] [[⟨.pt (.pair (.sl false 22 (.sl false 5 (.int .u8))) (.pair (.sl false 5 (.int .u8)) (.pair (.sl false 3 (.int .i64)) (.sl false 3 (.int .i64))))), x1⟩]]).run = (G.slices_IndexFunc_int_int_l_i_Space_tree_1 x0 x1).bind fun y => some (Res.mk [.one ⟨.int .i64, y.2.1⟩] [[⟨.pt (.pair (.sl false 22 (.sl false 5 (.int .u8))) (.pair (.sl false 5 (.int .u8)) (.pair (.sl false 3 (.int .i64)) (.sl false 3 (.int .i64))))), y.2.2⟩]] [((0, 0), ⟨.sl true 3 (.int .i64), y.1⟩)]) := by kernel_rfl
def k_slices_IndexFunc_int_int_l_i_Space_tree_1 : Kn := ⟨167, [2, 0], fun args rows => match args, rows with
  | [.one ⟨.sl true 3 (.int .i64), x0⟩, .fv 147 [(0, 0)]], [[⟨.pt (.pair (.sl false 22 (.sl false 5 (.int .u8))) (.pair (.sl false 5 (.int .u8)) (.pair (.sl false 3 (.int .i64)) (.sl false 3 (.int .i64))))), x1⟩]] => some ⟨_, G.slices_IndexFunc_int_int_l_i_Space_tree_1 x0 x1, fun y => ⟨[.one ⟨.int .i64, y.2.1⟩], [[⟨.pt (.pair (.sl false 22 (.sl false 5 (.int .u8))) (.pair (.sl false 5 (.int .u8)) (.pair (.sl false 3 (.int .i64)) (.sl false 3 (.int .i64))))), y.2.2⟩]], [((0, 0), ⟨.sl true 3 (.int .i64), y.1⟩)]⟩⟩
  | _, _ => none, []⟩
theorem s_slices_IndexFunc_int_int_l_i_Space_tree_1 : KnOk Try.prog k_slices_IndexFunc_int_int_l_i_Space_tree_1 := by
  intro args rows a h y hy
  simp only [k_slices_IndexFunc_int_int_l_i_Space_tree_1] at h
  split at h
  · injection h with h
    subst h
    exact vfun_ok eok_slices_IndexFunc_int_int_l_i_Space_tree_1 Try.func167 rfl (by rw [v_slices_IndexFunc_int_int_l_i_Space_tree_1]; simp only at hy; rw [hy]; rfl)
  · cases h
end
end Go.Proofs.Ytijemcbcchnnjaa

set_option linter.unusedVariables false
set_option maxRecDepth 100000
namespace Go.Proofs.Ytijemcbcchnnjaa
open Go.V
noncomputable section
def J_slices_ContainsFunc_int_int_l_i_Space_tree_1 : Joins := [(.r, ⟨[.sl true 3 (.int .i64), .bool, .pt (.pair (.sl false 22 (.sl false 5 (.int .u8))) (.pair (.sl false 5 (.int .u8)) (.pair (.sl false 3 (.int .i64)) (.sl false 3 (.int .i64)))))], [(0, .one (.vw 111616)), (4, .one (.h 1))], [(10, [.h 2])], [(111616, 0)], [], []⟩)]
def ann_slices_ContainsFunc_int_int_l_i_Space_tree_1 : Ann := .nil
def env_slices_ContainsFunc_int_int_l_i_Space_tree_1 : Env := envOf ti [k_slices_IndexFunc_int_int_l_i_Space_tree_1, k_i_Space_tree_1] [0]
theorem eok_slices_ContainsFunc_int_int_l_i_Space_tree_1 : EnvOk Try.prog env_slices_ContainsFunc_int_int_l_i_Space_tree_1 := envOf_ok tab mix _ _ (by
  intro k hk
  simp only [List.mem_cons, List.not_mem_nil, or_false] at hk
  rcases hk with rfl | rfl
  · exact s_slices_IndexFunc_int_int_l_i_Space_tree_1
  · exact s_i_Space_tree_1)
theorem v_slices_ContainsFunc_int_int_l_i_Space_tree_1 (x0 : List Int) (x1 : (Option (List (List Int) × (List Int × (List Int × List Int))))) : (vfun env_slices_ContainsFunc_int_int_l_i_Space_tree_1 Try.f146 J_slices_ContainsFunc_int_int_l_i_Space_tree_1 ann_slices_ContainsFunc_int_int_l_i_Space_tree_1 [(0, 0)] [.one ⟨.sl true 3 (.int .i64), x0⟩, .fv 147 [(0, 0)]] [[⟨.pt (.pair (.sl false 22 (.sl false 5 (.int .u8))) (.pair (.sl false 5 (.int .u8)) (.pair (.sl false 3 (.int .i64)) (.sl false 3 (.int .i64))))), x1⟩]]).run = (G.slices_ContainsFunc_int_int_l_i_Space_tree_1 x0 x1).bind fun y => some (Res.mk [.one ⟨.bool, y.2.1⟩] [[⟨.pt (.pair (.sl false 22 (.sl false 5 (.int .u8))) (.pair (.sl false 5 (.int .u8)) (.pair (.sl false 3 (.int .i64)) (.sl false 3 (.int .i64))))), y.2.2⟩]] [((0, 0), ⟨.sl true 3 (.int .i64), y.1⟩)]) := by kernel_rfl
def k_slices_ContainsFunc_int_int_l_i_Space_tree_1 : Kn := ⟨146, [2, 0], fun args rows => match args, rows with
  | [.one ⟨.sl true 3 (.int .i64), x0⟩, .fv 147 [(0, 0)]], [[⟨.pt (.pair (.sl false 22 (.sl false 5 (.int .u8))) (.pair (.sl false 5 (.int .u8)) (.pair (.sl false 3 (.int .i64)) (.sl false 3 (.int .i64))))), x1⟩]] => some ⟨_, G.slices_ContainsFunc_int_int_l_i_Space_tree_1 x0 x1, fun y => ⟨[.one ⟨.bool, y.2.1⟩], [[⟨.pt (.pair (.sl false 22 (.sl false 5 (.int .u8))) (.pair (.sl false 5 (.int .u8)) (.pair (.sl false 3 (.int .i64)) (.sl false 3 (.int .i64))))), y.2.2⟩]], [((0, 0), ⟨.sl true 3 (.int .i64), y.1⟩)]⟩⟩
  | _, _ => none, []⟩
theorem s_slices_ContainsFunc_int_int_l_i_Space_tree_1 : KnOk Try.prog k_slices_ContainsFunc_int_int_l_i_Space_tree_1 := by
  intro args rows a h y hy
  simp only [k_slices_ContainsFunc_int_int_l_i_Space_tree_1] at h
  split at h
  · injection h with h
    subst h
    exact vfun_ok eok_slices_ContainsFunc_int_int_l_i_Space_tree_1 Try.func146 rfl (by rw [v_slices_ContainsFunc_int_int_l_i_Space_tree_1]; simp only at hy; rw [hy]; rfl)
  · cases h
def J_i_Space_tree : Joins := [(.r, ⟨[.bool, .int .i64, .sl true 3 (.int .i64), .sl true 24 (.sl true 3 (.int .i64))], [(4, .pl 4 0), (5, .one (.h 0))], [(4, [.h 1, .vw 196750, .vw 196751])], [(196750, 2), (196751, 3)], [], []⟩)]
def ann_i_Space_tree : Ann := .seq .nil (.seq .nil (.seq (.seq .nil (.block [] (.loop ⟨[.int .i64, .int .i64, .int .i64, .pt (.pair (.sl false 22 (.sl false 5 (.int .u8))) (.pair (.sl false 5 (.int .u8)) (.pair (.sl false 3 (.int .i64)) (.sl false 3 (.int .i64))))), .int .i64, .int .i64, .sl true 3 (.int .i64), .sl true 24 (.sl true 3 (.int .i64))], [(1, .one (.h 0)), (2, .pl 2 0), (4, .pl 4 0), (6, .pl 6 0), (20, .one (.h 1)), (21, .one (.h 2))], [(2, [.h 3]), (4, [.h 4, .nil, .nil]), (6, [.h 5, .vw 196608, .vw 196609])], [(196608, 6), (196609, 7)], [], []⟩ [(.x 0, ⟨[.int .i64, .pt (.pair (.sl false 22 (.sl false 5 (.int .u8))) (.pair (.sl false 5 (.int .u8)) (.pair (.sl false 3 (.int .i64)) (.sl false 3 (.int .i64))))), .int .i64, .int .i64, .sl true 3 (.int .i64), .sl true 24 (.sl true 3 (.int .i64))], [(1, .one (.h 0)), (2, .pl 2 0), (4, .pl 4 0), (6, .pl 6 0)], [(2, [.h 1]), (4, [.h 2, .nil, .nil]), (6, [.h 3, .vw 196672, .vw 196673])], [(196672, 4), (196673, 5)], [], []⟩)] .nil))) (.seq .nil (.seq .nil (.seq (.seq (.reg [(.n, ⟨[.sl true 3 (.int .i64), .bool, .pt (.pair (.sl false 22 (.sl false 5 (.int .u8))) (.pair (.sl false 5 (.int .u8)) (.pair (.sl false 3 (.int .i64)) (.sl false 3 (.int .i64))))), .int .i64, .int .i64, .sl true 3 (.int .i64), .sl true 24 (.sl true 3 (.int .i64))], [(2, .pl 2 0), (4, .pl 4 0), (6, .pl 6 0), (8, .one (.vw 196674)), (44, .one (.h 1))], [(2, [.h 2]), (4, [.h 3, .nil, .nil]), (6, [.h 4, .vw 196675, .vw 196676])], [(196674, 0), (196675, 5), (196676, 6)], [], []⟩)]) .nil) (.seq (.seq .nil (.block [] (.loop ⟨[.sl true 3 (.int .i64), .int .i64, .int .i64, .pt (.pair (.sl false 22 (.sl false 5 (.int .u8))) (.pair (.sl false 5 (.int .u8)) (.pair (.sl false 3 (.int .i64)) (.sl false 3 (.int .i64))))), .int .i64, .int .i64, .sl true 3 (.int .i64), .sl true 24 (.sl true 3 (.int .i64))], [(2, .pl 2 0), (4, .pl 4 0), (6, .pl 6 0), (8, .one (.vw 196677)), (46, .one (.vw 196677)), (47, .one (.h 1)), (48, .one (.h 2))], [(2, [.h 3]), (4, [.h 4, .nil, .nil]), (6, [.h 5, .vw 196678, .vw 196679])], [(196677, 0), (196678, 6), (196679, 7)], [], []⟩ [(.x 2, ⟨[.int .i64, .int .i64, .sl true 3 (.int .i64), .sl true 24 (.sl true 3 (.int .i64))], [(4, .pl 4 0), (6, .pl 6 0)], [(4, [.h 0, .nil, .nil]), (6, [.h 1, .vw 196748, .vw 196749])], [(196748, 2), (196749, 3)], [], []⟩), (.r, ⟨[.bool, .int .i64], [(4, .pl 4 0), (5, .one (.h 0))], [(4, [.h 1, .nil, .nil])], [], [], []⟩)] (.seq .nil (.seq .nil (.seq (.block [(.n, ⟨[.sl true 3 (.int .i64), .int .i64, .int .i64, .pt (.pair (.sl false 22 (.sl false 5 (.int .u8))) (.pair (.sl false 5 (.int .u8)) (.pair (.sl false 3 (.int .i64)) (.sl false 3 (.int .i64))))), .int .i64, .int .i64, .sl true 3 (.int .i64), .sl true 24 (.sl true 3 (.int .i64))], [(2, .pl 2 0), (4, .pl 4 0), (6, .pl 6 0), (8, .one (.vw 196745)), (46, .one (.vw 196745)), (47, .one (.h 1)), (48, .one (.h 2))], [(2, [.h 3]), (4, [.h 4, .nil, .nil]), (6, [.h 5, .vw 196746, .vw 196747])], [(196745, 0), (196746, 6), (196747, 7)], [], []⟩), (.r, ⟨[.bool, .int .i64], [(4, .pl 4 0), (5, .one (.h 0))], [(4, [.h 1, .nil, .nil])], [], [], []⟩)] (.seq .nil (.seq .nil (.seq .nil (.seq (.seq (.reg [(.n, ⟨[.sl true 3 (.int .i64), .int .i64, .int .i64, .sl true 3 (.int .i64), .int .i64, .int .i64, .bool, .pt (.pair (.sl false 22 (.sl false 5 (.int .u8))) (.pair (.sl false 5 (.int .u8)) (.pair (.sl false 3 (.int .i64)) (.sl false 3 (.int .i64))))), .int .i64, .int .i64, .sl true 3 (.int .i64), .sl true 24 (.sl true 3 (.int .i64))], [(2, .pl 2 0), (4, .pl 4 0), (6, .pl 6 0), (8, .one (.vw 196741)), (10, .one (.h 1)), (11, .one (.h 2)), (12, .one (.vw 196742)), (46, .one (.vw 196741)), (47, .one (.h 4)), (48, .one (.h 5)), (78, .one (.h 6))], [(2, [.h 7]), (4, [.h 8, .nil, .nil]), (6, [.h 9, .vw 196743, .vw 196744])], [(196741, 0), (196742, 3), (196743, 10), (196744, 11)], [], []⟩)]) .nil) .nil))))) .nil)))))) .nil))))))
def env_i_Space_tree : Env := envOf ti [k_i_Space_page, k_i_isEmpty, k_slices_Contains_int_int, k_slices_ContainsFunc_int_int_l_i_Space_tree_1, k_i_Space_tree_1] []
theorem eok_i_Space_tree : EnvOk Try.prog env_i_Space_tree := envOf_ok tab mix _ _ (by
  intro k hk
  simp only [List.mem_cons, List.not_mem_nil, or_false] at hk
  rcases hk with rfl | rfl | rfl | rfl | rfl
  · exact s_i_Space_page
  · exact s_i_isEmpty
  · exact s_slices_Contains_int_int
  · exact s_slices_ContainsFunc_int_int_l_i_Space_tree_1
  · exact s_i_Space_tree_1)
theorem v_i_Space_tree (x0 : (List (List Int) × (List Int × (List Int × List Int)))) (x1 : Int) : (vfun env_i_Space_tree Try.f106 J_i_Space_tree ann_i_Space_tree [] [.rp (.pair (.sl false 22 (.sl false 5 (.int .u8))) (.pair (.sl false 5 (.int .u8)) (.pair (.sl false 3 (.int .i64)) (.sl false 3 (.int .i64))))) x0 0, .one ⟨.int .i64, x1⟩] []).run = (G.i_Space_tree x0 x1).bind fun y => some (Res.mk [.ag [⟨.int .i64, y.2.1⟩, ⟨.sl true 3 (.int .i64), y.2.2.1⟩, ⟨.sl true 24 (.sl true 3 (.int .i64)), y.2.2.2⟩], .one ⟨.bool, y.1⟩] [] []) := by kernel_rfl
def k_i_Space_tree : Kn := ⟨106, [3, 0], fun args rows => match args, rows with
  | [.rp (.pair (.sl false 22 (.sl false 5 (.int .u8))) (.pair (.sl false 5 (.int .u8)) (.pair (.sl false 3 (.int .i64)) (.sl false 3 (.int .i64))))) x0 0, .one ⟨.int .i64, x1⟩], [] => some ⟨_, G.i_Space_tree x0 x1, fun y => ⟨[.ag [⟨.int .i64, y.2.1⟩, ⟨.sl true 3 (.int .i64), y.2.2.1⟩, ⟨.sl true 24 (.sl true 3 (.int .i64)), y.2.2.2⟩], .one ⟨.bool, y.1⟩], [], []⟩⟩
  | _, _ => none, []⟩
theorem s_i_Space_tree : KnOk Try.prog k_i_Space_tree := by
  intro args rows a h y hy
  simp only [k_i_Space_tree] at h
  split at h
  · injection h with h
    subst h
    exact vfun_ok eok_i_Space_tree Try.func106 rfl (by rw [v_i_Space_tree]; simp only at hy; rw [hy]; rfl)
  · cases h
def J_i_treeOf : Joins := [(.r, ⟨[.bool, .int .i64, .sl true 3 (.int .i64), .sl true 24 (.sl true 3 (.int .i64))], [(4, .pl 4 0), (5, .one (.h 0))], [(4, [.h 1, .vw 116736, .vw 116737])], [(116736, 2), (116737, 3)], [], []⟩)]
def ann_i_treeOf : Ann := .nil
def env_i_treeOf : Env := envOf ti [k_i_GoodSpace, k_i_Space_tree] []
theorem eok_i_treeOf : EnvOk Try.prog env_i_treeOf := envOf_ok tab mix _ _ (by
  intro k hk
  simp only [List.mem_cons, List.not_mem_nil, or_false] at hk
  rcases hk with rfl | rfl
  · exact s_i_GoodSpace
  · exact s_i_Space_tree)
theorem v_i_treeOf (x0 : List (List Int)) (x1 : List Int) (x2 : List Int) (x3 : List Int) (x4 : Int) : (vfun env_i_treeOf Try.f52 J_i_treeOf ann_i_treeOf [] [.ag [⟨.sl false 22 (.sl false 5 (.int .u8)), x0⟩, ⟨.sl false 5 (.int .u8), x1⟩, ⟨.sl false 3 (.int .i64), x2⟩, ⟨.sl false 3 (.int .i64), x3⟩], .one ⟨.int .i64, x4⟩] []).run = (G.i_treeOf x0 x1 x2 x3 x4).bind fun y => some (Res.mk [.ag [⟨.int .i64, y.2.1⟩, ⟨.sl true 3 (.int .i64), y.2.2.1⟩, ⟨.sl true 24 (.sl true 3 (.int .i64)), y.2.2.2⟩], .one ⟨.bool, y.1⟩] [] []) := by kernel_rfl
def k_i_treeOf : Kn := ⟨52, [0, 0], fun args rows => match args, rows with
  | [.ag [⟨.sl false 22 (.sl false 5 (.int .u8)), x0⟩, ⟨.sl false 5 (.int .u8), x1⟩, ⟨.sl false 3 (.int .i64), x2⟩, ⟨.sl false 3 (.int .i64), x3⟩], .one ⟨.int .i64, x4⟩], [] => some ⟨_, G.i_treeOf x0 x1 x2 x3 x4, fun y => ⟨[.ag [⟨.int .i64, y.2.1⟩, ⟨.sl true 3 (.int .i64), y.2.2.1⟩, ⟨.sl true 24 (.sl true 3 (.int .i64)), y.2.2.2⟩], .one ⟨.bool, y.1⟩], [], []⟩⟩
  | _, _ => none, []⟩
theorem s_i_treeOf : KnOk Try.prog k_i_treeOf := by
  intro args rows a h y hy
  simp only [k_i_treeOf] at h
  split at h
  · injection h with h
    subst h
    exact vfun_ok eok_i_treeOf Try.func52 rfl (by rw [v_i_treeOf]; simp only at hy; rw [hy]; rfl)
  · cases h
def J_i_Space_areSets_ffff : Joins := [(.r, ⟨[.bool, .sl false 22 (.sl false 5 (.int .u8)), .sl false 5 (.int .u8), .sl false 3 (.int .i64), .sl false 3 (.int .i64)], [(4, .one (.h 0))], [(50, [.h 1, .h 2, .h 3, .h 4])], [], [], []⟩)]
def ann_i_Space_areSets_ffff : Ann := .seq .nil (.seq (.seq .nil (.block [] (.loop ⟨[.sl false 35 (.pair (.int .i64) (.int .i64)), .sl false 35 (.pair (.int .i64) (.int .i64)), .int .i64, .int .i64, .sl false 22 (.sl false 5 (.int .u8)), .sl false 5 (.int .u8), .sl false 3 (.int .i64), .sl false 3 (.int .i64)], [(0, .pl 50 0), (1, .one (.h 0)), (7, .one (.h 1)), (8, .one (.h 2)), (9, .one (.h 3))], [(50, [.h 4, .h 5, .h 6, .h 7])], [], [], []⟩ [(.x 0, ⟨[.sl false 35 (.pair (.int .i64) (.int .i64)), .sl false 22 (.sl false 5 (.int .u8)), .sl false 5 (.int .u8), .sl false 3 (.int .i64), .sl false 3 (.int .i64)], [(1, .one (.h 0))], [(50, [.h 1, .h 2, .h 3, .h 4])], [], [], []⟩), (.r, ⟨[.bool, .sl false 22 (.sl false 5 (.int .u8)), .sl false 5 (.int .u8), .sl false 3 (.int .i64), .sl false 3 (.int .i64)], [(4, .one (.h 0))], [(50, [.h 1, .h 2, .h 3, .h 4])], [], [], []⟩)] (.seq .nil (.seq .nil (.seq (.block [] (.seq .nil (.seq (.reg [(.n, ⟨[.sl false 35 (.pair (.int .i64) (.int .i64)), .sl false 35 (.pair (.int .i64) (.int .i64)), .int .i64, .int .i64, .bool, .sl false 22 (.sl false 5 (.int .u8)), .sl false 5 (.int .u8), .sl false 3 (.int .i64), .sl false 3 (.int .i64)], [(0, .pl 50 0), (1, .one (.h 0)), (7, .one (.h 1)), (8, .one (.h 2)), (9, .one (.h 3)), (44, .one (.h 4))], [(50, [.h 5, .h 6, .h 7, .h 8])], [], [], []⟩)]) .nil))) .nil)))))) .nil)
def env_i_Space_areSets_ffff : Env := envOf ti [k_i_within, k_i_Space_isHere_ffff] []
theorem eok_i_Space_areSets_ffff : EnvOk Try.prog env_i_Space_areSets_ffff := envOf_ok tab mix _ _ (by
  intro k hk
  simp only [List.mem_cons, List.not_mem_nil, or_false] at hk
  rcases hk with rfl | rfl
  · exact s_i_within
  · exact s_i_Space_isHere_ffff)
theorem v_i_Space_areSets_ffff (x0 : List (Int × Int)) (x1 : List (List Int)) (x2 : List Int) (x3 : List Int) (x4 : List Int) : (vfun env_i_Space_areSets_ffff Try.f53 J_i_Space_areSets_ffff ann_i_Space_areSets_ffff [] [.pl 0 0, .one ⟨.sl false 35 (.pair (.int .i64) (.int .i64)), x0⟩] [[⟨.sl false 22 (.sl false 5 (.int .u8)), x1⟩, ⟨.sl false 5 (.int .u8), x2⟩, ⟨.sl false 3 (.int .i64), x3⟩, ⟨.sl false 3 (.int .i64), x4⟩]]).run = (G.i_Space_areSets_ffff x0 x1 x2 x3 x4).bind fun y => some (Res.mk [.one ⟨.bool, y.1⟩] [[⟨.sl false 22 (.sl false 5 (.int .u8)), y.2.1⟩, ⟨.sl false 5 (.int .u8), y.2.2.1⟩, ⟨.sl false 3 (.int .i64), y.2.2.2.1⟩, ⟨.sl false 3 (.int .i64), y.2.2.2.2⟩]] []) := by kernel_rfl
def k_i_Space_areSets_ffff : Kn := ⟨53, [0, 0], fun args rows => match args, rows with
  | [.pl 0 0, .one ⟨.sl false 35 (.pair (.int .i64) (.int .i64)), x0⟩], [[⟨.sl false 22 (.sl false 5 (.int .u8)), x1⟩, ⟨.sl false 5 (.int .u8), x2⟩, ⟨.sl false 3 (.int .i64), x3⟩, ⟨.sl false 3 (.int .i64), x4⟩]] => some ⟨_, G.i_Space_areSets_ffff x0 x1 x2 x3 x4, fun y => ⟨[.one ⟨.bool, y.1⟩], [[⟨.sl false 22 (.sl false 5 (.int .u8)), y.2.1⟩, ⟨.sl false 5 (.int .u8), y.2.2.1⟩, ⟨.sl false 3 (.int .i64), y.2.2.2.1⟩, ⟨.sl false 3 (.int .i64), y.2.2.2.2⟩]], []⟩⟩
  | _, _ => none, []⟩
theorem s_i_Space_areSets_ffff : KnOk Try.prog k_i_Space_areSets_ffff := by
  intro args rows a h y hy
  simp only [k_i_Space_areSets_ffff] at h
  split at h
  · injection h with h
    subst h
    exact vfun_ok eok_i_Space_areSets_ffff Try.func53 rfl (by rw [v_i_Space_areSets_ffff]; simp only at hy; rw [hy]; rfl)
  · cases h
def J_slices_Clone_byte_byte : Joins := [(.r, ⟨[.sl true 5 (.int .u8)], [(2, .one (.vw 110593))], [], [(110593, 0)], [], []⟩)]
def ann_slices_Clone_byte_byte : Ann := .seq .nil (.both [(.r, ⟨[.sl true 5 (.int .u8)], [(2, .one (.vw 110592))], [], [(110592, 0)], [], []⟩)] .nil .nil .nil .nil .nil)
def env_slices_Clone_byte_byte : Env := envOf ti [] []
theorem eok_slices_Clone_byte_byte : EnvOk Try.prog env_slices_Clone_byte_byte := envOf_ok tab mix _ _ (by
  intro k hk; cases hk)
theorem v_slices_Clone_byte_byte (x0 : List Int) : (vfun env_slices_Clone_byte_byte Try.f88 J_slices_Clone_byte_byte ann_slices_Clone_byte_byte [] [.one ⟨.sl false 5 (.int .u8), x0⟩] []).run = (G.slices_Clone_byte_byte x0).bind fun y => some (Res.mk [.one ⟨.sl true 5 (.int .u8), y⟩] [] []) := by kernel_rfl
def k_slices_Clone_byte_byte : Kn := ⟨88, [0], fun args rows => match args, rows with
  | [.one ⟨.sl false 5 (.int .u8), x0⟩], [] => some ⟨_, G.slices_Clone_byte_byte x0, fun y => ⟨[.one ⟨.sl true 5 (.int .u8), y⟩], [], []⟩⟩
  | _, _ => none, []⟩
theorem s_slices_Clone_byte_byte : KnOk Try.prog k_slices_Clone_byte_byte := by
  intro args rows a h y hy
  simp only [k_slices_Clone_byte_byte] at h
  split at h
  · injection h with h
    subst h
    exact vfun_ok eok_slices_Clone_byte_byte Try.func88 rfl (by rw [v_slices_Clone_byte_byte]; simp only at hy; rw [hy]; rfl)
  · cases h
def J_i_copyBlocks : Joins := [(.r, ⟨[.sl true 22 (.sl true 5 (.int .u8))], [(2, .one (.vw 122945))], [], [(122945, 0)], [], []⟩)]
def ann_i_copyBlocks : Ann := .seq .nil (.seq .nil (.seq (.seq .nil (.block [] (.loop ⟨[.sl true 22 (.sl true 5 (.int .u8)), .sl false 22 (.sl false 5 (.int .u8)), .int .i64, .int .i64], [(3, .one (.vw 122880)), (7, .one (.h 1)), (8, .one (.h 2)), (9, .one (.h 3))], [], [(122880, 0)], [], []⟩ [(.x 0, ⟨[.sl true 22 (.sl true 5 (.int .u8))], [(3, .one (.vw 122944))], [], [(122944, 0)], [], []⟩)] .nil))) .nil))
def env_i_copyBlocks : Env := envOf ti [k_slices_Clone_byte_byte] []
theorem eok_i_copyBlocks : EnvOk Try.prog env_i_copyBlocks := envOf_ok tab mix _ _ (by
  intro k hk
  simp only [List.mem_cons, List.not_mem_nil, or_false] at hk
  rcases hk with rfl
  · exact s_slices_Clone_byte_byte)
theorem v_i_copyBlocks (x0 : List (List Int)) : (vfun env_i_copyBlocks Try.f109 J_i_copyBlocks ann_i_copyBlocks [] [.one ⟨.sl false 22 (.sl false 5 (.int .u8)), x0⟩] []).run = (G.i_copyBlocks x0).bind fun y => some (Res.mk [.one ⟨.sl true 22 (.sl true 5 (.int .u8)), y⟩] [] []) := by kernel_rfl
def k_i_copyBlocks : Kn := ⟨109, [0], fun args rows => match args, rows with
  | [.one ⟨.sl false 22 (.sl false 5 (.int .u8)), x0⟩], [] => some ⟨_, G.i_copyBlocks x0, fun y => ⟨[.one ⟨.sl true 22 (.sl true 5 (.int .u8)), y⟩], [], []⟩⟩
  | _, _ => none, []⟩
theorem s_i_copyBlocks : KnOk Try.prog k_i_copyBlocks := by
  intro args rows a h y hy
  simp only [k_i_copyBlocks] at h
  split at h
  · injection h with h
    subst h
    exact vfun_ok eok_i_copyBlocks Try.func109 rfl (by rw [v_i_copyBlocks]; simp only at hy; rw [hy]; rfl)
  · cases h
def J_slices_Clone_int_int : Joins := [(.r, ⟨[.sl true 3 (.int .i64)], [(2, .one (.vw 110593))], [], [(110593, 0)], [], []⟩)]
def ann_slices_Clone_int_int : Ann := .seq .nil (.both [(.r, ⟨[.sl true 3 (.int .i64)], [(2, .one (.vw 110592))], [], [(110592, 0)], [], []⟩)] .nil .nil .nil .nil .nil)
def env_slices_Clone_int_int : Env := envOf ti [] []
theorem eok_slices_Clone_int_int : EnvOk Try.prog env_slices_Clone_int_int := envOf_ok tab mix _ _ (by
  intro k hk; cases hk)
theorem v_slices_Clone_int_int (x0 : List Int) : (vfun env_slices_Clone_int_int Try.f110 J_slices_Clone_int_int ann_slices_Clone_int_int [] [.one ⟨.sl false 3 (.int .i64), x0⟩] []).run = (G.slices_Clone_int_int x0).bind fun y => some (Res.mk [.one ⟨.sl true 3 (.int .i64), y⟩] [] []) := by kernel_rfl
def k_slices_Clone_int_int : Kn := ⟨110, [0], fun args rows => match args, rows with
  | [.one ⟨.sl false 3 (.int .i64), x0⟩], [] => some ⟨_, G.slices_Clone_int_int x0, fun y => ⟨[.one ⟨.sl true 3 (.int .i64), y⟩], [], []⟩⟩
  | _, _ => none, []⟩
theorem s_slices_Clone_int_int : KnOk Try.prog k_slices_Clone_int_int := by
  intro args rows a h y hy
  simp only [k_slices_Clone_int_int] at h
  split at h
  · injection h with h
    subst h
    exact vfun_ok eok_slices_Clone_int_int Try.func110 rfl (by rw [v_slices_Clone_int_int]; simp only at hy; rw [hy]; rfl)
  · cases h
def J_i_Space_copied : Joins := [(.r, ⟨[.sl true 22 (.sl true 5 (.int .u8)), .sl true 5 (.int .u8), .sl true 3 (.int .i64), .sl true 3 (.int .i64)], [(2, .pl 2 0)], [(2, [.vw 118784, .vw 118785, .vw 118786, .vw 118787])], [(118784, 0), (118785, 1), (118786, 2), (118787, 3)], [], []⟩)]
def ann_i_Space_copied : Ann := .nil
def env_i_Space_copied : Env := envOf ti [k_i_copyBlocks, k_slices_Clone_byte_byte, k_slices_Clone_int_int] []
theorem eok_i_Space_copied : EnvOk Try.prog env_i_Space_copied := envOf_ok tab mix _ _ (by
  intro k hk
  simp only [List.mem_cons, List.not_mem_nil, or_false] at hk
  rcases hk with rfl | rfl | rfl
  · exact s_i_copyBlocks
  · exact s_slices_Clone_byte_byte
  · exact s_slices_Clone_int_int)
theorem v_i_Space_copied (x0 : List (List Int)) (x1 : List Int) (x2 : List Int) (x3 : List Int) : (vfun env_i_Space_copied Try.f54 J_i_Space_copied ann_i_Space_copied [] [.ag [⟨.sl false 22 (.sl false 5 (.int .u8)), x0⟩, ⟨.sl false 5 (.int .u8), x1⟩, ⟨.sl false 3 (.int .i64), x2⟩, ⟨.sl false 3 (.int .i64), x3⟩]] []).run = (G.i_Space_copied x0 x1 x2 x3).bind fun y => some (Res.mk [.ag [⟨.sl true 22 (.sl true 5 (.int .u8)), y.1⟩, ⟨.sl true 5 (.int .u8), y.2.1⟩, ⟨.sl true 3 (.int .i64), y.2.2.1⟩, ⟨.sl true 3 (.int .i64), y.2.2.2⟩]] [] []) := by kernel_rfl
def k_i_Space_copied : Kn := ⟨54, [0], fun args rows => match args, rows with
  | [.ag [⟨.sl false 22 (.sl false 5 (.int .u8)), x0⟩, ⟨.sl false 5 (.int .u8), x1⟩, ⟨.sl false 3 (.int .i64), x2⟩, ⟨.sl false 3 (.int .i64), x3⟩]], [] => some ⟨_, G.i_Space_copied x0 x1 x2 x3, fun y => ⟨[.ag [⟨.sl true 22 (.sl true 5 (.int .u8)), y.1⟩, ⟨.sl true 5 (.int .u8), y.2.1⟩, ⟨.sl true 3 (.int .i64), y.2.2.1⟩, ⟨.sl true 3 (.int .i64), y.2.2.2⟩]], [], []⟩⟩
  | _, _ => none, []⟩
theorem s_i_Space_copied : KnOk Try.prog k_i_Space_copied := by
  intro args rows a h y hy
  simp only [k_i_Space_copied] at h
  split at h
  · injection h with h
    subst h
    exact vfun_ok eok_i_Space_copied Try.func54 rfl (by rw [v_i_Space_copied]; simp only at hy; rw [hy]; rfl)
  · cases h
def J_cmp_isNaN_int : Joins := [(.r, ⟨[.bool], [(2, .one (.h 0))], [], [], [], []⟩)]
def ann_cmp_isNaN_int : Ann := .nil
def env_cmp_isNaN_int : Env := envOf ti [] []
theorem eok_cmp_isNaN_int : EnvOk Try.prog env_cmp_isNaN_int := envOf_ok tab mix _ _ (by
  intro k hk; cases hk)
theorem v_cmp_isNaN_int (x0 : Int) : (vfun env_cmp_isNaN_int Try.f179 J_cmp_isNaN_int ann_cmp_isNaN_int [] [.one ⟨.int .i64, x0⟩] []).run = (G.cmp_isNaN_int x0).bind fun y => some (Res.mk [.one ⟨.bool, y⟩] [] []) := by kernel_rfl
def k_cmp_isNaN_int : Kn := ⟨179, [0], fun args rows => match args, rows with
  | [.one ⟨.int .i64, x0⟩], [] => some ⟨_, G.cmp_isNaN_int x0, fun y => ⟨[.one ⟨.bool, y⟩], [], []⟩⟩
  | _, _ => none, []⟩
theorem s_cmp_isNaN_int : KnOk Try.prog k_cmp_isNaN_int := by
  intro args rows a h y hy
  simp only [k_cmp_isNaN_int] at h
  split at h
  · injection h with h
    subst h
    exact vfun_ok eok_cmp_isNaN_int Try.func179 rfl (by rw [v_cmp_isNaN_int]; simp only at hy; rw [hy]; rfl)
  · cases h
def J_cmp_Less_int : Joins := [(.r, ⟨[.bool], [(4, .one (.h 0))], [], [], [], []⟩)]
def ann_cmp_Less_int : Ann := .seq .nil (.seq (.reg [(.n, ⟨[.bool], [(4, .one (.h 0))], [], [], [], []⟩)]) .nil)
def env_cmp_Less_int : Env := envOf ti [k_cmp_isNaN_int] []
theorem eok_cmp_Less_int : EnvOk Try.prog env_cmp_Less_int := envOf_ok tab mix _ _ (by
  intro k hk
  simp only [List.mem_cons, List.not_mem_nil, or_false] at hk
  rcases hk with rfl
  · exact s_cmp_isNaN_int)
theorem v_cmp_Less_int (x0 : Int) (x1 : Int) : (vfun env_cmp_Less_int Try.f168 J_cmp_Less_int ann_cmp_Less_int [] [.one ⟨.int .i64, x0⟩, .one ⟨.int .i64, x1⟩] []).run = (G.cmp_Less_int x0 x1).bind fun y => some (Res.mk [.one ⟨.bool, y⟩] [] []) := by kernel_rfl
def k_cmp_Less_int : Kn := ⟨168, [0, 0], fun args rows => match args, rows with
  | [.one ⟨.int .i64, x0⟩, .one ⟨.int .i64, x1⟩], [] => some ⟨_, G.cmp_Less_int x0 x1, fun y => ⟨[.one ⟨.bool, y⟩], [], []⟩⟩
  | _, _ => none, []⟩
theorem s_cmp_Less_int : KnOk Try.prog k_cmp_Less_int := by
  intro args rows a h y hy
  simp only [k_cmp_Less_int] at h
  split at h
  · injection h with h
    subst h
    exact vfun_ok eok_cmp_Less_int Try.func168 rfl (by rw [v_cmp_Less_int]; simp only at hy; rw [hy]; rfl)
  · cases h
def J_slices_isNaN_int : Joins := [(.r, ⟨[.bool], [(2, .one (.h 0))], [], [], [], []⟩)]
def ann_slices_isNaN_int : Ann := .nil
def env_slices_isNaN_int : Env := envOf ti [] []
theorem eok_slices_isNaN_int : EnvOk Try.prog env_slices_isNaN_int := envOf_ok tab mix _ _ (by
  intro k hk; cases hk)
theorem v_slices_isNaN_int (x0 : Int) : (vfun env_slices_isNaN_int Try.f169 J_slices_isNaN_int ann_slices_isNaN_int [] [.one ⟨.int .i64, x0⟩] []).run = (G.slices_isNaN_int x0).bind fun y => some (Res.mk [.one ⟨.bool, y⟩] [] []) := by kernel_rfl
def k_slices_isNaN_int : Kn := ⟨169, [0], fun args rows => match args, rows with
  | [.one ⟨.int .i64, x0⟩], [] => some ⟨_, G.slices_isNaN_int x0, fun y => ⟨[.one ⟨.bool, y⟩], [], []⟩⟩
  | _, _ => none, []⟩
theorem s_slices_isNaN_int : KnOk Try.prog k_slices_isNaN_int := by
  intro args rows a h y hy
  simp only [k_slices_isNaN_int] at h
  split at h
  · injection h with h
    subst h
    exact vfun_ok eok_slices_isNaN_int Try.func169 rfl (by rw [v_slices_isNaN_int]; simp only at hy; rw [hy]; rfl)
  · cases h
def J_slices_BinarySearch_int_int : Joins := [(.r, ⟨[.int .i64, .bool], [(4, .one (.h 0)), (5, .one (.h 1))], [], [], [], []⟩)]
def ann_slices_BinarySearch_int_int : Ann := .seq .nil (.seq .nil (.seq .nil (.seq (.block [] (.loop ⟨[.sl false 3 (.int .i64), .int .i64, .int .i64, .int .i64, .int .i64], [(0, .one (.h 0)), (1, .one (.h 1)), (6, .one (.h 2)), (7, .one (.h 3)), (8, .one (.h 4))], [], [], [], []⟩ [(.x 0, ⟨[.sl false 3 (.int .i64), .int .i64, .int .i64, .int .i64], [(0, .one (.h 0)), (1, .one (.h 1)), (6, .one (.h 2)), (7, .one (.h 3))], [], [], [], []⟩)] (.seq .nil (.block [] (.seq .nil (.seq .nil (.cond [(.n, ⟨[.sl false 3 (.int .i64), .int .i64, .int .i64, .int .i64, .int .i64], [(0, .one (.h 0)), (1, .one (.h 1)), (6, .one (.h 2)), (7, .one (.h 3)), (8, .one (.h 4))], [], [], [], []⟩)] .nil .nil))))))) (.seq (.reg [(.n, ⟨[.int .i64, .bool], [(4, .one (.h 0)), (5, .one (.h 1))], [], [], [], []⟩)]) .nil))))
def env_slices_BinarySearch_int_int : Env := envOf ti [k_cmp_Less_int, k_slices_isNaN_int] []
theorem eok_slices_BinarySearch_int_int : EnvOk Try.prog env_slices_BinarySearch_int_int := envOf_ok tab mix _ _ (by
  intro k hk
  simp only [List.mem_cons, List.not_mem_nil, or_false] at hk
  rcases hk with rfl | rfl
  · exact s_cmp_Less_int
  · exact s_slices_isNaN_int)
theorem v_slices_BinarySearch_int_int (x0 : List Int) (x1 : Int) : (vfun env_slices_BinarySearch_int_int Try.f149 J_slices_BinarySearch_int_int ann_slices_BinarySearch_int_int [] [.one ⟨.sl false 3 (.int .i64), x0⟩, .one ⟨.int .i64, x1⟩] []).run = (G.slices_BinarySearch_int_int x0 x1).bind fun y => some (Res.mk [.one ⟨.int .i64, y.1⟩, .one ⟨.bool, y.2⟩] [] []) := by kernel_rfl
def k_slices_BinarySearch_int_int : Kn := ⟨149, [0, 0], fun args rows => match args, rows with
  | [.one ⟨.sl false 3 (.int .i64), x0⟩, .one ⟨.int .i64, x1⟩], [] => some ⟨_, G.slices_BinarySearch_int_int x0 x1, fun y => ⟨[.one ⟨.int .i64, y.1⟩, .one ⟨.bool, y.2⟩], [], []⟩⟩
  | _, _ => none, []⟩
theorem s_slices_BinarySearch_int_int : KnOk Try.prog k_slices_BinarySearch_int_int := by
  intro args rows a h y hy
  simp only [k_slices_BinarySearch_int_int] at h
  split at h
  · injection h with h
    subst h
    exact vfun_ok eok_slices_BinarySearch_int_int Try.func149 rfl (by rw [v_slices_BinarySearch_int_int]; simp only at hy; rw [hy]; rfl)
  · cases h
end
end Go.Proofs.Ytijemcbcchnnjaa

set_option linter.unusedVariables false
set_option maxRecDepth 100000
namespace Go.Proofs.Ytijemcbcchnnjaa
open Go.V
noncomputable section
def rho : Go.Shelf.Ren := ⟨fun x => match x with | 21 => 150 | 27 => 170 | 28 => 171 | 35 => 180 | 39 => 182 | n => n, fun x => match x with | 22 => 24 | 3 => 3 | 4 => 4 | 0 => 0 | n => n, fun n => n⟩
theorem insL : Go.Proofs.Lays2.n21 Try.prog rho := lays_of mix (by kernel_rfl) (by kernel_rfl) (by kernel_rfl) (by kernel_rfl) (by kernel_rfl) (by kernel_rfl) (by kernel_rfl) (by kernel_rfl) (by kernel_rfl) (by kernel_rfl) (by kernel_rfl) (by kernel_rfl) (by kernel_rfl)
def k_slices_Insert_int_int : Kn := ⟨150, [1, 0, 1], fun args rows => match args, rows with
  | [.one ⟨.sl true 3 (.int .i64), x0⟩, .one ⟨.int .i64, x1⟩, .one ⟨.sl true 3 (.int .i64), x2⟩], [] => some ⟨_, G.slices_Insert_int_int x0 x1 x2, fun y => ⟨[.one ⟨.sl true 3 (.int .i64), y⟩], [], []⟩⟩
  | _, _ => none, []⟩
theorem s_slices_Insert_int_int : KnOk Try.prog k_slices_Insert_int_int := by
  intro args rows a h y hy
  simp only [k_slices_Insert_int_int] at h
  split at h
  · injection h with h
    subst h
    exact ins_known insL hy
  · cases h
def J_i_insert : Joins := [(.r, ⟨[.sl true 3 (.int .i64)], [(4, .one (.vw 122880))], [], [(122880, 0)], [], []⟩)]
def ann_i_insert : Ann := .nil
def env_i_insert : Env := envOf ti [k_slices_BinarySearch_int_int, k_slices_Insert_int_int] []
theorem eok_i_insert : EnvOk Try.prog env_i_insert := envOf_ok tab mix _ _ (by
  intro k hk
  simp only [List.mem_cons, List.not_mem_nil, or_false] at hk
  rcases hk with rfl | rfl
  · exact s_slices_BinarySearch_int_int
  · exact s_slices_Insert_int_int)
theorem v_i_insert (x0 : List Int) (x1 : Int) : (vfun env_i_insert Try.f111 J_i_insert ann_i_insert [] [.one ⟨.sl true 3 (.int .i64), x0⟩, .one ⟨.int .i64, x1⟩] []).run = (G.i_insert x0 x1).bind fun y => some (Res.mk [.one ⟨.sl true 3 (.int .i64), y⟩] [] []) := by kernel_rfl
def k_i_insert : Kn := ⟨111, [1, 0], fun args rows => match args, rows with
  | [.one ⟨.sl true 3 (.int .i64), x0⟩, .one ⟨.int .i64, x1⟩], [] => some ⟨_, G.i_insert x0 x1, fun y => ⟨[.one ⟨.sl true 3 (.int .i64), y⟩], [], []⟩⟩
  | _, _ => none, []⟩
theorem s_i_insert : KnOk Try.prog k_i_insert := by
  intro args rows a h y hy
  simp only [k_i_insert] at h
  split at h
  · injection h with h
    subst h
    exact vfun_ok eok_i_insert Try.func111 rfl (by rw [v_i_insert]; simp only at hy; rw [hy]; rfl)
  · cases h
def J_i_Space_lay_oooo : Joins := [(.n, ⟨[.sl true 22 (.sl true 5 (.int .u8)), .sl true 5 (.int .u8), .sl true 3 (.int .i64), .sl true 3 (.int .i64)], [], [(24, [.vw 125952, .vw 125953, .vw 125954, .vw 125955])], [(125952, 0), (125953, 1), (125954, 2), (125955, 3)], [], []⟩)]
def ann_i_Space_lay_oooo : Ann := .nil
def env_i_Space_lay_oooo : Env := envOf ti [k_slices_Clone_byte_byte, k_i_insert] []
theorem eok_i_Space_lay_oooo : EnvOk Try.prog env_i_Space_lay_oooo := envOf_ok tab mix _ _ (by
  intro k hk
  simp only [List.mem_cons, List.not_mem_nil, or_false] at hk
  rcases hk with rfl | rfl
  · exact s_slices_Clone_byte_byte
  · exact s_i_insert)
theorem v_i_Space_lay_oooo (x0 : Int) (x1 : List Int) (x2 : List (List Int)) (x3 : List Int) (x4 : List Int) (x5 : List Int) : (vfun env_i_Space_lay_oooo Try.f152 J_i_Space_lay_oooo ann_i_Space_lay_oooo [] [.pl 0 0, .one ⟨.int .i64, x0⟩, .one ⟨.sl false 5 (.int .u8), x1⟩] [[⟨.sl true 22 (.sl true 5 (.int .u8)), x2⟩, ⟨.sl true 5 (.int .u8), x3⟩, ⟨.sl true 3 (.int .i64), x4⟩, ⟨.sl true 3 (.int .i64), x5⟩]]).run = (G.i_Space_lay_oooo x0 x1 x2 x3 x4 x5).bind fun y => some (Res.mk [] [[⟨.sl true 22 (.sl true 5 (.int .u8)), y.1⟩, ⟨.sl true 5 (.int .u8), y.2.1⟩, ⟨.sl true 3 (.int .i64), y.2.2.1⟩, ⟨.sl true 3 (.int .i64), y.2.2.2⟩]] []) := by kernel_rfl
def k_i_Space_lay_oooo : Kn := ⟨152, [0, 0, 0], fun args rows => match args, rows with
  | [.pl 0 0, .one ⟨.int .i64, x0⟩, .one ⟨.sl false 5 (.int .u8), x1⟩], [[⟨.sl true 22 (.sl true 5 (.int .u8)), x2⟩, ⟨.sl true 5 (.int .u8), x3⟩, ⟨.sl true 3 (.int .i64), x4⟩, ⟨.sl true 3 (.int .i64), x5⟩]] => some ⟨_, G.i_Space_lay_oooo x0 x1 x2 x3 x4 x5, fun y => ⟨[], [[⟨.sl true 22 (.sl true 5 (.int .u8)), y.1⟩, ⟨.sl true 5 (.int .u8), y.2.1⟩, ⟨.sl true 3 (.int .i64), y.2.2.1⟩, ⟨.sl true 3 (.int .i64), y.2.2.2⟩]], []⟩⟩
  | _, _ => none, []⟩
theorem s_i_Space_lay_oooo : KnOk Try.prog k_i_Space_lay_oooo := by
  intro args rows a h y hy
  simp only [k_i_Space_lay_oooo] at h
  split at h
  · injection h with h
    subst h
    exact vfun_ok eok_i_Space_lay_oooo Try.func152 rfl (by rw [v_i_Space_lay_oooo]; simp only at hy; rw [hy]; rfl)
  · cases h
def J_i_Space_used_oooo : Joins := [(.r, ⟨[.bool, .sl true 22 (.sl true 5 (.int .u8)), .sl true 5 (.int .u8), .sl true 3 (.int .i64), .sl true 3 (.int .i64)], [(4, .one (.h 0))], [(19, [.vw 120832, .vw 120833, .vw 120834, .vw 120835])], [(120832, 1), (120833, 2), (120834, 3), (120835, 4)], [], []⟩)]
def ann_i_Space_used_oooo : Ann := .nil
def env_i_Space_used_oooo : Env := envOf ti [] []
theorem eok_i_Space_used_oooo : EnvOk Try.prog env_i_Space_used_oooo := envOf_ok tab mix _ _ (by
  intro k hk; cases hk)
theorem v_i_Space_used_oooo (x0 : Int) (x1 : List (List Int)) (x2 : List Int) (x3 : List Int) (x4 : List Int) : (vfun env_i_Space_used_oooo Try.f66 J_i_Space_used_oooo ann_i_Space_used_oooo [] [.pl 0 0, .one ⟨.int .i64, x0⟩] [[⟨.sl true 22 (.sl true 5 (.int .u8)), x1⟩, ⟨.sl true 5 (.int .u8), x2⟩, ⟨.sl true 3 (.int .i64), x3⟩, ⟨.sl true 3 (.int .i64), x4⟩]]).run = (G.i_Space_used_oooo x0 x1 x2 x3 x4).bind fun y => some (Res.mk [.one ⟨.bool, y.1⟩] [[⟨.sl true 22 (.sl true 5 (.int .u8)), y.2.1⟩, ⟨.sl true 5 (.int .u8), y.2.2.1⟩, ⟨.sl true 3 (.int .i64), y.2.2.2.1⟩, ⟨.sl true 3 (.int .i64), y.2.2.2.2⟩]] []) := by kernel_rfl
def k_i_Space_used_oooo : Kn := ⟨66, [0, 0], fun args rows => match args, rows with
  | [.pl 0 0, .one ⟨.int .i64, x0⟩], [[⟨.sl true 22 (.sl true 5 (.int .u8)), x1⟩, ⟨.sl true 5 (.int .u8), x2⟩, ⟨.sl true 3 (.int .i64), x3⟩, ⟨.sl true 3 (.int .i64), x4⟩]] => some ⟨_, G.i_Space_used_oooo x0 x1 x2 x3 x4, fun y => ⟨[.one ⟨.bool, y.1⟩], [[⟨.sl true 22 (.sl true 5 (.int .u8)), y.2.1⟩, ⟨.sl true 5 (.int .u8), y.2.2.1⟩, ⟨.sl true 3 (.int .i64), y.2.2.2.1⟩, ⟨.sl true 3 (.int .i64), y.2.2.2.2⟩]], []⟩⟩
  | _, _ => none, []⟩
theorem s_i_Space_used_oooo : KnOk Try.prog k_i_Space_used_oooo := by
  intro args rows a h y hy
  simp only [k_i_Space_used_oooo] at h
  split at h
  · injection h with h
    subst h
    exact vfun_ok eok_i_Space_used_oooo Try.func66 rfl (by rw [v_i_Space_used_oooo]; simp only at hy; rw [hy]; rfl)
  · cases h
def J_i_Space_take_oooo : Joins := [(.r, ⟨[.int .i64, .bool, .sl true 22 (.sl true 5 (.int .u8)), .sl true 5 (.int .u8), .sl true 3 (.int .i64), .sl true 3 (.int .i64)], [(2, .one (.h 0)), (3, .one (.h 1))], [(37, [.vw 139336, .vw 139337, .vw 139338, .vw 139339])], [(139336, 2), (139337, 3), (139338, 4), (139339, 5)], [], []⟩)]
def ann_i_Space_take_oooo : Ann := .seq .nil (.seq (.seq .nil (.block [] (.loop ⟨[.int .i64, .int .i64, .sl true 22 (.sl true 5 (.int .u8)), .sl true 5 (.int .u8), .sl true 3 (.int .i64), .sl true 3 (.int .i64)], [(0, .pl 37 0), (9, .one (.h 0)), (10, .one (.h 1))], [(37, [.vw 139264, .vw 139265, .vw 139266, .vw 139267])], [(139264, 2), (139265, 3), (139266, 4), (139267, 5)], [], []⟩ [(.x 0, ⟨[.sl true 22 (.sl true 5 (.int .u8)), .sl true 5 (.int .u8), .sl true 3 (.int .i64), .sl true 3 (.int .i64)], [], [(37, [.vw 139328, .vw 139329, .vw 139330, .vw 139331])], [(139328, 0), (139329, 1), (139330, 2), (139331, 3)], [], []⟩), (.r, ⟨[.int .i64, .bool, .sl true 22 (.sl true 5 (.int .u8)), .sl true 5 (.int .u8), .sl true 3 (.int .i64), .sl true 3 (.int .i64)], [(2, .one (.h 0)), (3, .one (.h 1))], [(37, [.vw 139332, .vw 139333, .vw 139334, .vw 139335])], [(139332, 2), (139333, 3), (139334, 4), (139335, 5)], [], []⟩)] .nil))) .nil)
def env_i_Space_take_oooo : Env := envOf ti [k_i_Space_used_oooo, k_i_Space_lay_oooo] []
theorem eok_i_Space_take_oooo : EnvOk Try.prog env_i_Space_take_oooo := envOf_ok tab mix _ _ (by
  intro k hk
  simp only [List.mem_cons, List.not_mem_nil, or_false] at hk
  rcases hk with rfl | rfl
  · exact s_i_Space_used_oooo
  · exact s_i_Space_lay_oooo)
theorem v_i_Space_take_oooo (x0 : List (List Int)) (x1 : List Int) (x2 : List Int) (x3 : List Int) : (vfun env_i_Space_take_oooo Try.f113 J_i_Space_take_oooo ann_i_Space_take_oooo [] [.pl 0 0] [[⟨.sl true 22 (.sl true 5 (.int .u8)), x0⟩, ⟨.sl true 5 (.int .u8), x1⟩, ⟨.sl true 3 (.int .i64), x2⟩, ⟨.sl true 3 (.int .i64), x3⟩]]).run = (G.i_Space_take_oooo x0 x1 x2 x3).bind fun y => some (Res.mk [.one ⟨.int .i64, y.1⟩, .one ⟨.bool, y.2.1⟩] [[⟨.sl true 22 (.sl true 5 (.int .u8)), y.2.2.1⟩, ⟨.sl true 5 (.int .u8), y.2.2.2.1⟩, ⟨.sl true 3 (.int .i64), y.2.2.2.2.1⟩, ⟨.sl true 3 (.int .i64), y.2.2.2.2.2⟩]] []) := by kernel_rfl
def k_i_Space_take_oooo : Kn := ⟨113, [0], fun args rows => match args, rows with
  | [.pl 0 0], [[⟨.sl true 22 (.sl true 5 (.int .u8)), x0⟩, ⟨.sl true 5 (.int .u8), x1⟩, ⟨.sl true 3 (.int .i64), x2⟩, ⟨.sl true 3 (.int .i64), x3⟩]] => some ⟨_, G.i_Space_take_oooo x0 x1 x2 x3, fun y => ⟨[.one ⟨.int .i64, y.1⟩, .one ⟨.bool, y.2.1⟩], [[⟨.sl true 22 (.sl true 5 (.int .u8)), y.2.2.1⟩, ⟨.sl true 5 (.int .u8), y.2.2.2.1⟩, ⟨.sl true 3 (.int .i64), y.2.2.2.2.1⟩, ⟨.sl true 3 (.int .i64), y.2.2.2.2.2⟩]], []⟩⟩
  | _, _ => none, []⟩
theorem s_i_Space_take_oooo : KnOk Try.prog k_i_Space_take_oooo := by
  intro args rows a h y hy
  simp only [k_i_Space_take_oooo] at h
  split at h
  · injection h with h
    subst h
    exact vfun_ok eok_i_Space_take_oooo Try.func113 rfl (by rw [v_i_Space_take_oooo]; simp only at hy; rw [hy]; rfl)
  · cases h
def J_i_two : Joins := [(.r, ⟨[.sl true 5 (.int .u8)], [(2, .one (.vw 111616))], [], [(111616, 0)], [], []⟩)]
def ann_i_two : Ann := .nil
def env_i_two : Env := envOf ti [] []
theorem eok_i_two : EnvOk Try.prog env_i_two := envOf_ok tab mix _ _ (by
  intro k hk; cases hk)
theorem v_i_two (x0 : Int) : (vfun env_i_two Try.f153 J_i_two ann_i_two [] [.one ⟨.int .i64, x0⟩] []).run = (G.i_two x0).bind fun y => some (Res.mk [.one ⟨.sl true 5 (.int .u8), y⟩] [] []) := by kernel_rfl
def k_i_two : Kn := ⟨153, [0], fun args rows => match args, rows with
  | [.one ⟨.int .i64, x0⟩], [] => some ⟨_, G.i_two x0, fun y => ⟨[.one ⟨.sl true 5 (.int .u8), y⟩], [], []⟩⟩
  | _, _ => none, []⟩
theorem s_i_two : KnOk Try.prog k_i_two := by
  intro args rows a h y hy
  simp only [k_i_two] at h
  split at h
  · injection h with h
    subst h
    exact vfun_ok eok_i_two Try.func153 rfl (by rw [v_i_two]; simp only at hy; rw [hy]; rfl)
  · cases h
def J_i_padded : Joins := [(.r, ⟨[.sl true 5 (.int .u8)], [(4, .one (.vw 113664))], [], [(113664, 0)], [], []⟩)]
def ann_i_padded : Ann := .nil
def env_i_padded : Env := envOf ti [] []
theorem eok_i_padded : EnvOk Try.prog env_i_padded := envOf_ok tab mix _ _ (by
  intro k hk; cases hk)
theorem v_i_padded (x0 : List Int) (x1 : Int) : (vfun env_i_padded Try.f154 J_i_padded ann_i_padded [] [.one ⟨.sl true 5 (.int .u8), x0⟩, .one ⟨.int .i64, x1⟩] []).run = (G.i_padded x0 x1).bind fun y => some (Res.mk [.one ⟨.sl true 5 (.int .u8), y⟩] [] []) := by kernel_rfl
def k_i_padded : Kn := ⟨154, [1, 0], fun args rows => match args, rows with
  | [.one ⟨.sl true 5 (.int .u8), x0⟩, .one ⟨.int .i64, x1⟩], [] => some ⟨_, G.i_padded x0 x1, fun y => ⟨[.one ⟨.sl true 5 (.int .u8), y⟩], [], []⟩⟩
  | _, _ => none, []⟩
theorem s_i_padded : KnOk Try.prog k_i_padded := by
  intro args rows a h y hy
  simp only [k_i_padded] at h
  split at h
  · injection h with h
    subst h
    exact vfun_ok eok_i_padded Try.func154 rfl (by rw [v_i_padded]; simp only at hy; rw [hy]; rfl)
  · cases h
def J_i_Space_layPage_oooo : Joins := [(.n, ⟨[.sl true 22 (.sl true 5 (.int .u8)), .sl true 5 (.int .u8), .sl true 3 (.int .i64), .sl true 3 (.int .i64)], [], [(30, [.vw 132165, .vw 132166, .vw 132167, .vw 132168])], [(132165, 0), (132166, 1), (132167, 2), (132168, 3)], [], []⟩)]
def ann_i_Space_layPage_oooo : Ann := .seq .nil (.seq (.seq .nil (.block [] (.loop ⟨[.int .i64, .sl true 5 (.int .u8), .sl false 3 (.int .i64), .int .i64, .int .i64, .sl true 22 (.sl true 5 (.int .u8)), .sl true 5 (.int .u8), .sl true 3 (.int .i64), .sl true 3 (.int .i64)], [(0, .pl 30 0), (1, .one (.h 0)), (8, .one (.vw 132096)), (13, .one (.h 2)), (14, .one (.h 3)), (15, .one (.h 4))], [(30, [.vw 132097, .vw 132098, .vw 132099, .vw 132100])], [(132096, 1), (132097, 5), (132098, 6), (132099, 7), (132100, 8)], [], []⟩ [(.x 0, ⟨[.int .i64, .sl true 5 (.int .u8), .sl true 22 (.sl true 5 (.int .u8)), .sl true 5 (.int .u8), .sl true 3 (.int .i64), .sl true 3 (.int .i64)], [(0, .pl 30 0), (1, .one (.h 0)), (8, .one (.vw 132160))], [(30, [.vw 132161, .vw 132162, .vw 132163, .vw 132164])], [(132160, 1), (132161, 2), (132162, 3), (132163, 4), (132164, 5)], [], []⟩)] .nil))) .nil)
def env_i_Space_layPage_oooo : Env := envOf ti [k_i_two, k_i_padded, k_i_Space_lay_oooo] []
theorem eok_i_Space_layPage_oooo : EnvOk Try.prog env_i_Space_layPage_oooo := envOf_ok tab mix _ _ (by
  intro k hk
  simp only [List.mem_cons, List.not_mem_nil, or_false] at hk
  rcases hk with rfl | rfl | rfl
  · exact s_i_two
  · exact s_i_padded
  · exact s_i_Space_lay_oooo)
theorem v_i_Space_layPage_oooo (x0 : Int) (x1 : Int) (x2 : List Int) (x3 : List (List Int)) (x4 : List Int) (x5 : List Int) (x6 : List Int) : (vfun env_i_Space_layPage_oooo Try.f114 J_i_Space_layPage_oooo ann_i_Space_layPage_oooo [] [.pl 0 0, .one ⟨.int .i64, x0⟩, .one ⟨.int .u8, x1⟩, .one ⟨.sl false 3 (.int .i64), x2⟩] [[⟨.sl true 22 (.sl true 5 (.int .u8)), x3⟩, ⟨.sl true 5 (.int .u8), x4⟩, ⟨.sl true 3 (.int .i64), x5⟩, ⟨.sl true 3 (.int .i64), x6⟩]]).run = (G.i_Space_layPage_oooo x0 x1 x2 x3 x4 x5 x6).bind fun y => some (Res.mk [] [[⟨.sl true 22 (.sl true 5 (.int .u8)), y.1⟩, ⟨.sl true 5 (.int .u8), y.2.1⟩, ⟨.sl true 3 (.int .i64), y.2.2.1⟩, ⟨.sl true 3 (.int .i64), y.2.2.2⟩]] []) := by kernel_rfl
def k_i_Space_layPage_oooo : Kn := ⟨114, [0, 0, 0, 0], fun args rows => match args, rows with
  | [.pl 0 0, .one ⟨.int .i64, x0⟩, .one ⟨.int .u8, x1⟩, .one ⟨.sl false 3 (.int .i64), x2⟩], [[⟨.sl true 22 (.sl true 5 (.int .u8)), x3⟩, ⟨.sl true 5 (.int .u8), x4⟩, ⟨.sl true 3 (.int .i64), x5⟩, ⟨.sl true 3 (.int .i64), x6⟩]] => some ⟨_, G.i_Space_layPage_oooo x0 x1 x2 x3 x4 x5 x6, fun y => ⟨[], [[⟨.sl true 22 (.sl true 5 (.int .u8)), y.1⟩, ⟨.sl true 5 (.int .u8), y.2.1⟩, ⟨.sl true 3 (.int .i64), y.2.2.1⟩, ⟨.sl true 3 (.int .i64), y.2.2.2⟩]], []⟩⟩
  | _, _ => none, []⟩
theorem s_i_Space_layPage_oooo : KnOk Try.prog k_i_Space_layPage_oooo := by
  intro args rows a h y hy
  simp only [k_i_Space_layPage_oooo] at h
  split at h
  · injection h with h
    subst h
    exact vfun_ok eok_i_Space_layPage_oooo Try.func114 rfl (by rw [v_i_Space_layPage_oooo]; simp only at hy; rw [hy]; rfl)
  · cases h
def J_i_Space_give_oooo : Joins := [(.n, ⟨[.sl true 22 (.sl true 5 (.int .u8)), .sl true 5 (.int .u8), .sl true 3 (.int .i64), .sl true 3 (.int .i64)], [], [(14, [.vw 115712, .vw 115713, .vw 115714, .vw 115715])], [(115712, 0), (115713, 1), (115714, 2), (115715, 3)], [], []⟩)]
def ann_i_Space_give_oooo : Ann := .nil
def env_i_Space_give_oooo : Env := envOf ti [k_i_insert] []
theorem eok_i_Space_give_oooo : EnvOk Try.prog env_i_Space_give_oooo := envOf_ok tab mix _ _ (by
  intro k hk
  simp only [List.mem_cons, List.not_mem_nil, or_false] at hk
  rcases hk with rfl
  · exact s_i_insert)
theorem v_i_Space_give_oooo (x0 : Int) (x1 : List (List Int)) (x2 : List Int) (x3 : List Int) (x4 : List Int) : (vfun env_i_Space_give_oooo Try.f115 J_i_Space_give_oooo ann_i_Space_give_oooo [] [.pl 0 0, .one ⟨.int .i64, x0⟩] [[⟨.sl true 22 (.sl true 5 (.int .u8)), x1⟩, ⟨.sl true 5 (.int .u8), x2⟩, ⟨.sl true 3 (.int .i64), x3⟩, ⟨.sl true 3 (.int .i64), x4⟩]]).run = (G.i_Space_give_oooo x0 x1 x2 x3 x4).bind fun y => some (Res.mk [] [[⟨.sl true 22 (.sl true 5 (.int .u8)), y.1⟩, ⟨.sl true 5 (.int .u8), y.2.1⟩, ⟨.sl true 3 (.int .i64), y.2.2.1⟩, ⟨.sl true 3 (.int .i64), y.2.2.2⟩]] []) := by kernel_rfl
def k_i_Space_give_oooo : Kn := ⟨115, [0, 0], fun args rows => match args, rows with
  | [.pl 0 0, .one ⟨.int .i64, x0⟩], [[⟨.sl true 22 (.sl true 5 (.int .u8)), x1⟩, ⟨.sl true 5 (.int .u8), x2⟩, ⟨.sl true 3 (.int .i64), x3⟩, ⟨.sl true 3 (.int .i64), x4⟩]] => some ⟨_, G.i_Space_give_oooo x0 x1 x2 x3 x4, fun y => ⟨[], [[⟨.sl true 22 (.sl true 5 (.int .u8)), y.1⟩, ⟨.sl true 5 (.int .u8), y.2.1⟩, ⟨.sl true 3 (.int .i64), y.2.2.1⟩, ⟨.sl true 3 (.int .i64), y.2.2.2⟩]], []⟩⟩
  | _, _ => none, []⟩
theorem s_i_Space_give_oooo : KnOk Try.prog k_i_Space_give_oooo := by
  intro args rows a h y hy
  simp only [k_i_Space_give_oooo] at h
  split at h
  · injection h with h
    subst h
    exact vfun_ok eok_i_Space_give_oooo Try.func115 rfl (by rw [v_i_Space_give_oooo]; simp only at hy; rw [hy]; rfl)
  · cases h
def J_i_Space_set_oooo : Joins := [(.r, ⟨[.int .i64, .bool, .sl true 22 (.sl true 5 (.int .u8)), .sl true 5 (.int .u8), .sl true 3 (.int .i64), .sl true 3 (.int .i64)], [(6, .one (.h 0)), (7, .one (.h 1))], [(154, [.vw 259390, .vw 259391, .vw 259392, .vw 259393])], [(259390, 2), (259391, 3), (259392, 4), (259393, 5)], [], []⟩)]
def ann_i_Space_set_oooo : Ann := .seq .nil (.seq .nil (.seq .nil (.seq (.seq .nil (.block [] (.loop ⟨[.sl false 35 (.pair (.int .i64) (.int .i64)), .sl true 3 (.int .i64), .sl true 24 (.sl true 3 (.int .i64)), .sl true 3 (.int .i64), .int .i64, .int .i64, .int .i64, .sl false 3 (.int .i64), .sl false 24 (.sl false 3 (.int .i64)), .sl true 22 (.sl true 5 (.int .u8)), .sl true 5 (.int .u8), .sl true 3 (.int .i64), .sl true 3 (.int .i64)], [(0, .pl 154 0), (2, .one (.h 0)), (4, .pl 4 0), (8, .one (.vw 259072)), (9, .one (.vw 259073)), (10, .one (.vw 259074)), (35, .one (.h 4)), (36, .one (.h 5))], [(4, [.h 6, .h 7, .h 8]), (154, [.vw 259075, .vw 259076, .vw 259077, .vw 259078])], [(259072, 1), (259073, 2), (259074, 3), (259075, 9), (259076, 10), (259077, 11), (259078, 12)], [], []⟩ [(.x 0, ⟨[.sl false 35 (.pair (.int .i64) (.int .i64)), .sl true 3 (.int .i64), .sl true 24 (.sl true 3 (.int .i64)), .sl true 3 (.int .i64), .int .i64, .sl false 3 (.int .i64), .sl false 24 (.sl false 3 (.int .i64)), .sl true 22 (.sl true 5 (.int .u8)), .sl true 5 (.int .u8), .sl true 3 (.int .i64), .sl true 3 (.int .i64)], [(0, .pl 154 0), (2, .one (.h 0)), (4, .pl 4 0), (8, .one (.vw 259136)), (9, .one (.vw 259137)), (10, .one (.vw 259138))], [(4, [.h 4, .h 5, .h 6]), (154, [.vw 259139, .vw 259140, .vw 259141, .vw 259142])], [(259136, 1), (259137, 2), (259138, 3), (259139, 7), (259140, 8), (259141, 9), (259142, 10)], [], []⟩)] .nil))) (.seq (.seq .nil (.block [] (.loop ⟨[.sl true 3 (.int .i64), .sl true 24 (.sl true 3 (.int .i64)), .sl true 3 (.int .i64), .sl false 35 (.pair (.int .i64) (.int .i64)), .int .i64, .int .i64, .int .i64, .sl false 3 (.int .i64), .sl false 24 (.sl false 3 (.int .i64)), .sl true 22 (.sl true 5 (.int .u8)), .sl true 5 (.int .u8), .sl true 3 (.int .i64), .sl true 3 (.int .i64)], [(0, .pl 154 0), (4, .pl 4 0), (8, .one (.vw 259143)), (9, .one (.vw 259144)), (10, .one (.vw 259145)), (49, .one (.h 3)), (50, .one (.h 4)), (51, .one (.h 5))], [(4, [.h 6, .h 7, .h 8]), (154, [.vw 259146, .vw 259147, .vw 259148, .vw 259149])], [(259143, 0), (259144, 1), (259145, 2), (259146, 9), (259147, 10), (259148, 11), (259149, 12)], [], []⟩ [(.x 2, ⟨[.sl true 3 (.int .i64), .sl true 24 (.sl true 3 (.int .i64)), .sl true 3 (.int .i64), .int .i64, .sl false 3 (.int .i64), .sl false 24 (.sl false 3 (.int .i64)), .sl true 22 (.sl true 5 (.int .u8)), .sl true 5 (.int .u8), .sl true 3 (.int .i64), .sl true 3 (.int .i64)], [(0, .pl 154 0), (4, .pl 4 0), (8, .one (.vw 259207)), (9, .one (.vw 259208)), (10, .one (.vw 259209))], [(4, [.h 3, .h 4, .h 5]), (154, [.vw 259210, .vw 259211, .vw 259212, .vw 259213])], [(259207, 0), (259208, 1), (259209, 2), (259210, 6), (259211, 7), (259212, 8), (259213, 9)], [], []⟩)] .nil))) (.seq .nil (.seq (.seq .nil (.block [] (.loop ⟨[.sl true 3 (.int .i64), .sl true 24 (.sl true 3 (.int .i64)), .sl true 3 (.int .i64), .sl true 3 (.int .i64), .int .i64, .int .i64, .int .i64, .sl false 3 (.int .i64), .sl false 24 (.sl false 3 (.int .i64)), .sl true 22 (.sl true 5 (.int .u8)), .sl true 5 (.int .u8), .sl true 3 (.int .i64), .sl true 3 (.int .i64)], [(0, .pl 154 0), (4, .pl 4 0), (8, .one (.vw 259214)), (9, .one (.vw 259215)), (14, .one (.vw 259216)), (74, .one (.vw 259217)), (75, .one (.h 4)), (76, .one (.h 5))], [(4, [.h 6, .h 7, .h 8]), (154, [.vw 259218, .vw 259219, .vw 259220, .vw 259221])], [(259214, 0), (259215, 1), (259216, 2), (259217, 3), (259218, 9), (259219, 10), (259220, 11), (259221, 12)], [], []⟩ [(.x 4, ⟨[.sl true 3 (.int .i64), .sl true 3 (.int .i64), .int .i64, .sl false 3 (.int .i64), .sl false 24 (.sl false 3 (.int .i64)), .sl true 22 (.sl true 5 (.int .u8)), .sl true 5 (.int .u8), .sl true 3 (.int .i64), .sl true 3 (.int .i64)], [(0, .pl 154 0), (4, .pl 4 0), (8, .one (.vw 259298)), (14, .one (.vw 259299))], [(4, [.h 2, .h 3, .h 4]), (154, [.vw 259300, .vw 259301, .vw 259302, .vw 259303])], [(259298, 0), (259299, 1), (259300, 5), (259301, 6), (259302, 7), (259303, 8)], [], []⟩), (.r, ⟨[.int .i64, .bool, .sl true 22 (.sl true 5 (.int .u8)), .sl true 5 (.int .u8), .sl true 3 (.int .i64), .sl true 3 (.int .i64)], [(6, .one (.h 0)), (7, .one (.h 1))], [(154, [.vw 259304, .vw 259305, .vw 259306, .vw 259307])], [(259304, 2), (259305, 3), (259306, 4), (259307, 5)], [], []⟩)] (.seq .nil (.seq .nil (.seq (.block [(.n, ⟨[.sl true 3 (.int .i64), .sl true 24 (.sl true 3 (.int .i64)), .sl true 3 (.int .i64), .sl true 3 (.int .i64), .int .i64, .int .i64, .int .i64, .sl false 3 (.int .i64), .sl false 24 (.sl false 3 (.int .i64)), .sl true 22 (.sl true 5 (.int .u8)), .sl true 5 (.int .u8), .sl true 3 (.int .i64), .sl true 3 (.int .i64)], [(0, .pl 154 0), (4, .pl 4 0), (8, .one (.vw 259286)), (9, .one (.vw 259287)), (14, .one (.vw 259288)), (74, .one (.vw 259289)), (75, .one (.h 4)), (76, .one (.h 5))], [(4, [.h 6, .h 7, .h 8]), (154, [.vw 259290, .vw 259291, .vw 259292, .vw 259293])], [(259286, 0), (259287, 1), (259288, 2), (259289, 3), (259290, 9), (259291, 10), (259292, 11), (259293, 12)], [], []⟩), (.r, ⟨[.int .i64, .bool, .sl true 22 (.sl true 5 (.int .u8)), .sl true 5 (.int .u8), .sl true 3 (.int .i64), .sl true 3 (.int .i64)], [(6, .one (.h 0)), (7, .one (.h 1))], [(154, [.vw 259294, .vw 259295, .vw 259296, .vw 259297])], [(259294, 2), (259295, 3), (259296, 4), (259297, 5)], [], []⟩)] (.seq .nil (.seq (.seq .nil (.cond [(.n, ⟨[.sl true 3 (.int .i64), .sl true 24 (.sl true 3 (.int .i64)), .sl true 3 (.int .i64), .int .i64, .sl true 3 (.int .i64), .int .i64, .int .i64, .int .i64, .sl false 3 (.int .i64), .sl false 24 (.sl false 3 (.int .i64)), .sl true 22 (.sl true 5 (.int .u8)), .sl true 5 (.int .u8), .sl true 3 (.int .i64), .sl true 3 (.int .i64)], [(0, .pl 154 0), (4, .pl 4 0), (8, .one (.vw 259278)), (9, .one (.vw 259279)), (14, .one (.vw 259280)), (16, .one (.h 3)), (74, .one (.vw 259281)), (75, .one (.h 5)), (76, .one (.h 6))], [(4, [.h 7, .h 8, .h 9]), (154, [.vw 259282, .vw 259283, .vw 259284, .vw 259285])], [(259278, 0), (259279, 1), (259280, 2), (259281, 4), (259282, 10), (259283, 11), (259284, 12), (259285, 13)], [], []⟩)] .nil .nil)) .nil))) .nil)))))) (.seq .nil (.seq (.seq .nil (.cond [(.n, ⟨[.sl true 3 (.int .i64), .int .i64, .int .i64, .sl false 3 (.int .i64), .sl false 24 (.sl false 3 (.int .i64)), .sl true 22 (.sl true 5 (.int .u8)), .sl true 5 (.int .u8), .sl true 3 (.int .i64), .sl true 3 (.int .i64)], [(0, .pl 154 0), (4, .pl 4 0), (14, .one (.vw 259308)), (19, .one (.h 1))], [(4, [.h 2, .h 3, .h 4]), (154, [.vw 259309, .vw 259310, .vw 259311, .vw 259312])], [(259308, 0), (259309, 5), (259310, 6), (259311, 7), (259312, 8)], [], []⟩), (.r, ⟨[.int .i64, .bool, .sl true 22 (.sl true 5 (.int .u8)), .sl true 5 (.int .u8), .sl true 3 (.int .i64), .sl true 3 (.int .i64)], [(6, .one (.h 0)), (7, .one (.h 1))], [(154, [.vw 259313, .vw 259314, .vw 259315, .vw 259316])], [(259313, 2), (259314, 3), (259315, 4), (259316, 5)], [], []⟩)] .nil .nil)) (.seq (.seq .nil (.cond [(.n, ⟨[.sl true 3 (.int .i64), .int .i64, .sl true 22 (.sl true 5 (.int .u8)), .sl true 5 (.int .u8), .sl true 3 (.int .i64), .sl true 3 (.int .i64)], [(0, .pl 154 0), (14, .one (.vw 259317)), (19, .one (.h 1))], [(154, [.vw 259318, .vw 259319, .vw 259320, .vw 259321])], [(259317, 0), (259318, 2), (259319, 3), (259320, 4), (259321, 5)], [], []⟩)] .nil .nil)) (.seq (.seq .nil (.block [] (.loop ⟨[.int .i64, .sl true 3 (.int .i64), .int .i64, .int .i64, .sl true 22 (.sl true 5 (.int .u8)), .sl true 5 (.int .u8), .sl true 3 (.int .i64), .sl true 3 (.int .i64)], [(0, .pl 154 0), (19, .one (.h 0)), (142, .one (.vw 259322)), (143, .one (.h 2)), (144, .one (.h 3))], [(154, [.vw 259323, .vw 259324, .vw 259325, .vw 259326])], [(259322, 1), (259323, 4), (259324, 5), (259325, 6), (259326, 7)], [], []⟩ [(.x 6, ⟨[.int .i64, .sl true 22 (.sl true 5 (.int .u8)), .sl true 5 (.int .u8), .sl true 3 (.int .i64), .sl true 3 (.int .i64)], [(19, .one (.h 0))], [(154, [.vw 259386, .vw 259387, .vw 259388, .vw 259389])], [(259386, 1), (259387, 2), (259388, 3), (259389, 4)], [], []⟩)] .nil))) .nil))))))))))
def env_i_Space_set_oooo : Env := envOf ti [k_slices_Clone_int_int, k_i_insert, k_i_isEmpty, k_i_Space_take_oooo, k_i_Space_layPage_oooo, k_i_Space_give_oooo] []
theorem eok_i_Space_set_oooo : EnvOk Try.prog env_i_Space_set_oooo := envOf_ok tab mix _ _ (by
  intro k hk
  simp only [List.mem_cons, List.not_mem_nil, or_false] at hk
  rcases hk with rfl | rfl | rfl | rfl | rfl | rfl
  · exact s_slices_Clone_int_int
  · exact s_i_insert
  · exact s_i_isEmpty
  · exact s_i_Space_take_oooo
  · exact s_i_Space_layPage_oooo
  · exact s_i_Space_give_oooo)
theorem v_i_Space_set_oooo (x0 : Int) (x1 : List Int) (x2 : List (List Int)) (x3 : List (Int × Int)) (x4 : List (List Int)) (x5 : List Int) (x6 : List Int) (x7 : List Int) : (vfun env_i_Space_set_oooo Try.f55 J_i_Space_set_oooo ann_i_Space_set_oooo [] [.pl 0 0, .ag [⟨.int .i64, x0⟩, ⟨.sl false 3 (.int .i64), x1⟩, ⟨.sl false 24 (.sl false 3 (.int .i64)), x2⟩], .one ⟨.sl false 35 (.pair (.int .i64) (.int .i64)), x3⟩] [[⟨.sl true 22 (.sl true 5 (.int .u8)), x4⟩, ⟨.sl true 5 (.int .u8), x5⟩, ⟨.sl true 3 (.int .i64), x6⟩, ⟨.sl true 3 (.int .i64), x7⟩]]).run = (G.i_Space_set_oooo x0 x1 x2 x3 x4 x5 x6 x7).bind fun y => some (Res.mk [.one ⟨.int .i64, y.1⟩, .one ⟨.bool, y.2.1⟩] [[⟨.sl true 22 (.sl true 5 (.int .u8)), y.2.2.1⟩, ⟨.sl true 5 (.int .u8), y.2.2.2.1⟩, ⟨.sl true 3 (.int .i64), y.2.2.2.2.1⟩, ⟨.sl true 3 (.int .i64), y.2.2.2.2.2⟩]] []) := by kernel_rfl
def k_i_Space_set_oooo : Kn := ⟨55, [0, 0, 0], fun args rows => match args, rows with
  | [.pl 0 0, .ag [⟨.int .i64, x0⟩, ⟨.sl false 3 (.int .i64), x1⟩, ⟨.sl false 24 (.sl false 3 (.int .i64)), x2⟩], .one ⟨.sl false 35 (.pair (.int .i64) (.int .i64)), x3⟩], [[⟨.sl true 22 (.sl true 5 (.int .u8)), x4⟩, ⟨.sl true 5 (.int .u8), x5⟩, ⟨.sl true 3 (.int .i64), x6⟩, ⟨.sl true 3 (.int .i64), x7⟩]] => some ⟨_, G.i_Space_set_oooo x0 x1 x2 x3 x4 x5 x6 x7, fun y => ⟨[.one ⟨.int .i64, y.1⟩, .one ⟨.bool, y.2.1⟩], [[⟨.sl true 22 (.sl true 5 (.int .u8)), y.2.2.1⟩, ⟨.sl true 5 (.int .u8), y.2.2.2.1⟩, ⟨.sl true 3 (.int .i64), y.2.2.2.2.1⟩, ⟨.sl true 3 (.int .i64), y.2.2.2.2.2⟩]], []⟩⟩
  | _, _ => none, []⟩
theorem s_i_Space_set_oooo : KnOk Try.prog k_i_Space_set_oooo := by
  intro args rows a h y hy
  simp only [k_i_Space_set_oooo] at h
  split at h
  · injection h with h
    subst h
    exact vfun_ok eok_i_Space_set_oooo Try.func55 rfl (by rw [v_i_Space_set_oooo]; simp only at hy; rw [hy]; rfl)
  · cases h
def J_i_SetKeys : Joins := [(.r, ⟨[.int .i64, .bool, .sl true 22 (.sl true 5 (.int .u8)), .sl true 5 (.int .u8), .sl true 3 (.int .i64), .sl true 3 (.int .i64)], [(6, .pl 6 0), (7, .one (.h 0)), (8, .one (.h 1))], [(6, [.vw 143362, .vw 143363, .vw 143364, .vw 143365])], [(143362, 2), (143363, 3), (143364, 4), (143365, 5)], [], []⟩)]
def ann_i_SetKeys : Ann := .seq .nil (.seq .nil (.seq (.seq (.reg [(.n, ⟨[.sl false 35 (.pair (.int .i64) (.int .i64)), .bool, .sl false 22 (.sl false 5 (.int .u8)), .sl false 5 (.int .u8), .sl false 3 (.int .i64), .sl false 3 (.int .i64), .int .i64, .sl true 3 (.int .i64), .sl true 24 (.sl true 3 (.int .i64))], [(2, .one (.h 0)), (3, .pl 3 0), (6, .pl 6 0), (9, .pl 9 0), (25, .one (.h 1))], [(3, [.h 2, .h 3, .h 4, .h 5]), (6, [.nil, .nil, .nil, .nil]), (9, [.h 6, .vw 143360, .vw 143361])], [(143360, 7), (143361, 8)], [], []⟩)]) .nil) .nil))
def env_i_SetKeys : Env := envOf ti [k_i_treeOf, k_i_Space_areSets_ffff, k_i_Space_copied, k_i_Space_set_oooo] []
theorem eok_i_SetKeys : EnvOk Try.prog env_i_SetKeys := envOf_ok tab mix _ _ (by
  intro k hk
  simp only [List.mem_cons, List.not_mem_nil, or_false] at hk
  rcases hk with rfl | rfl | rfl | rfl
  · exact s_i_treeOf
  · exact s_i_Space_areSets_ffff
  · exact s_i_Space_copied
  · exact s_i_Space_set_oooo)
theorem v_i_SetKeys (x0 : List (List Int)) (x1 : List Int) (x2 : List Int) (x3 : List Int) (x4 : Int) (x5 : List (Int × Int)) : (vfun env_i_SetKeys Try.f9 J_i_SetKeys ann_i_SetKeys [] [.ag [⟨.sl false 22 (.sl false 5 (.int .u8)), x0⟩, ⟨.sl false 5 (.int .u8), x1⟩, ⟨.sl false 3 (.int .i64), x2⟩, ⟨.sl false 3 (.int .i64), x3⟩], .one ⟨.int .i64, x4⟩, .one ⟨.sl false 35 (.pair (.int .i64) (.int .i64)), x5⟩] []).run = (G.i_SetKeys x0 x1 x2 x3 x4 x5).bind fun y => some (Res.mk [.ag [⟨.sl true 22 (.sl true 5 (.int .u8)), y.2.2.1⟩, ⟨.sl true 5 (.int .u8), y.2.2.2.1⟩, ⟨.sl true 3 (.int .i64), y.2.2.2.2.1⟩, ⟨.sl true 3 (.int .i64), y.2.2.2.2.2⟩], .one ⟨.int .i64, y.1⟩, .one ⟨.bool, y.2.1⟩] [] []) := by kernel_rfl
def k_i_SetKeys : Kn := ⟨9, [0, 0, 0], fun args rows => match args, rows with
  | [.ag [⟨.sl false 22 (.sl false 5 (.int .u8)), x0⟩, ⟨.sl false 5 (.int .u8), x1⟩, ⟨.sl false 3 (.int .i64), x2⟩, ⟨.sl false 3 (.int .i64), x3⟩], .one ⟨.int .i64, x4⟩, .one ⟨.sl false 35 (.pair (.int .i64) (.int .i64)), x5⟩], [] => some ⟨_, G.i_SetKeys x0 x1 x2 x3 x4 x5, fun y => ⟨[.ag [⟨.sl true 22 (.sl true 5 (.int .u8)), y.2.2.1⟩, ⟨.sl true 5 (.int .u8), y.2.2.2.1⟩, ⟨.sl true 3 (.int .i64), y.2.2.2.2.1⟩, ⟨.sl true 3 (.int .i64), y.2.2.2.2.2⟩], .one ⟨.int .i64, y.1⟩, .one ⟨.bool, y.2.1⟩], [], []⟩⟩
  | _, _ => none, []⟩
theorem s_i_SetKeys : KnOk Try.prog k_i_SetKeys := by
  intro args rows a h y hy
  simp only [k_i_SetKeys] at h
  split at h
  · injection h with h
    subst h
    exact vfun_ok eok_i_SetKeys Try.func9 rfl (by rw [v_i_SetKeys]; simp only at hy; rw [hy]; rfl)
  · cases h
def J_s_KeysIn : Joins := [(.r, ⟨[.sl true 35 (.pair (.int .i64) (.int .i64)), .bool], [(4, .one (.vw 156805)), (5, .one (.h 1))], [], [(156805, 0)], [], []⟩)]
def ann_s_KeysIn : Ann := .seq .nil (.seq .nil (.seq .nil (.seq .nil (.seq (.seq .nil (.block [] (.loop ⟨[.sl true 35 (.pair (.int .i64) (.int .i64)), .sl true 24 (.sl true 3 (.int .i64)), .int .i64, .int .i64], [(9, .one (.vw 156672)), (25, .one (.vw 156673)), (26, .one (.h 2)), (27, .one (.h 3))], [], [(156672, 0), (156673, 1)], [], []⟩ [(.x 0, ⟨[.sl true 35 (.pair (.int .i64) (.int .i64))], [(9, .one (.vw 156804))], [], [(156804, 0)], [], []⟩)] (.seq .nil (.seq .nil (.seq (.block [] (.seq .nil (.seq .nil (.block [] (.loop ⟨[.sl true 35 (.pair (.int .i64) (.int .i64)), .int .i64, .sl true 24 (.sl true 3 (.int .i64)), .int .i64, .int .i64, .int .i64, .int .i64, .int .i64], [(9, .one (.vw 156736)), (10, .one (.h 1)), (25, .one (.vw 156737)), (26, .one (.h 3)), (27, .one (.h 4)), (32, .one (.vs 156737 5 0)), (33, .one (.h 6)), (34, .one (.h 7))], [], [(156736, 0), (156737, 2)], [], []⟩ [(.x 2, ⟨[.sl true 35 (.pair (.int .i64) (.int .i64)), .sl true 24 (.sl true 3 (.int .i64)), .int .i64, .int .i64], [(9, .one (.vw 156802)), (25, .one (.vw 156803)), (26, .one (.h 2)), (27, .one (.h 3))], [], [(156802, 0), (156803, 1)], [], []⟩)] (.seq .nil (.seq .nil (.seq (.block [] (.seq .nil (.seq .nil (.cond [(.n, ⟨[.sl true 35 (.pair (.int .i64) (.int .i64)), .int .i64, .sl true 24 (.sl true 3 (.int .i64)), .int .i64, .int .i64, .int .i64, .int .i64, .int .i64], [(9, .one (.vw 156800)), (10, .one (.h 1)), (25, .one (.vw 156801)), (26, .one (.h 3)), (27, .one (.h 4)), (32, .one (.vs 156801 5 0)), (33, .one (.h 6)), (34, .one (.h 7))], [], [(156800, 0), (156801, 2)], [], []⟩)] .nil .nil)))) .nil)))))))) .nil)))))) .nil))))
def env_s_KeysIn : Env := envOf ti [k_s_GoodTree, k_s_l6Tree] []
theorem eok_s_KeysIn : EnvOk Try.prog env_s_KeysIn := envOf_ok tab mix _ _ (by
  intro k hk
  simp only [List.mem_cons, List.not_mem_nil, or_false] at hk
  rcases hk with rfl | rfl
  · exact s_s_GoodTree
  · exact s_s_l6Tree)
theorem v_s_KeysIn (x0 : List (List Int)) (x1 : List Int) (x2 : List Int) (x3 : List Int) (x4 : Int) : (vfun env_s_KeysIn Try.f11 J_s_KeysIn ann_s_KeysIn [] [.ag [⟨.sl false 22 (.sl false 5 (.int .u8)), x0⟩, ⟨.sl false 5 (.int .u8), x1⟩, ⟨.sl false 3 (.int .i64), x2⟩, ⟨.sl false 3 (.int .i64), x3⟩], .one ⟨.int .i64, x4⟩] []).run = (G.s_KeysIn x0 x1 x2 x3 x4).bind fun y => some (Res.mk [.one ⟨.sl true 35 (.pair (.int .i64) (.int .i64)), y.1⟩, .one ⟨.bool, y.2⟩] [] []) := by kernel_rfl
def k_s_KeysIn : Kn := ⟨11, [0, 0], fun args rows => match args, rows with
  | [.ag [⟨.sl false 22 (.sl false 5 (.int .u8)), x0⟩, ⟨.sl false 5 (.int .u8), x1⟩, ⟨.sl false 3 (.int .i64), x2⟩, ⟨.sl false 3 (.int .i64), x3⟩], .one ⟨.int .i64, x4⟩], [] => some ⟨_, G.s_KeysIn x0 x1 x2 x3 x4, fun y => ⟨[.one ⟨.sl true 35 (.pair (.int .i64) (.int .i64)), y.1⟩, .one ⟨.bool, y.2⟩], [], []⟩⟩
  | _, _ => none, []⟩
theorem s_s_KeysIn : KnOk Try.prog k_s_KeysIn := by
  intro args rows a h y hy
  simp only [k_s_KeysIn] at h
  split at h
  · injection h with h
    subst h
    exact vfun_ok eok_s_KeysIn Try.func11 rfl (by rw [v_s_KeysIn]; simp only at hy; rw [hy]; rfl)
  · cases h
end
end Go.Proofs.Ytijemcbcchnnjaa

set_option linter.unusedVariables false
set_option maxRecDepth 100000
namespace Go.Proofs.Ytijemcbcchnnjaa
open Go.V
noncomputable section
def J_i_tree_value : Joins := [(.r, ⟨[.int .i64], [(4, .one (.h 0))], [], [], [], []⟩)]
def ann_i_tree_value : Ann := .nil
def env_i_tree_value : Env := envOf ti [] []
theorem eok_i_tree_value : EnvOk Try.prog env_i_tree_value := envOf_ok tab mix _ _ (by
  intro k hk; cases hk)
theorem v_i_tree_value (x0 : Int) (x1 : List Int) (x2 : List (List Int)) (x3 : Int) : (vfun env_i_tree_value Try.f123 J_i_tree_value ann_i_tree_value [] [.ag [⟨.int .i64, x0⟩, ⟨.sl false 3 (.int .i64), x1⟩, ⟨.sl false 24 (.sl false 3 (.int .i64)), x2⟩], .one ⟨.int .i64, x3⟩] []).run = (G.i_tree_value x0 x1 x2 x3).bind fun y => some (Res.mk [.one ⟨.int .i64, y⟩] [] []) := by kernel_rfl
def k_i_tree_value : Kn := ⟨123, [0, 0], fun args rows => match args, rows with
  | [.ag [⟨.int .i64, x0⟩, ⟨.sl false 3 (.int .i64), x1⟩, ⟨.sl false 24 (.sl false 3 (.int .i64)), x2⟩], .one ⟨.int .i64, x3⟩], [] => some ⟨_, G.i_tree_value x0 x1 x2 x3, fun y => ⟨[.one ⟨.int .i64, y⟩], [], []⟩⟩
  | _, _ => none, []⟩
theorem s_i_tree_value : KnOk Try.prog k_i_tree_value := by
  intro args rows a h y hy
  simp only [k_i_tree_value] at h
  split at h
  · injection h with h
    subst h
    exact vfun_ok eok_i_tree_value Try.func123 rfl (by rw [v_i_tree_value]; simp only at hy; rw [hy]; rfl)
  · cases h
def J_i_tree_keys : Joins := [(.r, ⟨[.sl true 35 (.pair (.int .i64) (.int .i64))], [(2, .one (.vw 126018))], [], [(126018, 0)], [], []⟩)]
def ann_i_tree_keys : Ann := .seq .nil (.seq .nil (.seq (.seq .nil (.block [] (.loop ⟨[.sl true 35 (.pair (.int .i64) (.int .i64)), .int .i64, .int .i64, .sl false 3 (.int .i64), .sl false 24 (.sl false 3 (.int .i64))], [(1, .pl 1 0), (3, .one (.vw 125952)), (7, .one (.h 1))], [(1, [.h 2, .h 3, .h 4])], [(125952, 0)], [], []⟩ [(.x 0, ⟨[.sl true 35 (.pair (.int .i64) (.int .i64))], [(3, .one (.vw 126017))], [], [(126017, 0)], [], []⟩)] (.seq .nil (.seq .nil (.seq (.block [] (.seq .nil (.seq .nil (.seq .nil (.cond [(.n, ⟨[.sl true 35 (.pair (.int .i64) (.int .i64)), .int .i64, .int .i64, .sl false 3 (.int .i64), .sl false 24 (.sl false 3 (.int .i64))], [(1, .pl 1 0), (3, .one (.vw 126016)), (7, .one (.h 1))], [(1, [.h 2, .h 3, .h 4])], [(126016, 0)], [], []⟩)] .nil .nil))))) .nil)))))) .nil))
def env_i_tree_keys : Env := envOf ti [k_i_tree_value] []
theorem eok_i_tree_keys : EnvOk Try.prog env_i_tree_keys := envOf_ok tab mix _ _ (by
  intro k hk
  simp only [List.mem_cons, List.not_mem_nil, or_false] at hk
  rcases hk with rfl
  · exact s_i_tree_value)
theorem v_i_tree_keys (x0 : Int) (x1 : List Int) (x2 : List (List Int)) : (vfun env_i_tree_keys Try.f62 J_i_tree_keys ann_i_tree_keys [] [.ag [⟨.int .i64, x0⟩, ⟨.sl false 3 (.int .i64), x1⟩, ⟨.sl false 24 (.sl false 3 (.int .i64)), x2⟩]] []).run = (G.i_tree_keys x0 x1 x2).bind fun y => some (Res.mk [.one ⟨.sl true 35 (.pair (.int .i64) (.int .i64)), y⟩] [] []) := by kernel_rfl
def k_i_tree_keys : Kn := ⟨62, [0], fun args rows => match args, rows with
  | [.ag [⟨.int .i64, x0⟩, ⟨.sl false 3 (.int .i64), x1⟩, ⟨.sl false 24 (.sl false 3 (.int .i64)), x2⟩]], [] => some ⟨_, G.i_tree_keys x0 x1 x2, fun y => ⟨[.one ⟨.sl true 35 (.pair (.int .i64) (.int .i64)), y⟩], [], []⟩⟩
  | _, _ => none, []⟩
theorem s_i_tree_keys : KnOk Try.prog k_i_tree_keys := by
  intro args rows a h y hy
  simp only [k_i_tree_keys] at h
  split at h
  · injection h with h
    subst h
    exact vfun_ok eok_i_tree_keys Try.func62 rfl (by rw [v_i_tree_keys]; simp only at hy; rw [hy]; rfl)
  · cases h
def J_i_KeysIn : Joins := [(.r, ⟨[.sl true 35 (.pair (.int .i64) (.int .i64)), .bool], [(4, .one (.vw 120832)), (5, .one (.h 1))], [], [(120832, 0)], [], []⟩)]
def ann_i_KeysIn : Ann := .nil
def env_i_KeysIn : Env := envOf ti [k_i_treeOf, k_i_tree_keys] []
theorem eok_i_KeysIn : EnvOk Try.prog env_i_KeysIn := envOf_ok tab mix _ _ (by
  intro k hk
  simp only [List.mem_cons, List.not_mem_nil, or_false] at hk
  rcases hk with rfl | rfl
  · exact s_i_treeOf
  · exact s_i_tree_keys)
theorem v_i_KeysIn (x0 : List (List Int)) (x1 : List Int) (x2 : List Int) (x3 : List Int) (x4 : Int) : (vfun env_i_KeysIn Try.f12 J_i_KeysIn ann_i_KeysIn [] [.ag [⟨.sl false 22 (.sl false 5 (.int .u8)), x0⟩, ⟨.sl false 5 (.int .u8), x1⟩, ⟨.sl false 3 (.int .i64), x2⟩, ⟨.sl false 3 (.int .i64), x3⟩], .one ⟨.int .i64, x4⟩] []).run = (G.i_KeysIn x0 x1 x2 x3 x4).bind fun y => some (Res.mk [.one ⟨.sl true 35 (.pair (.int .i64) (.int .i64)), y.1⟩, .one ⟨.bool, y.2⟩] [] []) := by kernel_rfl
def k_i_KeysIn : Kn := ⟨12, [0, 0], fun args rows => match args, rows with
  | [.ag [⟨.sl false 22 (.sl false 5 (.int .u8)), x0⟩, ⟨.sl false 5 (.int .u8), x1⟩, ⟨.sl false 3 (.int .i64), x2⟩, ⟨.sl false 3 (.int .i64), x3⟩], .one ⟨.int .i64, x4⟩], [] => some ⟨_, G.i_KeysIn x0 x1 x2 x3 x4, fun y => ⟨[.one ⟨.sl true 35 (.pair (.int .i64) (.int .i64)), y.1⟩, .one ⟨.bool, y.2⟩], [], []⟩⟩
  | _, _ => none, []⟩
theorem s_i_KeysIn : KnOk Try.prog k_i_KeysIn := by
  intro args rows a h y hy
  simp only [k_i_KeysIn] at h
  split at h
  · injection h with h
    subst h
    exact vfun_ok eok_i_KeysIn Try.func12 rfl (by rw [v_i_KeysIn]; simp only at hy; rw [hy]; rfl)
  · cases h
def J_l_sameInts : Joins := [(.r, ⟨[.bool], [(4, .one (.h 0))], [], [], [], []⟩)]
def ann_l_sameInts : Ann := .seq .nil (.seq .nil (.seq (.seq .nil (.block [] (.loop ⟨[.sl false 3 (.int .i64), .sl false 3 (.int .i64), .int .i64, .int .i64], [(0, .one (.h 0)), (1, .one (.h 1)), (12, .one (.h 2)), (13, .one (.h 3))], [], [], [], []⟩ [(.x 0, ⟨[], [], [], [], [], []⟩), (.r, ⟨[.bool], [(4, .one (.h 0))], [], [], [], []⟩)] .nil))) .nil))
def env_l_sameInts : Env := envOf ti [] []
theorem eok_l_sameInts : EnvOk Try.prog env_l_sameInts := envOf_ok tab mix _ _ (by
  intro k hk; cases hk)
theorem v_l_sameInts (x0 : List Int) (x1 : List Int) : (vfun env_l_sameInts Try.f13 J_l_sameInts ann_l_sameInts [] [.one ⟨.sl false 3 (.int .i64), x0⟩, .one ⟨.sl false 3 (.int .i64), x1⟩] []).run = (G.l_sameInts x0 x1).bind fun y => some (Res.mk [.one ⟨.bool, y⟩] [] []) := by kernel_rfl
def k_l_sameInts : Kn := ⟨13, [0, 0], fun args rows => match args, rows with
  | [.one ⟨.sl false 3 (.int .i64), x0⟩, .one ⟨.sl false 3 (.int .i64), x1⟩], [] => some ⟨_, G.l_sameInts x0 x1, fun y => ⟨[.one ⟨.bool, y⟩], [], []⟩⟩
  | _, _ => none, []⟩
theorem s_l_sameInts : KnOk Try.prog k_l_sameInts := by
  intro args rows a h y hy
  simp only [k_l_sameInts] at h
  split at h
  · injection h with h
    subst h
    exact vfun_ok eok_l_sameInts Try.func13 rfl (by rw [v_l_sameInts]; simp only at hy; rw [hy]; rfl)
  · cases h
def J_s_PagesIn : Joins := [(.r, ⟨[.sl true 3 (.int .i64), .bool], [(4, .one (.vw 142403)), (5, .one (.h 1))], [], [(142403, 0)], [], []⟩)]
def ann_s_PagesIn : Ann := .seq .nil (.seq .nil (.seq .nil (.seq .nil (.seq (.seq .nil (.block [] (.loop ⟨[.sl true 3 (.int .i64), .sl true 3 (.int .i64), .int .i64, .int .i64], [(9, .one (.vw 142336)), (26, .one (.vw 142337)), (27, .one (.h 2)), (28, .one (.h 3))], [], [(142336, 0), (142337, 1)], [], []⟩ [(.x 0, ⟨[.sl true 3 (.int .i64)], [(9, .one (.vw 142402))], [], [(142402, 0)], [], []⟩)] (.seq .nil (.seq .nil (.seq (.block [] (.seq .nil (.seq .nil (.cond [(.n, ⟨[.sl true 3 (.int .i64), .sl true 3 (.int .i64), .int .i64, .int .i64], [(9, .one (.vw 142400)), (26, .one (.vw 142401)), (27, .one (.h 2)), (28, .one (.h 3))], [], [(142400, 0), (142401, 1)], [], []⟩)] .nil .nil)))) .nil)))))) .nil))))
def env_s_PagesIn : Env := envOf ti [k_s_GoodTree, k_s_l6Tree, k_s_l5Put] []
theorem eok_s_PagesIn : EnvOk Try.prog env_s_PagesIn := envOf_ok tab mix _ _ (by
  intro k hk
  simp only [List.mem_cons, List.not_mem_nil, or_false] at hk
  rcases hk with rfl | rfl | rfl
  · exact s_s_GoodTree
  · exact s_s_l6Tree
  · exact s_s_l5Put)
theorem v_s_PagesIn (x0 : List (List Int)) (x1 : List Int) (x2 : List Int) (x3 : List Int) (x4 : Int) : (vfun env_s_PagesIn Try.f14 J_s_PagesIn ann_s_PagesIn [] [.ag [⟨.sl false 22 (.sl false 5 (.int .u8)), x0⟩, ⟨.sl false 5 (.int .u8), x1⟩, ⟨.sl false 3 (.int .i64), x2⟩, ⟨.sl false 3 (.int .i64), x3⟩], .one ⟨.int .i64, x4⟩] []).run = (G.s_PagesIn x0 x1 x2 x3 x4).bind fun y => some (Res.mk [.one ⟨.sl true 3 (.int .i64), y.1⟩, .one ⟨.bool, y.2⟩] [] []) := by kernel_rfl
def k_s_PagesIn : Kn := ⟨14, [0, 0], fun args rows => match args, rows with
  | [.ag [⟨.sl false 22 (.sl false 5 (.int .u8)), x0⟩, ⟨.sl false 5 (.int .u8), x1⟩, ⟨.sl false 3 (.int .i64), x2⟩, ⟨.sl false 3 (.int .i64), x3⟩], .one ⟨.int .i64, x4⟩], [] => some ⟨_, G.s_PagesIn x0 x1 x2 x3 x4, fun y => ⟨[.one ⟨.sl true 3 (.int .i64), y.1⟩, .one ⟨.bool, y.2⟩], [], []⟩⟩
  | _, _ => none, []⟩
theorem s_s_PagesIn : KnOk Try.prog k_s_PagesIn := by
  intro args rows a h y hy
  simp only [k_s_PagesIn] at h
  split at h
  · injection h with h
    subst h
    exact vfun_ok eok_s_PagesIn Try.func14 rfl (by rw [v_s_PagesIn]; simp only at hy; rw [hy]; rfl)
  · cases h
def J_i_tree_need : Joins := [(.r, ⟨[.int .i64], [(4, .one (.h 0))], [], [], [], []⟩)]
def ann_i_tree_need : Ann := .seq .nil (.seq .nil (.seq .nil (.seq (.seq .nil (.block [] (.loop ⟨[.sl false 35 (.pair (.int .i64) (.int .i64)), .int .i64, .bool, .int .i64, .int .i64, .sl false 3 (.int .i64), .sl false 24 (.sl false 3 (.int .i64))], [(1, .one (.h 0)), (2, .pl 2 0), (5, .one (.h 1)), (6, .one (.h 2)), (15, .one (.h 3))], [(2, [.h 4, .h 5, .h 6])], [], [], []⟩ [(.x 0, ⟨[.int .i64, .bool], [(5, .one (.h 0)), (6, .one (.h 1))], [], [], [], []⟩)] (.seq .nil (.seq .nil (.seq (.block [] (.seq .nil (.seq .nil (.seq (.seq .nil (.block [] (.loop ⟨[.sl false 35 (.pair (.int .i64) (.int .i64)), .int .i64, .bool, .int .i64, .sl true 3 (.int .i64), .bool, .int .i64, .sl false 35 (.pair (.int .i64) (.int .i64)), .int .i64, .int .i64, .int .i64, .sl false 3 (.int .i64), .sl false 24 (.sl false 3 (.int .i64))], [(1, .one (.h 0)), (2, .pl 2 0), (5, .one (.h 1)), (6, .one (.h 2)), (7, .one (.h 3)), (8, .one (.vw 165952)), (9, .one (.h 5)), (15, .one (.h 6)), (24, .one (.h 7)), (25, .one (.h 8)), (26, .one (.h 9))], [(2, [.h 10, .h 11, .h 12])], [(165952, 4)], [], []⟩ [(.x 2, ⟨[.sl false 35 (.pair (.int .i64) (.int .i64)), .int .i64, .bool, .sl true 3 (.int .i64), .bool, .int .i64, .int .i64, .sl false 3 (.int .i64), .sl false 24 (.sl false 3 (.int .i64))], [(1, .one (.h 0)), (2, .pl 2 0), (5, .one (.h 1)), (6, .one (.h 2)), (8, .one (.vw 166017)), (9, .one (.h 4)), (15, .one (.h 5))], [(2, [.h 6, .h 7, .h 8])], [(166017, 3)], [], []⟩)] (.seq .nil (.seq .nil (.seq (.block [] (.seq .nil (.seq .nil (.cond [(.n, ⟨[.sl false 35 (.pair (.int .i64) (.int .i64)), .int .i64, .bool, .int .i64, .sl true 3 (.int .i64), .bool, .int .i64, .sl false 35 (.pair (.int .i64) (.int .i64)), .int .i64, .int .i64, .int .i64, .sl false 3 (.int .i64), .sl false 24 (.sl false 3 (.int .i64))], [(1, .one (.h 0)), (2, .pl 2 0), (5, .one (.h 1)), (6, .one (.h 2)), (7, .one (.h 3)), (8, .one (.vw 166016)), (9, .one (.h 5)), (15, .one (.h 6)), (24, .one (.h 7)), (25, .one (.h 8)), (26, .one (.h 9))], [(2, [.h 10, .h 11, .h 12])], [(166016, 4)], [], []⟩)] .nil .nil)))) .nil)))))) (.seq (.reg [(.n, ⟨[.sl false 35 (.pair (.int .i64) (.int .i64)), .int .i64, .bool, .sl true 3 (.int .i64), .bool, .int .i64, .int .i64, .sl false 3 (.int .i64), .sl false 24 (.sl false 3 (.int .i64))], [(1, .one (.h 0)), (2, .pl 2 0), (5, .one (.h 1)), (6, .one (.h 2)), (8, .one (.vw 166018)), (9, .one (.h 4)), (15, .one (.h 5))], [(2, [.h 6, .h 7, .h 8])], [(166018, 3)], [], []⟩)]) (.seq (.reg [(.n, ⟨[.sl false 35 (.pair (.int .i64) (.int .i64)), .int .i64, .bool, .int .i64, .bool, .int .i64, .sl false 3 (.int .i64), .sl false 24 (.sl false 3 (.int .i64))], [(1, .one (.h 0)), (2, .pl 2 0), (5, .one (.h 1)), (6, .one (.h 2)), (15, .one (.h 3)), (54, .one (.h 4))], [(2, [.h 5, .h 6, .h 7])], [], [], []⟩)]) (.cond [(.n, ⟨[.sl false 35 (.pair (.int .i64) (.int .i64)), .int .i64, .bool, .int .i64, .int .i64, .sl false 3 (.int .i64), .sl false 24 (.sl false 3 (.int .i64))], [(1, .one (.h 0)), (2, .pl 2 0), (5, .one (.h 1)), (6, .one (.h 2)), (15, .one (.h 3))], [(2, [.h 4, .h 5, .h 6])], [], [], []⟩)] .nil .nil))))))) .nil)))))) (.seq (.seq .nil (.cond [(.n, ⟨[.int .i64], [(5, .one (.h 0))], [], [], [], []⟩)] .nil .nil)) .nil))))
def env_i_tree_need : Env := envOf ti [k_slices_Clone_int_int, k_i_isEmpty] []
theorem eok_i_tree_need : EnvOk Try.prog env_i_tree_need := envOf_ok tab mix _ _ (by
  intro k hk
  simp only [List.mem_cons, List.not_mem_nil, or_false] at hk
  rcases hk with rfl | rfl
  · exact s_slices_Clone_int_int
  · exact s_i_isEmpty)
theorem v_i_tree_need (x0 : Int) (x1 : List Int) (x2 : List (List Int)) (x3 : List (Int × Int)) : (vfun env_i_tree_need Try.f64 J_i_tree_need ann_i_tree_need [] [.ag [⟨.int .i64, x0⟩, ⟨.sl false 3 (.int .i64), x1⟩, ⟨.sl false 24 (.sl false 3 (.int .i64)), x2⟩], .one ⟨.sl false 35 (.pair (.int .i64) (.int .i64)), x3⟩] []).run = (G.i_tree_need x0 x1 x2 x3).bind fun y => some (Res.mk [.one ⟨.int .i64, y⟩] [] []) := by kernel_rfl
def k_i_tree_need : Kn := ⟨64, [0, 0], fun args rows => match args, rows with
  | [.ag [⟨.int .i64, x0⟩, ⟨.sl false 3 (.int .i64), x1⟩, ⟨.sl false 24 (.sl false 3 (.int .i64)), x2⟩], .one ⟨.sl false 35 (.pair (.int .i64) (.int .i64)), x3⟩], [] => some ⟨_, G.i_tree_need x0 x1 x2 x3, fun y => ⟨[.one ⟨.int .i64, y⟩], [], []⟩⟩
  | _, _ => none, []⟩
theorem s_i_tree_need : KnOk Try.prog k_i_tree_need := by
  intro args rows a h y hy
  simp only [k_i_tree_need] at h
  split at h
  · injection h with h
    subst h
    exact vfun_ok eok_i_tree_need Try.func64 rfl (by rw [v_i_tree_need]; simp only at hy; rw [hy]; rfl)
  · cases h
def J_i_NeedForKeys : Joins := [(.r, ⟨[.int .i64, .bool], [(6, .one (.h 0)), (7, .one (.h 1))], [], [], [], []⟩)]
def ann_i_NeedForKeys : Ann := .seq .nil (.seq .nil (.seq (.seq (.reg [(.n, ⟨[.sl false 35 (.pair (.int .i64) (.int .i64)), .bool, .int .i64, .sl true 3 (.int .i64), .sl true 24 (.sl true 3 (.int .i64))], [(2, .one (.h 0)), (8, .pl 8 0), (22, .one (.h 1))], [(8, [.h 2, .vw 129024, .vw 129025])], [(129024, 3), (129025, 4)], [], []⟩)]) .nil) .nil))
def env_i_NeedForKeys : Env := envOf ti [k_i_treeOf, k_i_Space_areSets_ffff, k_i_tree_need] []
theorem eok_i_NeedForKeys : EnvOk Try.prog env_i_NeedForKeys := envOf_ok tab mix _ _ (by
  intro k hk
  simp only [List.mem_cons, List.not_mem_nil, or_false] at hk
  rcases hk with rfl | rfl | rfl
  · exact s_i_treeOf
  · exact s_i_Space_areSets_ffff
  · exact s_i_tree_need)
theorem v_i_NeedForKeys (x0 : List (List Int)) (x1 : List Int) (x2 : List Int) (x3 : List Int) (x4 : Int) (x5 : List (Int × Int)) : (vfun env_i_NeedForKeys Try.f15 J_i_NeedForKeys ann_i_NeedForKeys [] [.ag [⟨.sl false 22 (.sl false 5 (.int .u8)), x0⟩, ⟨.sl false 5 (.int .u8), x1⟩, ⟨.sl false 3 (.int .i64), x2⟩, ⟨.sl false 3 (.int .i64), x3⟩], .one ⟨.int .i64, x4⟩, .one ⟨.sl false 35 (.pair (.int .i64) (.int .i64)), x5⟩] []).run = (G.i_NeedForKeys x0 x1 x2 x3 x4 x5).bind fun y => some (Res.mk [.one ⟨.int .i64, y.1⟩, .one ⟨.bool, y.2⟩] [] []) := by kernel_rfl
def k_i_NeedForKeys : Kn := ⟨15, [0, 0, 0], fun args rows => match args, rows with
  | [.ag [⟨.sl false 22 (.sl false 5 (.int .u8)), x0⟩, ⟨.sl false 5 (.int .u8), x1⟩, ⟨.sl false 3 (.int .i64), x2⟩, ⟨.sl false 3 (.int .i64), x3⟩], .one ⟨.int .i64, x4⟩, .one ⟨.sl false 35 (.pair (.int .i64) (.int .i64)), x5⟩], [] => some ⟨_, G.i_NeedForKeys x0 x1 x2 x3 x4 x5, fun y => ⟨[.one ⟨.int .i64, y.1⟩, .one ⟨.bool, y.2⟩], [], []⟩⟩
  | _, _ => none, []⟩
theorem s_i_NeedForKeys : KnOk Try.prog k_i_NeedForKeys := by
  intro args rows a h y hy
  simp only [k_i_NeedForKeys] at h
  split at h
  · injection h with h
    subst h
    exact vfun_ok eok_i_NeedForKeys Try.func15 rfl (by rw [v_i_NeedForKeys]; simp only at hy; rw [hy]; rfl)
  · cases h
def J_i_FreeIn : Joins := [(.r, ⟨[.int .i64, .bool], [(2, .one (.h 0)), (3, .one (.h 1))], [], [], [], []⟩)]
def ann_i_FreeIn : Ann := .seq .nil (.seq .nil (.seq .nil (.seq (.seq .nil (.block [] (.loop ⟨[.int .i64, .int .i64, .int .i64, .sl false 22 (.sl false 5 (.int .u8)), .sl false 5 (.int .u8), .sl false 3 (.int .i64), .sl false 3 (.int .i64)], [(1, .pl 1 0), (4, .one (.h 0)), (11, .one (.h 1)), (12, .one (.h 2))], [(1, [.h 3, .h 4, .h 5, .h 6])], [], [], []⟩ [(.x 0, ⟨[.int .i64], [(4, .one (.h 0))], [], [], [], []⟩)] (.seq .nil (.seq .nil (.seq (.block [] (.seq .nil (.seq .nil (.cond [(.n, ⟨[.int .i64, .int .i64, .int .i64, .sl false 22 (.sl false 5 (.int .u8)), .sl false 5 (.int .u8), .sl false 3 (.int .i64), .sl false 3 (.int .i64)], [(1, .pl 1 0), (4, .one (.h 0)), (11, .one (.h 1)), (12, .one (.h 2))], [(1, [.h 3, .h 4, .h 5, .h 6])], [], [], []⟩)] .nil .nil)))) .nil)))))) .nil)))
def env_i_FreeIn : Env := envOf ti [k_i_GoodSpace, k_i_Space_used_ffff] []
theorem eok_i_FreeIn : EnvOk Try.prog env_i_FreeIn := envOf_ok tab mix _ _ (by
  intro k hk
  simp only [List.mem_cons, List.not_mem_nil, or_false] at hk
  rcases hk with rfl | rfl
  · exact s_i_GoodSpace
  · exact s_i_Space_used_ffff)
theorem v_i_FreeIn (x0 : List (List Int)) (x1 : List Int) (x2 : List Int) (x3 : List Int) : (vfun env_i_FreeIn Try.f16 J_i_FreeIn ann_i_FreeIn [] [.ag [⟨.sl false 22 (.sl false 5 (.int .u8)), x0⟩, ⟨.sl false 5 (.int .u8), x1⟩, ⟨.sl false 3 (.int .i64), x2⟩, ⟨.sl false 3 (.int .i64), x3⟩]] []).run = (G.i_FreeIn x0 x1 x2 x3).bind fun y => some (Res.mk [.one ⟨.int .i64, y.1⟩, .one ⟨.bool, y.2⟩] [] []) := by kernel_rfl
def k_i_FreeIn : Kn := ⟨16, [0], fun args rows => match args, rows with
  | [.ag [⟨.sl false 22 (.sl false 5 (.int .u8)), x0⟩, ⟨.sl false 5 (.int .u8), x1⟩, ⟨.sl false 3 (.int .i64), x2⟩, ⟨.sl false 3 (.int .i64), x3⟩]], [] => some ⟨_, G.i_FreeIn x0 x1 x2 x3, fun y => ⟨[.one ⟨.int .i64, y.1⟩, .one ⟨.bool, y.2⟩], [], []⟩⟩
  | _, _ => none, []⟩
theorem s_i_FreeIn : KnOk Try.prog k_i_FreeIn := by
  intro args rows a h y hy
  simp only [k_i_FreeIn] at h
  split at h
  · injection h with h
    subst h
    exact vfun_ok eok_i_FreeIn Try.func16 rfl (by rw [v_i_FreeIn]; simp only at hy; rw [hy]; rfl)
  · cases h
def J_l_FnTrees : Joins := [(.r, ⟨[.bool], [(2, .one (.h 0))], [], [], [], []⟩)]
def ann_l_FnTrees : Ann := .seq .nil (.seq .nil (.seq .nil (.seq .nil (.seq .nil (.seq .nil (.seq .nil (.seq .nil (.seq .nil (.seq .nil (.seq .nil (.seq (.seq .nil (.block [] (.loop ⟨[.int .i64, .sl true 35 (.pair (.int .i64) (.int .i64)), .sl true 35 (.pair (.int .i64) (.int .i64)), .sl true 3 (.int .i64), .sl true 35 (.pair (.int .i64) (.int .i64)), .int .i64, .int .i64, .sl true 22 (.sl true 5 (.int .u8)), .sl true 5 (.int .u8), .sl true 3 (.int .i64), .sl true 3 (.int .i64), .sl true 22 (.sl true 5 (.int .u8)), .sl true 5 (.int .u8), .sl true 3 (.int .i64), .sl true 3 (.int .i64)], [(3, .pl 3 0), (4, .one (.h 0)), (5, .one (.vw 282624)), (6, .pl 6 0), (14, .one (.vw 282625)), (16, .one (.vw 282626)), (81, .one (.vw 282627)), (82, .one (.h 5)), (83, .one (.h 6))], [(3, [.vw 282628, .vw 282629, .vw 282630, .vw 282631]), (6, [.vw 282632, .vw 282633, .vw 282634, .vw 282635])], [(282624, 1), (282625, 2), (282626, 3), (282627, 4), (282628, 7), (282629, 8), (282630, 9), (282631, 10), (282632, 11), (282633, 12), (282634, 13), (282635, 14)], [], []⟩ [(.x 0, ⟨[.int .i64, .sl true 35 (.pair (.int .i64) (.int .i64)), .sl true 35 (.pair (.int .i64) (.int .i64)), .sl true 3 (.int .i64), .sl true 22 (.sl true 5 (.int .u8)), .sl true 5 (.int .u8), .sl true 3 (.int .i64), .sl true 3 (.int .i64), .sl true 22 (.sl true 5 (.int .u8)), .sl true 5 (.int .u8), .sl true 3 (.int .i64), .sl true 3 (.int .i64)], [(3, .pl 3 0), (4, .one (.h 0)), (5, .one (.vw 282688)), (6, .pl 6 0), (14, .one (.vw 282689)), (16, .one (.vw 282690))], [(3, [.vw 282691, .vw 282692, .vw 282693, .vw 282694]), (6, [.vw 282695, .vw 282696, .vw 282697, .vw 282698])], [(282688, 1), (282689, 2), (282690, 3), (282691, 4), (282692, 5), (282693, 6), (282694, 7), (282695, 8), (282696, 9), (282697, 10), (282698, 11)], [], []⟩)] .nil))) (.seq (.seq .nil (.block [] (.loop ⟨[.int .i64, .sl true 35 (.pair (.int .i64) (.int .i64)), .sl true 35 (.pair (.int .i64) (.int .i64)), .sl true 3 (.int .i64), .int .i64, .int .i64, .sl true 22 (.sl true 5 (.int .u8)), .sl true 5 (.int .u8), .sl true 3 (.int .i64), .sl true 3 (.int .i64), .sl true 22 (.sl true 5 (.int .u8)), .sl true 5 (.int .u8), .sl true 3 (.int .i64), .sl true 3 (.int .i64)], [(3, .pl 3 0), (4, .one (.h 0)), (5, .one (.vw 282699)), (6, .pl 6 0), (14, .one (.vw 282700)), (16, .one (.vw 282701)), (94, .one (.vw 282699)), (95, .one (.h 4)), (96, .one (.h 5))], [(3, [.vw 282702, .vw 282703, .vw 282704, .vw 282705]), (6, [.vw 282706, .vw 282707, .vw 282708, .vw 282709])], [(282699, 1), (282700, 2), (282701, 3), (282702, 6), (282703, 7), (282704, 8), (282705, 9), (282706, 10), (282707, 11), (282708, 12), (282709, 13)], [], []⟩ [(.x 2, ⟨[.int .i64, .sl true 35 (.pair (.int .i64) (.int .i64)), .sl true 35 (.pair (.int .i64) (.int .i64)), .sl true 3 (.int .i64), .sl true 22 (.sl true 5 (.int .u8)), .sl true 5 (.int .u8), .sl true 3 (.int .i64), .sl true 3 (.int .i64), .sl true 22 (.sl true 5 (.int .u8)), .sl true 5 (.int .u8), .sl true 3 (.int .i64), .sl true 3 (.int .i64)], [(3, .pl 3 0), (4, .one (.h 0)), (5, .one (.vw 282763)), (6, .pl 6 0), (14, .one (.vw 282764)), (16, .one (.vw 282765))], [(3, [.vw 282766, .vw 282767, .vw 282768, .vw 282769]), (6, [.vw 282770, .vw 282771, .vw 282772, .vw 282773])], [(282763, 1), (282764, 2), (282765, 3), (282766, 4), (282767, 5), (282768, 6), (282769, 7), (282770, 8), (282771, 9), (282772, 10), (282773, 11)], [], []⟩)] .nil))) (.seq .nil (.seq (.seq .nil (.block [] (.loop ⟨[.int .i64, .sl true 35 (.pair (.int .i64) (.int .i64)), .sl true 3 (.int .i64), .sl true 3 (.int .i64), .sl true 35 (.pair (.int .i64) (.int .i64)), .int .i64, .int .i64, .sl true 22 (.sl true 5 (.int .u8)), .sl true 5 (.int .u8), .sl true 3 (.int .i64), .sl true 3 (.int .i64), .sl true 22 (.sl true 5 (.int .u8)), .sl true 5 (.int .u8), .sl true 3 (.int .i64), .sl true 3 (.int .i64)], [(3, .pl 3 0), (4, .one (.h 0)), (5, .one (.vw 282774)), (6, .pl 6 0), (16, .one (.vw 282775)), (21, .one (.vw 282776)), (108, .one (.vw 282777)), (109, .one (.h 5)), (110, .one (.h 6))], [(3, [.vw 282778, .vw 282779, .vw 282780, .vw 282781]), (6, [.vw 282782, .vw 282783, .vw 282784, .vw 282785])], [(282774, 1), (282775, 2), (282776, 3), (282777, 4), (282778, 7), (282779, 8), (282780, 9), (282781, 10), (282782, 11), (282783, 12), (282784, 13), (282785, 14)], [], []⟩ [(.x 4, ⟨[.int .i64, .sl true 35 (.pair (.int .i64) (.int .i64)), .sl true 3 (.int .i64), .sl true 3 (.int .i64), .sl true 22 (.sl true 5 (.int .u8)), .sl true 5 (.int .u8), .sl true 3 (.int .i64), .sl true 3 (.int .i64), .sl true 22 (.sl true 5 (.int .u8)), .sl true 5 (.int .u8), .sl true 3 (.int .i64), .sl true 3 (.int .i64)], [(3, .pl 3 0), (4, .one (.h 0)), (5, .one (.vw 282838)), (6, .pl 6 0), (16, .one (.vw 282839)), (21, .one (.vw 282840))], [(3, [.vw 282841, .vw 282842, .vw 282843, .vw 282844]), (6, [.vw 282845, .vw 282846, .vw 282847, .vw 282848])], [(282838, 1), (282839, 2), (282840, 3), (282841, 4), (282842, 5), (282843, 6), (282844, 7), (282845, 8), (282846, 9), (282847, 10), (282848, 11)], [], []⟩)] .nil))) (.seq .nil (.seq .nil (.seq (.seq .nil (.block [] (.loop ⟨[.int .i64, .sl true 35 (.pair (.int .i64) (.int .i64)), .sl true 3 (.int .i64), .int .i64, .int .i64, .sl true 22 (.sl true 5 (.int .u8)), .sl true 5 (.int .u8), .sl true 3 (.int .i64), .sl true 3 (.int .i64), .sl true 22 (.sl true 5 (.int .u8)), .sl true 5 (.int .u8), .sl true 3 (.int .i64), .sl true 3 (.int .i64)], [(3, .pl 3 0), (4, .one (.h 0)), (5, .one (.vw 282849)), (6, .pl 6 0), (131, .one (.vw 282850)), (132, .one (.h 3)), (133, .one (.h 4))], [(3, [.vw 282851, .vw 282852, .vw 282853, .vw 282854]), (6, [.vw 282855, .vw 282856, .vw 282857, .vw 282858])], [(282849, 1), (282850, 2), (282851, 5), (282852, 6), (282853, 7), (282854, 8), (282855, 9), (282856, 10), (282857, 11), (282858, 12)], [], []⟩ [(.x 6, ⟨[.int .i64, .sl true 35 (.pair (.int .i64) (.int .i64)), .sl true 22 (.sl true 5 (.int .u8)), .sl true 5 (.int .u8), .sl true 3 (.int .i64), .sl true 3 (.int .i64), .sl true 22 (.sl true 5 (.int .u8)), .sl true 5 (.int .u8), .sl true 3 (.int .i64), .sl true 3 (.int .i64)], [(3, .pl 3 0), (4, .one (.h 0)), (5, .one (.vw 282913)), (6, .pl 6 0)], [(3, [.vw 282914, .vw 282915, .vw 282916, .vw 282917]), (6, [.vw 282918, .vw 282919, .vw 282920, .vw 282921])], [(282913, 1), (282914, 2), (282915, 3), (282916, 4), (282917, 5), (282918, 6), (282919, 7), (282920, 8), (282921, 9)], [], []⟩), (.r, ⟨[.bool], [(2, .one (.h 0))], [], [], [], []⟩)] .nil))) (.seq .nil (.seq .nil (.seq .nil (.seq (.reg [(.n, ⟨[.bool], [(2, .one (.h 0))], [], [], [], []⟩)]) .nil)))))))))))))))))))))
def env_l_FnTrees : Env := envOf ti [k_s_DrawSetKeys, k_i_SetKeys, k_s_SetKeys, k_s_KeysIn, k_i_KeysIn, k_l_sameInts, k_s_PagesIn, k_i_NeedForKeys, k_i_FreeIn] []
theorem eok_l_FnTrees : EnvOk Try.prog env_l_FnTrees := envOf_ok tab mix _ _ (by
  intro k hk
  simp only [List.mem_cons, List.not_mem_nil, or_false] at hk
  rcases hk with rfl | rfl | rfl | rfl | rfl | rfl | rfl | rfl | rfl
  · exact s_s_DrawSetKeys
  · exact s_i_SetKeys
  · exact s_s_SetKeys
  · exact s_s_KeysIn
  · exact s_i_KeysIn
  · exact s_l_sameInts
  · exact s_s_PagesIn
  · exact s_i_NeedForKeys
  · exact s_i_FreeIn)
theorem v_l_FnTrees (x0 : List Int) : (vfun env_l_FnTrees Try.f3 J_l_FnTrees ann_l_FnTrees [] [.one ⟨.sl false 5 (.int .u8), x0⟩] []).run = (G.l_FnTrees x0).bind fun y => some (Res.mk [.one ⟨.bool, y⟩] [] []) := by kernel_rfl
def k_l_FnTrees : Kn := ⟨3, [0], fun args rows => match args, rows with
  | [.one ⟨.sl false 5 (.int .u8), x0⟩], [] => some ⟨_, G.l_FnTrees x0, fun y => ⟨[.one ⟨.bool, y⟩], [], []⟩⟩
  | _, _ => none, []⟩
theorem s_l_FnTrees : KnOk Try.prog k_l_FnTrees := by
  intro args rows a h y hy
  simp only [k_l_FnTrees] at h
  split at h
  · injection h with h
    subst h
    exact vfun_ok eok_l_FnTrees Try.func3 rfl (by rw [v_l_FnTrees]; simp only at hy; rw [hy]; rfl)
  · cases h
end
end Go.Proofs.Ytijemcbcchnnjaa
