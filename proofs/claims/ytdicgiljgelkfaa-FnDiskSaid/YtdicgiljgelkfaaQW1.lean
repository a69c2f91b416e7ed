import Derived.Test.YtdicgiljgelkfaaQW0
set_option linter.unusedVariables false
set_option maxRecDepth 100000
namespace Go.Proofs.Ytdicgiljgelkfaa
open Go.V
noncomputable section
def J_s_GoodDisk : Joins := [(.r, ⟨[.bool], [(2, .one (.h 0))], [], [], []⟩)]
def ann_s_GoodDisk : Ann := .seq .nil (.seq (.seq (.reg [(.n, ⟨[.bool, .sl false 33 (.sl false 5 (.int .u8)), .int .i64, .bool, .int .i64], [(1, .pl 1 0), (21, .one (.h 0))], [(1, [.h 1, .h 2, .h 3, .h 4])], [], []⟩)]) .nil) (.seq (.seq .nil (.block [] (.loop ⟨[.sl false 33 (.sl false 5 (.int .u8)), .int .i64, .int .i64], [(23, .one (.h 0)), (24, .one (.h 1)), (25, .one (.h 2))], [], [], []⟩ [(.x 0, ⟨[], [], [], [], []⟩), (.r, ⟨[.bool], [(2, .one (.h 0))], [], [], []⟩)] .nil))) .nil))
def env_s_GoodDisk : Env := envOf ti [k_s_l1In] []
theorem eok_s_GoodDisk : EnvOk Try.prog env_s_GoodDisk := envOf_ok tab mix _ _ (by
  intro k hk
  simp only [List.mem_cons, List.not_mem_nil, or_false] at hk
  rcases hk with rfl
  · exact s_s_l1In)
theorem v_s_GoodDisk (x0 : List (List Int)) (x1 : Int) (x2 : Bool) (x3 : Int) : (vfun env_s_GoodDisk Try.f58 J_s_GoodDisk ann_s_GoodDisk [] [.ag [⟨.sl false 33 (.sl false 5 (.int .u8)), x0⟩, ⟨.int .i64, x1⟩, ⟨.bool, x2⟩, ⟨.int .i64, x3⟩]] []).run = (G.s_GoodDisk x0 x1 x2 x3).bind fun y => some (Res.mk [.one ⟨.bool, y⟩] [] []) := by kernel_rfl
def k_s_GoodDisk : Kn := ⟨58, [0], fun args rows => match args, rows with
  | [.ag [⟨.sl false 33 (.sl false 5 (.int .u8)), x0⟩, ⟨.int .i64, x1⟩, ⟨.bool, x2⟩, ⟨.int .i64, x3⟩]], [] => some ⟨_, G.s_GoodDisk x0 x1 x2 x3, fun y => ⟨[.one ⟨.bool, y⟩], [], []⟩⟩
  | _, _ => none, []⟩
theorem s_s_GoodDisk : KnOk Try.prog k_s_GoodDisk := by
  intro args rows a h y hy
  simp only [k_s_GoodDisk] at h
  split at h
  · injection h with h
    subst h
    exact vfun_ok eok_s_GoodDisk Try.func58 rfl (by rw [v_s_GoodDisk]; simp only at hy; rw [hy]; rfl)
  · cases h

def J_s_l2Own : Joins := [(.r, ⟨[.sl true 33 (.sl true 5 (.int .u8)), .int .i64, .bool, .int .i64], [(2, .pl 2 0)], [(2, [.vw 126017, .h 1, .h 2, .h 3])], [(126017, 0)], []⟩)]
def ann_s_l2Own : Ann := .seq .nil (.seq .nil (.seq (.seq .nil (.block [] (.loop ⟨[.sl true 33 (.sl true 5 (.int .u8)), .sl false 33 (.sl false 5 (.int .u8)), .int .i64, .int .i64, .sl false 33 (.sl false 5 (.int .u8)), .int .i64, .bool, .int .i64, .int .i64, .bool, .int .i64], [(1, .pl 1 0), (2, .pl 2 0), (3, .one (.vw 125952)), (7, .one (.h 1)), (8, .one (.h 2)), (9, .one (.h 3))], [(1, [.h 4, .h 5, .h 6, .h 7]), (2, [.nil, .h 8, .h 9, .h 10])], [(125952, 0)], []⟩ [(.x 0, ⟨[.sl true 33 (.sl true 5 (.int .u8)), .sl false 33 (.sl false 5 (.int .u8)), .int .i64, .bool, .int .i64, .int .i64, .bool, .int .i64], [(1, .pl 1 0), (2, .pl 2 0), (3, .one (.vw 126016))], [(1, [.h 1, .h 2, .h 3, .h 4]), (2, [.nil, .h 5, .h 6, .h 7])], [(126016, 0)], []⟩)] .nil))) .nil))
def env_s_l2Own : Env := envOf ti [] []
theorem eok_s_l2Own : EnvOk Try.prog env_s_l2Own := envOf_ok tab mix _ _ (by
  intro k hk; cases hk)
theorem v_s_l2Own (x0 : List (List Int)) (x1 : Int) (x2 : Bool) (x3 : Int) : (vfun env_s_l2Own Try.f59 J_s_l2Own ann_s_l2Own [] [.ag [⟨.sl false 33 (.sl false 5 (.int .u8)), x0⟩, ⟨.int .i64, x1⟩, ⟨.bool, x2⟩, ⟨.int .i64, x3⟩]] []).run = (G.s_l2Own x0 x1 x2 x3).bind fun y => some (Res.mk [.ag [⟨.sl true 33 (.sl true 5 (.int .u8)), y.1⟩, ⟨.int .i64, y.2.1⟩, ⟨.bool, y.2.2.1⟩, ⟨.int .i64, y.2.2.2⟩]] [] []) := by kernel_rfl
def k_s_l2Own : Kn := ⟨59, [0], fun args rows => match args, rows with
  | [.ag [⟨.sl false 33 (.sl false 5 (.int .u8)), x0⟩, ⟨.int .i64, x1⟩, ⟨.bool, x2⟩, ⟨.int .i64, x3⟩]], [] => some ⟨_, G.s_l2Own x0 x1 x2 x3, fun y => ⟨[.ag [⟨.sl true 33 (.sl true 5 (.int .u8)), y.1⟩, ⟨.int .i64, y.2.1⟩, ⟨.bool, y.2.2.1⟩, ⟨.int .i64, y.2.2.2⟩]], [], []⟩⟩
  | _, _ => none, []⟩
theorem s_s_l2Own : KnOk Try.prog k_s_l2Own := by
  intro args rows a h y hy
  simp only [k_s_l2Own] at h
  split at h
  · injection h with h
    subst h
    exact vfun_ok eok_s_l2Own Try.func59 rfl (by rw [v_s_l2Own]; simp only at hy; rw [hy]; rfl)
  · cases h

def J_s_WriteBlock : Joins := [(.r, ⟨[.int .i64, .sl true 33 (.sl true 5 (.int .u8)), .int .i64, .bool, .int .i64], [(6, .pl 6 0), (7, .one (.h 0))], [(6, [.vw 145408, .h 2, .h 3, .h 4])], [(145408, 1)], []⟩)]
def ann_s_WriteBlock : Ann := .seq .nil (.seq (.seq (.reg [(.n, ⟨[.int .i64, .sl false 5 (.int .u8), .bool, .sl false 33 (.sl false 5 (.int .u8)), .int .i64, .bool, .int .i64, .int .i64, .bool, .int .i64], [(1, .one (.h 0)), (2, .one (.h 1)), (3, .pl 3 0), (6, .pl 6 0), (20, .one (.h 2))], [(3, [.h 3, .h 4, .h 5, .h 6]), (6, [.nil, .h 7, .h 8, .h 9])], [], []⟩)]) .nil) .nil)
def env_s_WriteBlock : Env := envOf ti [k_s_GoodDisk, k_s_l2Own, k_s_l1In, k_s_l2Put_o] []
theorem eok_s_WriteBlock : EnvOk Try.prog env_s_WriteBlock := envOf_ok tab mix _ _ (by
  intro k hk
  simp only [List.mem_cons, List.not_mem_nil, or_false] at hk
  rcases hk with rfl | rfl | rfl | rfl
  · exact s_s_GoodDisk
  · exact s_s_l2Own
  · exact s_s_l1In
  · exact s_s_l2Put_o)
theorem v_s_WriteBlock (x0 : List (List Int)) (x1 : Int) (x2 : Bool) (x3 : Int) (x4 : Int) (x5 : List Int) : (vfun env_s_WriteBlock Try.f18 J_s_WriteBlock ann_s_WriteBlock [] [.ag [⟨.sl false 33 (.sl false 5 (.int .u8)), x0⟩, ⟨.int .i64, x1⟩, ⟨.bool, x2⟩, ⟨.int .i64, x3⟩], .one ⟨.int .i64, x4⟩, .one ⟨.sl false 5 (.int .u8), x5⟩] []).run = (G.s_WriteBlock x0 x1 x2 x3 x4 x5).bind fun y => some (Res.mk [.ag [⟨.sl true 33 (.sl true 5 (.int .u8)), y.2.1⟩, ⟨.int .i64, y.2.2.1⟩, ⟨.bool, y.2.2.2.1⟩, ⟨.int .i64, y.2.2.2.2⟩], .one ⟨.int .i64, y.1⟩] [] []) := by kernel_rfl
def k_s_WriteBlock : Kn := ⟨18, [0, 0, 0], fun args rows => match args, rows with
  | [.ag [⟨.sl false 33 (.sl false 5 (.int .u8)), x0⟩, ⟨.int .i64, x1⟩, ⟨.bool, x2⟩, ⟨.int .i64, x3⟩], .one ⟨.int .i64, x4⟩, .one ⟨.sl false 5 (.int .u8), x5⟩], [] => some ⟨_, G.s_WriteBlock x0 x1 x2 x3 x4 x5, fun y => ⟨[.ag [⟨.sl true 33 (.sl true 5 (.int .u8)), y.2.1⟩, ⟨.int .i64, y.2.2.1⟩, ⟨.bool, y.2.2.2.1⟩, ⟨.int .i64, y.2.2.2.2⟩], .one ⟨.int .i64, y.1⟩], [], []⟩⟩
  | _, _ => none, []⟩
theorem s_s_WriteBlock : KnOk Try.prog k_s_WriteBlock := by
  intro args rows a h y hy
  simp only [k_s_WriteBlock] at h
  split at h
  · injection h with h
    subst h
    exact vfun_ok eok_s_WriteBlock Try.func18 rfl (by rw [v_s_WriteBlock]; simp only at hy; rw [hy]; rfl)
  · cases h

def J_l_sameBlocks : Joins := [(.r, ⟨[.bool], [(4, .one (.h 0))], [], [], []⟩)]
def ann_l_sameBlocks : Ann := .seq .nil (.seq .nil (.seq (.seq .nil (.block [] (.loop ⟨[.sl false 33 (.sl false 5 (.int .u8)), .sl false 33 (.sl false 5 (.int .u8)), .int .i64, .int .i64], [(0, .one (.h 0)), (1, .one (.h 1)), (12, .one (.h 2)), (13, .one (.h 3))], [], [], []⟩ [(.x 0, ⟨[], [], [], [], []⟩), (.r, ⟨[.bool], [(4, .one (.h 0))], [], [], []⟩)] .nil))) .nil))
def env_l_sameBlocks : Env := envOf ti [] []
theorem eok_l_sameBlocks : EnvOk Try.prog env_l_sameBlocks := envOf_ok tab mix _ _ (by
  intro k hk; cases hk)
theorem v_l_sameBlocks (x0 : List (List Int)) (x1 : List (List Int)) : (vfun env_l_sameBlocks Try.f19 J_l_sameBlocks ann_l_sameBlocks [] [.one ⟨.sl false 33 (.sl false 5 (.int .u8)), x0⟩, .one ⟨.sl false 33 (.sl false 5 (.int .u8)), x1⟩] []).run = (G.l_sameBlocks x0 x1).bind fun y => some (Res.mk [.one ⟨.bool, y⟩] [] []) := by kernel_rfl
def k_l_sameBlocks : Kn := ⟨19, [0, 0], fun args rows => match args, rows with
  | [.one ⟨.sl false 33 (.sl false 5 (.int .u8)), x0⟩, .one ⟨.sl false 33 (.sl false 5 (.int .u8)), x1⟩], [] => some ⟨_, G.l_sameBlocks x0 x1, fun y => ⟨[.one ⟨.bool, y⟩], [], []⟩⟩
  | _, _ => none, []⟩
theorem s_l_sameBlocks : KnOk Try.prog k_l_sameBlocks := by
  intro args rows a h y hy
  simp only [k_l_sameBlocks] at h
  split at h
  · injection h with h
    subst h
    exact vfun_ok eok_l_sameBlocks Try.func19 rfl (by rw [v_l_sameBlocks]; simp only at hy; rw [hy]; rfl)
  · cases h

def J_i_ReadBlock : Joins := [(.r, ⟨[.sl true 5 (.int .u8), .int .i64], [(4, .one (.vw 128000)), (5, .one (.h 1))], [], [(128000, 0)], []⟩)]
def ann_i_ReadBlock : Ann := .nil
def env_i_ReadBlock : Env := envOf ti [k_i_GoodDisk, k_i_Disk_has, k_slices_Clone_byte_byte] []
theorem eok_i_ReadBlock : EnvOk Try.prog env_i_ReadBlock := envOf_ok tab mix _ _ (by
  intro k hk
  simp only [List.mem_cons, List.not_mem_nil, or_false] at hk
  rcases hk with rfl | rfl | rfl
  · exact s_i_GoodDisk
  · exact s_i_Disk_has
  · exact s_slices_Clone_byte_byte)
theorem v_i_ReadBlock (x0 : List (List Int)) (x1 : Int) (x2 : Bool) (x3 : Int) (x4 : Int) : (vfun env_i_ReadBlock Try.f20 J_i_ReadBlock ann_i_ReadBlock [] [.ag [⟨.sl false 33 (.sl false 5 (.int .u8)), x0⟩, ⟨.int .i64, x1⟩, ⟨.bool, x2⟩, ⟨.int .i64, x3⟩], .one ⟨.int .i64, x4⟩] []).run = (G.i_ReadBlock x0 x1 x2 x3 x4).bind fun y => some (Res.mk [.one ⟨.sl true 5 (.int .u8), y.1⟩, .one ⟨.int .i64, y.2⟩] [] []) := by kernel_rfl
def k_i_ReadBlock : Kn := ⟨20, [0, 0], fun args rows => match args, rows with
  | [.ag [⟨.sl false 33 (.sl false 5 (.int .u8)), x0⟩, ⟨.int .i64, x1⟩, ⟨.bool, x2⟩, ⟨.int .i64, x3⟩], .one ⟨.int .i64, x4⟩], [] => some ⟨_, G.i_ReadBlock x0 x1 x2 x3 x4, fun y => ⟨[.one ⟨.sl true 5 (.int .u8), y.1⟩, .one ⟨.int .i64, y.2⟩], [], []⟩⟩
  | _, _ => none, []⟩
theorem s_i_ReadBlock : KnOk Try.prog k_i_ReadBlock := by
  intro args rows a h y hy
  simp only [k_i_ReadBlock] at h
  split at h
  · injection h with h
    subst h
    exact vfun_ok eok_i_ReadBlock Try.func20 rfl (by rw [v_i_ReadBlock]; simp only at hy; rw [hy]; rfl)
  · cases h

def J_l_FnDisk : Joins := [(.r, ⟨[.bool], [(2, .one (.h 0))], [], [], []⟩)]
def ann_l_FnDisk : Ann := .seq .nil (.seq .nil (.seq .nil (.seq .nil (.seq .nil (.seq (.seq (.reg [(.n, ⟨[.int .i64, .sl true 5 (.int .u8), .int .i64, .bool, .sl true 33 (.sl true 5 (.int .u8)), .int .i64, .bool, .int .i64, .sl true 33 (.sl true 5 (.int .u8)), .int .i64, .bool, .int .i64], [(3, .pl 3 0), (4, .one (.h 0)), (5, .one (.vw 211968)), (6, .pl 6 0), (7, .one (.h 2)), (46, .one (.h 3))], [(3, [.vw 211969, .h 5, .h 6, .h 7]), (6, [.vw 211970, .h 9, .h 10, .h 11])], [(211968, 1), (211969, 4), (211970, 8)], []⟩)]) .nil) (.seq .nil (.seq (.seq .nil (.cond [] (.seq (.reg [(.n, ⟨[.bool], [(2, .one (.h 0))], [], [], []⟩)]) .nil) .nil)) (.seq .nil (.seq (.seq (.reg [(.n, ⟨[.int .i64, .bool, .sl true 33 (.sl true 5 (.int .u8)), .int .i64, .bool, .int .i64, .sl true 33 (.sl true 5 (.int .u8)), .int .i64, .bool, .int .i64], [(3, .pl 3 0), (4, .one (.h 0)), (6, .pl 6 0), (81, .one (.h 1))], [(3, [.vw 211971, .h 3, .h 4, .h 5]), (6, [.vw 211972, .h 7, .h 8, .h 9])], [(211971, 2), (211972, 6)], []⟩)]) .nil) (.seq (.seq .nil (.block [] (.loop ⟨[.int .i64, .int .i64, .int .i64, .sl true 33 (.sl true 5 (.int .u8)), .int .i64, .bool, .int .i64, .sl true 33 (.sl true 5 (.int .u8)), .int .i64, .bool, .int .i64], [(3, .pl 3 0), (4, .one (.h 0)), (6, .pl 6 0), (84, .one (.h 1)), (85, .one (.h 2))], [(3, [.vw 211973, .h 4, .h 5, .h 6]), (6, [.vw 211974, .h 8, .h 9, .h 10])], [(211973, 3), (211974, 7)], []⟩ [(.x 0, ⟨[], [], [], [], []⟩), (.r, ⟨[.bool], [(2, .one (.h 0))], [], [], []⟩)] (.seq .nil (.seq .nil (.seq (.block [] (.seq .nil (.seq (.reg [(.n, ⟨[.int .i64, .int .i64, .int .i64, .bool, .sl true 33 (.sl true 5 (.int .u8)), .int .i64, .bool, .int .i64, .sl true 33 (.sl true 5 (.int .u8)), .int .i64, .bool, .int .i64], [(3, .pl 3 0), (4, .one (.h 0)), (6, .pl 6 0), (84, .one (.h 1)), (85, .one (.h 2)), (105, .one (.h 3))], [(3, [.vw 212037, .h 5, .h 6, .h 7]), (6, [.vw 212038, .h 9, .h 10, .h 11])], [(212037, 4), (212038, 8)], []⟩)]) .nil))) .nil)))))) .nil))))))))))
def env_l_FnDisk : Env := envOf ti [k_s_DrawWriteBlock, k_i_WriteBlock, k_s_WriteBlock, k_l_sameBlocks, k_i_ReadBlock] []
theorem eok_l_FnDisk : EnvOk Try.prog env_l_FnDisk := envOf_ok tab mix _ _ (by
  intro k hk
  simp only [List.mem_cons, List.not_mem_nil, or_false] at hk
  rcases hk with rfl | rfl | rfl | rfl | rfl
  · exact s_s_DrawWriteBlock
  · exact s_i_WriteBlock
  · exact s_s_WriteBlock
  · exact s_l_sameBlocks
  · exact s_i_ReadBlock)
theorem v_l_FnDisk (x0 : List Int) : (vfun env_l_FnDisk Try.f4 J_l_FnDisk ann_l_FnDisk [] [.one ⟨.sl false 5 (.int .u8), x0⟩] []).run = (G.l_FnDisk x0).bind fun y => some (Res.mk [.one ⟨.bool, y⟩] [] []) := by kernel_rfl
def k_l_FnDisk : Kn := ⟨4, [0], fun args rows => match args, rows with
  | [.one ⟨.sl false 5 (.int .u8), x0⟩], [] => some ⟨_, G.l_FnDisk x0, fun y => ⟨[.one ⟨.bool, y⟩], [], []⟩⟩
  | _, _ => none, []⟩
theorem s_l_FnDisk : KnOk Try.prog k_l_FnDisk := by
  intro args rows a h y hy
  simp only [k_l_FnDisk] at h
  split at h
  · injection h with h
    subst h
    exact vfun_ok eok_l_FnDisk Try.func4 rfl (by rw [v_l_FnDisk]; simp only at hy; rw [hy]; rfl)
  · cases h

def J_s_l1Cur_size_f : Joins := [(.r, ⟨[.int .i64, .sl false 5 (.int .u8), .int .i64, .int .u64], [(2, .one (.h 0))], [(11, [.h 1, .h 2, .h 3])], [], []⟩)]
def ann_s_l1Cur_size_f : Ann := .nil
def env_s_l1Cur_size_f : Env := envOf ti [k_s_l1Cur_one_f, k_s_l1Cur_pick_f] []
theorem eok_s_l1Cur_size_f : EnvOk Try.prog env_s_l1Cur_size_f := envOf_ok tab mix _ _ (by
  intro k hk
  simp only [List.mem_cons, List.not_mem_nil, or_false] at hk
  rcases hk with rfl | rfl
  · exact s_s_l1Cur_one_f
  · exact s_s_l1Cur_pick_f)
theorem v_s_l1Cur_size_f (x0 : List Int) (x1 : Int) (x2 : Int) : (vfun env_s_l1Cur_size_f Try.f63 J_s_l1Cur_size_f ann_s_l1Cur_size_f [] [.pl 0 0] [[⟨.sl false 5 (.int .u8), x0⟩, ⟨.int .i64, x1⟩, ⟨.int .u64, x2⟩]]).run = (G.s_l1Cur_size_f x0 x1 x2).bind fun y => some (Res.mk [.one ⟨.int .i64, y.1⟩] [[⟨.sl false 5 (.int .u8), y.2.1⟩, ⟨.int .i64, y.2.2.1⟩, ⟨.int .u64, y.2.2.2⟩]] []) := by kernel_rfl
def k_s_l1Cur_size_f : Kn := ⟨63, [0], fun args rows => match args, rows with
  | [.pl 0 0], [[⟨.sl false 5 (.int .u8), x0⟩, ⟨.int .i64, x1⟩, ⟨.int .u64, x2⟩]] => some ⟨_, G.s_l1Cur_size_f x0 x1 x2, fun y => ⟨[.one ⟨.int .i64, y.1⟩], [[⟨.sl false 5 (.int .u8), y.2.1⟩, ⟨.int .i64, y.2.2.1⟩, ⟨.int .u64, y.2.2.2⟩]], []⟩⟩
  | _, _ => none, []⟩
theorem s_s_l1Cur_size_f : KnOk Try.prog k_s_l1Cur_size_f := by
  intro args rows a h y hy
  simp only [k_s_l1Cur_size_f] at h
  split at h
  · injection h with h
    subst h
    exact vfun_ok eok_s_l1Cur_size_f Try.func63 rfl (by rw [v_s_l1Cur_size_f]; simp only at hy; rw [hy]; rfl)
  · cases h

def J_s_l1Cur_of_f : Joins := [(.r, ⟨[.str, .sl false 5 (.int .u8), .int .i64, .int .u64], [(4, .one (.h 0))], [(13, [.h 1, .h 2, .h 3])], [], []⟩)]
def ann_s_l1Cur_of_f : Ann := .nil
def env_s_l1Cur_of_f : Env := envOf ti [k_s_l1Cur_pick_f] []
theorem eok_s_l1Cur_of_f : EnvOk Try.prog env_s_l1Cur_of_f := envOf_ok tab mix _ _ (by
  intro k hk
  simp only [List.mem_cons, List.not_mem_nil, or_false] at hk
  rcases hk with rfl
  · exact s_s_l1Cur_pick_f)
theorem v_s_l1Cur_of_f (x0 : List (List UInt8)) (x1 : List Int) (x2 : Int) (x3 : Int) : (vfun env_s_l1Cur_of_f Try.f98 J_s_l1Cur_of_f ann_s_l1Cur_of_f [] [.pl 0 0, .one ⟨.sl true 9 .str, x0⟩] [[⟨.sl false 5 (.int .u8), x1⟩, ⟨.int .i64, x2⟩, ⟨.int .u64, x3⟩]]).run = (G.s_l1Cur_of_f x0 x1 x2 x3).bind fun y => some (Res.mk [.one ⟨.str, y.1⟩] [[⟨.sl false 5 (.int .u8), y.2.1⟩, ⟨.int .i64, y.2.2.1⟩, ⟨.int .u64, y.2.2.2⟩]] []) := by kernel_rfl
def k_s_l1Cur_of_f : Kn := ⟨98, [0, 1], fun args rows => match args, rows with
  | [.pl 0 0, .one ⟨.sl true 9 .str, x0⟩], [[⟨.sl false 5 (.int .u8), x1⟩, ⟨.int .i64, x2⟩, ⟨.int .u64, x3⟩]] => some ⟨_, G.s_l1Cur_of_f x0 x1 x2 x3, fun y => ⟨[.one ⟨.str, y.1⟩], [[⟨.sl false 5 (.int .u8), y.2.1⟩, ⟨.int .i64, y.2.2.1⟩, ⟨.int .u64, y.2.2.2⟩]], []⟩⟩
  | _, _ => none, []⟩
theorem s_s_l1Cur_of_f : KnOk Try.prog k_s_l1Cur_of_f := by
  intro args rows a h y hy
  simp only [k_s_l1Cur_of_f] at h
  split at h
  · injection h with h
    subst h
    exact vfun_ok eok_s_l1Cur_of_f Try.func98 rfl (by rw [v_s_l1Cur_of_f]; simp only at hy; rw [hy]; rfl)
  · cases h

def J_s_l1Cur_put_f : Joins := [(.r, ⟨[.str, .sl false 5 (.int .u8), .int .i64, .int .u64], [(2, .one (.h 0))], [(7, [.h 1, .h 2, .h 3])], [], []⟩)]
def ann_s_l1Cur_put_f : Ann := .nil
def env_s_l1Cur_put_f : Env := envOf ti [k_s_l1Cur_of_f] []
theorem eok_s_l1Cur_put_f : EnvOk Try.prog env_s_l1Cur_put_f := envOf_ok tab mix _ _ (by
  intro k hk
  simp only [List.mem_cons, List.not_mem_nil, or_false] at hk
  rcases hk with rfl
  · exact s_s_l1Cur_of_f)
theorem v_s_l1Cur_put_f (x0 : List Int) (x1 : Int) (x2 : Int) : (vfun env_s_l1Cur_put_f Try.f76 J_s_l1Cur_put_f ann_s_l1Cur_put_f [] [.pl 0 0] [[⟨.sl false 5 (.int .u8), x0⟩, ⟨.int .i64, x1⟩, ⟨.int .u64, x2⟩]]).run = (G.s_l1Cur_put_f x0 x1 x2).bind fun y => some (Res.mk [.one ⟨.str, y.1⟩] [[⟨.sl false 5 (.int .u8), y.2.1⟩, ⟨.int .i64, y.2.2.1⟩, ⟨.int .u64, y.2.2.2⟩]] []) := by kernel_rfl
def k_s_l1Cur_put_f : Kn := ⟨76, [0], fun args rows => match args, rows with
  | [.pl 0 0], [[⟨.sl false 5 (.int .u8), x0⟩, ⟨.int .i64, x1⟩, ⟨.int .u64, x2⟩]] => some ⟨_, G.s_l1Cur_put_f x0 x1 x2, fun y => ⟨[.one ⟨.str, y.1⟩], [[⟨.sl false 5 (.int .u8), y.2.1⟩, ⟨.int .i64, y.2.2.1⟩, ⟨.int .u64, y.2.2.2⟩]], []⟩⟩
  | _, _ => none, []⟩
theorem s_s_l1Cur_put_f : KnOk Try.prog k_s_l1Cur_put_f := by
  intro args rows a h y hy
  simp only [k_s_l1Cur_put_f] at h
  split at h
  · injection h with h
    subst h
    exact vfun_ok eok_s_l1Cur_put_f Try.func76 rfl (by rw [v_s_l1Cur_put_f]; simp only at hy; rw [hy]; rfl)
  · cases h

def J_s_l1Kind : Joins := [(.r, ⟨[.int .i64], [(2, .one (.h 0))], [], [], []⟩)]
def ann_s_l1Kind : Ann := .seq .nil (.seq (.block [] (.seq (.reg [(.n, ⟨[.bool, .int .i64, .int .i64, .str], [(1, .pl 1 0), (3, .one (.h 0))], [(1, [.h 1, .h 2, .h 3])], [], []⟩)]) (.cond [] .nil (.seq (.reg [(.n, ⟨[.bool, .int .i64, .int .i64, .str], [(1, .pl 1 0), (17, .one (.h 0))], [(1, [.h 1, .h 2, .h 3])], [], []⟩)]) (.cond [] .nil (.seq (.reg [(.n, ⟨[.bool], [(31, .one (.h 0))], [], [], []⟩)]) .nil)))))) .nil)
def env_s_l1Kind : Env := envOf ti [] []
theorem eok_s_l1Kind : EnvOk Try.prog env_s_l1Kind := envOf_ok tab mix _ _ (by
  intro k hk; cases hk)
theorem v_s_l1Kind (x0 : Int) (x1 : Int) (x2 : List UInt8) : (vfun env_s_l1Kind Try.f80 J_s_l1Kind ann_s_l1Kind [] [.ag [⟨.int .i64, x0⟩, ⟨.int .i64, x1⟩, ⟨.str, x2⟩]] []).run = (G.s_l1Kind x0 x1 x2).bind fun y => some (Res.mk [.one ⟨.int .i64, y⟩] [] []) := by kernel_rfl
def k_s_l1Kind : Kn := ⟨80, [0], fun args rows => match args, rows with
  | [.ag [⟨.int .i64, x0⟩, ⟨.int .i64, x1⟩, ⟨.str, x2⟩]], [] => some ⟨_, G.s_l1Kind x0 x1 x2, fun y => ⟨[.one ⟨.int .i64, y⟩], [], []⟩⟩
  | _, _ => none, []⟩
theorem s_s_l1Kind : KnOk Try.prog k_s_l1Kind := by
  intro args rows a h y hy
  simp only [k_s_l1Kind] at h
  split at h
  · injection h with h
    subst h
    exact vfun_ok eok_s_l1Kind Try.func80 rfl (by rw [v_s_l1Kind]; simp only at hy; rw [hy]; rfl)
  · cases h

def J_s_l1Add : Joins := [(.r, ⟨[.sl true 105 (.pair (.int .i64) (.pair (.int .i64) .str))], [(4, .one (.vw 165889))], [], [(165889, 0)], []⟩)]
def ann_s_l1Add : Ann := .seq .nil (.seq .nil (.seq (.seq .nil (.seq (.reg [(.n, ⟨[.sl true 105 (.pair (.int .i64) (.pair (.int .i64) .str)), .int .i64, .bool, .int .i64, .int .i64, .str], [(0, .one (.vw 165888)), (3, .pl 3 0), (5, .one (.h 1)), (24, .one (.h 2))], [(3, [.h 3, .h 4, .h 5])], [(165888, 0)], []⟩)]) .nil)) .nil))
def env_s_l1Add : Env := envOf ti [k_s_l1Kind] []
theorem eok_s_l1Add : EnvOk Try.prog env_s_l1Add := envOf_ok tab mix _ _ (by
  intro k hk
  simp only [List.mem_cons, List.not_mem_nil, or_false] at hk
  rcases hk with rfl
  · exact s_s_l1Kind)
theorem v_s_l1Add (x0 : List (Int × (Int × List UInt8))) (x1 : Int) (x2 : Int) (x3 : List UInt8) : (vfun env_s_l1Add Try.f81 J_s_l1Add ann_s_l1Add [] [.one ⟨.sl true 105 (.pair (.int .i64) (.pair (.int .i64) .str)), x0⟩, .ag [⟨.int .i64, x1⟩, ⟨.int .i64, x2⟩, ⟨.str, x3⟩]] []).run = (G.s_l1Add x0 x1 x2 x3).bind fun y => some (Res.mk [.one ⟨.sl true 105 (.pair (.int .i64) (.pair (.int .i64) .str)), y⟩] [] []) := by kernel_rfl
def k_s_l1Add : Kn := ⟨81, [1, 0], fun args rows => match args, rows with
  | [.one ⟨.sl true 105 (.pair (.int .i64) (.pair (.int .i64) .str)), x0⟩, .ag [⟨.int .i64, x1⟩, ⟨.int .i64, x2⟩, ⟨.str, x3⟩]], [] => some ⟨_, G.s_l1Add x0 x1 x2 x3, fun y => ⟨[.one ⟨.sl true 105 (.pair (.int .i64) (.pair (.int .i64) .str)), y⟩], [], []⟩⟩
  | _, _ => none, []⟩
theorem s_s_l1Add : KnOk Try.prog k_s_l1Add := by
  intro args rows a h y hy
  simp only [k_s_l1Add] at h
  split at h
  · injection h with h
    subst h
    exact vfun_ok eok_s_l1Add Try.func81 rfl (by rw [v_s_l1Add]; simp only at hy; rw [hy]; rfl)
  · cases h

def J_s_l1Cur_wide_f : Joins := [(.r, ⟨[.int .i64, .sl false 5 (.int .u8), .int .i64, .int .u64], [(2, .one (.h 0))], [(16, [.h 1, .h 2, .h 3])], [], []⟩)]
def ann_s_l1Cur_wide_f : Ann := .seq .nil (.seq .nil (.seq (.seq .nil (.block [] (.loop ⟨[.int .i64, .int .i64, .sl false 5 (.int .u8), .int .i64, .int .u64], [(0, .pl 16 0), (3, .one (.h 0)), (4, .one (.h 1))], [(16, [.h 2, .h 3, .h 4])], [], []⟩ [(.x 0, ⟨[.int .i64, .sl false 5 (.int .u8), .int .i64, .int .u64], [(3, .one (.h 0))], [(16, [.h 1, .h 2, .h 3])], [], []⟩)] .nil))) .nil))
def env_s_l1Cur_wide_f : Env := envOf ti [k_s_l1Cur_next_f] []
theorem eok_s_l1Cur_wide_f : EnvOk Try.prog env_s_l1Cur_wide_f := envOf_ok tab mix _ _ (by
  intro k hk
  simp only [List.mem_cons, List.not_mem_nil, or_false] at hk
  rcases hk with rfl
  · exact s_s_l1Cur_next_f)
theorem v_s_l1Cur_wide_f (x0 : List Int) (x1 : Int) (x2 : Int) : (vfun env_s_l1Cur_wide_f Try.f104 J_s_l1Cur_wide_f ann_s_l1Cur_wide_f [] [.pl 0 0] [[⟨.sl false 5 (.int .u8), x0⟩, ⟨.int .i64, x1⟩, ⟨.int .u64, x2⟩]]).run = (G.s_l1Cur_wide_f x0 x1 x2).bind fun y => some (Res.mk [.one ⟨.int .i64, y.1⟩] [[⟨.sl false 5 (.int .u8), y.2.1⟩, ⟨.int .i64, y.2.2.1⟩, ⟨.int .u64, y.2.2.2⟩]] []) := by kernel_rfl
def k_s_l1Cur_wide_f : Kn := ⟨104, [0], fun args rows => match args, rows with
  | [.pl 0 0], [[⟨.sl false 5 (.int .u8), x0⟩, ⟨.int .i64, x1⟩, ⟨.int .u64, x2⟩]] => some ⟨_, G.s_l1Cur_wide_f x0 x1 x2, fun y => ⟨[.one ⟨.int .i64, y.1⟩], [[⟨.sl false 5 (.int .u8), y.2.1⟩, ⟨.int .i64, y.2.2.1⟩, ⟨.int .u64, y.2.2.2⟩]], []⟩⟩
  | _, _ => none, []⟩
theorem s_s_l1Cur_wide_f : KnOk Try.prog k_s_l1Cur_wide_f := by
  intro args rows a h y hy
  simp only [k_s_l1Cur_wide_f] at h
  split at h
  · injection h with h
    subst h
    exact vfun_ok eok_s_l1Cur_wide_f Try.func104 rfl (by rw [v_s_l1Cur_wide_f]; simp only at hy; rw [hy]; rfl)
  · cases h
end
end Go.Proofs.Ytdicgiljgelkfaa
