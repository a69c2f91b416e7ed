import Derived.Test.YtdicgiljgelkfaaW3
set_option linter.unusedVariables false
set_option maxRecDepth 100000
namespace Go.Proofs.Ytdicgiljgelkfaa
open Go.V
noncomputable section
def J_s_l1Open : Joins := [(.r, ⟨[.sl true 4 .bool, .sl true 9 .str], [(2, .pl 2 0)], [(2, [.vw 154756, .vw 154757])], [(154756, 0), (154757, 1)]⟩)]
def ann_s_l1Open : Ann := .seq .nil (.seq .nil (.seq (.seq .nil (.block [] (.loop ⟨[.sl false 105 (.pair (.int .i64) (.pair (.int .i64) .str)), .int .i64, .int .i64, .sl true 4 .bool, .sl true 9 .str], [(2, .pl 2 0), (3, .pl 3 0), (9, .one (.h 0)), (10, .one (.h 1)), (11, .one (.h 2))], [(2, [.nil, .nil]), (3, [.vw 154624, .vw 154625])], [(154624, 3), (154625, 4)]⟩ [(.x 0, ⟨[.sl true 4 .bool, .sl true 9 .str], [(2, .pl 2 0), (3, .pl 3 0)], [(2, [.nil, .nil]), (3, [.vw 154754, .vw 154755])], [(154754, 0), (154755, 1)]⟩)] (.seq .nil (.seq .nil (.seq (.block [] (.seq .nil (.seq .nil (.seq .nil (.block [] (.loop ⟨[.int .i64, .sl false 105 (.pair (.int .i64) (.pair (.int .i64) .str)), .int .i64, .int .i64, .sl true 4 .bool, .sl true 9 .str, .int .i64, .int .i64, .str], [(2, .pl 2 0), (3, .pl 3 0), (5, .pl 5 0), (6, .one (.h 0)), (9, .one (.h 1)), (10, .one (.h 2)), (11, .one (.h 3))], [(2, [.nil, .nil]), (3, [.vw 154688, .vw 154689]), (5, [.h 6, .h 7, .h 8])], [(154688, 4), (154689, 5)]⟩ [(.x 2, ⟨[.sl false 105 (.pair (.int .i64) (.pair (.int .i64) .str)), .int .i64, .int .i64, .sl true 4 .bool, .sl true 9 .str], [(2, .pl 2 0), (3, .pl 3 0), (9, .one (.h 0)), (10, .one (.h 1)), (11, .one (.h 2))], [(2, [.nil, .nil]), (3, [.vw 154752, .vw 154753])], [(154752, 3), (154753, 4)]⟩)] .nil)))))) .nil)))))) .nil))
def env_s_l1Open : Env := envOf ti []
theorem eok_s_l1Open : EnvOk Try.prog env_s_l1Open := envOf_ok tab mix _ (by
  intro k hk; cases hk)
theorem v_s_l1Open (x0 : List (Int × (Int × List UInt8))) : (vfun env_s_l1Open Try.f97 J_s_l1Open ann_s_l1Open [.one ⟨.sl false 105 (.pair (.int .i64) (.pair (.int .i64) .str)), x0⟩] []).run = (G.s_l1Open x0).bind fun y => some (Res.mk [.ag [⟨.sl true 4 .bool, y.1⟩, ⟨.sl true 9 .str, y.2⟩]] []) := by kernel_rfl
def k_s_l1Open : Kn := ⟨97, [false], fun args rows => match args, rows with
  | [.one ⟨.sl false 105 (.pair (.int .i64) (.pair (.int .i64) .str)), x0⟩], [] => some ⟨_, G.s_l1Open x0, fun y => ⟨[.ag [⟨.sl true 4 .bool, y.1⟩, ⟨.sl true 9 .str, y.2⟩]], []⟩⟩
  | _, _ => none⟩
theorem s_s_l1Open : KnOk Try.prog k_s_l1Open := by
  intro args rows a h y hy
  simp only [k_s_l1Open] at h
  split at h
  · injection h with h
    subst h
    exact vfun_ok eok_s_l1Open Try.func97 rfl (by rw [v_s_l1Open]; simp only at hy; rw [hy]; rfl)
  · cases h

def J_s_l1Image : Joins := [(.r, ⟨[.int .i64], [(6, .one (.h 0))], [], []⟩)]
def ann_s_l1Image : Ann := .seq .nil (.seq .nil (.seq .nil (.seq (.seq .nil (.block [] (.loop ⟨[.int .i64, .bool, .int .i64, .sl true 9 .str, .int .i64, .int .i64, .sl true 4 .bool], [(1, .one (.h 0)), (2, .one (.h 1)), (7, .pl 7 0), (8, .one (.h 2)), (14, .one (.vw 145408)), (15, .one (.h 4)), (16, .one (.h 5))], [(7, [.vw 145409, .vw 145408])], [(145408, 3), (145409, 6)]⟩ [(.x 0, ⟨[.int .i64], [(8, .one (.h 0))], [], []⟩)] (.seq .nil (.seq .nil (.seq (.block [] (.seq .nil (.seq (.seq .nil (.cond [] (.seq (.seq .nil (.cond [(.n, ⟨[.int .i64], [(8, .one (.h 0))], [], []⟩)] .nil .nil)) .nil) .nil)) (.seq .nil (.seq .nil (.cond [(.n, ⟨[.int .i64, .bool, .int .i64, .sl true 9 .str, .int .i64, .int .i64, .sl true 4 .bool], [(1, .one (.h 0)), (2, .one (.h 1)), (7, .pl 7 0), (8, .one (.h 2)), (14, .one (.vw 145472)), (15, .one (.h 4)), (16, .one (.h 5))], [(7, [.vw 145473, .vw 145472])], [(145472, 3), (145473, 6)]⟩)] .nil .nil)))))) .nil)))))) .nil)))
def env_s_l1Image : Env := envOf ti [k_s_l1Open]
theorem eok_s_l1Image : EnvOk Try.prog env_s_l1Image := envOf_ok tab mix _ (by
  intro k hk
  simp only [List.mem_cons, List.not_mem_nil, or_false] at hk
  rcases hk with rfl
  · exact s_s_l1Open)
theorem v_s_l1Image (x0 : List (Int × (Int × List UInt8))) (x1 : Int) (x2 : Bool) : (vfun env_s_l1Image Try.f71 J_s_l1Image ann_s_l1Image [.one ⟨.sl false 105 (.pair (.int .i64) (.pair (.int .i64) .str)), x0⟩, .one ⟨.int .i64, x1⟩, .one ⟨.bool, x2⟩] []).run = (G.s_l1Image x0 x1 x2).bind fun y => some (Res.mk [.one ⟨.int .i64, y⟩] []) := by kernel_rfl
def k_s_l1Image : Kn := ⟨71, [false, false, false], fun args rows => match args, rows with
  | [.one ⟨.sl false 105 (.pair (.int .i64) (.pair (.int .i64) .str)), x0⟩, .one ⟨.int .i64, x1⟩, .one ⟨.bool, x2⟩], [] => some ⟨_, G.s_l1Image x0 x1 x2, fun y => ⟨[.one ⟨.int .i64, y⟩], []⟩⟩
  | _, _ => none⟩
theorem s_s_l1Image : KnOk Try.prog k_s_l1Image := by
  intro args rows a h y hy
  simp only [k_s_l1Image] at h
  split at h
  · injection h with h
    subst h
    exact vfun_ok eok_s_l1Image Try.func71 rfl (by rw [v_s_l1Image]; simp only at hy; rw [hy]; rfl)
  · cases h

def J_s_ImageOf : Joins := [(.r, ⟨[.int .i64], [(6, .one (.h 0))], [], []⟩)]
def ann_s_ImageOf : Ann := .seq .nil (.seq (.seq (.reg [(.n, ⟨[.sl false 105 (.pair (.int .i64) (.pair (.int .i64) .str)), .int .i64, .bool, .bool], [(0, .one (.h 0)), (1, .one (.h 1)), (2, .one (.h 2)), (16, .one (.h 3))], [], []⟩)]) .nil) .nil)
def env_s_ImageOf : Env := envOf ti [k_s_GoodChange, k_s_l1Source, k_s_l1In, k_s_l1Image]
theorem eok_s_ImageOf : EnvOk Try.prog env_s_ImageOf := envOf_ok tab mix _ (by
  intro k hk
  simp only [List.mem_cons, List.not_mem_nil, or_false] at hk
  rcases hk with rfl | rfl | rfl | rfl
  · exact s_s_GoodChange
  · exact s_s_l1Source
  · exact s_s_l1In
  · exact s_s_l1Image)
theorem v_s_ImageOf (x0 : List (Int × (Int × List UInt8))) (x1 : Int) (x2 : Bool) : (vfun env_s_ImageOf Try.f23 J_s_ImageOf ann_s_ImageOf [.one ⟨.sl false 105 (.pair (.int .i64) (.pair (.int .i64) .str)), x0⟩, .one ⟨.int .i64, x1⟩, .one ⟨.bool, x2⟩] []).run = (G.s_ImageOf x0 x1 x2).bind fun y => some (Res.mk [.one ⟨.int .i64, y⟩] []) := by kernel_rfl
def k_s_ImageOf : Kn := ⟨23, [false, false, false], fun args rows => match args, rows with
  | [.one ⟨.sl false 105 (.pair (.int .i64) (.pair (.int .i64) .str)), x0⟩, .one ⟨.int .i64, x1⟩, .one ⟨.bool, x2⟩], [] => some ⟨_, G.s_ImageOf x0 x1 x2, fun y => ⟨[.one ⟨.int .i64, y⟩], []⟩⟩
  | _, _ => none⟩
theorem s_s_ImageOf : KnOk Try.prog k_s_ImageOf := by
  intro args rows a h y hy
  simp only [k_s_ImageOf] at h
  split at h
  · injection h with h
    subst h
    exact vfun_ok eok_s_ImageOf Try.func23 rfl (by rw [v_s_ImageOf]; simp only at hy; rw [hy]; rfl)
  · cases h

def J_s_l1Target : Joins := [(.r, ⟨[.int .i64], [(2, .one (.h 0))], [], []⟩)]
def ann_s_l1Target : Ann := .seq .nil (.seq .nil (.seq (.seq .nil (.block [] (.loop ⟨[.int .i64, .sl false 105 (.pair (.int .i64) (.pair (.int .i64) .str)), .int .i64, .int .i64], [(3, .one (.h 0)), (6, .one (.h 1)), (7, .one (.h 2)), (8, .one (.h 3))], [], []⟩ [(.x 0, ⟨[.int .i64], [(3, .one (.h 0))], [], []⟩)] .nil))) .nil))
def env_s_l1Target : Env := envOf ti []
theorem eok_s_l1Target : EnvOk Try.prog env_s_l1Target := envOf_ok tab mix _ (by
  intro k hk; cases hk)
theorem v_s_l1Target (x0 : List (Int × (Int × List UInt8))) : (vfun env_s_l1Target Try.f72 J_s_l1Target ann_s_l1Target [.one ⟨.sl false 105 (.pair (.int .i64) (.pair (.int .i64) .str)), x0⟩] []).run = (G.s_l1Target x0).bind fun y => some (Res.mk [.one ⟨.int .i64, y⟩] []) := by kernel_rfl
def k_s_l1Target : Kn := ⟨72, [false], fun args rows => match args, rows with
  | [.one ⟨.sl false 105 (.pair (.int .i64) (.pair (.int .i64) .str)), x0⟩], [] => some ⟨_, G.s_l1Target x0, fun y => ⟨[.one ⟨.int .i64, y⟩], []⟩⟩
  | _, _ => none⟩
theorem s_s_l1Target : KnOk Try.prog k_s_l1Target := by
  intro args rows a h y hy
  simp only [k_s_l1Target] at h
  split at h
  · injection h with h
    subst h
    exact vfun_ok eok_s_l1Target Try.func72 rfl (by rw [v_s_l1Target]; simp only at hy; rw [hy]; rfl)
  · cases h

def J_s_LengthsOf : Joins := [(.r, ⟨[.int .i64, .int .i64, .bool], [(2, .one (.h 0)), (3, .one (.h 1)), (4, .one (.h 2))], [], []⟩)]
def ann_s_LengthsOf : Ann := .nil
def env_s_LengthsOf : Env := envOf ti [k_s_GoodChange, k_s_l1Source, k_s_l1Target]
theorem eok_s_LengthsOf : EnvOk Try.prog env_s_LengthsOf := envOf_ok tab mix _ (by
  intro k hk
  simp only [List.mem_cons, List.not_mem_nil, or_false] at hk
  rcases hk with rfl | rfl | rfl
  · exact s_s_GoodChange
  · exact s_s_l1Source
  · exact s_s_l1Target)
theorem v_s_LengthsOf (x0 : List (Int × (Int × List UInt8))) : (vfun env_s_LengthsOf Try.f24 J_s_LengthsOf ann_s_LengthsOf [.one ⟨.sl false 105 (.pair (.int .i64) (.pair (.int .i64) .str)), x0⟩] []).run = (G.s_LengthsOf x0).bind fun y => some (Res.mk [.one ⟨.int .i64, y.1⟩, .one ⟨.int .i64, y.2.1⟩, .one ⟨.bool, y.2.2⟩] []) := by kernel_rfl
def k_s_LengthsOf : Kn := ⟨24, [false], fun args rows => match args, rows with
  | [.one ⟨.sl false 105 (.pair (.int .i64) (.pair (.int .i64) .str)), x0⟩], [] => some ⟨_, G.s_LengthsOf x0, fun y => ⟨[.one ⟨.int .i64, y.1⟩, .one ⟨.int .i64, y.2.1⟩, .one ⟨.bool, y.2.2⟩], []⟩⟩
  | _, _ => none⟩
theorem s_s_LengthsOf : KnOk Try.prog k_s_LengthsOf := by
  intro args rows a h y hy
  simp only [k_s_LengthsOf] at h
  split at h
  · injection h with h
    subst h
    exact vfun_ok eok_s_LengthsOf Try.func24 rfl (by rw [v_s_LengthsOf]; simp only at hy; rw [hy]; rfl)
  · cases h

def J_l_FnImages : Joins := [(.r, ⟨[.bool], [(2, .one (.h 0))], [], []⟩)]
def ann_l_FnImages : Ann := .seq .nil (.seq .nil (.seq .nil (.seq .nil (.seq .nil (.seq .nil (.seq (.seq (.reg [(.n, ⟨[.sl true 105 (.pair (.int .i64) (.pair (.int .i64) .str)), .int .i64, .int .i64, .int .i64, .int .i64, .bool], [(3, .one (.vw 181248)), (4, .one (.h 1)), (6, .one (.h 2)), (7, .one (.h 3)), (8, .one (.h 4)), (45, .one (.h 5))], [], [(181248, 0)]⟩)]) .nil) (.seq (.seq (.reg [(.n, ⟨[.sl true 105 (.pair (.int .i64) (.pair (.int .i64) .str)), .int .i64, .int .i64, .bool], [(3, .one (.vw 181249)), (4, .one (.h 1)), (7, .one (.h 2)), (63, .one (.h 3))], [], [(181249, 0)]⟩)]) .nil) (.seq (.reg [(.n, ⟨[.bool], [(2, .one (.h 0))], [], []⟩)]) .nil))))))))
def env_l_FnImages : Env := envOf ti [k_s_DrawImageOf, k_i_ImageOf, k_s_ImageOf, k_s_LengthsOf]
theorem eok_l_FnImages : EnvOk Try.prog env_l_FnImages := envOf_ok tab mix _ (by
  intro k hk
  simp only [List.mem_cons, List.not_mem_nil, or_false] at hk
  rcases hk with rfl | rfl | rfl | rfl
  · exact s_s_DrawImageOf
  · exact s_i_ImageOf
  · exact s_s_ImageOf
  · exact s_s_LengthsOf)
theorem v_l_FnImages (x0 : List Int) : (vfun env_l_FnImages Try.f5 J_l_FnImages ann_l_FnImages [.one ⟨.sl false 5 (.int .u8), x0⟩] []).run = (G.l_FnImages x0).bind fun y => some (Res.mk [.one ⟨.bool, y⟩] []) := by kernel_rfl
def k_l_FnImages : Kn := ⟨5, [false], fun args rows => match args, rows with
  | [.one ⟨.sl false 5 (.int .u8), x0⟩], [] => some ⟨_, G.l_FnImages x0, fun y => ⟨[.one ⟨.bool, y⟩], []⟩⟩
  | _, _ => none⟩
theorem s_l_FnImages : KnOk Try.prog k_l_FnImages := by
  intro args rows a h y hy
  simp only [k_l_FnImages] at h
  split at h
  · injection h with h
    subst h
    exact vfun_ok eok_l_FnImages Try.func5 rfl (by rw [v_l_FnImages]; simp only at hy; rw [hy]; rfl)
  · cases h

def J_s_DrawGoodChange : Joins := [(.r, ⟨[.sl true 105 (.pair (.int .i64) (.pair (.int .i64) .str))], [(2, .one (.vw 130113))], [], [(130113, 0)]⟩)]
def ann_s_DrawGoodChange : Ann := .seq .nil (.seq .nil (.seq (.seq .nil (.cond [] (.seq .nil (.seq (.seq .nil (.block [] (.loop ⟨[.sl true 105 (.pair (.int .i64) (.pair (.int .i64) .str)), .int .i64, .sl false 5 (.int .u8), .int .i64, .int .u64], [(3, .pl 8 0), (4, .one (.vw 130048)), (5, .one (.h 1))], [(8, [.h 2, .h 3, .h 4])], [(130048, 0)]⟩ [(.x 0, ⟨[.sl true 105 (.pair (.int .i64) (.pair (.int .i64) .str))], [(4, .one (.vw 130112))], [], [(130112, 0)]⟩)] .nil))) .nil)) .nil)) .nil))
def env_s_DrawGoodChange : Env := envOf ti [k_s_l1Cur_one_f, k_s_l1Cur_pick_f, k_s_l1Cur_part_f, k_s_l1Cur_size_f, k_s_l1Cur_changeOf_f]
theorem eok_s_DrawGoodChange : EnvOk Try.prog env_s_DrawGoodChange := envOf_ok tab mix _ (by
  intro k hk
  simp only [List.mem_cons, List.not_mem_nil, or_false] at hk
  rcases hk with rfl | rfl | rfl | rfl | rfl
  · exact s_s_l1Cur_one_f
  · exact s_s_l1Cur_pick_f
  · exact s_s_l1Cur_part_f
  · exact s_s_l1Cur_size_f
  · exact s_s_l1Cur_changeOf_f)
theorem v_s_DrawGoodChange (x0 : List Int) : (vfun env_s_DrawGoodChange Try.f73 J_s_DrawGoodChange ann_s_DrawGoodChange [.one ⟨.sl false 5 (.int .u8), x0⟩] []).run = (G.s_DrawGoodChange x0).bind fun y => some (Res.mk [.one ⟨.sl true 105 (.pair (.int .i64) (.pair (.int .i64) .str)), y⟩] []) := by kernel_rfl
def k_s_DrawGoodChange : Kn := ⟨73, [false], fun args rows => match args, rows with
  | [.one ⟨.sl false 5 (.int .u8), x0⟩], [] => some ⟨_, G.s_DrawGoodChange x0, fun y => ⟨[.one ⟨.sl true 105 (.pair (.int .i64) (.pair (.int .i64) .str)), y⟩], []⟩⟩
  | _, _ => none⟩
theorem s_s_DrawGoodChange : KnOk Try.prog k_s_DrawGoodChange := by
  intro args rows a h y hy
  simp only [k_s_DrawGoodChange] at h
  split at h
  · injection h with h
    subst h
    exact vfun_ok eok_s_DrawGoodChange Try.func73 rfl (by rw [v_s_DrawGoodChange]; simp only at hy; rw [hy]; rfl)
  · cases h

def J_s_DrawWriteChange : Joins := [(.r, ⟨[.sl true 105 (.pair (.int .i64) (.pair (.int .i64) .str))], [(2, .one (.vw 107520))], [], [(107520, 0)]⟩)]
def ann_s_DrawWriteChange : Ann := .nil
def env_s_DrawWriteChange : Env := envOf ti [k_s_DrawGoodChange]
theorem eok_s_DrawWriteChange : EnvOk Try.prog env_s_DrawWriteChange := envOf_ok tab mix _ (by
  intro k hk
  simp only [List.mem_cons, List.not_mem_nil, or_false] at hk
  rcases hk with rfl
  · exact s_s_DrawGoodChange)
theorem v_s_DrawWriteChange (x0 : List Int) : (vfun env_s_DrawWriteChange Try.f25 J_s_DrawWriteChange ann_s_DrawWriteChange [.one ⟨.sl false 5 (.int .u8), x0⟩] []).run = (G.s_DrawWriteChange x0).bind fun y => some (Res.mk [.one ⟨.sl true 105 (.pair (.int .i64) (.pair (.int .i64) .str)), y⟩] []) := by kernel_rfl
def k_s_DrawWriteChange : Kn := ⟨25, [false], fun args rows => match args, rows with
  | [.one ⟨.sl false 5 (.int .u8), x0⟩], [] => some ⟨_, G.s_DrawWriteChange x0, fun y => ⟨[.one ⟨.sl true 105 (.pair (.int .i64) (.pair (.int .i64) .str)), y⟩], []⟩⟩
  | _, _ => none⟩
theorem s_s_DrawWriteChange : KnOk Try.prog k_s_DrawWriteChange := by
  intro args rows a h y hy
  simp only [k_s_DrawWriteChange] at h
  split at h
  · injection h with h
    subst h
    exact vfun_ok eok_s_DrawWriteChange Try.func25 rfl (by rw [v_s_DrawWriteChange]; simp only at hy; rw [hy]; rfl)
  · cases h

def J_i_writeChange : Joins := [(.r, ⟨[.sl true 5 (.int .u8)], [(2, .one (.vw 138305))], [], [(138305, 0)]⟩)]
def ann_i_writeChange : Ann := .seq .nil (.seq .nil (.seq (.seq .nil (.block [] (.loop ⟨[.sl true 5 (.int .u8), .sl false 105 (.pair (.int .i64) (.pair (.int .i64) .str)), .int .i64, .int .i64], [(3, .one (.vw 138240)), (7, .one (.h 1)), (8, .one (.h 2)), (9, .one (.h 3))], [], [(138240, 0)]⟩ [(.x 0, ⟨[.sl true 5 (.int .u8)], [(3, .one (.vw 138304))], [], [(138304, 0)]⟩)] .nil))) .nil))
def env_i_writeChange : Env := envOf ti [k_i_Part_kind]
theorem eok_i_writeChange : EnvOk Try.prog env_i_writeChange := envOf_ok tab mix _ (by
  intro k hk
  simp only [List.mem_cons, List.not_mem_nil, or_false] at hk
  rcases hk with rfl
  · exact s_i_Part_kind)
theorem v_i_writeChange (x0 : List (Int × (Int × List UInt8))) : (vfun env_i_writeChange Try.f74 J_i_writeChange ann_i_writeChange [.one ⟨.sl false 105 (.pair (.int .i64) (.pair (.int .i64) .str)), x0⟩] []).run = (G.i_writeChange x0).bind fun y => some (Res.mk [.one ⟨.sl true 5 (.int .u8), y⟩] []) := by kernel_rfl
def k_i_writeChange : Kn := ⟨74, [false], fun args rows => match args, rows with
  | [.one ⟨.sl false 105 (.pair (.int .i64) (.pair (.int .i64) .str)), x0⟩], [] => some ⟨_, G.i_writeChange x0, fun y => ⟨[.one ⟨.sl true 5 (.int .u8), y⟩], []⟩⟩
  | _, _ => none⟩
theorem s_i_writeChange : KnOk Try.prog k_i_writeChange := by
  intro args rows a h y hy
  simp only [k_i_writeChange] at h
  split at h
  · injection h with h
    subst h
    exact vfun_ok eok_i_writeChange Try.func74 rfl (by rw [v_i_writeChange]; simp only at hy; rw [hy]; rfl)
  · cases h

def J_i_WriteChange : Joins := [(.r, ⟨[.sl true 5 (.int .u8), .bool], [(2, .one (.vw 111616)), (3, .one (.h 1))], [], [(111616, 0)]⟩)]
def ann_i_WriteChange : Ann := .nil
def env_i_WriteChange : Env := envOf ti [k_i_GoodChange, k_i_writeChange]
theorem eok_i_WriteChange : EnvOk Try.prog env_i_WriteChange := envOf_ok tab mix _ (by
  intro k hk
  simp only [List.mem_cons, List.not_mem_nil, or_false] at hk
  rcases hk with rfl | rfl
  · exact s_i_GoodChange
  · exact s_i_writeChange)
theorem v_i_WriteChange (x0 : List (Int × (Int × List UInt8))) : (vfun env_i_WriteChange Try.f26 J_i_WriteChange ann_i_WriteChange [.one ⟨.sl false 105 (.pair (.int .i64) (.pair (.int .i64) .str)), x0⟩] []).run = (G.i_WriteChange x0).bind fun y => some (Res.mk [.one ⟨.sl true 5 (.int .u8), y.1⟩, .one ⟨.bool, y.2⟩] []) := by kernel_rfl
def k_i_WriteChange : Kn := ⟨26, [false], fun args rows => match args, rows with
  | [.one ⟨.sl false 105 (.pair (.int .i64) (.pair (.int .i64) .str)), x0⟩], [] => some ⟨_, G.i_WriteChange x0, fun y => ⟨[.one ⟨.sl true 5 (.int .u8), y.1⟩, .one ⟨.bool, y.2⟩], []⟩⟩
  | _, _ => none⟩
theorem s_i_WriteChange : KnOk Try.prog k_i_WriteChange := by
  intro args rows a h y hy
  simp only [k_i_WriteChange] at h
  split at h
  · injection h with h
    subst h
    exact vfun_ok eok_i_WriteChange Try.func26 rfl (by rw [v_i_WriteChange]; simp only at hy; rw [hy]; rfl)
  · cases h

def J_s_l1Write : Joins := [(.r, ⟨[.sl true 5 (.int .u8)], [(2, .one (.vw 139329))], [], [(139329, 0)]⟩)]
def ann_s_l1Write : Ann := .seq .nil (.seq .nil (.seq (.seq .nil (.block [] (.loop ⟨[.sl true 5 (.int .u8), .sl false 105 (.pair (.int .i64) (.pair (.int .i64) .str)), .int .i64, .int .i64], [(3, .one (.vw 139264)), (7, .one (.h 1)), (8, .one (.h 2)), (9, .one (.h 3))], [], [(139264, 0)]⟩ [(.x 0, ⟨[.sl true 5 (.int .u8)], [(3, .one (.vw 139328))], [], [(139328, 0)]⟩)] .nil))) .nil))
def env_s_l1Write : Env := envOf ti [k_s_l1Kind]
theorem eok_s_l1Write : EnvOk Try.prog env_s_l1Write := envOf_ok tab mix _ (by
  intro k hk
  simp only [List.mem_cons, List.not_mem_nil, or_false] at hk
  rcases hk with rfl
  · exact s_s_l1Kind)
theorem v_s_l1Write (x0 : List (Int × (Int × List UInt8))) : (vfun env_s_l1Write Try.f75 J_s_l1Write ann_s_l1Write [.one ⟨.sl false 105 (.pair (.int .i64) (.pair (.int .i64) .str)), x0⟩] []).run = (G.s_l1Write x0).bind fun y => some (Res.mk [.one ⟨.sl true 5 (.int .u8), y⟩] []) := by kernel_rfl
def k_s_l1Write : Kn := ⟨75, [false], fun args rows => match args, rows with
  | [.one ⟨.sl false 105 (.pair (.int .i64) (.pair (.int .i64) .str)), x0⟩], [] => some ⟨_, G.s_l1Write x0, fun y => ⟨[.one ⟨.sl true 5 (.int .u8), y⟩], []⟩⟩
  | _, _ => none⟩
theorem s_s_l1Write : KnOk Try.prog k_s_l1Write := by
  intro args rows a h y hy
  simp only [k_s_l1Write] at h
  split at h
  · injection h with h
    subst h
    exact vfun_ok eok_s_l1Write Try.func75 rfl (by rw [v_s_l1Write]; simp only at hy; rw [hy]; rfl)
  · cases h

def J_s_WriteChange : Joins := [(.r, ⟨[.sl true 5 (.int .u8), .bool], [(2, .one (.vw 111616)), (3, .one (.h 1))], [], [(111616, 0)]⟩)]
def ann_s_WriteChange : Ann := .nil
def env_s_WriteChange : Env := envOf ti [k_s_GoodChange, k_s_l1Write]
theorem eok_s_WriteChange : EnvOk Try.prog env_s_WriteChange := envOf_ok tab mix _ (by
  intro k hk
  simp only [List.mem_cons, List.not_mem_nil, or_false] at hk
  rcases hk with rfl | rfl
  · exact s_s_GoodChange
  · exact s_s_l1Write)
theorem v_s_WriteChange (x0 : List (Int × (Int × List UInt8))) : (vfun env_s_WriteChange Try.f27 J_s_WriteChange ann_s_WriteChange [.one ⟨.sl false 105 (.pair (.int .i64) (.pair (.int .i64) .str)), x0⟩] []).run = (G.s_WriteChange x0).bind fun y => some (Res.mk [.one ⟨.sl true 5 (.int .u8), y.1⟩, .one ⟨.bool, y.2⟩] []) := by kernel_rfl
def k_s_WriteChange : Kn := ⟨27, [false], fun args rows => match args, rows with
  | [.one ⟨.sl false 105 (.pair (.int .i64) (.pair (.int .i64) .str)), x0⟩], [] => some ⟨_, G.s_WriteChange x0, fun y => ⟨[.one ⟨.sl true 5 (.int .u8), y.1⟩, .one ⟨.bool, y.2⟩], []⟩⟩
  | _, _ => none⟩
theorem s_s_WriteChange : KnOk Try.prog k_s_WriteChange := by
  intro args rows a h y hy
  simp only [k_s_WriteChange] at h
  split at h
  · injection h with h
    subst h
    exact vfun_ok eok_s_WriteChange Try.func27 rfl (by rw [v_s_WriteChange]; simp only at hy; rw [hy]; rfl)
  · cases h
end
end Go.Proofs.Ytdicgiljgelkfaa
