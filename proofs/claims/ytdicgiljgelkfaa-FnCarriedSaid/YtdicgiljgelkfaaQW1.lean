import Derived.Test.YtdicgiljgelkfaaQW0
set_option linter.unusedVariables false
set_option maxRecDepth 100000
namespace Go.Proofs.Ytdicgiljgelkfaa
open Go.V
noncomputable section
def J_s_l1Open : Joins := [(.r, ⟨[.sl true 4 .bool, .sl true 9 .str], [(2, .pl 2 0)], [(2, [.vw 154756, .vw 154757])], [(154756, 0), (154757, 1)]⟩)]
def ann_s_l1Open : Ann := .seq .nil (.seq .nil (.seq (.seq .nil (.block [] (.loop ⟨[.sl false 105 (.pair (.int .i64) (.pair (.int .i64) .str)), .int .i64, .int .i64, .sl true 4 .bool, .sl true 9 .str], [(2, .pl 2 0), (3, .pl 3 0), (9, .one (.h 0)), (10, .one (.h 1)), (11, .one (.h 2))], [(2, [.nil, .nil]), (3, [.vw 154624, .vw 154625])], [(154624, 3), (154625, 4)]⟩ [(.x 0, ⟨[.sl true 4 .bool, .sl true 9 .str], [(2, .pl 2 0), (3, .pl 3 0)], [(2, [.nil, .nil]), (3, [.vw 154754, .vw 154755])], [(154754, 0), (154755, 1)]⟩)] (.seq .nil (.seq .nil (.seq (.block [] (.seq .nil (.seq .nil (.seq .nil (.block [] (.loop ⟨[.int .i64, .sl false 105 (.pair (.int .i64) (.pair (.int .i64) .str)), .int .i64, .int .i64, .sl true 4 .bool, .sl true 9 .str, .int .i64, .int .i64, .str], [(2, .pl 2 0), (3, .pl 3 0), (5, .pl 5 0), (6, .one (.h 0)), (9, .one (.h 1)), (10, .one (.h 2)), (11, .one (.h 3))], [(2, [.nil, .nil]), (3, [.vw 154688, .vw 154689]), (5, [.h 6, .h 7, .h 8])], [(154688, 4), (154689, 5)]⟩ [(.x 2, ⟨[.sl false 105 (.pair (.int .i64) (.pair (.int .i64) .str)), .int .i64, .int .i64, .sl true 4 .bool, .sl true 9 .str], [(2, .pl 2 0), (3, .pl 3 0), (9, .one (.h 0)), (10, .one (.h 1)), (11, .one (.h 2))], [(2, [.nil, .nil]), (3, [.vw 154752, .vw 154753])], [(154752, 3), (154753, 4)]⟩)] .nil)))))) .nil)))))) .nil))
def env_s_l1Open : Env := envOf ti []
theorem eok_s_l1Open : EnvOk Try.prog env_s_l1Open := envOf_ok tab mix _ (by
  intro k hk; cases hk)
theorem v_s_l1Open (x0 : List (Int × (Int × List UInt8))) : (vfun env_s_l1Open Try.f97 J_s_l1Open ann_s_l1Open [.one ⟨.sl false 105 (.pair (.int .i64) (.pair (.int .i64) .str)), x0⟩] []).run = (G.s_l1Open x0).bind fun y => some (Res.mk [.ag [⟨.sl true 4 .bool, y.1⟩, ⟨.sl true 9 .str, y.2⟩]] []) := by kernel_rfl
def k_s_l1Open : Kn := ⟨97, [false], fun args rows => match args, rows with
  | [.one ⟨.sl false 105 (.pair (.int .i64) (.pair (.int .i64) .str)), x0⟩], [] => some ⟨_, G.s_l1Open x0, fun y => ⟨[.ag [⟨.sl true 4 .bool, y.1⟩, ⟨.sl true 9 .str, y.2⟩]], []⟩⟩
  | _, _ => none⟩
theorem s_s_l1Open : KnOk Try.prog k_s_l1Open := by
  intro args rows a h y hy
  simp only [k_s_l1Open] at h
  split at h
  · injection h with h
    subst h
    exact vfun_ok eok_s_l1Open Try.func97 rfl (by rw [v_s_l1Open]; simp only at hy; rw [hy]; rfl)
  · cases h

def J_s_l1Image : Joins := [(.r, ⟨[.int .i64], [(6, .one (.h 0))], [], []⟩)]
def ann_s_l1Image : Ann := .seq .nil (.seq .nil (.seq .nil (.seq (.seq .nil (.block [] (.loop ⟨[.int .i64, .bool, .int .i64, .sl true 9 .str, .int .i64, .int .i64, .sl true 4 .bool], [(1, .one (.h 0)), (2, .one (.h 1)), (7, .pl 7 0), (8, .one (.h 2)), (14, .one (.vw 145408)), (15, .one (.h 4)), (16, .one (.h 5))], [(7, [.vw 145409, .vw 145408])], [(145408, 3), (145409, 6)]⟩ [(.x 0, ⟨[.int .i64], [(8, .one (.h 0))], [], []⟩)] (.seq .nil (.seq .nil (.seq (.block [] (.seq .nil (.seq (.seq .nil (.cond [] (.seq (.seq .nil (.cond [(.n, ⟨[.int .i64], [(8, .one (.h 0))], [], []⟩)] .nil .nil)) .nil) .nil)) (.seq .nil (.seq .nil (.cond [(.n, ⟨[.int .i64, .bool, .int .i64, .sl true 9 .str, .int .i64, .int .i64, .sl true 4 .bool], [(1, .one (.h 0)), (2, .one (.h 1)), (7, .pl 7 0), (8, .one (.h 2)), (14, .one (.vw 145472)), (15, .one (.h 4)), (16, .one (.h 5))], [(7, [.vw 145473, .vw 145472])], [(145472, 3), (145473, 6)]⟩)] .nil .nil)))))) .nil)))))) .nil)))
def env_s_l1Image : Env := envOf ti [k_s_l1Open]
theorem eok_s_l1Image : EnvOk Try.prog env_s_l1Image := envOf_ok tab mix _ (by
  intro k hk
  simp only [List.mem_cons, List.not_mem_nil, or_false] at hk
  rcases hk with rfl
  · exact s_s_l1Open)
theorem v_s_l1Image (x0 : List (Int × (Int × List UInt8))) (x1 : Int) (x2 : Bool) : (vfun env_s_l1Image Try.f71 J_s_l1Image ann_s_l1Image [.one ⟨.sl false 105 (.pair (.int .i64) (.pair (.int .i64) .str)), x0⟩, .one ⟨.int .i64, x1⟩, .one ⟨.bool, x2⟩] []).run = (G.s_l1Image x0 x1 x2).bind fun y => some (Res.mk [.one ⟨.int .i64, y⟩] []) := by kernel_rfl
def k_s_l1Image : Kn := ⟨71, [false, false, false], fun args rows => match args, rows with
  | [.one ⟨.sl false 105 (.pair (.int .i64) (.pair (.int .i64) .str)), x0⟩, .one ⟨.int .i64, x1⟩, .one ⟨.bool, x2⟩], [] => some ⟨_, G.s_l1Image x0 x1 x2, fun y => ⟨[.one ⟨.int .i64, y⟩], []⟩⟩
  | _, _ => none⟩
theorem s_s_l1Image : KnOk Try.prog k_s_l1Image := by
  intro args rows a h y hy
  simp only [k_s_l1Image] at h
  split at h
  · injection h with h
    subst h
    exact vfun_ok eok_s_l1Image Try.func71 rfl (by rw [v_s_l1Image]; simp only at hy; rw [hy]; rfl)
  · cases h

def J_s_ImageOf : Joins := [(.r, ⟨[.int .i64], [(6, .one (.h 0))], [], []⟩)]
def ann_s_ImageOf : Ann := .seq .nil (.seq (.seq (.reg [(.n, ⟨[.sl false 105 (.pair (.int .i64) (.pair (.int .i64) .str)), .int .i64, .bool, .bool], [(0, .one (.h 0)), (1, .one (.h 1)), (2, .one (.h 2)), (16, .one (.h 3))], [], []⟩)]) .nil) .nil)
def env_s_ImageOf : Env := envOf ti [k_s_GoodChange, k_s_l1Source, k_s_l1In, k_s_l1Image]
theorem eok_s_ImageOf : EnvOk Try.prog env_s_ImageOf := envOf_ok tab mix _ (by
  intro k hk
  simp only [List.mem_cons, List.not_mem_nil, or_false] at hk
  rcases hk with rfl | rfl | rfl | rfl
  · exact s_s_GoodChange
  · exact s_s_l1Source
  · exact s_s_l1In
  · exact s_s_l1Image)
theorem v_s_ImageOf (x0 : List (Int × (Int × List UInt8))) (x1 : Int) (x2 : Bool) : (vfun env_s_ImageOf Try.f23 J_s_ImageOf ann_s_ImageOf [.one ⟨.sl false 105 (.pair (.int .i64) (.pair (.int .i64) .str)), x0⟩, .one ⟨.int .i64, x1⟩, .one ⟨.bool, x2⟩] []).run = (G.s_ImageOf x0 x1 x2).bind fun y => some (Res.mk [.one ⟨.int .i64, y⟩] []) := by kernel_rfl
def k_s_ImageOf : Kn := ⟨23, [false, false, false], fun args rows => match args, rows with
  | [.one ⟨.sl false 105 (.pair (.int .i64) (.pair (.int .i64) .str)), x0⟩, .one ⟨.int .i64, x1⟩, .one ⟨.bool, x2⟩], [] => some ⟨_, G.s_ImageOf x0 x1 x2, fun y => ⟨[.one ⟨.int .i64, y⟩], []⟩⟩
  | _, _ => none⟩
theorem s_s_ImageOf : KnOk Try.prog k_s_ImageOf := by
  intro args rows a h y hy
  simp only [k_s_ImageOf] at h
  split at h
  · injection h with h
    subst h
    exact vfun_ok eok_s_ImageOf Try.func23 rfl (by rw [v_s_ImageOf]; simp only at hy; rw [hy]; rfl)
  · cases h

def J_s_l1Target : Joins := [(.r, ⟨[.int .i64], [(2, .one (.h 0))], [], []⟩)]
def ann_s_l1Target : Ann := .seq .nil (.seq .nil (.seq (.seq .nil (.block [] (.loop ⟨[.int .i64, .sl false 105 (.pair (.int .i64) (.pair (.int .i64) .str)), .int .i64, .int .i64], [(3, .one (.h 0)), (6, .one (.h 1)), (7, .one (.h 2)), (8, .one (.h 3))], [], []⟩ [(.x 0, ⟨[.int .i64], [(3, .one (.h 0))], [], []⟩)] .nil))) .nil))
def env_s_l1Target : Env := envOf ti []
theorem eok_s_l1Target : EnvOk Try.prog env_s_l1Target := envOf_ok tab mix _ (by
  intro k hk; cases hk)
theorem v_s_l1Target (x0 : List (Int × (Int × List UInt8))) : (vfun env_s_l1Target Try.f72 J_s_l1Target ann_s_l1Target [.one ⟨.sl false 105 (.pair (.int .i64) (.pair (.int .i64) .str)), x0⟩] []).run = (G.s_l1Target x0).bind fun y => some (Res.mk [.one ⟨.int .i64, y⟩] []) := by kernel_rfl
def k_s_l1Target : Kn := ⟨72, [false], fun args rows => match args, rows with
  | [.one ⟨.sl false 105 (.pair (.int .i64) (.pair (.int .i64) .str)), x0⟩], [] => some ⟨_, G.s_l1Target x0, fun y => ⟨[.one ⟨.int .i64, y⟩], []⟩⟩
  | _, _ => none⟩
theorem s_s_l1Target : KnOk Try.prog k_s_l1Target := by
  intro args rows a h y hy
  simp only [k_s_l1Target] at h
  split at h
  · injection h with h
    subst h
    exact vfun_ok eok_s_l1Target Try.func72 rfl (by rw [v_s_l1Target]; simp only at hy; rw [hy]; rfl)
  · cases h

def J_s_LengthsOf : Joins := [(.r, ⟨[.int .i64, .int .i64, .bool], [(2, .one (.h 0)), (3, .one (.h 1)), (4, .one (.h 2))], [], []⟩)]
def ann_s_LengthsOf : Ann := .nil
def env_s_LengthsOf : Env := envOf ti [k_s_GoodChange, k_s_l1Source, k_s_l1Target]
theorem eok_s_LengthsOf : EnvOk Try.prog env_s_LengthsOf := envOf_ok tab mix _ (by
  intro k hk
  simp only [List.mem_cons, List.not_mem_nil, or_false] at hk
  rcases hk with rfl | rfl | rfl
  · exact s_s_GoodChange
  · exact s_s_l1Source
  · exact s_s_l1Target)
theorem v_s_LengthsOf (x0 : List (Int × (Int × List UInt8))) : (vfun env_s_LengthsOf Try.f24 J_s_LengthsOf ann_s_LengthsOf [.one ⟨.sl false 105 (.pair (.int .i64) (.pair (.int .i64) .str)), x0⟩] []).run = (G.s_LengthsOf x0).bind fun y => some (Res.mk [.one ⟨.int .i64, y.1⟩, .one ⟨.int .i64, y.2.1⟩, .one ⟨.bool, y.2.2⟩] []) := by kernel_rfl
def k_s_LengthsOf : Kn := ⟨24, [false], fun args rows => match args, rows with
  | [.one ⟨.sl false 105 (.pair (.int .i64) (.pair (.int .i64) .str)), x0⟩], [] => some ⟨_, G.s_LengthsOf x0, fun y => ⟨[.one ⟨.int .i64, y.1⟩, .one ⟨.int .i64, y.2.1⟩, .one ⟨.bool, y.2.2⟩], []⟩⟩
  | _, _ => none⟩
theorem s_s_LengthsOf : KnOk Try.prog k_s_LengthsOf := by
  intro args rows a h y hy
  simp only [k_s_LengthsOf] at h
  split at h
  · injection h with h
    subst h
    exact vfun_ok eok_s_LengthsOf Try.func24 rfl (by rw [v_s_LengthsOf]; simp only at hy; rw [hy]; rfl)
  · cases h

def J_l_FnImages : Joins := [(.r, ⟨[.bool], [(2, .one (.h 0))], [], []⟩)]
def ann_l_FnImages : Ann := .seq .nil (.seq .nil (.seq .nil (.seq .nil (.seq .nil (.seq .nil (.seq (.seq (.reg [(.n, ⟨[.sl true 105 (.pair (.int .i64) (.pair (.int .i64) .str)), .int .i64, .int .i64, .int .i64, .int .i64, .bool], [(3, .one (.vw 181248)), (4, .one (.h 1)), (6, .one (.h 2)), (7, .one (.h 3)), (8, .one (.h 4)), (45, .one (.h 5))], [], [(181248, 0)]⟩)]) .nil) (.seq (.seq (.reg [(.n, ⟨[.sl true 105 (.pair (.int .i64) (.pair (.int .i64) .str)), .int .i64, .int .i64, .bool], [(3, .one (.vw 181249)), (4, .one (.h 1)), (7, .one (.h 2)), (63, .one (.h 3))], [], [(181249, 0)]⟩)]) .nil) (.seq (.reg [(.n, ⟨[.bool], [(2, .one (.h 0))], [], []⟩)]) .nil))))))))
def env_l_FnImages : Env := envOf ti [k_s_DrawImageOf, k_i_ImageOf, k_s_ImageOf, k_s_LengthsOf]
theorem eok_l_FnImages : EnvOk Try.prog env_l_FnImages := envOf_ok tab mix _ (by
  intro k hk
  simp only [List.mem_cons, List.not_mem_nil, or_false] at hk
  rcases hk with rfl | rfl | rfl | rfl
  · exact s_s_DrawImageOf
  · exact s_i_ImageOf
  · exact s_s_ImageOf
  · exact s_s_LengthsOf)
theorem v_l_FnImages (x0 : List Int) : (vfun env_l_FnImages Try.f5 J_l_FnImages ann_l_FnImages [.one ⟨.sl false 5 (.int .u8), x0⟩] []).run = (G.l_FnImages x0).bind fun y => some (Res.mk [.one ⟨.bool, y⟩] []) := by kernel_rfl
def k_l_FnImages : Kn := ⟨5, [false], fun args rows => match args, rows with
  | [.one ⟨.sl false 5 (.int .u8), x0⟩], [] => some ⟨_, G.l_FnImages x0, fun y => ⟨[.one ⟨.bool, y⟩], []⟩⟩
  | _, _ => none⟩
theorem s_l_FnImages : KnOk Try.prog k_l_FnImages := by
  intro args rows a h y hy
  simp only [k_l_FnImages] at h
  split at h
  · injection h with h
    subst h
    exact vfun_ok eok_l_FnImages Try.func5 rfl (by rw [v_l_FnImages]; simp only at hy; rw [hy]; rfl)
  · cases h

def J_s_DrawGoodChange : Joins := [(.r, ⟨[.sl true 105 (.pair (.int .i64) (.pair (.int .i64) .str))], [(2, .one (.vw 130113))], [], [(130113, 0)]⟩)]
def ann_s_DrawGoodChange : Ann := .seq .nil (.seq .nil (.seq (.seq .nil (.cond [] (.seq .nil (.seq (.seq .nil (.block [] (.loop ⟨[.sl true 105 (.pair (.int .i64) (.pair (.int .i64) .str)), .int .i64, .sl false 5 (.int .u8), .int .i64, .int .u64], [(3, .pl 8 0), (4, .one (.vw 130048)), (5, .one (.h 1))], [(8, [.h 2, .h 3, .h 4])], [(130048, 0)]⟩ [(.x 0, ⟨[.sl true 105 (.pair (.int .i64) (.pair (.int .i64) .str))], [(4, .one (.vw 130112))], [], [(130112, 0)]⟩)] .nil))) .nil)) .nil)) .nil))
def env_s_DrawGoodChange : Env := envOf ti [k_s_l1Cur_one_f, k_s_l1Cur_pick_f, k_s_l1Cur_part_f, k_s_l1Cur_size_f, k_s_l1Cur_changeOf_f]
theorem eok_s_DrawGoodChange : EnvOk Try.prog env_s_DrawGoodChange := envOf_ok tab mix _ (by
  intro k hk
  simp only [List.mem_cons, List.not_mem_nil, or_false] at hk
  rcases hk with rfl | rfl | rfl | rfl | rfl
  · exact s_s_l1Cur_one_f
  · exact s_s_l1Cur_pick_f
  · exact s_s_l1Cur_part_f
  · exact s_s_l1Cur_size_f
  · exact s_s_l1Cur_changeOf_f)
theorem v_s_DrawGoodChange (x0 : List Int) : (vfun env_s_DrawGoodChange Try.f73 J_s_DrawGoodChange ann_s_DrawGoodChange [.one ⟨.sl false 5 (.int .u8), x0⟩] []).run = (G.s_DrawGoodChange x0).bind fun y => some (Res.mk [.one ⟨.sl true 105 (.pair (.int .i64) (.pair (.int .i64) .str)), y⟩] []) := by kernel_rfl
def k_s_DrawGoodChange : Kn := ⟨73, [false], fun args rows => match args, rows with
  | [.one ⟨.sl false 5 (.int .u8), x0⟩], [] => some ⟨_, G.s_DrawGoodChange x0, fun y => ⟨[.one ⟨.sl true 105 (.pair (.int .i64) (.pair (.int .i64) .str)), y⟩], []⟩⟩
  | _, _ => none⟩
theorem s_s_DrawGoodChange : KnOk Try.prog k_s_DrawGoodChange := by
  intro args rows a h y hy
  simp only [k_s_DrawGoodChange] at h
  split at h
  · injection h with h
    subst h
    exact vfun_ok eok_s_DrawGoodChange Try.func73 rfl (by rw [v_s_DrawGoodChange]; simp only at hy; rw [hy]; rfl)
  · cases h

def J_s_DrawWriteChange : Joins := [(.r, ⟨[.sl true 105 (.pair (.int .i64) (.pair (.int .i64) .str))], [(2, .one (.vw 107520))], [], [(107520, 0)]⟩)]
def ann_s_DrawWriteChange : Ann := .nil
def env_s_DrawWriteChange : Env := envOf ti [k_s_DrawGoodChange]
theorem eok_s_DrawWriteChange : EnvOk Try.prog env_s_DrawWriteChange := envOf_ok tab mix _ (by
  intro k hk
  simp only [List.mem_cons, List.not_mem_nil, or_false] at hk
  rcases hk with rfl
  · exact s_s_DrawGoodChange)
theorem v_s_DrawWriteChange (x0 : List Int) : (vfun env_s_DrawWriteChange Try.f25 J_s_DrawWriteChange ann_s_DrawWriteChange [.one ⟨.sl false 5 (.int .u8), x0⟩] []).run = (G.s_DrawWriteChange x0).bind fun y => some (Res.mk [.one ⟨.sl true 105 (.pair (.int .i64) (.pair (.int .i64) .str)), y⟩] []) := by kernel_rfl
def k_s_DrawWriteChange : Kn := ⟨25, [false], fun args rows => match args, rows with
  | [.one ⟨.sl false 5 (.int .u8), x0⟩], [] => some ⟨_, G.s_DrawWriteChange x0, fun y => ⟨[.one ⟨.sl true 105 (.pair (.int .i64) (.pair (.int .i64) .str)), y⟩], []⟩⟩
  | _, _ => none⟩
theorem s_s_DrawWriteChange : KnOk Try.prog k_s_DrawWriteChange := by
  intro args rows a h y hy
  simp only [k_s_DrawWriteChange] at h
  split at h
  · injection h with h
    subst h
    exact vfun_ok eok_s_DrawWriteChange Try.func25 rfl (by rw [v_s_DrawWriteChange]; simp only at hy; rw [hy]; rfl)
  · cases h

def J_i_writeChange : Joins := [(.r, ⟨[.sl true 5 (.int .u8)], [(2, .one (.vw 138305))], [], [(138305, 0)]⟩)]
def ann_i_writeChange : Ann := .seq .nil (.seq .nil (.seq (.seq .nil (.block [] (.loop ⟨[.sl true 5 (.int .u8), .sl false 105 (.pair (.int .i64) (.pair (.int .i64) .str)), .int .i64, .int .i64], [(3, .one (.vw 138240)), (7, .one (.h 1)), (8, .one (.h 2)), (9, .one (.h 3))], [], [(138240, 0)]⟩ [(.x 0, ⟨[.sl true 5 (.int .u8)], [(3, .one (.vw 138304))], [], [(138304, 0)]⟩)] .nil))) .nil))
def env_i_writeChange : Env := envOf ti [k_i_Part_kind]
theorem eok_i_writeChange : EnvOk Try.prog env_i_writeChange := envOf_ok tab mix _ (by
  intro k hk
  simp only [List.mem_cons, List.not_mem_nil, or_false] at hk
  rcases hk with rfl
  · exact s_i_Part_kind)
theorem v_i_writeChange (x0 : List (Int × (Int × List UInt8))) : (vfun env_i_writeChange Try.f74 J_i_writeChange ann_i_writeChange [.one ⟨.sl false 105 (.pair (.int .i64) (.pair (.int .i64) .str)), x0⟩] []).run = (G.i_writeChange x0).bind fun y => some (Res.mk [.one ⟨.sl true 5 (.int .u8), y⟩] []) := by kernel_rfl
def k_i_writeChange : Kn := ⟨74, [false], fun args rows => match args, rows with
  | [.one ⟨.sl false 105 (.pair (.int .i64) (.pair (.int .i64) .str)), x0⟩], [] => some ⟨_, G.i_writeChange x0, fun y => ⟨[.one ⟨.sl true 5 (.int .u8), y⟩], []⟩⟩
  | _, _ => none⟩
theorem s_i_writeChange : KnOk Try.prog k_i_writeChange := by
  intro args rows a h y hy
  simp only [k_i_writeChange] at h
  split at h
  · injection h with h
    subst h
    exact vfun_ok eok_i_writeChange Try.func74 rfl (by rw [v_i_writeChange]; simp only at hy; rw [hy]; rfl)
  · cases h

def J_i_WriteChange : Joins := [(.r, ⟨[.sl true 5 (.int .u8), .bool], [(2, .one (.vw 111616)), (3, .one (.h 1))], [], [(111616, 0)]⟩)]
def ann_i_WriteChange : Ann := .nil
def env_i_WriteChange : Env := envOf ti [k_i_GoodChange, k_i_writeChange]
theorem eok_i_WriteChange : EnvOk Try.prog env_i_WriteChange := envOf_ok tab mix _ (by
  intro k hk
  simp only [List.mem_cons, List.not_mem_nil, or_false] at hk
  rcases hk with rfl | rfl
  · exact s_i_GoodChange
  · exact s_i_writeChange)
theorem v_i_WriteChange (x0 : List (Int × (Int × List UInt8))) : (vfun env_i_WriteChange Try.f26 J_i_WriteChange ann_i_WriteChange [.one ⟨.sl false 105 (.pair (.int .i64) (.pair (.int .i64) .str)), x0⟩] []).run = (G.i_WriteChange x0).bind fun y => some (Res.mk [.one ⟨.sl true 5 (.int .u8), y.1⟩, .one ⟨.bool, y.2⟩] []) := by kernel_rfl
def k_i_WriteChange : Kn := ⟨26, [false], fun args rows => match args, rows with
  | [.one ⟨.sl false 105 (.pair (.int .i64) (.pair (.int .i64) .str)), x0⟩], [] => some ⟨_, G.i_WriteChange x0, fun y => ⟨[.one ⟨.sl true 5 (.int .u8), y.1⟩, .one ⟨.bool, y.2⟩], []⟩⟩
  | _, _ => none⟩
theorem s_i_WriteChange : KnOk Try.prog k_i_WriteChange := by
  intro args rows a h y hy
  simp only [k_i_WriteChange] at h
  split at h
  · injection h with h
    subst h
    exact vfun_ok eok_i_WriteChange Try.func26 rfl (by rw [v_i_WriteChange]; simp only at hy; rw [hy]; rfl)
  · cases h

def J_s_l1Write : Joins := [(.r, ⟨[.sl true 5 (.int .u8)], [(2, .one (.vw 139329))], [], [(139329, 0)]⟩)]
def ann_s_l1Write : Ann := .seq .nil (.seq .nil (.seq (.seq .nil (.block [] (.loop ⟨[.sl true 5 (.int .u8), .sl false 105 (.pair (.int .i64) (.pair (.int .i64) .str)), .int .i64, .int .i64], [(3, .one (.vw 139264)), (7, .one (.h 1)), (8, .one (.h 2)), (9, .one (.h 3))], [], [(139264, 0)]⟩ [(.x 0, ⟨[.sl true 5 (.int .u8)], [(3, .one (.vw 139328))], [], [(139328, 0)]⟩)] .nil))) .nil))
def env_s_l1Write : Env := envOf ti [k_s_l1Kind]
theorem eok_s_l1Write : EnvOk Try.prog env_s_l1Write := envOf_ok tab mix _ (by
  intro k hk
  simp only [List.mem_cons, List.not_mem_nil, or_false] at hk
  rcases hk with rfl
  · exact s_s_l1Kind)
theorem v_s_l1Write (x0 : List (Int × (Int × List UInt8))) : (vfun env_s_l1Write Try.f75 J_s_l1Write ann_s_l1Write [.one ⟨.sl false 105 (.pair (.int .i64) (.pair (.int .i64) .str)), x0⟩] []).run = (G.s_l1Write x0).bind fun y => some (Res.mk [.one ⟨.sl true 5 (.int .u8), y⟩] []) := by kernel_rfl
def k_s_l1Write : Kn := ⟨75, [false], fun args rows => match args, rows with
  | [.one ⟨.sl false 105 (.pair (.int .i64) (.pair (.int .i64) .str)), x0⟩], [] => some ⟨_, G.s_l1Write x0, fun y => ⟨[.one ⟨.sl true 5 (.int .u8), y⟩], []⟩⟩
  | _, _ => none⟩
theorem s_s_l1Write : KnOk Try.prog k_s_l1Write := by
  intro args rows a h y hy
  simp only [k_s_l1Write] at h
  split at h
  · injection h with h
    subst h
    exact vfun_ok eok_s_l1Write Try.func75 rfl (by rw [v_s_l1Write]; simp only at hy; rw [hy]; rfl)
  · cases h

def J_s_WriteChange : Joins := [(.r, ⟨[.sl true 5 (.int .u8), .bool], [(2, .one (.vw 111616)), (3, .one (.h 1))], [], [(111616, 0)]⟩)]
def ann_s_WriteChange : Ann := .nil
def env_s_WriteChange : Env := envOf ti [k_s_GoodChange, k_s_l1Write]
theorem eok_s_WriteChange : EnvOk Try.prog env_s_WriteChange := envOf_ok tab mix _ (by
  intro k hk
  simp only [List.mem_cons, List.not_mem_nil, or_false] at hk
  rcases hk with rfl | rfl
  · exact s_s_GoodChange
  · exact s_s_l1Write)
theorem v_s_WriteChange (x0 : List (Int × (Int × List UInt8))) : (vfun env_s_WriteChange Try.f27 J_s_WriteChange ann_s_WriteChange [.one ⟨.sl false 105 (.pair (.int .i64) (.pair (.int .i64) .str)), x0⟩] []).run = (G.s_WriteChange x0).bind fun y => some (Res.mk [.one ⟨.sl true 5 (.int .u8), y.1⟩, .one ⟨.bool, y.2⟩] []) := by kernel_rfl
def k_s_WriteChange : Kn := ⟨27, [false], fun args rows => match args, rows with
  | [.one ⟨.sl false 105 (.pair (.int .i64) (.pair (.int .i64) .str)), x0⟩], [] => some ⟨_, G.s_WriteChange x0, fun y => ⟨[.one ⟨.sl true 5 (.int .u8), y.1⟩, .one ⟨.bool, y.2⟩], []⟩⟩
  | _, _ => none⟩
theorem s_s_WriteChange : KnOk Try.prog k_s_WriteChange := by
  intro args rows a h y hy
  simp only [k_s_WriteChange] at h
  split at h
  · injection h with h
    subst h
    exact vfun_ok eok_s_WriteChange Try.func27 rfl (by rw [v_s_WriteChange]; simp only at hy; rw [hy]; rfl)
  · cases h
end
end Go.Proofs.Ytdicgiljgelkfaa

set_option linter.unusedVariables false
set_option maxRecDepth 100000
namespace Go.Proofs.Ytdicgiljgelkfaa
open Go.V
noncomputable section
def J_i_ReadChange : Joins := [(.r, ⟨[.sl true 105 (.pair (.int .i64) (.pair (.int .i64) .str)), .bool], [(2, .one (.vw 166980)), (3, .one (.h 1))], [], [(166980, 0)]⟩)]
def ann_i_ReadChange : Ann := .seq .nil (.seq .nil (.seq (.block [] (.loop ⟨[.sl false 5 (.int .u8), .sl true 105 (.pair (.int .i64) (.pair (.int .i64) .str))], [(0, .one (.h 0)), (4, .one (.vw 166912))], [], [(166912, 1)]⟩ [(.x 0, ⟨[.sl true 105 (.pair (.int .i64) (.pair (.int .i64) .str))], [(4, .one (.vw 166979))], [], [(166979, 0)]⟩), (.r, ⟨[.bool], [(2, .one (.nil)), (3, .one (.h 0))], [], []⟩)] (.seq .nil (.block [] (.seq .nil (.seq .nil (.seq .nil (.block [] (.seq .nil (.cond [(.n, ⟨[.sl false 5 (.int .u8), .sl true 105 (.pair (.int .i64) (.pair (.int .i64) .str))], [(0, .one (.h 0)), (4, .one (.vw 166978))], [], [(166978, 1)]⟩), (.r, ⟨[.bool], [(2, .one (.nil)), (3, .one (.h 0))], [], []⟩)] .nil (.seq .nil (.cond [(.n, ⟨[.sl false 5 (.int .u8), .sl true 105 (.pair (.int .i64) (.pair (.int .i64) .str))], [(0, .one (.h 0)), (4, .one (.vw 166977))], [], [(166977, 1)]⟩), (.r, ⟨[.bool], [(2, .one (.nil)), (3, .one (.h 0))], [], []⟩)] .nil (.seq (.reg [(.n, ⟨[.sl false 5 (.int .u8), .sl true 105 (.pair (.int .i64) (.pair (.int .i64) .str)), .int .i64, .bool], [(0, .one (.h 0)), (4, .one (.vw 166976)), (6, .one (.h 2)), (39, .one (.h 3))], [], [(166976, 1)]⟩)]) .nil))))))))))))) .nil))
def env_i_ReadChange : Env := envOf ti [k_i_GoodChange]
theorem eok_i_ReadChange : EnvOk Try.prog env_i_ReadChange := envOf_ok tab mix _ (by
  intro k hk
  simp only [List.mem_cons, List.not_mem_nil, or_false] at hk
  rcases hk with rfl
  · exact s_i_GoodChange)
theorem v_i_ReadChange (x0 : List Int) : (vfun env_i_ReadChange Try.f28 J_i_ReadChange ann_i_ReadChange [.one ⟨.sl false 5 (.int .u8), x0⟩] []).run = (G.i_ReadChange x0).bind fun y => some (Res.mk [.one ⟨.sl true 105 (.pair (.int .i64) (.pair (.int .i64) .str)), y.1⟩, .one ⟨.bool, y.2⟩] []) := by kernel_rfl
def k_i_ReadChange : Kn := ⟨28, [false], fun args rows => match args, rows with
  | [.one ⟨.sl false 5 (.int .u8), x0⟩], [] => some ⟨_, G.i_ReadChange x0, fun y => ⟨[.one ⟨.sl true 105 (.pair (.int .i64) (.pair (.int .i64) .str)), y.1⟩, .one ⟨.bool, y.2⟩], []⟩⟩
  | _, _ => none⟩
theorem s_i_ReadChange : KnOk Try.prog k_i_ReadChange := by
  intro args rows a h y hy
  simp only [k_i_ReadChange] at h
  split at h
  · injection h with h
    subst h
    exact vfun_ok eok_i_ReadChange Try.func28 rfl (by rw [v_i_ReadChange]; simp only at hy; rw [hy]; rfl)
  · cases h

def J_l_sameParts : Joins := [(.r, ⟨[.bool], [(4, .one (.h 0))], [], []⟩)]
def ann_l_sameParts : Ann := .seq .nil (.seq .nil (.seq (.seq .nil (.block [] (.loop ⟨[.sl false 105 (.pair (.int .i64) (.pair (.int .i64) .str)), .sl false 105 (.pair (.int .i64) (.pair (.int .i64) .str)), .int .i64, .int .i64], [(0, .one (.h 0)), (1, .one (.h 1)), (12, .one (.h 2)), (13, .one (.h 3))], [], []⟩ [(.x 0, ⟨[], [], [], []⟩), (.r, ⟨[.bool], [(4, .one (.h 0))], [], []⟩)] .nil))) .nil))
def env_l_sameParts : Env := envOf ti []
theorem eok_l_sameParts : EnvOk Try.prog env_l_sameParts := envOf_ok tab mix _ (by
  intro k hk; cases hk)
theorem v_l_sameParts (x0 : List (Int × (Int × List UInt8))) (x1 : List (Int × (Int × List UInt8))) : (vfun env_l_sameParts Try.f29 J_l_sameParts ann_l_sameParts [.one ⟨.sl false 105 (.pair (.int .i64) (.pair (.int .i64) .str)), x0⟩, .one ⟨.sl false 105 (.pair (.int .i64) (.pair (.int .i64) .str)), x1⟩] []).run = (G.l_sameParts x0 x1).bind fun y => some (Res.mk [.one ⟨.bool, y⟩] []) := by kernel_rfl
def k_l_sameParts : Kn := ⟨29, [false, false], fun args rows => match args, rows with
  | [.one ⟨.sl false 105 (.pair (.int .i64) (.pair (.int .i64) .str)), x0⟩, .one ⟨.sl false 105 (.pair (.int .i64) (.pair (.int .i64) .str)), x1⟩], [] => some ⟨_, G.l_sameParts x0 x1, fun y => ⟨[.one ⟨.bool, y⟩], []⟩⟩
  | _, _ => none⟩
theorem s_l_sameParts : KnOk Try.prog k_l_sameParts := by
  intro args rows a h y hy
  simp only [k_l_sameParts] at h
  split at h
  · injection h with h
    subst h
    exact vfun_ok eok_l_sameParts Try.func29 rfl (by rw [v_l_sameParts]; simp only at hy; rw [hy]; rfl)
  · cases h

def J_s_DrawNormalOf : Joins := [(.r, ⟨[.sl true 105 (.pair (.int .i64) (.pair (.int .i64) .str))], [(2, .one (.vw 158790))], [], [(158790, 0)]⟩)]
def ann_s_DrawNormalOf : Ann := .seq .nil (.seq .nil (.seq .nil (.seq (.seq .nil (.block [] (.loop ⟨[.sl true 105 (.pair (.int .i64) (.pair (.int .i64) .str)), .int .i64, .sl false 5 (.int .u8), .int .i64, .int .u64], [(3, .pl 8 0), (4, .one (.vw 158720)), (5, .one (.h 1))], [(8, [.h 2, .h 3, .h 4])], [(158720, 0)]⟩ [(.x 0, ⟨[.sl true 105 (.pair (.int .i64) (.pair (.int .i64) .str)), .sl false 5 (.int .u8), .int .i64, .int .u64], [(3, .pl 8 0), (4, .one (.vw 158788))], [(8, [.h 1, .h 2, .h 3])], [(158788, 0)]⟩)] (.seq .nil (.seq (.block [] (.seq .nil (.block [] (.seq .nil (.cond [(.n, ⟨[.sl true 105 (.pair (.int .i64) (.pair (.int .i64) .str)), .int .i64, .sl false 5 (.int .u8), .int .i64, .int .u64], [(3, .pl 8 0), (4, .one (.vw 158787)), (5, .one (.h 1))], [(8, [.h 2, .h 3, .h 4])], [(158787, 0)]⟩)] .nil (.seq .nil (.cond [(.n, ⟨[.sl true 105 (.pair (.int .i64) (.pair (.int .i64) .str)), .int .i64, .sl false 5 (.int .u8), .int .i64, .int .u64], [(3, .pl 8 0), (4, .one (.vw 158786)), (5, .one (.h 1))], [(8, [.h 2, .h 3, .h 4])], [(158786, 0)]⟩)] .nil (.seq .nil (.cond [(.n, ⟨[.sl true 105 (.pair (.int .i64) (.pair (.int .i64) .str)), .int .i64, .sl false 5 (.int .u8), .int .i64, .int .u64], [(3, .pl 8 0), (4, .one (.vw 158785)), (5, .one (.h 1))], [(8, [.h 2, .h 3, .h 4])], [(158785, 0)]⟩)] .nil (.seq .nil (.cond [(.n, ⟨[.sl true 105 (.pair (.int .i64) (.pair (.int .i64) .str)), .int .i64, .sl false 5 (.int .u8), .int .i64, .int .u64], [(3, .pl 8 0), (4, .one (.vw 158784)), (5, .one (.h 1))], [(8, [.h 2, .h 3, .h 4])], [(158784, 0)]⟩)] .nil .nil))))))))))) .nil))))) (.seq (.seq .nil (.cond [(.n, ⟨[.sl true 105 (.pair (.int .i64) (.pair (.int .i64) .str))], [(4, .one (.vw 158789))], [], [(158789, 0)]⟩)] .nil .nil)) .nil))))
def env_s_DrawNormalOf : Env := envOf ti [k_s_l1Cur_pick_f, k_s_l1Cur_put_f, k_s_l1Cur_one_f, k_s_l1Cur_part_f]
theorem eok_s_DrawNormalOf : EnvOk Try.prog env_s_DrawNormalOf := envOf_ok tab mix _ (by
  intro k hk
  simp only [List.mem_cons, List.not_mem_nil, or_false] at hk
  rcases hk with rfl | rfl | rfl | rfl
  · exact s_s_l1Cur_pick_f
  · exact s_s_l1Cur_put_f
  · exact s_s_l1Cur_one_f
  · exact s_s_l1Cur_part_f)
theorem v_s_DrawNormalOf (x0 : List Int) : (vfun env_s_DrawNormalOf Try.f30 J_s_DrawNormalOf ann_s_DrawNormalOf [.one ⟨.sl false 5 (.int .u8), x0⟩] []).run = (G.s_DrawNormalOf x0).bind fun y => some (Res.mk [.one ⟨.sl true 105 (.pair (.int .i64) (.pair (.int .i64) .str)), y⟩] []) := by kernel_rfl
def k_s_DrawNormalOf : Kn := ⟨30, [false], fun args rows => match args, rows with
  | [.one ⟨.sl false 5 (.int .u8), x0⟩], [] => some ⟨_, G.s_DrawNormalOf x0, fun y => ⟨[.one ⟨.sl true 105 (.pair (.int .i64) (.pair (.int .i64) .str)), y⟩], []⟩⟩
  | _, _ => none⟩
theorem s_s_DrawNormalOf : KnOk Try.prog k_s_DrawNormalOf := by
  intro args rows a h y hy
  simp only [k_s_DrawNormalOf] at h
  split at h
  · injection h with h
    subst h
    exact vfun_ok eok_s_DrawNormalOf Try.func30 rfl (by rw [v_s_DrawNormalOf]; simp only at hy; rw [hy]; rfl)
  · cases h

def J_i_builder_add_o : Joins := [(.n, ⟨[.sl true 105 (.pair (.int .i64) (.pair (.int .i64) .str))], [], [(80, [.vw 183299])], [(183299, 0)]⟩)]
def ann_i_builder_add_o : Ann := .seq .nil (.seq .nil (.block [] (.seq .nil (.cond [(.n, ⟨[.sl true 105 (.pair (.int .i64) (.pair (.int .i64) .str))], [], [(80, [.vw 183298])], [(183298, 0)]⟩)] .nil (.seq (.reg [(.n, ⟨[.int .i64, .bool, .int .i64, .int .i64, .str, .sl true 105 (.pair (.int .i64) (.pair (.int .i64) .str))], [(0, .pl 80 0), (3, .pl 3 0), (4, .one (.h 0)), (25, .one (.h 1))], [(3, [.h 2, .h 3, .h 4]), (80, [.vw 183296])], [(183296, 5)]⟩)]) (.cond [(.n, ⟨[.sl true 105 (.pair (.int .i64) (.pair (.int .i64) .str))], [], [(80, [.vw 183297])], [(183297, 0)]⟩)] .nil .nil))))))
def env_i_builder_add_o : Env := envOf ti [k_i_Part_kind]
theorem eok_i_builder_add_o : EnvOk Try.prog env_i_builder_add_o := envOf_ok tab mix _ (by
  intro k hk
  simp only [List.mem_cons, List.not_mem_nil, or_false] at hk
  rcases hk with rfl
  · exact s_i_Part_kind)
theorem v_i_builder_add_o (x0 : Int) (x1 : Int) (x2 : List UInt8) (x3 : List (Int × (Int × List UInt8))) : (vfun env_i_builder_add_o Try.f79 J_i_builder_add_o ann_i_builder_add_o [.pl 0 0, .ag [⟨.int .i64, x0⟩, ⟨.int .i64, x1⟩, ⟨.str, x2⟩]] [[⟨.sl true 105 (.pair (.int .i64) (.pair (.int .i64) .str)), x3⟩]]).run = (G.i_builder_add_o x0 x1 x2 x3).bind fun y => some (Res.mk [] [[⟨.sl true 105 (.pair (.int .i64) (.pair (.int .i64) .str)), y⟩]]) := by kernel_rfl
def k_i_builder_add_o : Kn := ⟨79, [false, false], fun args rows => match args, rows with
  | [.pl 0 0, .ag [⟨.int .i64, x0⟩, ⟨.int .i64, x1⟩, ⟨.str, x2⟩]], [[⟨.sl true 105 (.pair (.int .i64) (.pair (.int .i64) .str)), x3⟩]] => some ⟨_, G.i_builder_add_o x0 x1 x2 x3, fun y => ⟨[], [[⟨.sl true 105 (.pair (.int .i64) (.pair (.int .i64) .str)), y⟩]]⟩⟩
  | _, _ => none⟩
theorem s_i_builder_add_o : KnOk Try.prog k_i_builder_add_o := by
  intro args rows a h y hy
  simp only [k_i_builder_add_o] at h
  split at h
  · injection h with h
    subst h
    exact vfun_ok eok_i_builder_add_o Try.func79 rfl (by rw [v_i_builder_add_o]; simp only at hy; rw [hy]; rfl)
  · cases h

def J_i_NormalOf : Joins := [(.r, ⟨[.sl true 105 (.pair (.int .i64) (.pair (.int .i64) .str)), .bool], [(2, .one (.vw 147522)), (3, .one (.h 1))], [], [(147522, 0)]⟩)]
def ann_i_NormalOf : Ann := .seq .nil (.seq .nil (.seq .nil (.seq (.seq .nil (.block [] (.loop ⟨[.sl false 105 (.pair (.int .i64) (.pair (.int .i64) .str)), .int .i64, .int .i64, .sl true 105 (.pair (.int .i64) (.pair (.int .i64) .str))], [(4, .pl 4 0), (11, .one (.h 0)), (12, .one (.h 1)), (13, .one (.h 2))], [(4, [.vw 147456])], [(147456, 3)]⟩ [(.x 0, ⟨[.sl true 105 (.pair (.int .i64) (.pair (.int .i64) .str))], [(4, .pl 4 0)], [(4, [.vw 147521])], [(147521, 0)]⟩), (.r, ⟨[.bool], [(2, .one (.nil)), (3, .one (.h 0))], [], []⟩)] (.seq .nil (.seq .nil (.seq (.block [] (.seq .nil (.seq (.seq (.reg [(.n, ⟨[.sl false 105 (.pair (.int .i64) (.pair (.int .i64) .str)), .int .i64, .int .i64, .bool, .sl true 105 (.pair (.int .i64) (.pair (.int .i64) .str)), .int .i64, .int .i64, .str], [(4, .pl 4 0), (6, .pl 6 0), (11, .one (.h 0)), (12, .one (.h 1)), (13, .one (.h 2)), (34, .one (.h 3))], [(4, [.vw 147520]), (6, [.h 5, .h 6, .h 7])], [(147520, 4)]⟩)]) .nil) .nil))) .nil)))))) .nil)))
def env_i_NormalOf : Env := envOf ti [k_i_Part_kind, k_i_builder_add_o, k_i_GoodChange]
theorem eok_i_NormalOf : EnvOk Try.prog env_i_NormalOf := envOf_ok tab mix _ (by
  intro k hk
  simp only [List.mem_cons, List.not_mem_nil, or_false] at hk
  rcases hk with rfl | rfl | rfl
  · exact s_i_Part_kind
  · exact s_i_builder_add_o
  · exact s_i_GoodChange)
theorem v_i_NormalOf (x0 : List (Int × (Int × List UInt8))) : (vfun env_i_NormalOf Try.f31 J_i_NormalOf ann_i_NormalOf [.one ⟨.sl false 105 (.pair (.int .i64) (.pair (.int .i64) .str)), x0⟩] []).run = (G.i_NormalOf x0).bind fun y => some (Res.mk [.one ⟨.sl true 105 (.pair (.int .i64) (.pair (.int .i64) .str)), y.1⟩, .one ⟨.bool, y.2⟩] []) := by kernel_rfl
def k_i_NormalOf : Kn := ⟨31, [false], fun args rows => match args, rows with
  | [.one ⟨.sl false 105 (.pair (.int .i64) (.pair (.int .i64) .str)), x0⟩], [] => some ⟨_, G.i_NormalOf x0, fun y => ⟨[.one ⟨.sl true 105 (.pair (.int .i64) (.pair (.int .i64) .str)), y.1⟩, .one ⟨.bool, y.2⟩], []⟩⟩
  | _, _ => none⟩
theorem s_i_NormalOf : KnOk Try.prog k_i_NormalOf := by
  intro args rows a h y hy
  simp only [k_i_NormalOf] at h
  split at h
  · injection h with h
    subst h
    exact vfun_ok eok_i_NormalOf Try.func31 rfl (by rw [v_i_NormalOf]; simp only at hy; rw [hy]; rfl)
  · cases h

def J_s_NormalOf : Joins := [(.r, ⟨[.sl true 105 (.pair (.int .i64) (.pair (.int .i64) .str)), .bool], [(2, .one (.vw 147522)), (3, .one (.h 1))], [], [(147522, 0)]⟩)]
def ann_s_NormalOf : Ann := .seq .nil (.seq .nil (.seq .nil (.seq (.seq .nil (.block [] (.loop ⟨[.sl true 105 (.pair (.int .i64) (.pair (.int .i64) .str)), .sl false 105 (.pair (.int .i64) (.pair (.int .i64) .str)), .int .i64, .int .i64], [(4, .one (.vw 147456)), (10, .one (.h 1)), (11, .one (.h 2)), (12, .one (.h 3))], [], [(147456, 0)]⟩ [(.x 0, ⟨[.sl true 105 (.pair (.int .i64) (.pair (.int .i64) .str))], [(4, .one (.vw 147521))], [], [(147521, 0)]⟩), (.r, ⟨[.bool], [(2, .one (.nil)), (3, .one (.h 0))], [], []⟩)] (.seq .nil (.seq .nil (.seq (.block [] (.seq .nil (.seq (.seq (.reg [(.n, ⟨[.sl true 105 (.pair (.int .i64) (.pair (.int .i64) .str)), .sl false 105 (.pair (.int .i64) (.pair (.int .i64) .str)), .int .i64, .int .i64, .bool, .int .i64, .int .i64, .str], [(4, .one (.vw 147520)), (6, .pl 6 0), (10, .one (.h 1)), (11, .one (.h 2)), (12, .one (.h 3)), (35, .one (.h 4))], [(6, [.h 5, .h 6, .h 7])], [(147520, 0)]⟩)]) .nil) .nil))) .nil)))))) .nil)))
def env_s_NormalOf : Env := envOf ti [k_s_l1In, k_s_l1Kind, k_s_l1Add, k_s_GoodChange]
theorem eok_s_NormalOf : EnvOk Try.prog env_s_NormalOf := envOf_ok tab mix _ (by
  intro k hk
  simp only [List.mem_cons, List.not_mem_nil, or_false] at hk
  rcases hk with rfl | rfl | rfl | rfl
  · exact s_s_l1In
  · exact s_s_l1Kind
  · exact s_s_l1Add
  · exact s_s_GoodChange)
theorem v_s_NormalOf (x0 : List (Int × (Int × List UInt8))) : (vfun env_s_NormalOf Try.f32 J_s_NormalOf ann_s_NormalOf [.one ⟨.sl false 105 (.pair (.int .i64) (.pair (.int .i64) .str)), x0⟩] []).run = (G.s_NormalOf x0).bind fun y => some (Res.mk [.one ⟨.sl true 105 (.pair (.int .i64) (.pair (.int .i64) .str)), y.1⟩, .one ⟨.bool, y.2⟩] []) := by kernel_rfl
def k_s_NormalOf : Kn := ⟨32, [false], fun args rows => match args, rows with
  | [.one ⟨.sl false 105 (.pair (.int .i64) (.pair (.int .i64) .str)), x0⟩], [] => some ⟨_, G.s_NormalOf x0, fun y => ⟨[.one ⟨.sl true 105 (.pair (.int .i64) (.pair (.int .i64) .str)), y.1⟩, .one ⟨.bool, y.2⟩], []⟩⟩
  | _, _ => none⟩
theorem s_s_NormalOf : KnOk Try.prog k_s_NormalOf := by
  intro args rows a h y hy
  simp only [k_s_NormalOf] at h
  split at h
  · injection h with h
    subst h
    exact vfun_ok eok_s_NormalOf Try.func32 rfl (by rw [v_s_NormalOf]; simp only at hy; rw [hy]; rfl)
  · cases h

def J_l_FnWritten : Joins := [(.r, ⟨[.bool], [(4, .one (.h 0))], [], []⟩)]
def ann_l_FnWritten : Ann := .seq .nil (.seq .nil (.seq .nil (.seq .nil (.seq .nil (.seq .nil (.seq (.seq .nil (.cond [(.n, ⟨[.sl false 5 (.int .u8)], [(1, .one (.h 0))], [], []⟩), (.r, ⟨[.bool], [(4, .one (.h 0))], [], []⟩)] (.seq .nil (.seq (.reg [(.n, ⟨[.sl false 5 (.int .u8), .bool], [(1, .one (.h 0)), (53, .one (.h 1))], [], []⟩)]) .nil)) .nil)) (.seq .nil (.seq .nil (.seq .nil (.seq .nil (.seq .nil (.seq .nil (.seq (.reg [(.n, ⟨[.bool], [(4, .one (.h 0))], [], []⟩)]) .nil)))))))))))))
def env_l_FnWritten : Env := envOf ti [k_s_DrawWriteChange, k_i_WriteChange, k_s_WriteChange, k_i_ReadChange, k_l_sameParts, k_s_DrawNormalOf, k_i_NormalOf, k_s_NormalOf, k_i_GoodChange]
theorem eok_l_FnWritten : EnvOk Try.prog env_l_FnWritten := envOf_ok tab mix _ (by
  intro k hk
  simp only [List.mem_cons, List.not_mem_nil, or_false] at hk
  rcases hk with rfl | rfl | rfl | rfl | rfl | rfl | rfl | rfl | rfl
  · exact s_s_DrawWriteChange
  · exact s_i_WriteChange
  · exact s_s_WriteChange
  · exact s_i_ReadChange
  · exact s_l_sameParts
  · exact s_s_DrawNormalOf
  · exact s_i_NormalOf
  · exact s_s_NormalOf
  · exact s_i_GoodChange)
theorem v_l_FnWritten (x0 : List Int) (x1 : List Int) : (vfun env_l_FnWritten Try.f6 J_l_FnWritten ann_l_FnWritten [.one ⟨.sl false 5 (.int .u8), x0⟩, .one ⟨.sl false 5 (.int .u8), x1⟩] []).run = (G.l_FnWritten x0 x1).bind fun y => some (Res.mk [.one ⟨.bool, y⟩] []) := by kernel_rfl
def k_l_FnWritten : Kn := ⟨6, [false, false], fun args rows => match args, rows with
  | [.one ⟨.sl false 5 (.int .u8), x0⟩, .one ⟨.sl false 5 (.int .u8), x1⟩], [] => some ⟨_, G.l_FnWritten x0 x1, fun y => ⟨[.one ⟨.bool, y⟩], []⟩⟩
  | _, _ => none⟩
theorem s_l_FnWritten : KnOk Try.prog k_l_FnWritten := by
  intro args rows a h y hy
  simp only [k_l_FnWritten] at h
  split at h
  · injection h with h
    subst h
    exact vfun_ok eok_l_FnWritten Try.func6 rfl (by rw [v_l_FnWritten]; simp only at hy; rw [hy]; rfl)
  · cases h

def J_s_DrawCarryChange : Joins := [(.r, ⟨[.sl true 105 (.pair (.int .i64) (.pair (.int .i64) .str)), .sl true 105 (.pair (.int .i64) (.pair (.int .i64) .str)), .bool], [(2, .one (.vw 129025)), (3, .one (.vw 129026)), (4, .one (.h 2))], [], [(129025, 0), (129026, 1)]⟩)]
def ann_s_DrawCarryChange : Ann := .seq .nil (.seq .nil (.seq .nil (.seq .nil (.seq (.seq .nil (.cond [(.n, ⟨[.int .i64, .sl true 105 (.pair (.int .i64) (.pair (.int .i64) .str)), .sl false 5 (.int .u8), .int .i64, .int .u64], [(5, .pl 10 0), (6, .one (.h 0)), (7, .one (.vw 129024))], [(10, [.h 2, .h 3, .h 4])], [(129024, 1)]⟩)] .nil .nil)) .nil))))
def env_s_DrawCarryChange : Env := envOf ti [k_s_l1Cur_size_f, k_s_l1Cur_changeOf_f, k_s_l1Cur_one_f]
theorem eok_s_DrawCarryChange : EnvOk Try.prog env_s_DrawCarryChange := envOf_ok tab mix _ (by
  intro k hk
  simp only [List.mem_cons, List.not_mem_nil, or_false] at hk
  rcases hk with rfl | rfl | rfl
  · exact s_s_l1Cur_size_f
  · exact s_s_l1Cur_changeOf_f
  · exact s_s_l1Cur_one_f)
theorem v_s_DrawCarryChange (x0 : List Int) : (vfun env_s_DrawCarryChange Try.f34 J_s_DrawCarryChange ann_s_DrawCarryChange [.one ⟨.sl false 5 (.int .u8), x0⟩] []).run = (G.s_DrawCarryChange x0).bind fun y => some (Res.mk [.one ⟨.sl true 105 (.pair (.int .i64) (.pair (.int .i64) .str)), y.1⟩, .one ⟨.sl true 105 (.pair (.int .i64) (.pair (.int .i64) .str)), y.2.1⟩, .one ⟨.bool, y.2.2⟩] []) := by kernel_rfl
def k_s_DrawCarryChange : Kn := ⟨34, [false], fun args rows => match args, rows with
  | [.one ⟨.sl false 5 (.int .u8), x0⟩], [] => some ⟨_, G.s_DrawCarryChange x0, fun y => ⟨[.one ⟨.sl true 105 (.pair (.int .i64) (.pair (.int .i64) .str)), y.1⟩, .one ⟨.sl true 105 (.pair (.int .i64) (.pair (.int .i64) .str)), y.2.1⟩, .one ⟨.bool, y.2.2⟩], []⟩⟩
  | _, _ => none⟩
theorem s_s_DrawCarryChange : KnOk Try.prog k_s_DrawCarryChange := by
  intro args rows a h y hy
  simp only [k_s_DrawCarryChange] at h
  split at h
  · injection h with h
    subst h
    exact vfun_ok eok_s_DrawCarryChange Try.func34 rfl (by rw [v_s_DrawCarryChange]; simp only at hy; rw [hy]; rfl)
  · cases h

def J_i_fits : Joins := [(.r, ⟨[.bool], [(4, .one (.h 0))], [], []⟩)]
def ann_i_fits : Ann := .seq .nil (.seq .nil (.seq (.reg [(.n, ⟨[.bool], [(4, .one (.h 0))], [], []⟩)]) .nil))
def env_i_fits : Env := envOf ti [k_i_LengthsOf]
theorem eok_i_fits : EnvOk Try.prog env_i_fits := envOf_ok tab mix _ (by
  intro k hk
  simp only [List.mem_cons, List.not_mem_nil, or_false] at hk
  rcases hk with rfl
  · exact s_i_LengthsOf)
theorem v_i_fits (x0 : List (Int × (Int × List UInt8))) (x1 : Int) : (vfun env_i_fits Try.f83 J_i_fits ann_i_fits [.one ⟨.sl false 105 (.pair (.int .i64) (.pair (.int .i64) .str)), x0⟩, .one ⟨.int .i64, x1⟩] []).run = (G.i_fits x0 x1).bind fun y => some (Res.mk [.one ⟨.bool, y⟩] []) := by kernel_rfl
def k_i_fits : Kn := ⟨83, [false, false], fun args rows => match args, rows with
  | [.one ⟨.sl false 105 (.pair (.int .i64) (.pair (.int .i64) .str)), x0⟩, .one ⟨.int .i64, x1⟩], [] => some ⟨_, G.i_fits x0 x1, fun y => ⟨[.one ⟨.bool, y⟩], []⟩⟩
  | _, _ => none⟩
theorem s_i_fits : KnOk Try.prog k_i_fits := by
  intro args rows a h y hy
  simp only [k_i_fits] at h
  split at h
  · injection h with h
    subst h
    exact vfun_ok eok_i_fits Try.func83 rfl (by rw [v_i_fits]; simp only at hy; rw [hy]; rfl)
  · cases h

def J_i_carry : Joins := [(.r, ⟨[.sl true 105 (.pair (.int .i64) (.pair (.int .i64) .str)), .bool], [(6, .one (.vw 179290)), (7, .one (.h 1))], [], [(179290, 0)]⟩)]
def ann_i_carry : Ann := .seq .nil (.seq .nil (.seq .nil (.seq (.seq .nil (.block [] (.loop ⟨[.bool, .int .i64, .int .i64, .sl true 4 .bool, .sl true 9 .str, .sl true 4 .bool, .sl true 9 .str, .sl true 105 (.pair (.int .i64) (.pair (.int .i64) .str))], [(2, .one (.h 0)), (8, .pl 8 0), (9, .pl 9 0), (10, .pl 10 0), (20, .one (.h 1)), (21, .one (.h 2))], [(8, [.vw 179200, .vw 179201]), (9, [.vw 179202, .vw 179203]), (10, [.vw 179204])], [(179200, 3), (179201, 4), (179202, 5), (179203, 6), (179204, 7)]⟩ [(.x 0, ⟨[.sl true 105 (.pair (.int .i64) (.pair (.int .i64) .str))], [(10, .pl 10 0)], [(10, [.vw 179289])], [(179289, 0)]⟩)] (.seq .nil (.seq .nil (.seq (.block [] (.seq .nil (.seq .nil (.seq (.seq .nil (.cond [(.n, ⟨[.bool, .int .i64, .int .i64, .int .i64, .sl true 4 .bool, .sl true 9 .str, .sl true 4 .bool, .sl true 9 .str, .sl true 105 (.pair (.int .i64) (.pair (.int .i64) .str)), .int .i64, .int .i64, .str], [(2, .one (.h 0)), (8, .pl 8 0), (9, .pl 9 0), (10, .pl 10 0), (11, .one (.h 1)), (12, .pl 12 0), (20, .one (.h 2)), (21, .one (.h 3))], [(8, [.vw 179264, .vw 179265]), (9, [.vw 179266, .vw 179267]), (10, [.vw 179268]), (12, [.h 9, .h 10, .h 11])], [(179264, 4), (179265, 5), (179266, 6), (179267, 7), (179268, 8)]⟩)] .nil .nil)) (.seq .nil (.seq (.seq .nil (.cond [(.n, ⟨[.bool, .int .i64, .int .i64, .int .i64, .sl true 4 .bool, .sl true 9 .str, .sl true 4 .bool, .sl true 9 .str, .sl true 105 (.pair (.int .i64) (.pair (.int .i64) .str))], [(2, .one (.h 0)), (8, .pl 8 0), (9, .pl 9 0), (10, .pl 10 0), (11, .one (.h 1)), (20, .one (.h 2)), (21, .one (.h 3))], [(8, [.vw 179269, .vw 179270]), (9, [.vw 179271, .vw 179272]), (10, [.vw 179273])], [(179269, 4), (179270, 5), (179271, 6), (179272, 7), (179273, 8)]⟩)] .nil .nil)) (.block [] (.seq (.reg [(.n, ⟨[.bool, .int .i64, .int .i64, .int .i64, .bool, .sl true 4 .bool, .sl true 9 .str, .sl true 4 .bool, .sl true 9 .str, .sl true 105 (.pair (.int .i64) (.pair (.int .i64) .str))], [(2, .one (.h 0)), (8, .pl 8 0), (9, .pl 9 0), (10, .pl 10 0), (11, .one (.h 1)), (20, .one (.h 2)), (21, .one (.h 3)), (47, .one (.h 4))], [(8, [.vw 179274, .vw 179275]), (9, [.vw 179276, .vw 179277]), (10, [.vw 179278])], [(179274, 5), (179275, 6), (179276, 7), (179277, 8), (179278, 9)]⟩)]) (.cond [(.n, ⟨[.bool, .int .i64, .int .i64, .sl true 4 .bool, .sl true 9 .str, .sl true 4 .bool, .sl true 9 .str, .sl true 105 (.pair (.int .i64) (.pair (.int .i64) .str))], [(2, .one (.h 0)), (8, .pl 8 0), (9, .pl 9 0), (10, .pl 10 0), (20, .one (.h 1)), (21, .one (.h 2))], [(8, [.vw 179284, .vw 179285]), (9, [.vw 179286, .vw 179287]), (10, [.vw 179288])], [(179284, 3), (179285, 4), (179286, 5), (179287, 6), (179288, 7)]⟩)] .nil (.seq .nil (.cond [(.n, ⟨[.bool, .int .i64, .int .i64, .sl true 4 .bool, .sl true 9 .str, .sl true 4 .bool, .sl true 9 .str, .sl true 105 (.pair (.int .i64) (.pair (.int .i64) .str))], [(2, .one (.h 0)), (8, .pl 8 0), (9, .pl 9 0), (10, .pl 10 0), (20, .one (.h 1)), (21, .one (.h 2))], [(8, [.vw 179279, .vw 179280]), (9, [.vw 179281, .vw 179282]), (10, [.vw 179283])], [(179279, 3), (179280, 4), (179281, 5), (179282, 6), (179283, 7)]⟩)] .nil .nil))))))))))) .nil)))))) .nil)))
def env_i_carry : Env := envOf ti [k_i_tell, k_i_builder_add_o, k_i_GoodChange]
theorem eok_i_carry : EnvOk Try.prog env_i_carry := envOf_ok tab mix _ (by
  intro k hk
  simp only [List.mem_cons, List.not_mem_nil, or_false] at hk
  rcases hk with rfl | rfl | rfl
  · exact s_i_tell
  · exact s_i_builder_add_o
  · exact s_i_GoodChange)
theorem v_i_carry (x0 : List (Int × (Int × List UInt8))) (x1 : List (Int × (Int × List UInt8))) (x2 : Bool) : (vfun env_i_carry Try.f84 J_i_carry ann_i_carry [.one ⟨.sl false 105 (.pair (.int .i64) (.pair (.int .i64) .str)), x0⟩, .one ⟨.sl false 105 (.pair (.int .i64) (.pair (.int .i64) .str)), x1⟩, .one ⟨.bool, x2⟩] []).run = (G.i_carry x0 x1 x2).bind fun y => some (Res.mk [.one ⟨.sl true 105 (.pair (.int .i64) (.pair (.int .i64) .str)), y.1⟩, .one ⟨.bool, y.2⟩] []) := by kernel_rfl
def k_i_carry : Kn := ⟨84, [false, false, false], fun args rows => match args, rows with
  | [.one ⟨.sl false 105 (.pair (.int .i64) (.pair (.int .i64) .str)), x0⟩, .one ⟨.sl false 105 (.pair (.int .i64) (.pair (.int .i64) .str)), x1⟩, .one ⟨.bool, x2⟩], [] => some ⟨_, G.i_carry x0 x1 x2, fun y => ⟨[.one ⟨.sl true 105 (.pair (.int .i64) (.pair (.int .i64) .str)), y.1⟩, .one ⟨.bool, y.2⟩], []⟩⟩
  | _, _ => none⟩
theorem s_i_carry : KnOk Try.prog k_i_carry := by
  intro args rows a h y hy
  simp only [k_i_carry] at h
  split at h
  · injection h with h
    subst h
    exact vfun_ok eok_i_carry Try.func84 rfl (by rw [v_i_carry]; simp only at hy; rw [hy]; rfl)
  · cases h

def J_i_CarryChange : Joins := [(.r, ⟨[.sl true 105 (.pair (.int .i64) (.pair (.int .i64) .str)), .bool], [(6, .one (.vw 139264)), (7, .one (.h 1))], [], [(139264, 0)]⟩)]
def ann_i_CarryChange : Ann := .seq .nil (.seq .nil (.seq (.seq (.reg [(.n, ⟨[.sl false 105 (.pair (.int .i64) (.pair (.int .i64) .str)), .sl false 105 (.pair (.int .i64) (.pair (.int .i64) .str)), .bool, .bool], [(0, .one (.h 0)), (1, .one (.h 1)), (2, .one (.h 2)), (25, .one (.h 3))], [], []⟩)]) .nil) .nil))
def env_i_CarryChange : Env := envOf ti [k_i_LengthsOf, k_i_fits, k_i_carry]
theorem eok_i_CarryChange : EnvOk Try.prog env_i_CarryChange := envOf_ok tab mix _ (by
  intro k hk
  simp only [List.mem_cons, List.not_mem_nil, or_false] at hk
  rcases hk with rfl | rfl | rfl
  · exact s_i_LengthsOf
  · exact s_i_fits
  · exact s_i_carry)
theorem v_i_CarryChange (x0 : List (Int × (Int × List UInt8))) (x1 : List (Int × (Int × List UInt8))) (x2 : Bool) : (vfun env_i_CarryChange Try.f35 J_i_CarryChange ann_i_CarryChange [.one ⟨.sl false 105 (.pair (.int .i64) (.pair (.int .i64) .str)), x0⟩, .one ⟨.sl false 105 (.pair (.int .i64) (.pair (.int .i64) .str)), x1⟩, .one ⟨.bool, x2⟩] []).run = (G.i_CarryChange x0 x1 x2).bind fun y => some (Res.mk [.one ⟨.sl true 105 (.pair (.int .i64) (.pair (.int .i64) .str)), y.1⟩, .one ⟨.bool, y.2⟩] []) := by kernel_rfl
def k_i_CarryChange : Kn := ⟨35, [false, false, false], fun args rows => match args, rows with
  | [.one ⟨.sl false 105 (.pair (.int .i64) (.pair (.int .i64) .str)), x0⟩, .one ⟨.sl false 105 (.pair (.int .i64) (.pair (.int .i64) .str)), x1⟩, .one ⟨.bool, x2⟩], [] => some ⟨_, G.i_CarryChange x0 x1 x2, fun y => ⟨[.one ⟨.sl true 105 (.pair (.int .i64) (.pair (.int .i64) .str)), y.1⟩, .one ⟨.bool, y.2⟩], []⟩⟩
  | _, _ => none⟩
theorem s_i_CarryChange : KnOk Try.prog k_i_CarryChange := by
  intro args rows a h y hy
  simp only [k_i_CarryChange] at h
  split at h
  · injection h with h
    subst h
    exact vfun_ok eok_i_CarryChange Try.func35 rfl (by rw [v_i_CarryChange]; simp only at hy; rw [hy]; rfl)
  · cases h

def J_s_l1Carry : Joins := [(.r, ⟨[.sl true 105 (.pair (.int .i64) (.pair (.int .i64) .str))], [(6, .one (.vw 174170))], [], [(174170, 0)]⟩)]
def ann_s_l1Carry : Ann := .seq .nil (.seq .nil (.seq .nil (.seq .nil (.seq (.seq .nil (.block [] (.loop ⟨[.bool, .sl true 105 (.pair (.int .i64) (.pair (.int .i64) .str)), .sl true 9 .str, .int .i64, .int .i64, .sl true 4 .bool, .sl true 4 .bool, .sl true 9 .str], [(2, .one (.h 0)), (7, .pl 7 0), (8, .pl 8 0), (9, .one (.vw 174080)), (17, .one (.vw 174081)), (18, .one (.h 3)), (19, .one (.h 4))], [(7, [.vw 174082, .vw 174081]), (8, [.vw 174083, .vw 174084])], [(174080, 1), (174081, 2), (174082, 5), (174083, 6), (174084, 7)]⟩ [(.x 0, ⟨[.sl true 105 (.pair (.int .i64) (.pair (.int .i64) .str))], [(9, .one (.vw 174169))], [], [(174169, 0)]⟩)] (.seq .nil (.seq .nil (.seq (.block [(.n, ⟨[.bool, .sl true 105 (.pair (.int .i64) (.pair (.int .i64) .str)), .sl true 9 .str, .int .i64, .int .i64, .sl true 4 .bool, .sl true 4 .bool, .sl true 9 .str], [(2, .one (.h 0)), (7, .pl 7 0), (8, .pl 8 0), (9, .one (.vw 174164)), (17, .one (.vw 174165)), (18, .one (.h 3)), (19, .one (.h 4))], [(7, [.vw 174166, .vw 174165]), (8, [.vw 174167, .vw 174168])], [(174164, 1), (174165, 2), (174166, 5), (174167, 6), (174168, 7)]⟩)] (.seq .nil (.seq (.seq .nil (.cond [(.n, ⟨[.bool, .sl true 105 (.pair (.int .i64) (.pair (.int .i64) .str)), .int .i64, .str, .sl true 9 .str, .int .i64, .int .i64, .sl true 4 .bool, .sl true 4 .bool, .sl true 9 .str], [(2, .one (.h 0)), (7, .pl 7 0), (8, .pl 8 0), (9, .one (.vw 174144)), (10, .one (.h 2)), (11, .one (.h 3)), (17, .one (.vw 174145)), (18, .one (.h 5)), (19, .one (.h 6))], [(7, [.vw 174146, .vw 174145]), (8, [.vw 174147, .vw 174148])], [(174144, 1), (174145, 4), (174146, 7), (174147, 8), (174148, 9)]⟩)] .nil .nil)) (.seq .nil (.seq (.seq .nil (.cond [(.n, ⟨[.bool, .sl true 105 (.pair (.int .i64) (.pair (.int .i64) .str)), .int .i64, .sl true 9 .str, .int .i64, .int .i64, .sl true 4 .bool, .sl true 4 .bool, .sl true 9 .str], [(2, .one (.h 0)), (7, .pl 7 0), (8, .pl 8 0), (9, .one (.vw 174149)), (10, .one (.h 2)), (17, .one (.vw 174150)), (18, .one (.h 4)), (19, .one (.h 5))], [(7, [.vw 174151, .vw 174150]), (8, [.vw 174152, .vw 174153])], [(174149, 1), (174150, 3), (174151, 6), (174152, 7), (174153, 8)]⟩)] .nil .nil)) (.seq (.seq (.reg [(.n, ⟨[.bool, .sl true 105 (.pair (.int .i64) (.pair (.int .i64) .str)), .int .i64, .sl true 9 .str, .int .i64, .int .i64, .bool, .sl true 4 .bool, .sl true 4 .bool, .sl true 9 .str], [(2, .one (.h 0)), (7, .pl 7 0), (8, .pl 8 0), (9, .one (.vw 174154)), (10, .one (.h 2)), (17, .one (.vw 174155)), (18, .one (.h 4)), (19, .one (.h 5)), (56, .one (.h 6))], [(7, [.vw 174156, .vw 174155]), (8, [.vw 174157, .vw 174158])], [(174154, 1), (174155, 3), (174156, 7), (174157, 8), (174158, 9)]⟩)]) .nil) (.seq .nil (.cond [(.n, ⟨[.bool, .sl true 105 (.pair (.int .i64) (.pair (.int .i64) .str)), .sl true 9 .str, .int .i64, .int .i64, .sl true 4 .bool, .sl true 4 .bool, .sl true 9 .str], [(2, .one (.h 0)), (7, .pl 7 0), (8, .pl 8 0), (9, .one (.vw 174159)), (17, .one (.vw 174160)), (18, .one (.h 3)), (19, .one (.h 4))], [(7, [.vw 174161, .vw 174160]), (8, [.vw 174162, .vw 174163])], [(174159, 1), (174160, 2), (174161, 5), (174162, 6), (174163, 7)]⟩)] .nil .nil)))))))) .nil)))))) .nil))))
def env_s_l1Carry : Env := envOf ti [k_s_l1Open, k_s_l1Add]
theorem eok_s_l1Carry : EnvOk Try.prog env_s_l1Carry := envOf_ok tab mix _ (by
  intro k hk
  simp only [List.mem_cons, List.not_mem_nil, or_false] at hk
  rcases hk with rfl | rfl
  · exact s_s_l1Open
  · exact s_s_l1Add)
theorem v_s_l1Carry (x0 : List (Int × (Int × List UInt8))) (x1 : List (Int × (Int × List UInt8))) (x2 : Bool) : (vfun env_s_l1Carry Try.f85 J_s_l1Carry ann_s_l1Carry [.one ⟨.sl false 105 (.pair (.int .i64) (.pair (.int .i64) .str)), x0⟩, .one ⟨.sl false 105 (.pair (.int .i64) (.pair (.int .i64) .str)), x1⟩, .one ⟨.bool, x2⟩] []).run = (G.s_l1Carry x0 x1 x2).bind fun y => some (Res.mk [.one ⟨.sl true 105 (.pair (.int .i64) (.pair (.int .i64) .str)), y⟩] []) := by kernel_rfl
def k_s_l1Carry : Kn := ⟨85, [false, false, false], fun args rows => match args, rows with
  | [.one ⟨.sl false 105 (.pair (.int .i64) (.pair (.int .i64) .str)), x0⟩, .one ⟨.sl false 105 (.pair (.int .i64) (.pair (.int .i64) .str)), x1⟩, .one ⟨.bool, x2⟩], [] => some ⟨_, G.s_l1Carry x0 x1 x2, fun y => ⟨[.one ⟨.sl true 105 (.pair (.int .i64) (.pair (.int .i64) .str)), y⟩], []⟩⟩
  | _, _ => none⟩
theorem s_s_l1Carry : KnOk Try.prog k_s_l1Carry := by
  intro args rows a h y hy
  simp only [k_s_l1Carry] at h
  split at h
  · injection h with h
    subst h
    exact vfun_ok eok_s_l1Carry Try.func85 rfl (by rw [v_s_l1Carry]; simp only at hy; rw [hy]; rfl)
  · cases h
end
end Go.Proofs.Ytdicgiljgelkfaa

set_option linter.unusedVariables false
set_option maxRecDepth 100000
namespace Go.Proofs.Ytdicgiljgelkfaa
open Go.V
noncomputable section
def J_s_CarryChange : Joins := [(.r, ⟨[.sl true 105 (.pair (.int .i64) (.pair (.int .i64) .str)), .bool], [(6, .one (.vw 135168)), (7, .one (.h 1))], [], [(135168, 0)]⟩)]
def ann_s_CarryChange : Ann := .seq .nil (.seq (.seq (.reg [(.n, ⟨[.sl false 105 (.pair (.int .i64) (.pair (.int .i64) .str)), .sl false 105 (.pair (.int .i64) (.pair (.int .i64) .str)), .bool, .bool], [(0, .one (.h 0)), (1, .one (.h 1)), (2, .one (.h 2)), (23, .one (.h 3))], [], []⟩)]) .nil) .nil)
def env_s_CarryChange : Env := envOf ti [k_s_GoodChange, k_s_l1Source, k_s_l1Carry]
theorem eok_s_CarryChange : EnvOk Try.prog env_s_CarryChange := envOf_ok tab mix _ (by
  intro k hk
  simp only [List.mem_cons, List.not_mem_nil, or_false] at hk
  rcases hk with rfl | rfl | rfl
  · exact s_s_GoodChange
  · exact s_s_l1Source
  · exact s_s_l1Carry)
theorem v_s_CarryChange (x0 : List (Int × (Int × List UInt8))) (x1 : List (Int × (Int × List UInt8))) (x2 : Bool) : (vfun env_s_CarryChange Try.f36 J_s_CarryChange ann_s_CarryChange [.one ⟨.sl false 105 (.pair (.int .i64) (.pair (.int .i64) .str)), x0⟩, .one ⟨.sl false 105 (.pair (.int .i64) (.pair (.int .i64) .str)), x1⟩, .one ⟨.bool, x2⟩] []).run = (G.s_CarryChange x0 x1 x2).bind fun y => some (Res.mk [.one ⟨.sl true 105 (.pair (.int .i64) (.pair (.int .i64) .str)), y.1⟩, .one ⟨.bool, y.2⟩] []) := by kernel_rfl
def k_s_CarryChange : Kn := ⟨36, [false, false, false], fun args rows => match args, rows with
  | [.one ⟨.sl false 105 (.pair (.int .i64) (.pair (.int .i64) .str)), x0⟩, .one ⟨.sl false 105 (.pair (.int .i64) (.pair (.int .i64) .str)), x1⟩, .one ⟨.bool, x2⟩], [] => some ⟨_, G.s_CarryChange x0 x1 x2, fun y => ⟨[.one ⟨.sl true 105 (.pair (.int .i64) (.pair (.int .i64) .str)), y.1⟩, .one ⟨.bool, y.2⟩], []⟩⟩
  | _, _ => none⟩
theorem s_s_CarryChange : KnOk Try.prog k_s_CarryChange := by
  intro args rows a h y hy
  simp only [k_s_CarryChange] at h
  split at h
  · injection h with h
    subst h
    exact vfun_ok eok_s_CarryChange Try.func36 rfl (by rw [v_s_CarryChange]; simp only at hy; rw [hy]; rfl)
  · cases h

def J_l_fill : Joins := [(.r, ⟨[.str], [(2, .one (.h 0))], [], []⟩)]
def ann_l_fill : Ann := .seq .nil (.seq .nil (.seq (.seq .nil (.block [] (.loop ⟨[.sl true 5 (.int .u8), .int .i64, .int .i64], [(3, .one (.vw 124928)), (8, .one (.h 1)), (9, .one (.h 2))], [], [(124928, 0)]⟩ [(.x 0, ⟨[.sl true 5 (.int .u8)], [(3, .one (.vw 124992))], [], [(124992, 0)]⟩)] .nil))) .nil))
def env_l_fill : Env := envOf ti []
theorem eok_l_fill : EnvOk Try.prog env_l_fill := envOf_ok tab mix _ (by
  intro k hk; cases hk)
theorem v_l_fill (x0 : Int) : (vfun env_l_fill Try.f37 J_l_fill ann_l_fill [.one ⟨.int .i64, x0⟩] []).run = (G.l_fill x0).bind fun y => some (Res.mk [.one ⟨.str, y⟩] []) := by kernel_rfl
def k_l_fill : Kn := ⟨37, [false], fun args rows => match args, rows with
  | [.one ⟨.int .i64, x0⟩], [] => some ⟨_, G.l_fill x0, fun y => ⟨[.one ⟨.str, y⟩], []⟩⟩
  | _, _ => none⟩
theorem s_l_fill : KnOk Try.prog k_l_fill := by
  intro args rows a h y hy
  simp only [k_l_fill] at h
  split at h
  · injection h with h
    subst h
    exact vfun_ok eok_l_fill Try.func37 rfl (by rw [v_l_fill]; simp only at hy; rw [hy]; rfl)
  · cases h

def J_i_apply : Joins := [(.r, ⟨[.str], [(4, .one (.h 0))], [], []⟩)]
def ann_i_apply : Ann := .seq .nil (.seq .nil (.seq (.seq .nil (.block [] (.loop ⟨[.str, .str, .int .i64, .sl false 105 (.pair (.int .i64) (.pair (.int .i64) .str)), .int .i64, .int .i64], [(0, .one (.h 0)), (5, .one (.h 1)), (6, .one (.h 2)), (9, .one (.h 3)), (10, .one (.h 4)), (11, .one (.h 5))], [], []⟩ [(.x 0, ⟨[.str], [(5, .one (.h 0))], [], []⟩)] .nil))) .nil))
def env_i_apply : Env := envOf ti []
theorem eok_i_apply : EnvOk Try.prog env_i_apply := envOf_ok tab mix _ (by
  intro k hk; cases hk)
theorem v_i_apply (x0 : List UInt8) (x1 : List (Int × (Int × List UInt8))) : (vfun env_i_apply Try.f86 J_i_apply ann_i_apply [.one ⟨.str, x0⟩, .one ⟨.sl false 105 (.pair (.int .i64) (.pair (.int .i64) .str)), x1⟩] []).run = (G.i_apply x0 x1).bind fun y => some (Res.mk [.one ⟨.str, y⟩] []) := by kernel_rfl
def k_i_apply : Kn := ⟨86, [false, false], fun args rows => match args, rows with
  | [.one ⟨.str, x0⟩, .one ⟨.sl false 105 (.pair (.int .i64) (.pair (.int .i64) .str)), x1⟩], [] => some ⟨_, G.i_apply x0 x1, fun y => ⟨[.one ⟨.str, y⟩], []⟩⟩
  | _, _ => none⟩
theorem s_i_apply : KnOk Try.prog k_i_apply := by
  intro args rows a h y hy
  simp only [k_i_apply] at h
  split at h
  · injection h with h
    subst h
    exact vfun_ok eok_i_apply Try.func86 rfl (by rw [v_i_apply]; simp only at hy; rw [hy]; rfl)
  · cases h

def J_i_ApplyChange : Joins := [(.r, ⟨[.str, .bool], [(4, .one (.h 0)), (5, .one (.h 1))], [], []⟩)]
def ann_i_ApplyChange : Ann := .nil
def env_i_ApplyChange : Env := envOf ti [k_i_fits, k_i_apply]
theorem eok_i_ApplyChange : EnvOk Try.prog env_i_ApplyChange := envOf_ok tab mix _ (by
  intro k hk
  simp only [List.mem_cons, List.not_mem_nil, or_false] at hk
  rcases hk with rfl | rfl
  · exact s_i_fits
  · exact s_i_apply)
theorem v_i_ApplyChange (x0 : List UInt8) (x1 : List (Int × (Int × List UInt8))) : (vfun env_i_ApplyChange Try.f38 J_i_ApplyChange ann_i_ApplyChange [.one ⟨.str, x0⟩, .one ⟨.sl false 105 (.pair (.int .i64) (.pair (.int .i64) .str)), x1⟩] []).run = (G.i_ApplyChange x0 x1).bind fun y => some (Res.mk [.one ⟨.str, y.1⟩, .one ⟨.bool, y.2⟩] []) := by kernel_rfl
def k_i_ApplyChange : Kn := ⟨38, [false, false], fun args rows => match args, rows with
  | [.one ⟨.str, x0⟩, .one ⟨.sl false 105 (.pair (.int .i64) (.pair (.int .i64) .str)), x1⟩], [] => some ⟨_, G.i_ApplyChange x0 x1, fun y => ⟨[.one ⟨.str, y.1⟩, .one ⟨.bool, y.2⟩], []⟩⟩
  | _, _ => none⟩
theorem s_i_ApplyChange : KnOk Try.prog k_i_ApplyChange := by
  intro args rows a h y hy
  simp only [k_i_ApplyChange] at h
  split at h
  · injection h with h
    subst h
    exact vfun_ok eok_i_ApplyChange Try.func38 rfl (by rw [v_i_ApplyChange]; simp only at hy; rw [hy]; rfl)
  · cases h

def J_l_FnDiamond : Joins := [(.r, ⟨[.bool], [(2, .one (.h 0))], [], []⟩)]
def ann_l_FnDiamond : Ann := .seq .nil (.seq .nil (.seq .nil (.seq .nil (.seq .nil (.seq .nil (.seq (.seq (.reg [(.n, ⟨[.sl true 105 (.pair (.int .i64) (.pair (.int .i64) .str)), .sl true 105 (.pair (.int .i64) (.pair (.int .i64) .str)), .sl true 105 (.pair (.int .i64) (.pair (.int .i64) .str)), .bool, .sl true 105 (.pair (.int .i64) (.pair (.int .i64) .str)), .bool, .bool], [(3, .one (.vw 216064)), (4, .one (.vw 216065)), (6, .one (.vw 216066)), (7, .one (.h 3)), (8, .one (.vw 216067)), (9, .one (.h 5)), (63, .one (.h 6))], [], [(216064, 0), (216065, 1), (216066, 2), (216067, 4)]⟩)]) .nil) (.seq (.seq (.reg [(.n, ⟨[.sl true 105 (.pair (.int .i64) (.pair (.int .i64) .str)), .sl true 105 (.pair (.int .i64) (.pair (.int .i64) .str)), .sl true 105 (.pair (.int .i64) (.pair (.int .i64) .str)), .sl true 105 (.pair (.int .i64) (.pair (.int .i64) .str)), .bool], [(3, .one (.vw 216068)), (4, .one (.vw 216069)), (6, .one (.vw 216070)), (8, .one (.vw 216071)), (69, .one (.h 4))], [], [(216068, 0), (216069, 1), (216070, 2), (216071, 3)]⟩)]) .nil) (.seq .nil (.seq .nil (.seq .nil (.seq .nil (.seq .nil (.seq .nil (.seq (.reg [(.n, ⟨[.bool], [(2, .one (.h 0))], [], []⟩)]) .nil))))))))))))))
def env_l_FnDiamond : Env := envOf ti [k_s_DrawCarryChange, k_i_CarryChange, k_s_CarryChange, k_l_sameParts, k_s_LengthsOf, k_l_fill, k_i_ApplyChange]
theorem eok_l_FnDiamond : EnvOk Try.prog env_l_FnDiamond := envOf_ok tab mix _ (by
  intro k hk
  simp only [List.mem_cons, List.not_mem_nil, or_false] at hk
  rcases hk with rfl | rfl | rfl | rfl | rfl | rfl | rfl
  · exact s_s_DrawCarryChange
  · exact s_i_CarryChange
  · exact s_s_CarryChange
  · exact s_l_sameParts
  · exact s_s_LengthsOf
  · exact s_l_fill
  · exact s_i_ApplyChange)
theorem v_l_FnDiamond (x0 : List Int) : (vfun env_l_FnDiamond Try.f7 J_l_FnDiamond ann_l_FnDiamond [.one ⟨.sl false 5 (.int .u8), x0⟩] []).run = (G.l_FnDiamond x0).bind fun y => some (Res.mk [.one ⟨.bool, y⟩] []) := by kernel_rfl
def k_l_FnDiamond : Kn := ⟨7, [false], fun args rows => match args, rows with
  | [.one ⟨.sl false 5 (.int .u8), x0⟩], [] => some ⟨_, G.l_FnDiamond x0, fun y => ⟨[.one ⟨.bool, y⟩], []⟩⟩
  | _, _ => none⟩
theorem s_l_FnDiamond : KnOk Try.prog k_l_FnDiamond := by
  intro args rows a h y hy
  simp only [k_l_FnDiamond] at h
  split at h
  · injection h with h
    subst h
    exact vfun_ok eok_l_FnDiamond Try.func7 rfl (by rw [v_l_FnDiamond]; simp only at hy; rw [hy]; rfl)
  · cases h

def J_s_DrawComposeChanges : Joins := [(.r, ⟨[.sl true 105 (.pair (.int .i64) (.pair (.int .i64) .str)), .sl true 105 (.pair (.int .i64) (.pair (.int .i64) .str))], [(2, .one (.vw 129026)), (3, .one (.vw 129027))], [], [(129026, 0), (129027, 1)]⟩)]
def ann_s_DrawComposeChanges : Ann := .seq .nil (.seq .nil (.seq .nil (.seq .nil (.seq (.seq .nil (.cond [(.n, ⟨[.sl true 105 (.pair (.int .i64) (.pair (.int .i64) .str)), .int .i64, .sl false 5 (.int .u8), .int .i64, .int .u64], [(4, .pl 9 0), (5, .one (.vw 129024)), (6, .one (.h 1))], [(9, [.h 2, .h 3, .h 4])], [(129024, 0)]⟩)] .nil .nil)) (.seq (.seq .nil (.cond [(.n, ⟨[.sl true 105 (.pair (.int .i64) (.pair (.int .i64) .str)), .int .i64, .sl false 5 (.int .u8), .int .i64, .int .u64], [(4, .pl 9 0), (5, .one (.vw 129025)), (6, .one (.h 1))], [(9, [.h 2, .h 3, .h 4])], [(129025, 0)]⟩)] .nil .nil)) .nil)))))
def env_s_DrawComposeChanges : Env := envOf ti [k_s_l1Cur_size_f, k_s_l1Cur_changeOf_f, k_s_GoodChange, k_s_l1Target, k_s_l1Cur_one_f]
theorem eok_s_DrawComposeChanges : EnvOk Try.prog env_s_DrawComposeChanges := envOf_ok tab mix _ (by
  intro k hk
  simp only [List.mem_cons, List.not_mem_nil, or_false] at hk
  rcases hk with rfl | rfl | rfl | rfl | rfl
  · exact s_s_l1Cur_size_f
  · exact s_s_l1Cur_changeOf_f
  · exact s_s_GoodChange
  · exact s_s_l1Target
  · exact s_s_l1Cur_one_f)
theorem v_s_DrawComposeChanges (x0 : List Int) : (vfun env_s_DrawComposeChanges Try.f42 J_s_DrawComposeChanges ann_s_DrawComposeChanges [.one ⟨.sl false 5 (.int .u8), x0⟩] []).run = (G.s_DrawComposeChanges x0).bind fun y => some (Res.mk [.one ⟨.sl true 105 (.pair (.int .i64) (.pair (.int .i64) .str)), y.1⟩, .one ⟨.sl true 105 (.pair (.int .i64) (.pair (.int .i64) .str)), y.2⟩] []) := by kernel_rfl
def k_s_DrawComposeChanges : Kn := ⟨42, [false], fun args rows => match args, rows with
  | [.one ⟨.sl false 5 (.int .u8), x0⟩], [] => some ⟨_, G.s_DrawComposeChanges x0, fun y => ⟨[.one ⟨.sl true 105 (.pair (.int .i64) (.pair (.int .i64) .str)), y.1⟩, .one ⟨.sl true 105 (.pair (.int .i64) (.pair (.int .i64) .str)), y.2⟩], []⟩⟩
  | _, _ => none⟩
theorem s_s_DrawComposeChanges : KnOk Try.prog k_s_DrawComposeChanges := by
  intro args rows a h y hy
  simp only [k_s_DrawComposeChanges] at h
  split at h
  · injection h with h
    subst h
    exact vfun_ok eok_s_DrawComposeChanges Try.func42 rfl (by rw [v_s_DrawComposeChanges]; simp only at hy; rw [hy]; rfl)
  · cases h

def J_s_l1Close : Joins := [(.r, ⟨[.sl true 105 (.pair (.int .i64) (.pair (.int .i64) .str))], [(2, .one (.vw 139331))], [], [(139331, 0)]⟩)]
def ann_s_l1Close : Ann := .seq .nil (.seq .nil (.seq (.seq .nil (.block [] (.loop ⟨[.sl true 105 (.pair (.int .i64) (.pair (.int .i64) .str)), .sl false 9 .str, .int .i64, .int .i64, .sl false 4 .bool, .sl false 9 .str], [(1, .pl 1 0), (3, .one (.vw 139264)), (7, .one (.h 1)), (8, .one (.h 2)), (9, .one (.h 3))], [(1, [.h 4, .h 5])], [(139264, 0)]⟩ [(.x 0, ⟨[.sl true 105 (.pair (.int .i64) (.pair (.int .i64) .str))], [(3, .one (.vw 139330))], [], [(139330, 0)]⟩)] (.seq .nil (.seq .nil (.seq (.block [] (.seq .nil (.seq .nil (.seq .nil (.cond [(.n, ⟨[.sl true 105 (.pair (.int .i64) (.pair (.int .i64) .str)), .sl false 9 .str, .int .i64, .int .i64, .sl false 4 .bool, .sl false 9 .str], [(1, .pl 1 0), (3, .one (.vw 139329)), (7, .one (.h 1)), (8, .one (.h 2)), (9, .one (.h 3))], [(1, [.h 4, .h 5])], [(139329, 0)]⟩)] (.seq .nil (.cond [(.n, ⟨[.sl true 105 (.pair (.int .i64) (.pair (.int .i64) .str)), .sl false 9 .str, .int .i64, .int .i64, .sl false 4 .bool, .sl false 9 .str], [(1, .pl 1 0), (3, .one (.vw 139328)), (7, .one (.h 1)), (8, .one (.h 2)), (9, .one (.h 3))], [(1, [.h 4, .h 5])], [(139328, 0)]⟩)] .nil .nil)) .nil))))) .nil)))))) .nil))
def env_s_l1Close : Env := envOf ti [k_s_l1Add]
theorem eok_s_l1Close : EnvOk Try.prog env_s_l1Close := envOf_ok tab mix _ (by
  intro k hk
  simp only [List.mem_cons, List.not_mem_nil, or_false] at hk
  rcases hk with rfl
  · exact s_s_l1Add)
theorem v_s_l1Close (x0 : List Bool) (x1 : List (List UInt8)) : (vfun env_s_l1Close Try.f100 J_s_l1Close ann_s_l1Close [.ag [⟨.sl false 4 .bool, x0⟩, ⟨.sl false 9 .str, x1⟩]] []).run = (G.s_l1Close x0 x1).bind fun y => some (Res.mk [.one ⟨.sl true 105 (.pair (.int .i64) (.pair (.int .i64) .str)), y⟩] []) := by kernel_rfl
def k_s_l1Close : Kn := ⟨100, [false], fun args rows => match args, rows with
  | [.ag [⟨.sl false 4 .bool, x0⟩, ⟨.sl false 9 .str, x1⟩]], [] => some ⟨_, G.s_l1Close x0 x1, fun y => ⟨[.one ⟨.sl true 105 (.pair (.int .i64) (.pair (.int .i64) .str)), y⟩], []⟩⟩
  | _, _ => none⟩
theorem s_s_l1Close : KnOk Try.prog k_s_l1Close := by
  intro args rows a h y hy
  simp only [k_s_l1Close] at h
  split at h
  · injection h with h
    subst h
    exact vfun_ok eok_s_l1Close Try.func100 rfl (by rw [v_s_l1Close]; simp only at hy; rw [hy]; rfl)
  · cases h

def J_s_l1Compose : Joins := [(.r, ⟨[.sl true 105 (.pair (.int .i64) (.pair (.int .i64) .str))], [(4, .one (.vw 219286))], [], [(219286, 0)]⟩)]
def ann_s_l1Compose : Ann := .seq .nil (.seq .nil (.seq .nil (.seq .nil (.seq .nil (.seq .nil (.seq (.seq .nil (.block [] (.loop ⟨[.int .i64, .sl true 9 .str, .int .i64, .int .i64, .sl true 4 .bool, .sl true 4 .bool, .sl true 9 .str, .sl true 4 .bool, .sl true 9 .str], [(5, .pl 5 0), (6, .pl 6 0), (7, .pl 7 0), (8, .one (.h 0)), (29, .one (.vw 219136)), (30, .one (.h 2)), (31, .one (.h 3))], [(5, [.vw 219137, .vw 219136]), (6, [.vw 219138, .vw 219139]), (7, [.vw 219140, .vw 219141])], [(219136, 1), (219137, 4), (219138, 5), (219139, 6), (219140, 7), (219141, 8)]⟩ [(.x 0, ⟨[.sl true 4 .bool, .sl true 9 .str], [(7, .pl 7 0)], [(7, [.vw 219284, .vw 219285])], [(219284, 0), (219285, 1)]⟩)] (.seq .nil (.seq .nil (.seq (.block [(.n, ⟨[.int .i64, .sl true 9 .str, .int .i64, .int .i64, .sl true 4 .bool, .sl true 4 .bool, .sl true 9 .str, .sl true 4 .bool, .sl true 9 .str], [(5, .pl 5 0), (6, .pl 6 0), (7, .pl 7 0), (8, .one (.h 0)), (29, .one (.vw 219276)), (30, .one (.h 2)), (31, .one (.h 3))], [(5, [.vw 219277, .vw 219276]), (6, [.vw 219278, .vw 219279]), (7, [.vw 219280, .vw 219281])], [(219276, 1), (219277, 4), (219278, 5), (219279, 6), (219280, 7), (219281, 8)]⟩), (.x 0, ⟨[.sl true 4 .bool, .sl true 9 .str], [(7, .pl 7 0)], [(7, [.vw 219282, .vw 219283])], [(219282, 0), (219283, 1)]⟩)] (.seq .nil (.seq (.seq .nil (.block [] (.loop ⟨[.int .i64, .int .i64, .str, .int .i64, .sl true 9 .str, .int .i64, .int .i64, .sl true 4 .bool, .sl true 4 .bool, .sl true 9 .str, .sl true 4 .bool, .sl true 9 .str], [(5, .pl 5 0), (6, .pl 6 0), (7, .pl 7 0), (8, .one (.h 0)), (9, .one (.h 1)), (10, .one (.h 2)), (11, .one (.h 3)), (29, .one (.vw 219200)), (30, .one (.h 5)), (31, .one (.h 6))], [(5, [.vw 219201, .vw 219200]), (6, [.vw 219202, .vw 219203]), (7, [.vw 219204, .vw 219205])], [(219200, 4), (219201, 7), (219202, 8), (219203, 9), (219204, 10), (219205, 11)]⟩ [(.x 2, ⟨[.int .i64, .int .i64, .sl true 9 .str, .int .i64, .int .i64, .sl true 4 .bool, .sl true 4 .bool, .sl true 9 .str, .sl true 4 .bool, .sl true 9 .str], [(5, .pl 5 0), (6, .pl 6 0), (7, .pl 7 0), (8, .one (.h 0)), (9, .one (.h 1)), (29, .one (.vw 219270)), (30, .one (.h 3)), (31, .one (.h 4))], [(5, [.vw 219271, .vw 219270]), (6, [.vw 219272, .vw 219273]), (7, [.vw 219274, .vw 219275])], [(219270, 2), (219271, 5), (219272, 6), (219273, 7), (219274, 8), (219275, 9)]⟩)] (.seq .nil (.seq (.block [] (.seq (.seq .nil (.cond [(.n, ⟨[.int .i64, .int .i64, .str, .int .i64, .sl true 9 .str, .int .i64, .int .i64, .sl true 4 .bool, .sl true 4 .bool, .sl true 9 .str, .sl true 4 .bool, .sl true 9 .str], [(5, .pl 5 0), (6, .pl 6 0), (7, .pl 7 0), (8, .one (.h 0)), (9, .one (.h 1)), (10, .one (.h 2)), (11, .one (.h 3)), (29, .one (.vw 219264)), (30, .one (.h 5)), (31, .one (.h 6))], [(5, [.vw 219265, .vw 219264]), (6, [.vw 219266, .vw 219267]), (7, [.vw 219268, .vw 219269])], [(219264, 4), (219265, 7), (219266, 8), (219267, 9), (219268, 10), (219269, 11)]⟩)] .nil .nil)) .nil)) .nil))))) .nil))) .nil)))))) .nil))))))
def env_s_l1Compose : Env := envOf ti [k_s_l1Open, k_s_l1Close]
theorem eok_s_l1Compose : EnvOk Try.prog env_s_l1Compose := envOf_ok tab mix _ (by
  intro k hk
  simp only [List.mem_cons, List.not_mem_nil, or_false] at hk
  rcases hk with rfl | rfl
  · exact s_s_l1Open
  · exact s_s_l1Close)
theorem v_s_l1Compose (x0 : List (Int × (Int × List UInt8))) (x1 : List (Int × (Int × List UInt8))) : (vfun env_s_l1Compose Try.f88 J_s_l1Compose ann_s_l1Compose [.one ⟨.sl false 105 (.pair (.int .i64) (.pair (.int .i64) .str)), x0⟩, .one ⟨.sl false 105 (.pair (.int .i64) (.pair (.int .i64) .str)), x1⟩] []).run = (G.s_l1Compose x0 x1).bind fun y => some (Res.mk [.one ⟨.sl true 105 (.pair (.int .i64) (.pair (.int .i64) .str)), y⟩] []) := by kernel_rfl
def k_s_l1Compose : Kn := ⟨88, [false, false], fun args rows => match args, rows with
  | [.one ⟨.sl false 105 (.pair (.int .i64) (.pair (.int .i64) .str)), x0⟩, .one ⟨.sl false 105 (.pair (.int .i64) (.pair (.int .i64) .str)), x1⟩], [] => some ⟨_, G.s_l1Compose x0 x1, fun y => ⟨[.one ⟨.sl true 105 (.pair (.int .i64) (.pair (.int .i64) .str)), y⟩], []⟩⟩
  | _, _ => none⟩
theorem s_s_l1Compose : KnOk Try.prog k_s_l1Compose := by
  intro args rows a h y hy
  simp only [k_s_l1Compose] at h
  split at h
  · injection h with h
    subst h
    exact vfun_ok eok_s_l1Compose Try.func88 rfl (by rw [v_s_l1Compose]; simp only at hy; rw [hy]; rfl)
  · cases h

def J_s_ComposeChanges : Joins := [(.r, ⟨[.sl true 105 (.pair (.int .i64) (.pair (.int .i64) .str)), .bool], [(4, .one (.vw 126976)), (5, .one (.h 1))], [], [(126976, 0)]⟩)]
def ann_s_ComposeChanges : Ann := .seq .nil (.seq (.seq (.reg [(.n, ⟨[.sl false 105 (.pair (.int .i64) (.pair (.int .i64) .str)), .sl false 105 (.pair (.int .i64) (.pair (.int .i64) .str)), .bool], [(0, .one (.h 0)), (1, .one (.h 1)), (20, .one (.h 2))], [], []⟩)]) .nil) .nil)
def env_s_ComposeChanges : Env := envOf ti [k_s_GoodChange, k_s_l1Target, k_s_l1Source, k_s_l1Compose]
theorem eok_s_ComposeChanges : EnvOk Try.prog env_s_ComposeChanges := envOf_ok tab mix _ (by
  intro k hk
  simp only [List.mem_cons, List.not_mem_nil, or_false] at hk
  rcases hk with rfl | rfl | rfl | rfl
  · exact s_s_GoodChange
  · exact s_s_l1Target
  · exact s_s_l1Source
  · exact s_s_l1Compose)
theorem v_s_ComposeChanges (x0 : List (Int × (Int × List UInt8))) (x1 : List (Int × (Int × List UInt8))) : (vfun env_s_ComposeChanges Try.f43 J_s_ComposeChanges ann_s_ComposeChanges [.one ⟨.sl false 105 (.pair (.int .i64) (.pair (.int .i64) .str)), x0⟩, .one ⟨.sl false 105 (.pair (.int .i64) (.pair (.int .i64) .str)), x1⟩] []).run = (G.s_ComposeChanges x0 x1).bind fun y => some (Res.mk [.one ⟨.sl true 105 (.pair (.int .i64) (.pair (.int .i64) .str)), y.1⟩, .one ⟨.bool, y.2⟩] []) := by kernel_rfl
def k_s_ComposeChanges : Kn := ⟨43, [false, false], fun args rows => match args, rows with
  | [.one ⟨.sl false 105 (.pair (.int .i64) (.pair (.int .i64) .str)), x0⟩, .one ⟨.sl false 105 (.pair (.int .i64) (.pair (.int .i64) .str)), x1⟩], [] => some ⟨_, G.s_ComposeChanges x0 x1, fun y => ⟨[.one ⟨.sl true 105 (.pair (.int .i64) (.pair (.int .i64) .str)), y.1⟩, .one ⟨.bool, y.2⟩], []⟩⟩
  | _, _ => none⟩
theorem s_s_ComposeChanges : KnOk Try.prog k_s_ComposeChanges := by
  intro args rows a h y hy
  simp only [k_s_ComposeChanges] at h
  split at h
  · injection h with h
    subst h
    exact vfun_ok eok_s_ComposeChanges Try.func43 rfl (by rw [v_s_ComposeChanges]; simp only at hy; rw [hy]; rfl)
  · cases h

def J_s_ChangeFor : Joins := [(.r, ⟨[.sl true 105 (.pair (.int .i64) (.pair (.int .i64) .str))], [(4, .one (.vw 120832))], [], [(120832, 0)]⟩)]
def ann_s_ChangeFor : Ann := .seq .nil (.seq .nil (.seq (.seq (.reg [(.n, ⟨[.int .i64, .bool, .sl false 5 (.int .u8), .int .i64, .int .u64], [(1, .one (.h 0)), (5, .pl 8 0), (14, .one (.h 1))], [(8, [.h 2, .h 3, .h 4])], []⟩)]) (.cond [(.n, ⟨[.int .i64, .sl false 5 (.int .u8), .int .i64, .int .u64], [(1, .one (.h 0)), (5, .pl 8 0)], [(8, [.h 1, .h 2, .h 3])], []⟩)] .nil .nil)) .nil))
def env_s_ChangeFor : Env := envOf ti [k_s_l1Cur_changeOf_f]
theorem eok_s_ChangeFor : EnvOk Try.prog env_s_ChangeFor := envOf_ok tab mix _ (by
  intro k hk
  simp only [List.mem_cons, List.not_mem_nil, or_false] at hk
  rcases hk with rfl
  · exact s_s_l1Cur_changeOf_f)
theorem v_s_ChangeFor (x0 : List Int) (x1 : Int) : (vfun env_s_ChangeFor Try.f44 J_s_ChangeFor ann_s_ChangeFor [.one ⟨.sl false 5 (.int .u8), x0⟩, .one ⟨.int .i64, x1⟩] []).run = (G.s_ChangeFor x0 x1).bind fun y => some (Res.mk [.one ⟨.sl true 105 (.pair (.int .i64) (.pair (.int .i64) .str)), y⟩] []) := by kernel_rfl
def k_s_ChangeFor : Kn := ⟨44, [false, false], fun args rows => match args, rows with
  | [.one ⟨.sl false 5 (.int .u8), x0⟩, .one ⟨.int .i64, x1⟩], [] => some ⟨_, G.s_ChangeFor x0 x1, fun y => ⟨[.one ⟨.sl true 105 (.pair (.int .i64) (.pair (.int .i64) .str)), y⟩], []⟩⟩
  | _, _ => none⟩
theorem s_s_ChangeFor : KnOk Try.prog k_s_ChangeFor := by
  intro args rows a h y hy
  simp only [k_s_ChangeFor] at h
  split at h
  · injection h with h
    subst h
    exact vfun_ok eok_s_ChangeFor Try.func44 rfl (by rw [v_s_ChangeFor]; simp only at hy; rw [hy]; rfl)
  · cases h

def J_l_FnCarried : Joins := [(.r, ⟨[.bool], [(4, .one (.h 0))], [], []⟩)]
def ann_l_FnCarried : Ann := .seq .nil (.seq .nil (.seq .nil (.seq .nil (.seq .nil (.seq .nil (.seq (.seq (.reg [(.n, ⟨[.sl true 105 (.pair (.int .i64) (.pair (.int .i64) .str)), .sl true 105 (.pair (.int .i64) (.pair (.int .i64) .str)), .sl true 105 (.pair (.int .i64) (.pair (.int .i64) .str)), .sl true 105 (.pair (.int .i64) (.pair (.int .i64) .str)), .bool], [(5, .one (.vw 208896)), (6, .one (.vw 208897)), (10, .one (.vw 208898)), (12, .one (.vw 208899)), (57, .one (.h 4))], [], [(208896, 0), (208897, 1), (208898, 2), (208899, 3)]⟩)]) .nil) (.seq .nil (.seq .nil (.seq (.seq (.reg [(.n, ⟨[.sl true 105 (.pair (.int .i64) (.pair (.int .i64) .str)), .sl true 105 (.pair (.int .i64) (.pair (.int .i64) .str)), .sl true 105 (.pair (.int .i64) (.pair (.int .i64) .str)), .sl true 105 (.pair (.int .i64) (.pair (.int .i64) .str)), .bool, .bool], [(6, .one (.vw 208900)), (10, .one (.vw 208901)), (12, .one (.vw 208902)), (13, .one (.vw 208903)), (14, .one (.h 4)), (78, .one (.h 5))], [], [(208900, 0), (208901, 1), (208902, 2), (208903, 3)]⟩)]) .nil) (.seq .nil (.seq .nil (.seq (.seq (.reg [(.n, ⟨[.sl true 105 (.pair (.int .i64) (.pair (.int .i64) .str)), .sl true 105 (.pair (.int .i64) (.pair (.int .i64) .str)), .bool], [(17, .one (.vw 208904)), (19, .one (.vw 208905)), (100, .one (.h 2))], [], [(208904, 0), (208905, 1)]⟩)]) .nil) .nil))))))))))))
def env_l_FnCarried : Env := envOf ti [k_s_DrawComposeChanges, k_s_LengthsOf, k_s_ComposeChanges, k_s_ChangeFor, k_s_GoodChange, k_i_CarryChange, k_s_CarryChange, k_l_sameParts]
theorem eok_l_FnCarried : EnvOk Try.prog env_l_FnCarried := envOf_ok tab mix _ (by
  intro k hk
  simp only [List.mem_cons, List.not_mem_nil, or_false] at hk
  rcases hk with rfl | rfl | rfl | rfl | rfl | rfl | rfl | rfl
  · exact s_s_DrawComposeChanges
  · exact s_s_LengthsOf
  · exact s_s_ComposeChanges
  · exact s_s_ChangeFor
  · exact s_s_GoodChange
  · exact s_i_CarryChange
  · exact s_s_CarryChange
  · exact s_l_sameParts)
theorem v_l_FnCarried (x0 : List Int) (x1 : List Int) : (vfun env_l_FnCarried Try.f9 J_l_FnCarried ann_l_FnCarried [.one ⟨.sl false 5 (.int .u8), x0⟩, .one ⟨.sl false 5 (.int .u8), x1⟩] []).run = (G.l_FnCarried x0 x1).bind fun y => some (Res.mk [.one ⟨.bool, y⟩] []) := by kernel_rfl
def k_l_FnCarried : Kn := ⟨9, [false, false], fun args rows => match args, rows with
  | [.one ⟨.sl false 5 (.int .u8), x0⟩, .one ⟨.sl false 5 (.int .u8), x1⟩], [] => some ⟨_, G.l_FnCarried x0 x1, fun y => ⟨[.one ⟨.bool, y⟩], []⟩⟩
  | _, _ => none⟩
theorem s_l_FnCarried : KnOk Try.prog k_l_FnCarried := by
  intro args rows a h y hy
  simp only [k_l_FnCarried] at h
  split at h
  · injection h with h
    subst h
    exact vfun_ok eok_l_FnCarried Try.func9 rfl (by rw [v_l_FnCarried]; simp only at hy; rw [hy]; rfl)
  · cases h

def J_i_told_parts : Joins := [(.r, ⟨[.sl true 105 (.pair (.int .i64) (.pair (.int .i64) .str))], [(2, .one (.vw 142404))], [], [(142404, 0)]⟩)]
def ann_i_told_parts : Ann := .seq .nil (.seq .nil (.seq (.seq .nil (.block [] (.loop ⟨[.sl false 9 .str, .int .i64, .int .i64, .sl false 4 .bool, .sl false 9 .str, .sl true 105 (.pair (.int .i64) (.pair (.int .i64) .str))], [(1, .pl 1 0), (3, .pl 3 0), (8, .one (.h 0)), (9, .one (.h 1)), (10, .one (.h 2))], [(1, [.h 3, .h 4]), (3, [.vw 142336])], [(142336, 5)]⟩ [(.x 0, ⟨[.sl true 105 (.pair (.int .i64) (.pair (.int .i64) .str))], [(3, .pl 3 0)], [(3, [.vw 142403])], [(142403, 0)]⟩)] (.seq .nil (.seq .nil (.seq (.block [] (.seq .nil (.seq (.seq .nil (.cond [(.n, ⟨[.int .i64, .sl false 9 .str, .int .i64, .int .i64, .sl false 4 .bool, .sl false 9 .str, .sl true 105 (.pair (.int .i64) (.pair (.int .i64) .str))], [(1, .pl 1 0), (3, .pl 3 0), (4, .one (.h 0)), (8, .one (.h 1)), (9, .one (.h 2)), (10, .one (.h 3))], [(1, [.h 4, .h 5]), (3, [.vw 142400])], [(142400, 6)]⟩)] .nil .nil)) (.block [] (.seq .nil (.cond [(.n, ⟨[.sl false 9 .str, .int .i64, .int .i64, .sl false 4 .bool, .sl false 9 .str, .sl true 105 (.pair (.int .i64) (.pair (.int .i64) .str))], [(1, .pl 1 0), (3, .pl 3 0), (8, .one (.h 0)), (9, .one (.h 1)), (10, .one (.h 2))], [(1, [.h 3, .h 4]), (3, [.vw 142402])], [(142402, 5)]⟩)] .nil (.seq .nil (.cond [(.n, ⟨[.sl false 9 .str, .int .i64, .int .i64, .sl false 4 .bool, .sl false 9 .str, .sl true 105 (.pair (.int .i64) (.pair (.int .i64) .str))], [(1, .pl 1 0), (3, .pl 3 0), (8, .one (.h 0)), (9, .one (.h 1)), (10, .one (.h 2))], [(1, [.h 3, .h 4]), (3, [.vw 142401])], [(142401, 5)]⟩)] .nil .nil)))))))) .nil)))))) .nil))
def env_i_told_parts : Env := envOf ti [k_i_builder_add_o]
theorem eok_i_told_parts : EnvOk Try.prog env_i_told_parts := envOf_ok tab mix _ (by
  intro k hk
  simp only [List.mem_cons, List.not_mem_nil, or_false] at hk
  rcases hk with rfl
  · exact s_i_builder_add_o)
theorem v_i_told_parts (x0 : List Bool) (x1 : List (List UInt8)) : (vfun env_i_told_parts Try.f101 J_i_told_parts ann_i_told_parts [.ag [⟨.sl false 4 .bool, x0⟩, ⟨.sl false 9 .str, x1⟩]] []).run = (G.i_told_parts x0 x1).bind fun y => some (Res.mk [.one ⟨.sl true 105 (.pair (.int .i64) (.pair (.int .i64) .str)), y⟩] []) := by kernel_rfl
def k_i_told_parts : Kn := ⟨101, [false], fun args rows => match args, rows with
  | [.ag [⟨.sl false 4 .bool, x0⟩, ⟨.sl false 9 .str, x1⟩]], [] => some ⟨_, G.i_told_parts x0 x1, fun y => ⟨[.one ⟨.sl true 105 (.pair (.int .i64) (.pair (.int .i64) .str)), y⟩], []⟩⟩
  | _, _ => none⟩
theorem s_i_told_parts : KnOk Try.prog k_i_told_parts := by
  intro args rows a h y hy
  simp only [k_i_told_parts] at h
  split at h
  · injection h with h
    subst h
    exact vfun_ok eok_i_told_parts Try.func101 rfl (by rw [v_i_told_parts]; simp only at hy; rw [hy]; rfl)
  · cases h
end
end Go.Proofs.Ytdicgiljgelkfaa
