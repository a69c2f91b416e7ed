import Derived.Test.YtdicgiljgelkfaaW4
set_option linter.unusedVariables false
set_option maxRecDepth 100000
namespace Go.Proofs.Ytdicgiljgelkfaa
open Go.V
noncomputable section
def J_i_ReadChange : Joins := [(.r, ⟨[.sl true 105 (.pair (.int .i64) (.pair (.int .i64) .str)), .bool], [(2, .one (.vw 166980)), (3, .one (.h 1))], [], [(166980, 0)]⟩)]
def ann_i_ReadChange : Ann := .seq .nil (.seq .nil (.seq (.block [] (.loop ⟨[.sl false 5 (.int .u8), .sl true 105 (.pair (.int .i64) (.pair (.int .i64) .str))], [(0, .one (.h 0)), (4, .one (.vw 166912))], [], [(166912, 1)]⟩ [(.x 0, ⟨[.sl true 105 (.pair (.int .i64) (.pair (.int .i64) .str))], [(4, .one (.vw 166979))], [], [(166979, 0)]⟩), (.r, ⟨[.bool], [(2, .one (.nil)), (3, .one (.h 0))], [], []⟩)] (.seq .nil (.block [] (.seq .nil (.seq .nil (.seq .nil (.block [] (.seq .nil (.cond [(.n, ⟨[.sl false 5 (.int .u8), .sl true 105 (.pair (.int .i64) (.pair (.int .i64) .str))], [(0, .one (.h 0)), (4, .one (.vw 166978))], [], [(166978, 1)]⟩), (.r, ⟨[.bool], [(2, .one (.nil)), (3, .one (.h 0))], [], []⟩)] .nil (.seq .nil (.cond [(.n, ⟨[.sl false 5 (.int .u8), .sl true 105 (.pair (.int .i64) (.pair (.int .i64) .str))], [(0, .one (.h 0)), (4, .one (.vw 166977))], [], [(166977, 1)]⟩), (.r, ⟨[.bool], [(2, .one (.nil)), (3, .one (.h 0))], [], []⟩)] .nil (.seq (.reg [(.n, ⟨[.sl false 5 (.int .u8), .sl true 105 (.pair (.int .i64) (.pair (.int .i64) .str)), .int .i64, .bool], [(0, .one (.h 0)), (4, .one (.vw 166976)), (6, .one (.h 2)), (39, .one (.h 3))], [], [(166976, 1)]⟩)]) .nil))))))))))))) .nil))
def env_i_ReadChange : Env := envOf ti [k_i_GoodChange]
theorem eok_i_ReadChange : EnvOk Try.prog env_i_ReadChange := envOf_ok tab mix _ (by
  intro k hk
  simp only [List.mem_cons, List.not_mem_nil, or_false] at hk
  rcases hk with rfl
  · exact s_i_GoodChange)
theorem v_i_ReadChange (x0 : List Int) : (vfun env_i_ReadChange Try.f28 J_i_ReadChange ann_i_ReadChange [.one ⟨.sl false 5 (.int .u8), x0⟩] []).run = (G.i_ReadChange x0).bind fun y => some (Res.mk [.one ⟨.sl true 105 (.pair (.int .i64) (.pair (.int .i64) .str)), y.1⟩, .one ⟨.bool, y.2⟩] []) := by kernel_rfl
def k_i_ReadChange : Kn := ⟨28, [false], fun args rows => match args, rows with
  | [.one ⟨.sl false 5 (.int .u8), x0⟩], [] => some ⟨_, G.i_ReadChange x0, fun y => ⟨[.one ⟨.sl true 105 (.pair (.int .i64) (.pair (.int .i64) .str)), y.1⟩, .one ⟨.bool, y.2⟩], []⟩⟩
  | _, _ => none⟩
theorem s_i_ReadChange : KnOk Try.prog k_i_ReadChange := by
  intro args rows a h y hy
  simp only [k_i_ReadChange] at h
  split at h
  · injection h with h
    subst h
    exact vfun_ok eok_i_ReadChange Try.func28 rfl (by rw [v_i_ReadChange]; simp only at hy; rw [hy]; rfl)
  · cases h

def J_l_sameParts : Joins := [(.r, ⟨[.bool], [(4, .one (.h 0))], [], []⟩)]
def ann_l_sameParts : Ann := .seq .nil (.seq .nil (.seq (.seq .nil (.block [] (.loop ⟨[.sl false 105 (.pair (.int .i64) (.pair (.int .i64) .str)), .sl false 105 (.pair (.int .i64) (.pair (.int .i64) .str)), .int .i64, .int .i64], [(0, .one (.h 0)), (1, .one (.h 1)), (12, .one (.h 2)), (13, .one (.h 3))], [], []⟩ [(.x 0, ⟨[], [], [], []⟩), (.r, ⟨[.bool], [(4, .one (.h 0))], [], []⟩)] .nil))) .nil))
def env_l_sameParts : Env := envOf ti []
theorem eok_l_sameParts : EnvOk Try.prog env_l_sameParts := envOf_ok tab mix _ (by
  intro k hk; cases hk)
theorem v_l_sameParts (x0 : List (Int × (Int × List UInt8))) (x1 : List (Int × (Int × List UInt8))) : (vfun env_l_sameParts Try.f29 J_l_sameParts ann_l_sameParts [.one ⟨.sl false 105 (.pair (.int .i64) (.pair (.int .i64) .str)), x0⟩, .one ⟨.sl false 105 (.pair (.int .i64) (.pair (.int .i64) .str)), x1⟩] []).run = (G.l_sameParts x0 x1).bind fun y => some (Res.mk [.one ⟨.bool, y⟩] []) := by kernel_rfl
def k_l_sameParts : Kn := ⟨29, [false, false], fun args rows => match args, rows with
  | [.one ⟨.sl false 105 (.pair (.int .i64) (.pair (.int .i64) .str)), x0⟩, .one ⟨.sl false 105 (.pair (.int .i64) (.pair (.int .i64) .str)), x1⟩], [] => some ⟨_, G.l_sameParts x0 x1, fun y => ⟨[.one ⟨.bool, y⟩], []⟩⟩
  | _, _ => none⟩
theorem s_l_sameParts : KnOk Try.prog k_l_sameParts := by
  intro args rows a h y hy
  simp only [k_l_sameParts] at h
  split at h
  · injection h with h
    subst h
    exact vfun_ok eok_l_sameParts Try.func29 rfl (by rw [v_l_sameParts]; simp only at hy; rw [hy]; rfl)
  · cases h

def J_s_DrawNormalOf : Joins := [(.r, ⟨[.sl true 105 (.pair (.int .i64) (.pair (.int .i64) .str))], [(2, .one (.vw 158790))], [], [(158790, 0)]⟩)]
def ann_s_DrawNormalOf : Ann := .seq .nil (.seq .nil (.seq .nil (.seq (.seq .nil (.block [] (.loop ⟨[.sl true 105 (.pair (.int .i64) (.pair (.int .i64) .str)), .int .i64, .sl false 5 (.int .u8), .int .i64, .int .u64], [(3, .pl 8 0), (4, .one (.vw 158720)), (5, .one (.h 1))], [(8, [.h 2, .h 3, .h 4])], [(158720, 0)]⟩ [(.x 0, ⟨[.sl true 105 (.pair (.int .i64) (.pair (.int .i64) .str)), .sl false 5 (.int .u8), .int .i64, .int .u64], [(3, .pl 8 0), (4, .one (.vw 158788))], [(8, [.h 1, .h 2, .h 3])], [(158788, 0)]⟩)] (.seq .nil (.seq (.block [] (.seq .nil (.block [] (.seq .nil (.cond [(.n, ⟨[.sl true 105 (.pair (.int .i64) (.pair (.int .i64) .str)), .int .i64, .sl false 5 (.int .u8), .int .i64, .int .u64], [(3, .pl 8 0), (4, .one (.vw 158787)), (5, .one (.h 1))], [(8, [.h 2, .h 3, .h 4])], [(158787, 0)]⟩)] .nil (.seq .nil (.cond [(.n, ⟨[.sl true 105 (.pair (.int .i64) (.pair (.int .i64) .str)), .int .i64, .sl false 5 (.int .u8), .int .i64, .int .u64], [(3, .pl 8 0), (4, .one (.vw 158786)), (5, .one (.h 1))], [(8, [.h 2, .h 3, .h 4])], [(158786, 0)]⟩)] .nil (.seq .nil (.cond [(.n, ⟨[.sl true 105 (.pair (.int .i64) (.pair (.int .i64) .str)), .int .i64, .sl false 5 (.int .u8), .int .i64, .int .u64], [(3, .pl 8 0), (4, .one (.vw 158785)), (5, .one (.h 1))], [(8, [.h 2, .h 3, .h 4])], [(158785, 0)]⟩)] .nil (.seq .nil (.cond [(.n, ⟨[.sl true 105 (.pair (.int .i64) (.pair (.int .i64) .str)), .int .i64, .sl false 5 (.int .u8), .int .i64, .int .u64], [(3, .pl 8 0), (4, .one (.vw 158784)), (5, .one (.h 1))], [(8, [.h 2, .h 3, .h 4])], [(158784, 0)]⟩)] .nil .nil))))))))))) .nil))))) (.seq (.seq .nil (.cond [(.n, ⟨[.sl true 105 (.pair (.int .i64) (.pair (.int .i64) .str))], [(4, .one (.vw 158789))], [], [(158789, 0)]⟩)] .nil .nil)) .nil))))
def env_s_DrawNormalOf : Env := envOf ti [k_s_l1Cur_pick_f, k_s_l1Cur_put_f, k_s_l1Cur_one_f, k_s_l1Cur_part_f]
theorem eok_s_DrawNormalOf : EnvOk Try.prog env_s_DrawNormalOf := envOf_ok tab mix _ (by
  intro k hk
  simp only [List.mem_cons, List.not_mem_nil, or_false] at hk
  rcases hk with rfl | rfl | rfl | rfl
  · exact s_s_l1Cur_pick_f
  · exact s_s_l1Cur_put_f
  · exact s_s_l1Cur_one_f
  · exact s_s_l1Cur_part_f)
theorem v_s_DrawNormalOf (x0 : List Int) : (vfun env_s_DrawNormalOf Try.f30 J_s_DrawNormalOf ann_s_DrawNormalOf [.one ⟨.sl false 5 (.int .u8), x0⟩] []).run = (G.s_DrawNormalOf x0).bind fun y => some (Res.mk [.one ⟨.sl true 105 (.pair (.int .i64) (.pair (.int .i64) .str)), y⟩] []) := by kernel_rfl
def k_s_DrawNormalOf : Kn := ⟨30, [false], fun args rows => match args, rows with
  | [.one ⟨.sl false 5 (.int .u8), x0⟩], [] => some ⟨_, G.s_DrawNormalOf x0, fun y => ⟨[.one ⟨.sl true 105 (.pair (.int .i64) (.pair (.int .i64) .str)), y⟩], []⟩⟩
  | _, _ => none⟩
theorem s_s_DrawNormalOf : KnOk Try.prog k_s_DrawNormalOf := by
  intro args rows a h y hy
  simp only [k_s_DrawNormalOf] at h
  split at h
  · injection h with h
    subst h
    exact vfun_ok eok_s_DrawNormalOf Try.func30 rfl (by rw [v_s_DrawNormalOf]; simp only at hy; rw [hy]; rfl)
  · cases h

def J_i_builder_add_o : Joins := [(.n, ⟨[.sl true 105 (.pair (.int .i64) (.pair (.int .i64) .str))], [], [(80, [.vw 183299])], [(183299, 0)]⟩)]
def ann_i_builder_add_o : Ann := .seq .nil (.seq .nil (.block [] (.seq .nil (.cond [(.n, ⟨[.sl true 105 (.pair (.int .i64) (.pair (.int .i64) .str))], [], [(80, [.vw 183298])], [(183298, 0)]⟩)] .nil (.seq (.reg [(.n, ⟨[.int .i64, .bool, .int .i64, .int .i64, .str, .sl true 105 (.pair (.int .i64) (.pair (.int .i64) .str))], [(0, .pl 80 0), (3, .pl 3 0), (4, .one (.h 0)), (25, .one (.h 1))], [(3, [.h 2, .h 3, .h 4]), (80, [.vw 183296])], [(183296, 5)]⟩)]) (.cond [(.n, ⟨[.sl true 105 (.pair (.int .i64) (.pair (.int .i64) .str))], [], [(80, [.vw 183297])], [(183297, 0)]⟩)] .nil .nil))))))
def env_i_builder_add_o : Env := envOf ti [k_i_Part_kind]
theorem eok_i_builder_add_o : EnvOk Try.prog env_i_builder_add_o := envOf_ok tab mix _ (by
  intro k hk
  simp only [List.mem_cons, List.not_mem_nil, or_false] at hk
  rcases hk with rfl
  · exact s_i_Part_kind)
theorem v_i_builder_add_o (x0 : Int) (x1 : Int) (x2 : List UInt8) (x3 : List (Int × (Int × List UInt8))) : (vfun env_i_builder_add_o Try.f79 J_i_builder_add_o ann_i_builder_add_o [.pl 0 0, .ag [⟨.int .i64, x0⟩, ⟨.int .i64, x1⟩, ⟨.str, x2⟩]] [[⟨.sl true 105 (.pair (.int .i64) (.pair (.int .i64) .str)), x3⟩]]).run = (G.i_builder_add_o x0 x1 x2 x3).bind fun y => some (Res.mk [] [[⟨.sl true 105 (.pair (.int .i64) (.pair (.int .i64) .str)), y⟩]]) := by kernel_rfl
def k_i_builder_add_o : Kn := ⟨79, [false, false], fun args rows => match args, rows with
  | [.pl 0 0, .ag [⟨.int .i64, x0⟩, ⟨.int .i64, x1⟩, ⟨.str, x2⟩]], [[⟨.sl true 105 (.pair (.int .i64) (.pair (.int .i64) .str)), x3⟩]] => some ⟨_, G.i_builder_add_o x0 x1 x2 x3, fun y => ⟨[], [[⟨.sl true 105 (.pair (.int .i64) (.pair (.int .i64) .str)), y⟩]]⟩⟩
  | _, _ => none⟩
theorem s_i_builder_add_o : KnOk Try.prog k_i_builder_add_o := by
  intro args rows a h y hy
  simp only [k_i_builder_add_o] at h
  split at h
  · injection h with h
    subst h
    exact vfun_ok eok_i_builder_add_o Try.func79 rfl (by rw [v_i_builder_add_o]; simp only at hy; rw [hy]; rfl)
  · cases h

def J_i_NormalOf : Joins := [(.r, ⟨[.sl true 105 (.pair (.int .i64) (.pair (.int .i64) .str)), .bool], [(2, .one (.vw 147522)), (3, .one (.h 1))], [], [(147522, 0)]⟩)]
def ann_i_NormalOf : Ann := .seq .nil (.seq .nil (.seq .nil (.seq (.seq .nil (.block [] (.loop ⟨[.sl false 105 (.pair (.int .i64) (.pair (.int .i64) .str)), .int .i64, .int .i64, .sl true 105 (.pair (.int .i64) (.pair (.int .i64) .str))], [(4, .pl 4 0), (11, .one (.h 0)), (12, .one (.h 1)), (13, .one (.h 2))], [(4, [.vw 147456])], [(147456, 3)]⟩ [(.x 0, ⟨[.sl true 105 (.pair (.int .i64) (.pair (.int .i64) .str))], [(4, .pl 4 0)], [(4, [.vw 147521])], [(147521, 0)]⟩), (.r, ⟨[.bool], [(2, .one (.nil)), (3, .one (.h 0))], [], []⟩)] (.seq .nil (.seq .nil (.seq (.block [] (.seq .nil (.seq (.seq (.reg [(.n, ⟨[.sl false 105 (.pair (.int .i64) (.pair (.int .i64) .str)), .int .i64, .int .i64, .bool, .sl true 105 (.pair (.int .i64) (.pair (.int .i64) .str)), .int .i64, .int .i64, .str], [(4, .pl 4 0), (6, .pl 6 0), (11, .one (.h 0)), (12, .one (.h 1)), (13, .one (.h 2)), (34, .one (.h 3))], [(4, [.vw 147520]), (6, [.h 5, .h 6, .h 7])], [(147520, 4)]⟩)]) .nil) .nil))) .nil)))))) .nil)))
def env_i_NormalOf : Env := envOf ti [k_i_Part_kind, k_i_builder_add_o, k_i_GoodChange]
theorem eok_i_NormalOf : EnvOk Try.prog env_i_NormalOf := envOf_ok tab mix _ (by
  intro k hk
  simp only [List.mem_cons, List.not_mem_nil, or_false] at hk
  rcases hk with rfl | rfl | rfl
  · exact s_i_Part_kind
  · exact s_i_builder_add_o
  · exact s_i_GoodChange)
theorem v_i_NormalOf (x0 : List (Int × (Int × List UInt8))) : (vfun env_i_NormalOf Try.f31 J_i_NormalOf ann_i_NormalOf [.one ⟨.sl false 105 (.pair (.int .i64) (.pair (.int .i64) .str)), x0⟩] []).run = (G.i_NormalOf x0).bind fun y => some (Res.mk [.one ⟨.sl true 105 (.pair (.int .i64) (.pair (.int .i64) .str)), y.1⟩, .one ⟨.bool, y.2⟩] []) := by kernel_rfl
def k_i_NormalOf : Kn := ⟨31, [false], fun args rows => match args, rows with
  | [.one ⟨.sl false 105 (.pair (.int .i64) (.pair (.int .i64) .str)), x0⟩], [] => some ⟨_, G.i_NormalOf x0, fun y => ⟨[.one ⟨.sl true 105 (.pair (.int .i64) (.pair (.int .i64) .str)), y.1⟩, .one ⟨.bool, y.2⟩], []⟩⟩
  | _, _ => none⟩
theorem s_i_NormalOf : KnOk Try.prog k_i_NormalOf := by
  intro args rows a h y hy
  simp only [k_i_NormalOf] at h
  split at h
  · injection h with h
    subst h
    exact vfun_ok eok_i_NormalOf Try.func31 rfl (by rw [v_i_NormalOf]; simp only at hy; rw [hy]; rfl)
  · cases h

def J_s_NormalOf : Joins := [(.r, ⟨[.sl true 105 (.pair (.int .i64) (.pair (.int .i64) .str)), .bool], [(2, .one (.vw 147522)), (3, .one (.h 1))], [], [(147522, 0)]⟩)]
def ann_s_NormalOf : Ann := .seq .nil (.seq .nil (.seq .nil (.seq (.seq .nil (.block [] (.loop ⟨[.sl true 105 (.pair (.int .i64) (.pair (.int .i64) .str)), .sl false 105 (.pair (.int .i64) (.pair (.int .i64) .str)), .int .i64, .int .i64], [(4, .one (.vw 147456)), (10, .one (.h 1)), (11, .one (.h 2)), (12, .one (.h 3))], [], [(147456, 0)]⟩ [(.x 0, ⟨[.sl true 105 (.pair (.int .i64) (.pair (.int .i64) .str))], [(4, .one (.vw 147521))], [], [(147521, 0)]⟩), (.r, ⟨[.bool], [(2, .one (.nil)), (3, .one (.h 0))], [], []⟩)] (.seq .nil (.seq .nil (.seq (.block [] (.seq .nil (.seq (.seq (.reg [(.n, ⟨[.sl true 105 (.pair (.int .i64) (.pair (.int .i64) .str)), .sl false 105 (.pair (.int .i64) (.pair (.int .i64) .str)), .int .i64, .int .i64, .bool, .int .i64, .int .i64, .str], [(4, .one (.vw 147520)), (6, .pl 6 0), (10, .one (.h 1)), (11, .one (.h 2)), (12, .one (.h 3)), (35, .one (.h 4))], [(6, [.h 5, .h 6, .h 7])], [(147520, 0)]⟩)]) .nil) .nil))) .nil)))))) .nil)))
def env_s_NormalOf : Env := envOf ti [k_s_l1In, k_s_l1Kind, k_s_l1Add, k_s_GoodChange]
theorem eok_s_NormalOf : EnvOk Try.prog env_s_NormalOf := envOf_ok tab mix _ (by
  intro k hk
  simp only [List.mem_cons, List.not_mem_nil, or_false] at hk
  rcases hk with rfl | rfl | rfl | rfl
  · exact s_s_l1In
  · exact s_s_l1Kind
  · exact s_s_l1Add
  · exact s_s_GoodChange)
theorem v_s_NormalOf (x0 : List (Int × (Int × List UInt8))) : (vfun env_s_NormalOf Try.f32 J_s_NormalOf ann_s_NormalOf [.one ⟨.sl false 105 (.pair (.int .i64) (.pair (.int .i64) .str)), x0⟩] []).run = (G.s_NormalOf x0).bind fun y => some (Res.mk [.one ⟨.sl true 105 (.pair (.int .i64) (.pair (.int .i64) .str)), y.1⟩, .one ⟨.bool, y.2⟩] []) := by kernel_rfl
def k_s_NormalOf : Kn := ⟨32, [false], fun args rows => match args, rows with
  | [.one ⟨.sl false 105 (.pair (.int .i64) (.pair (.int .i64) .str)), x0⟩], [] => some ⟨_, G.s_NormalOf x0, fun y => ⟨[.one ⟨.sl true 105 (.pair (.int .i64) (.pair (.int .i64) .str)), y.1⟩, .one ⟨.bool, y.2⟩], []⟩⟩
  | _, _ => none⟩
theorem s_s_NormalOf : KnOk Try.prog k_s_NormalOf := by
  intro args rows a h y hy
  simp only [k_s_NormalOf] at h
  split at h
  · injection h with h
    subst h
    exact vfun_ok eok_s_NormalOf Try.func32 rfl (by rw [v_s_NormalOf]; simp only at hy; rw [hy]; rfl)
  · cases h

def J_l_FnWritten : Joins := [(.r, ⟨[.bool], [(4, .one (.h 0))], [], []⟩)]
def ann_l_FnWritten : Ann := .seq .nil (.seq .nil (.seq .nil (.seq .nil (.seq .nil (.seq .nil (.seq (.seq .nil (.cond [(.n, ⟨[.sl false 5 (.int .u8)], [(1, .one (.h 0))], [], []⟩), (.r, ⟨[.bool], [(4, .one (.h 0))], [], []⟩)] (.seq .nil (.seq (.reg [(.n, ⟨[.sl false 5 (.int .u8), .bool], [(1, .one (.h 0)), (53, .one (.h 1))], [], []⟩)]) .nil)) .nil)) (.seq .nil (.seq .nil (.seq .nil (.seq .nil (.seq .nil (.seq .nil (.seq (.reg [(.n, ⟨[.bool], [(4, .one (.h 0))], [], []⟩)]) .nil)))))))))))))
def env_l_FnWritten : Env := envOf ti [k_s_DrawWriteChange, k_i_WriteChange, k_s_WriteChange, k_i_ReadChange, k_l_sameParts, k_s_DrawNormalOf, k_i_NormalOf, k_s_NormalOf, k_i_GoodChange]
theorem eok_l_FnWritten : EnvOk Try.prog env_l_FnWritten := envOf_ok tab mix _ (by
  intro k hk
  simp only [List.mem_cons, List.not_mem_nil, or_false] at hk
  rcases hk with rfl | rfl | rfl | rfl | rfl | rfl | rfl | rfl | rfl
  · exact s_s_DrawWriteChange
  · exact s_i_WriteChange
  · exact s_s_WriteChange
  · exact s_i_ReadChange
  · exact s_l_sameParts
  · exact s_s_DrawNormalOf
  · exact s_i_NormalOf
  · exact s_s_NormalOf
  · exact s_i_GoodChange)
theorem v_l_FnWritten (x0 : List Int) (x1 : List Int) : (vfun env_l_FnWritten Try.f6 J_l_FnWritten ann_l_FnWritten [.one ⟨.sl false 5 (.int .u8), x0⟩, .one ⟨.sl false 5 (.int .u8), x1⟩] []).run = (G.l_FnWritten x0 x1).bind fun y => some (Res.mk [.one ⟨.bool, y⟩] []) := by kernel_rfl
def k_l_FnWritten : Kn := ⟨6, [false, false], fun args rows => match args, rows with
  | [.one ⟨.sl false 5 (.int .u8), x0⟩, .one ⟨.sl false 5 (.int .u8), x1⟩], [] => some ⟨_, G.l_FnWritten x0 x1, fun y => ⟨[.one ⟨.bool, y⟩], []⟩⟩
  | _, _ => none⟩
theorem s_l_FnWritten : KnOk Try.prog k_l_FnWritten := by
  intro args rows a h y hy
  simp only [k_l_FnWritten] at h
  split at h
  · injection h with h
    subst h
    exact vfun_ok eok_l_FnWritten Try.func6 rfl (by rw [v_l_FnWritten]; simp only at hy; rw [hy]; rfl)
  · cases h

def J_s_DrawCarryChange : Joins := [(.r, ⟨[.sl true 105 (.pair (.int .i64) (.pair (.int .i64) .str)), .sl true 105 (.pair (.int .i64) (.pair (.int .i64) .str)), .bool], [(2, .one (.vw 129025)), (3, .one (.vw 129026)), (4, .one (.h 2))], [], [(129025, 0), (129026, 1)]⟩)]
def ann_s_DrawCarryChange : Ann := .seq .nil (.seq .nil (.seq .nil (.seq .nil (.seq (.seq .nil (.cond [(.n, ⟨[.int .i64, .sl true 105 (.pair (.int .i64) (.pair (.int .i64) .str)), .sl false 5 (.int .u8), .int .i64, .int .u64], [(5, .pl 10 0), (6, .one (.h 0)), (7, .one (.vw 129024))], [(10, [.h 2, .h 3, .h 4])], [(129024, 1)]⟩)] .nil .nil)) .nil))))
def env_s_DrawCarryChange : Env := envOf ti [k_s_l1Cur_size_f, k_s_l1Cur_changeOf_f, k_s_l1Cur_one_f]
theorem eok_s_DrawCarryChange : EnvOk Try.prog env_s_DrawCarryChange := envOf_ok tab mix _ (by
  intro k hk
  simp only [List.mem_cons, List.not_mem_nil, or_false] at hk
  rcases hk with rfl | rfl | rfl
  · exact s_s_l1Cur_size_f
  · exact s_s_l1Cur_changeOf_f
  · exact s_s_l1Cur_one_f)
theorem v_s_DrawCarryChange (x0 : List Int) : (vfun env_s_DrawCarryChange Try.f34 J_s_DrawCarryChange ann_s_DrawCarryChange [.one ⟨.sl false 5 (.int .u8), x0⟩] []).run = (G.s_DrawCarryChange x0).bind fun y => some (Res.mk [.one ⟨.sl true 105 (.pair (.int .i64) (.pair (.int .i64) .str)), y.1⟩, .one ⟨.sl true 105 (.pair (.int .i64) (.pair (.int .i64) .str)), y.2.1⟩, .one ⟨.bool, y.2.2⟩] []) := by kernel_rfl
def k_s_DrawCarryChange : Kn := ⟨34, [false], fun args rows => match args, rows with
  | [.one ⟨.sl false 5 (.int .u8), x0⟩], [] => some ⟨_, G.s_DrawCarryChange x0, fun y => ⟨[.one ⟨.sl true 105 (.pair (.int .i64) (.pair (.int .i64) .str)), y.1⟩, .one ⟨.sl true 105 (.pair (.int .i64) (.pair (.int .i64) .str)), y.2.1⟩, .one ⟨.bool, y.2.2⟩], []⟩⟩
  | _, _ => none⟩
theorem s_s_DrawCarryChange : KnOk Try.prog k_s_DrawCarryChange := by
  intro args rows a h y hy
  simp only [k_s_DrawCarryChange] at h
  split at h
  · injection h with h
    subst h
    exact vfun_ok eok_s_DrawCarryChange Try.func34 rfl (by rw [v_s_DrawCarryChange]; simp only at hy; rw [hy]; rfl)
  · cases h

def J_i_fits : Joins := [(.r, ⟨[.bool], [(4, .one (.h 0))], [], []⟩)]
def ann_i_fits : Ann := .seq .nil (.seq .nil (.seq (.reg [(.n, ⟨[.bool], [(4, .one (.h 0))], [], []⟩)]) .nil))
def env_i_fits : Env := envOf ti [k_i_LengthsOf]
theorem eok_i_fits : EnvOk Try.prog env_i_fits := envOf_ok tab mix _ (by
  intro k hk
  simp only [List.mem_cons, List.not_mem_nil, or_false] at hk
  rcases hk with rfl
  · exact s_i_LengthsOf)
theorem v_i_fits (x0 : List (Int × (Int × List UInt8))) (x1 : Int) : (vfun env_i_fits Try.f83 J_i_fits ann_i_fits [.one ⟨.sl false 105 (.pair (.int .i64) (.pair (.int .i64) .str)), x0⟩, .one ⟨.int .i64, x1⟩] []).run = (G.i_fits x0 x1).bind fun y => some (Res.mk [.one ⟨.bool, y⟩] []) := by kernel_rfl
def k_i_fits : Kn := ⟨83, [false, false], fun args rows => match args, rows with
  | [.one ⟨.sl false 105 (.pair (.int .i64) (.pair (.int .i64) .str)), x0⟩, .one ⟨.int .i64, x1⟩], [] => some ⟨_, G.i_fits x0 x1, fun y => ⟨[.one ⟨.bool, y⟩], []⟩⟩
  | _, _ => none⟩
theorem s_i_fits : KnOk Try.prog k_i_fits := by
  intro args rows a h y hy
  simp only [k_i_fits] at h
  split at h
  · injection h with h
    subst h
    exact vfun_ok eok_i_fits Try.func83 rfl (by rw [v_i_fits]; simp only at hy; rw [hy]; rfl)
  · cases h

def J_i_carry : Joins := [(.r, ⟨[.sl true 105 (.pair (.int .i64) (.pair (.int .i64) .str)), .bool], [(6, .one (.vw 179290)), (7, .one (.h 1))], [], [(179290, 0)]⟩)]
def ann_i_carry : Ann := .seq .nil (.seq .nil (.seq .nil (.seq (.seq .nil (.block [] (.loop ⟨[.bool, .int .i64, .int .i64, .sl true 4 .bool, .sl true 9 .str, .sl true 4 .bool, .sl true 9 .str, .sl true 105 (.pair (.int .i64) (.pair (.int .i64) .str))], [(2, .one (.h 0)), (8, .pl 8 0), (9, .pl 9 0), (10, .pl 10 0), (20, .one (.h 1)), (21, .one (.h 2))], [(8, [.vw 179200, .vw 179201]), (9, [.vw 179202, .vw 179203]), (10, [.vw 179204])], [(179200, 3), (179201, 4), (179202, 5), (179203, 6), (179204, 7)]⟩ [(.x 0, ⟨[.sl true 105 (.pair (.int .i64) (.pair (.int .i64) .str))], [(10, .pl 10 0)], [(10, [.vw 179289])], [(179289, 0)]⟩)] (.seq .nil (.seq .nil (.seq (.block [] (.seq .nil (.seq .nil (.seq (.seq .nil (.cond [(.n, ⟨[.bool, .int .i64, .int .i64, .int .i64, .sl true 4 .bool, .sl true 9 .str, .sl true 4 .bool, .sl true 9 .str, .sl true 105 (.pair (.int .i64) (.pair (.int .i64) .str)), .int .i64, .int .i64, .str], [(2, .one (.h 0)), (8, .pl 8 0), (9, .pl 9 0), (10, .pl 10 0), (11, .one (.h 1)), (12, .pl 12 0), (20, .one (.h 2)), (21, .one (.h 3))], [(8, [.vw 179264, .vw 179265]), (9, [.vw 179266, .vw 179267]), (10, [.vw 179268]), (12, [.h 9, .h 10, .h 11])], [(179264, 4), (179265, 5), (179266, 6), (179267, 7), (179268, 8)]⟩)] .nil .nil)) (.seq .nil (.seq (.seq .nil (.cond [(.n, ⟨[.bool, .int .i64, .int .i64, .int .i64, .sl true 4 .bool, .sl true 9 .str, .sl true 4 .bool, .sl true 9 .str, .sl true 105 (.pair (.int .i64) (.pair (.int .i64) .str))], [(2, .one (.h 0)), (8, .pl 8 0), (9, .pl 9 0), (10, .pl 10 0), (11, .one (.h 1)), (20, .one (.h 2)), (21, .one (.h 3))], [(8, [.vw 179269, .vw 179270]), (9, [.vw 179271, .vw 179272]), (10, [.vw 179273])], [(179269, 4), (179270, 5), (179271, 6), (179272, 7), (179273, 8)]⟩)] .nil .nil)) (.block [] (.seq (.reg [(.n, ⟨[.bool, .int .i64, .int .i64, .int .i64, .bool, .sl true 4 .bool, .sl true 9 .str, .sl true 4 .bool, .sl true 9 .str, .sl true 105 (.pair (.int .i64) (.pair (.int .i64) .str))], [(2, .one (.h 0)), (8, .pl 8 0), (9, .pl 9 0), (10, .pl 10 0), (11, .one (.h 1)), (20, .one (.h 2)), (21, .one (.h 3)), (47, .one (.h 4))], [(8, [.vw 179274, .vw 179275]), (9, [.vw 179276, .vw 179277]), (10, [.vw 179278])], [(179274, 5), (179275, 6), (179276, 7), (179277, 8), (179278, 9)]⟩)]) (.cond [(.n, ⟨[.bool, .int .i64, .int .i64, .sl true 4 .bool, .sl true 9 .str, .sl true 4 .bool, .sl true 9 .str, .sl true 105 (.pair (.int .i64) (.pair (.int .i64) .str))], [(2, .one (.h 0)), (8, .pl 8 0), (9, .pl 9 0), (10, .pl 10 0), (20, .one (.h 1)), (21, .one (.h 2))], [(8, [.vw 179284, .vw 179285]), (9, [.vw 179286, .vw 179287]), (10, [.vw 179288])], [(179284, 3), (179285, 4), (179286, 5), (179287, 6), (179288, 7)]⟩)] .nil (.seq .nil (.cond [(.n, ⟨[.bool, .int .i64, .int .i64, .sl true 4 .bool, .sl true 9 .str, .sl true 4 .bool, .sl true 9 .str, .sl true 105 (.pair (.int .i64) (.pair (.int .i64) .str))], [(2, .one (.h 0)), (8, .pl 8 0), (9, .pl 9 0), (10, .pl 10 0), (20, .one (.h 1)), (21, .one (.h 2))], [(8, [.vw 179279, .vw 179280]), (9, [.vw 179281, .vw 179282]), (10, [.vw 179283])], [(179279, 3), (179280, 4), (179281, 5), (179282, 6), (179283, 7)]⟩)] .nil .nil))))))))))) .nil)))))) .nil)))
def env_i_carry : Env := envOf ti [k_i_tell, k_i_builder_add_o, k_i_GoodChange]
theorem eok_i_carry : EnvOk Try.prog env_i_carry := envOf_ok tab mix _ (by
  intro k hk
  simp only [List.mem_cons, List.not_mem_nil, or_false] at hk
  rcases hk with rfl | rfl | rfl
  · exact s_i_tell
  · exact s_i_builder_add_o
  · exact s_i_GoodChange)
theorem v_i_carry (x0 : List (Int × (Int × List UInt8))) (x1 : List (Int × (Int × List UInt8))) (x2 : Bool) : (vfun env_i_carry Try.f84 J_i_carry ann_i_carry [.one ⟨.sl false 105 (.pair (.int .i64) (.pair (.int .i64) .str)), x0⟩, .one ⟨.sl false 105 (.pair (.int .i64) (.pair (.int .i64) .str)), x1⟩, .one ⟨.bool, x2⟩] []).run = (G.i_carry x0 x1 x2).bind fun y => some (Res.mk [.one ⟨.sl true 105 (.pair (.int .i64) (.pair (.int .i64) .str)), y.1⟩, .one ⟨.bool, y.2⟩] []) := by kernel_rfl
def k_i_carry : Kn := ⟨84, [false, false, false], fun args rows => match args, rows with
  | [.one ⟨.sl false 105 (.pair (.int .i64) (.pair (.int .i64) .str)), x0⟩, .one ⟨.sl false 105 (.pair (.int .i64) (.pair (.int .i64) .str)), x1⟩, .one ⟨.bool, x2⟩], [] => some ⟨_, G.i_carry x0 x1 x2, fun y => ⟨[.one ⟨.sl true 105 (.pair (.int .i64) (.pair (.int .i64) .str)), y.1⟩, .one ⟨.bool, y.2⟩], []⟩⟩
  | _, _ => none⟩
theorem s_i_carry : KnOk Try.prog k_i_carry := by
  intro args rows a h y hy
  simp only [k_i_carry] at h
  split at h
  · injection h with h
    subst h
    exact vfun_ok eok_i_carry Try.func84 rfl (by rw [v_i_carry]; simp only at hy; rw [hy]; rfl)
  · cases h

def J_i_CarryChange : Joins := [(.r, ⟨[.sl true 105 (.pair (.int .i64) (.pair (.int .i64) .str)), .bool], [(6, .one (.vw 139264)), (7, .one (.h 1))], [], [(139264, 0)]⟩)]
def ann_i_CarryChange : Ann := .seq .nil (.seq .nil (.seq (.seq (.reg [(.n, ⟨[.sl false 105 (.pair (.int .i64) (.pair (.int .i64) .str)), .sl false 105 (.pair (.int .i64) (.pair (.int .i64) .str)), .bool, .bool], [(0, .one (.h 0)), (1, .one (.h 1)), (2, .one (.h 2)), (25, .one (.h 3))], [], []⟩)]) .nil) .nil))
def env_i_CarryChange : Env := envOf ti [k_i_LengthsOf, k_i_fits, k_i_carry]
theorem eok_i_CarryChange : EnvOk Try.prog env_i_CarryChange := envOf_ok tab mix _ (by
  intro k hk
  simp only [List.mem_cons, List.not_mem_nil, or_false] at hk
  rcases hk with rfl | rfl | rfl
  · exact s_i_LengthsOf
  · exact s_i_fits
  · exact s_i_carry)
theorem v_i_CarryChange (x0 : List (Int × (Int × List UInt8))) (x1 : List (Int × (Int × List UInt8))) (x2 : Bool) : (vfun env_i_CarryChange Try.f35 J_i_CarryChange ann_i_CarryChange [.one ⟨.sl false 105 (.pair (.int .i64) (.pair (.int .i64) .str)), x0⟩, .one ⟨.sl false 105 (.pair (.int .i64) (.pair (.int .i64) .str)), x1⟩, .one ⟨.bool, x2⟩] []).run = (G.i_CarryChange x0 x1 x2).bind fun y => some (Res.mk [.one ⟨.sl true 105 (.pair (.int .i64) (.pair (.int .i64) .str)), y.1⟩, .one ⟨.bool, y.2⟩] []) := by kernel_rfl
def k_i_CarryChange : Kn := ⟨35, [false, false, false], fun args rows => match args, rows with
  | [.one ⟨.sl false 105 (.pair (.int .i64) (.pair (.int .i64) .str)), x0⟩, .one ⟨.sl false 105 (.pair (.int .i64) (.pair (.int .i64) .str)), x1⟩, .one ⟨.bool, x2⟩], [] => some ⟨_, G.i_CarryChange x0 x1 x2, fun y => ⟨[.one ⟨.sl true 105 (.pair (.int .i64) (.pair (.int .i64) .str)), y.1⟩, .one ⟨.bool, y.2⟩], []⟩⟩
  | _, _ => none⟩
theorem s_i_CarryChange : KnOk Try.prog k_i_CarryChange := by
  intro args rows a h y hy
  simp only [k_i_CarryChange] at h
  split at h
  · injection h with h
    subst h
    exact vfun_ok eok_i_CarryChange Try.func35 rfl (by rw [v_i_CarryChange]; simp only at hy; rw [hy]; rfl)
  · cases h

def J_s_l1Carry : Joins := [(.r, ⟨[.sl true 105 (.pair (.int .i64) (.pair (.int .i64) .str))], [(6, .one (.vw 174170))], [], [(174170, 0)]⟩)]
def ann_s_l1Carry : Ann := .seq .nil (.seq .nil (.seq .nil (.seq .nil (.seq (.seq .nil (.block [] (.loop ⟨[.bool, .sl true 105 (.pair (.int .i64) (.pair (.int .i64) .str)), .sl true 9 .str, .int .i64, .int .i64, .sl true 4 .bool, .sl true 4 .bool, .sl true 9 .str], [(2, .one (.h 0)), (7, .pl 7 0), (8, .pl 8 0), (9, .one (.vw 174080)), (17, .one (.vw 174081)), (18, .one (.h 3)), (19, .one (.h 4))], [(7, [.vw 174082, .vw 174081]), (8, [.vw 174083, .vw 174084])], [(174080, 1), (174081, 2), (174082, 5), (174083, 6), (174084, 7)]⟩ [(.x 0, ⟨[.sl true 105 (.pair (.int .i64) (.pair (.int .i64) .str))], [(9, .one (.vw 174169))], [], [(174169, 0)]⟩)] (.seq .nil (.seq .nil (.seq (.block [(.n, ⟨[.bool, .sl true 105 (.pair (.int .i64) (.pair (.int .i64) .str)), .sl true 9 .str, .int .i64, .int .i64, .sl true 4 .bool, .sl true 4 .bool, .sl true 9 .str], [(2, .one (.h 0)), (7, .pl 7 0), (8, .pl 8 0), (9, .one (.vw 174164)), (17, .one (.vw 174165)), (18, .one (.h 3)), (19, .one (.h 4))], [(7, [.vw 174166, .vw 174165]), (8, [.vw 174167, .vw 174168])], [(174164, 1), (174165, 2), (174166, 5), (174167, 6), (174168, 7)]⟩)] (.seq .nil (.seq (.seq .nil (.cond [(.n, ⟨[.bool, .sl true 105 (.pair (.int .i64) (.pair (.int .i64) .str)), .int .i64, .str, .sl true 9 .str, .int .i64, .int .i64, .sl true 4 .bool, .sl true 4 .bool, .sl true 9 .str], [(2, .one (.h 0)), (7, .pl 7 0), (8, .pl 8 0), (9, .one (.vw 174144)), (10, .one (.h 2)), (11, .one (.h 3)), (17, .one (.vw 174145)), (18, .one (.h 5)), (19, .one (.h 6))], [(7, [.vw 174146, .vw 174145]), (8, [.vw 174147, .vw 174148])], [(174144, 1), (174145, 4), (174146, 7), (174147, 8), (174148, 9)]⟩)] .nil .nil)) (.seq .nil (.seq (.seq .nil (.cond [(.n, ⟨[.bool, .sl true 105 (.pair (.int .i64) (.pair (.int .i64) .str)), .int .i64, .sl true 9 .str, .int .i64, .int .i64, .sl true 4 .bool, .sl true 4 .bool, .sl true 9 .str], [(2, .one (.h 0)), (7, .pl 7 0), (8, .pl 8 0), (9, .one (.vw 174149)), (10, .one (.h 2)), (17, .one (.vw 174150)), (18, .one (.h 4)), (19, .one (.h 5))], [(7, [.vw 174151, .vw 174150]), (8, [.vw 174152, .vw 174153])], [(174149, 1), (174150, 3), (174151, 6), (174152, 7), (174153, 8)]⟩)] .nil .nil)) (.seq (.seq (.reg [(.n, ⟨[.bool, .sl true 105 (.pair (.int .i64) (.pair (.int .i64) .str)), .int .i64, .sl true 9 .str, .int .i64, .int .i64, .bool, .sl true 4 .bool, .sl true 4 .bool, .sl true 9 .str], [(2, .one (.h 0)), (7, .pl 7 0), (8, .pl 8 0), (9, .one (.vw 174154)), (10, .one (.h 2)), (17, .one (.vw 174155)), (18, .one (.h 4)), (19, .one (.h 5)), (56, .one (.h 6))], [(7, [.vw 174156, .vw 174155]), (8, [.vw 174157, .vw 174158])], [(174154, 1), (174155, 3), (174156, 7), (174157, 8), (174158, 9)]⟩)]) .nil) (.seq .nil (.cond [(.n, ⟨[.bool, .sl true 105 (.pair (.int .i64) (.pair (.int .i64) .str)), .sl true 9 .str, .int .i64, .int .i64, .sl true 4 .bool, .sl true 4 .bool, .sl true 9 .str], [(2, .one (.h 0)), (7, .pl 7 0), (8, .pl 8 0), (9, .one (.vw 174159)), (17, .one (.vw 174160)), (18, .one (.h 3)), (19, .one (.h 4))], [(7, [.vw 174161, .vw 174160]), (8, [.vw 174162, .vw 174163])], [(174159, 1), (174160, 2), (174161, 5), (174162, 6), (174163, 7)]⟩)] .nil .nil)))))))) .nil)))))) .nil))))
def env_s_l1Carry : Env := envOf ti [k_s_l1Open, k_s_l1Add]
theorem eok_s_l1Carry : EnvOk Try.prog env_s_l1Carry := envOf_ok tab mix _ (by
  intro k hk
  simp only [List.mem_cons, List.not_mem_nil, or_false] at hk
  rcases hk with rfl | rfl
  · exact s_s_l1Open
  · exact s_s_l1Add)
theorem v_s_l1Carry (x0 : List (Int × (Int × List UInt8))) (x1 : List (Int × (Int × List UInt8))) (x2 : Bool) : (vfun env_s_l1Carry Try.f85 J_s_l1Carry ann_s_l1Carry [.one ⟨.sl false 105 (.pair (.int .i64) (.pair (.int .i64) .str)), x0⟩, .one ⟨.sl false 105 (.pair (.int .i64) (.pair (.int .i64) .str)), x1⟩, .one ⟨.bool, x2⟩] []).run = (G.s_l1Carry x0 x1 x2).bind fun y => some (Res.mk [.one ⟨.sl true 105 (.pair (.int .i64) (.pair (.int .i64) .str)), y⟩] []) := by kernel_rfl
def k_s_l1Carry : Kn := ⟨85, [false, false, false], fun args rows => match args, rows with
  | [.one ⟨.sl false 105 (.pair (.int .i64) (.pair (.int .i64) .str)), x0⟩, .one ⟨.sl false 105 (.pair (.int .i64) (.pair (.int .i64) .str)), x1⟩, .one ⟨.bool, x2⟩], [] => some ⟨_, G.s_l1Carry x0 x1 x2, fun y => ⟨[.one ⟨.sl true 105 (.pair (.int .i64) (.pair (.int .i64) .str)), y⟩], []⟩⟩
  | _, _ => none⟩
theorem s_s_l1Carry : KnOk Try.prog k_s_l1Carry := by
  intro args rows a h y hy
  simp only [k_s_l1Carry] at h
  split at h
  · injection h with h
    subst h
    exact vfun_ok eok_s_l1Carry Try.func85 rfl (by rw [v_s_l1Carry]; simp only at hy; rw [hy]; rfl)
  · cases h
end
end Go.Proofs.Ytdicgiljgelkfaa
