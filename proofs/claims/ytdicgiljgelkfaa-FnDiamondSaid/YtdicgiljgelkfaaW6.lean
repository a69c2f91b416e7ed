import Derived.Test.YtdicgiljgelkfaaW5
set_option linter.unusedVariables false
set_option maxRecDepth 100000
namespace Go.Proofs.Ytdicgiljgelkfaa
open Go.V
noncomputable section
def J_s_CarryChange : Joins := [(.r, ⟨[.sl true 105 (.pair (.int .i64) (.pair (.int .i64) .str)), .bool], [(6, .one (.vw 135168)), (7, .one (.h 1))], [], [(135168, 0)]⟩)]
def ann_s_CarryChange : Ann := .seq .nil (.seq (.seq (.reg [(.n, ⟨[.sl false 105 (.pair (.int .i64) (.pair (.int .i64) .str)), .sl false 105 (.pair (.int .i64) (.pair (.int .i64) .str)), .bool, .bool], [(0, .one (.h 0)), (1, .one (.h 1)), (2, .one (.h 2)), (23, .one (.h 3))], [], []⟩)]) .nil) .nil)
def env_s_CarryChange : Env := envOf ti [k_s_GoodChange, k_s_l1Source, k_s_l1Carry]
theorem eok_s_CarryChange : EnvOk Try.prog env_s_CarryChange := envOf_ok tab mix _ (by
  intro k hk
  simp only [List.mem_cons, List.not_mem_nil, or_false] at hk
  rcases hk with rfl | rfl | rfl
  · exact s_s_GoodChange
  · exact s_s_l1Source
  · exact s_s_l1Carry)
theorem v_s_CarryChange (x0 : List (Int × (Int × List UInt8))) (x1 : List (Int × (Int × List UInt8))) (x2 : Bool) : (vfun env_s_CarryChange Try.f36 J_s_CarryChange ann_s_CarryChange [.one ⟨.sl false 105 (.pair (.int .i64) (.pair (.int .i64) .str)), x0⟩, .one ⟨.sl false 105 (.pair (.int .i64) (.pair (.int .i64) .str)), x1⟩, .one ⟨.bool, x2⟩] []).run = (G.s_CarryChange x0 x1 x2).bind fun y => some (Res.mk [.one ⟨.sl true 105 (.pair (.int .i64) (.pair (.int .i64) .str)), y.1⟩, .one ⟨.bool, y.2⟩] []) := by kernel_rfl
def k_s_CarryChange : Kn := ⟨36, [false, false, false], fun args rows => match args, rows with
  | [.one ⟨.sl false 105 (.pair (.int .i64) (.pair (.int .i64) .str)), x0⟩, .one ⟨.sl false 105 (.pair (.int .i64) (.pair (.int .i64) .str)), x1⟩, .one ⟨.bool, x2⟩], [] => some ⟨_, G.s_CarryChange x0 x1 x2, fun y => ⟨[.one ⟨.sl true 105 (.pair (.int .i64) (.pair (.int .i64) .str)), y.1⟩, .one ⟨.bool, y.2⟩], []⟩⟩
  | _, _ => none⟩
theorem s_s_CarryChange : KnOk Try.prog k_s_CarryChange := by
  intro args rows a h y hy
  simp only [k_s_CarryChange] at h
  split at h
  · injection h with h
    subst h
    exact vfun_ok eok_s_CarryChange Try.func36 rfl (by rw [v_s_CarryChange]; simp only at hy; rw [hy]; rfl)
  · cases h

def J_l_fill : Joins := [(.r, ⟨[.str], [(2, .one (.h 0))], [], []⟩)]
def ann_l_fill : Ann := .seq .nil (.seq .nil (.seq (.seq .nil (.block [] (.loop ⟨[.sl true 5 (.int .u8), .int .i64, .int .i64], [(3, .one (.vw 124928)), (8, .one (.h 1)), (9, .one (.h 2))], [], [(124928, 0)]⟩ [(.x 0, ⟨[.sl true 5 (.int .u8)], [(3, .one (.vw 124992))], [], [(124992, 0)]⟩)] .nil))) .nil))
def env_l_fill : Env := envOf ti []
theorem eok_l_fill : EnvOk Try.prog env_l_fill := envOf_ok tab mix _ (by
  intro k hk; cases hk)
theorem v_l_fill (x0 : Int) : (vfun env_l_fill Try.f37 J_l_fill ann_l_fill [.one ⟨.int .i64, x0⟩] []).run = (G.l_fill x0).bind fun y => some (Res.mk [.one ⟨.str, y⟩] []) := by kernel_rfl
def k_l_fill : Kn := ⟨37, [false], fun args rows => match args, rows with
  | [.one ⟨.int .i64, x0⟩], [] => some ⟨_, G.l_fill x0, fun y => ⟨[.one ⟨.str, y⟩], []⟩⟩
  | _, _ => none⟩
theorem s_l_fill : KnOk Try.prog k_l_fill := by
  intro args rows a h y hy
  simp only [k_l_fill] at h
  split at h
  · injection h with h
    subst h
    exact vfun_ok eok_l_fill Try.func37 rfl (by rw [v_l_fill]; simp only at hy; rw [hy]; rfl)
  · cases h

def J_i_apply : Joins := [(.r, ⟨[.str], [(4, .one (.h 0))], [], []⟩)]
def ann_i_apply : Ann := .seq .nil (.seq .nil (.seq (.seq .nil (.block [] (.loop ⟨[.str, .str, .int .i64, .sl false 105 (.pair (.int .i64) (.pair (.int .i64) .str)), .int .i64, .int .i64], [(0, .one (.h 0)), (5, .one (.h 1)), (6, .one (.h 2)), (9, .one (.h 3)), (10, .one (.h 4)), (11, .one (.h 5))], [], []⟩ [(.x 0, ⟨[.str], [(5, .one (.h 0))], [], []⟩)] .nil))) .nil))
def env_i_apply : Env := envOf ti []
theorem eok_i_apply : EnvOk Try.prog env_i_apply := envOf_ok tab mix _ (by
  intro k hk; cases hk)
theorem v_i_apply (x0 : List UInt8) (x1 : List (Int × (Int × List UInt8))) : (vfun env_i_apply Try.f86 J_i_apply ann_i_apply [.one ⟨.str, x0⟩, .one ⟨.sl false 105 (.pair (.int .i64) (.pair (.int .i64) .str)), x1⟩] []).run = (G.i_apply x0 x1).bind fun y => some (Res.mk [.one ⟨.str, y⟩] []) := by kernel_rfl
def k_i_apply : Kn := ⟨86, [false, false], fun args rows => match args, rows with
  | [.one ⟨.str, x0⟩, .one ⟨.sl false 105 (.pair (.int .i64) (.pair (.int .i64) .str)), x1⟩], [] => some ⟨_, G.i_apply x0 x1, fun y => ⟨[.one ⟨.str, y⟩], []⟩⟩
  | _, _ => none⟩
theorem s_i_apply : KnOk Try.prog k_i_apply := by
  intro args rows a h y hy
  simp only [k_i_apply] at h
  split at h
  · injection h with h
    subst h
    exact vfun_ok eok_i_apply Try.func86 rfl (by rw [v_i_apply]; simp only at hy; rw [hy]; rfl)
  · cases h

def J_i_ApplyChange : Joins := [(.r, ⟨[.str, .bool], [(4, .one (.h 0)), (5, .one (.h 1))], [], []⟩)]
def ann_i_ApplyChange : Ann := .nil
def env_i_ApplyChange : Env := envOf ti [k_i_fits, k_i_apply]
theorem eok_i_ApplyChange : EnvOk Try.prog env_i_ApplyChange := envOf_ok tab mix _ (by
  intro k hk
  simp only [List.mem_cons, List.not_mem_nil, or_false] at hk
  rcases hk with rfl | rfl
  · exact s_i_fits
  · exact s_i_apply)
theorem v_i_ApplyChange (x0 : List UInt8) (x1 : List (Int × (Int × List UInt8))) : (vfun env_i_ApplyChange Try.f38 J_i_ApplyChange ann_i_ApplyChange [.one ⟨.str, x0⟩, .one ⟨.sl false 105 (.pair (.int .i64) (.pair (.int .i64) .str)), x1⟩] []).run = (G.i_ApplyChange x0 x1).bind fun y => some (Res.mk [.one ⟨.str, y.1⟩, .one ⟨.bool, y.2⟩] []) := by kernel_rfl
def k_i_ApplyChange : Kn := ⟨38, [false, false], fun args rows => match args, rows with
  | [.one ⟨.str, x0⟩, .one ⟨.sl false 105 (.pair (.int .i64) (.pair (.int .i64) .str)), x1⟩], [] => some ⟨_, G.i_ApplyChange x0 x1, fun y => ⟨[.one ⟨.str, y.1⟩, .one ⟨.bool, y.2⟩], []⟩⟩
  | _, _ => none⟩
theorem s_i_ApplyChange : KnOk Try.prog k_i_ApplyChange := by
  intro args rows a h y hy
  simp only [k_i_ApplyChange] at h
  split at h
  · injection h with h
    subst h
    exact vfun_ok eok_i_ApplyChange Try.func38 rfl (by rw [v_i_ApplyChange]; simp only at hy; rw [hy]; rfl)
  · cases h

def J_l_FnDiamond : Joins := [(.r, ⟨[.bool], [(2, .one (.h 0))], [], []⟩)]
def ann_l_FnDiamond : Ann := .seq .nil (.seq .nil (.seq .nil (.seq .nil (.seq .nil (.seq .nil (.seq (.seq (.reg [(.n, ⟨[.sl true 105 (.pair (.int .i64) (.pair (.int .i64) .str)), .sl true 105 (.pair (.int .i64) (.pair (.int .i64) .str)), .sl true 105 (.pair (.int .i64) (.pair (.int .i64) .str)), .bool, .sl true 105 (.pair (.int .i64) (.pair (.int .i64) .str)), .bool, .bool], [(3, .one (.vw 216064)), (4, .one (.vw 216065)), (6, .one (.vw 216066)), (7, .one (.h 3)), (8, .one (.vw 216067)), (9, .one (.h 5)), (63, .one (.h 6))], [], [(216064, 0), (216065, 1), (216066, 2), (216067, 4)]⟩)]) .nil) (.seq (.seq (.reg [(.n, ⟨[.sl true 105 (.pair (.int .i64) (.pair (.int .i64) .str)), .sl true 105 (.pair (.int .i64) (.pair (.int .i64) .str)), .sl true 105 (.pair (.int .i64) (.pair (.int .i64) .str)), .sl true 105 (.pair (.int .i64) (.pair (.int .i64) .str)), .bool], [(3, .one (.vw 216068)), (4, .one (.vw 216069)), (6, .one (.vw 216070)), (8, .one (.vw 216071)), (69, .one (.h 4))], [], [(216068, 0), (216069, 1), (216070, 2), (216071, 3)]⟩)]) .nil) (.seq .nil (.seq .nil (.seq .nil (.seq .nil (.seq .nil (.seq .nil (.seq (.reg [(.n, ⟨[.bool], [(2, .one (.h 0))], [], []⟩)]) .nil))))))))))))))
def env_l_FnDiamond : Env := envOf ti [k_s_DrawCarryChange, k_i_CarryChange, k_s_CarryChange, k_l_sameParts, k_s_LengthsOf, k_l_fill, k_i_ApplyChange]
theorem eok_l_FnDiamond : EnvOk Try.prog env_l_FnDiamond := envOf_ok tab mix _ (by
  intro k hk
  simp only [List.mem_cons, List.not_mem_nil, or_false] at hk
  rcases hk with rfl | rfl | rfl | rfl | rfl | rfl | rfl
  · exact s_s_DrawCarryChange
  · exact s_i_CarryChange
  · exact s_s_CarryChange
  · exact s_l_sameParts
  · exact s_s_LengthsOf
  · exact s_l_fill
  · exact s_i_ApplyChange)
theorem v_l_FnDiamond (x0 : List Int) : (vfun env_l_FnDiamond Try.f7 J_l_FnDiamond ann_l_FnDiamond [.one ⟨.sl false 5 (.int .u8), x0⟩] []).run = (G.l_FnDiamond x0).bind fun y => some (Res.mk [.one ⟨.bool, y⟩] []) := by kernel_rfl
def k_l_FnDiamond : Kn := ⟨7, [false], fun args rows => match args, rows with
  | [.one ⟨.sl false 5 (.int .u8), x0⟩], [] => some ⟨_, G.l_FnDiamond x0, fun y => ⟨[.one ⟨.bool, y⟩], []⟩⟩
  | _, _ => none⟩
theorem s_l_FnDiamond : KnOk Try.prog k_l_FnDiamond := by
  intro args rows a h y hy
  simp only [k_l_FnDiamond] at h
  split at h
  · injection h with h
    subst h
    exact vfun_ok eok_l_FnDiamond Try.func7 rfl (by rw [v_l_FnDiamond]; simp only at hy; rw [hy]; rfl)
  · cases h

def J_s_DrawComposeChanges : Joins := [(.r, ⟨[.sl true 105 (.pair (.int .i64) (.pair (.int .i64) .str)), .sl true 105 (.pair (.int .i64) (.pair (.int .i64) .str))], [(2, .one (.vw 129026)), (3, .one (.vw 129027))], [], [(129026, 0), (129027, 1)]⟩)]
def ann_s_DrawComposeChanges : Ann := .seq .nil (.seq .nil (.seq .nil (.seq .nil (.seq (.seq .nil (.cond [(.n, ⟨[.sl true 105 (.pair (.int .i64) (.pair (.int .i64) .str)), .int .i64, .sl false 5 (.int .u8), .int .i64, .int .u64], [(4, .pl 9 0), (5, .one (.vw 129024)), (6, .one (.h 1))], [(9, [.h 2, .h 3, .h 4])], [(129024, 0)]⟩)] .nil .nil)) (.seq (.seq .nil (.cond [(.n, ⟨[.sl true 105 (.pair (.int .i64) (.pair (.int .i64) .str)), .int .i64, .sl false 5 (.int .u8), .int .i64, .int .u64], [(4, .pl 9 0), (5, .one (.vw 129025)), (6, .one (.h 1))], [(9, [.h 2, .h 3, .h 4])], [(129025, 0)]⟩)] .nil .nil)) .nil)))))
def env_s_DrawComposeChanges : Env := envOf ti [k_s_l1Cur_size_f, k_s_l1Cur_changeOf_f, k_s_GoodChange, k_s_l1Target, k_s_l1Cur_one_f]
theorem eok_s_DrawComposeChanges : EnvOk Try.prog env_s_DrawComposeChanges := envOf_ok tab mix _ (by
  intro k hk
  simp only [List.mem_cons, List.not_mem_nil, or_false] at hk
  rcases hk with rfl | rfl | rfl | rfl | rfl
  · exact s_s_l1Cur_size_f
  · exact s_s_l1Cur_changeOf_f
  · exact s_s_GoodChange
  · exact s_s_l1Target
  · exact s_s_l1Cur_one_f)
theorem v_s_DrawComposeChanges (x0 : List Int) : (vfun env_s_DrawComposeChanges Try.f42 J_s_DrawComposeChanges ann_s_DrawComposeChanges [.one ⟨.sl false 5 (.int .u8), x0⟩] []).run = (G.s_DrawComposeChanges x0).bind fun y => some (Res.mk [.one ⟨.sl true 105 (.pair (.int .i64) (.pair (.int .i64) .str)), y.1⟩, .one ⟨.sl true 105 (.pair (.int .i64) (.pair (.int .i64) .str)), y.2⟩] []) := by kernel_rfl
def k_s_DrawComposeChanges : Kn := ⟨42, [false], fun args rows => match args, rows with
  | [.one ⟨.sl false 5 (.int .u8), x0⟩], [] => some ⟨_, G.s_DrawComposeChanges x0, fun y => ⟨[.one ⟨.sl true 105 (.pair (.int .i64) (.pair (.int .i64) .str)), y.1⟩, .one ⟨.sl true 105 (.pair (.int .i64) (.pair (.int .i64) .str)), y.2⟩], []⟩⟩
  | _, _ => none⟩
theorem s_s_DrawComposeChanges : KnOk Try.prog k_s_DrawComposeChanges := by
  intro args rows a h y hy
  simp only [k_s_DrawComposeChanges] at h
  split at h
  · injection h with h
    subst h
    exact vfun_ok eok_s_DrawComposeChanges Try.func42 rfl (by rw [v_s_DrawComposeChanges]; simp only at hy; rw [hy]; rfl)
  · cases h

def J_s_l1Close : Joins := [(.r, ⟨[.sl true 105 (.pair (.int .i64) (.pair (.int .i64) .str))], [(2, .one (.vw 139331))], [], [(139331, 0)]⟩)]
def ann_s_l1Close : Ann := .seq .nil (.seq .nil (.seq (.seq .nil (.block [] (.loop ⟨[.sl true 105 (.pair (.int .i64) (.pair (.int .i64) .str)), .sl false 9 .str, .int .i64, .int .i64, .sl false 4 .bool, .sl false 9 .str], [(1, .pl 1 0), (3, .one (.vw 139264)), (7, .one (.h 1)), (8, .one (.h 2)), (9, .one (.h 3))], [(1, [.h 4, .h 5])], [(139264, 0)]⟩ [(.x 0, ⟨[.sl true 105 (.pair (.int .i64) (.pair (.int .i64) .str))], [(3, .one (.vw 139330))], [], [(139330, 0)]⟩)] (.seq .nil (.seq .nil (.seq (.block [] (.seq .nil (.seq .nil (.seq .nil (.cond [(.n, ⟨[.sl true 105 (.pair (.int .i64) (.pair (.int .i64) .str)), .sl false 9 .str, .int .i64, .int .i64, .sl false 4 .bool, .sl false 9 .str], [(1, .pl 1 0), (3, .one (.vw 139329)), (7, .one (.h 1)), (8, .one (.h 2)), (9, .one (.h 3))], [(1, [.h 4, .h 5])], [(139329, 0)]⟩)] (.seq .nil (.cond [(.n, ⟨[.sl true 105 (.pair (.int .i64) (.pair (.int .i64) .str)), .sl false 9 .str, .int .i64, .int .i64, .sl false 4 .bool, .sl false 9 .str], [(1, .pl 1 0), (3, .one (.vw 139328)), (7, .one (.h 1)), (8, .one (.h 2)), (9, .one (.h 3))], [(1, [.h 4, .h 5])], [(139328, 0)]⟩)] .nil .nil)) .nil))))) .nil)))))) .nil))
def env_s_l1Close : Env := envOf ti [k_s_l1Add]
theorem eok_s_l1Close : EnvOk Try.prog env_s_l1Close := envOf_ok tab mix _ (by
  intro k hk
  simp only [List.mem_cons, List.not_mem_nil, or_false] at hk
  rcases hk with rfl
  · exact s_s_l1Add)
theorem v_s_l1Close (x0 : List Bool) (x1 : List (List UInt8)) : (vfun env_s_l1Close Try.f100 J_s_l1Close ann_s_l1Close [.ag [⟨.sl false 4 .bool, x0⟩, ⟨.sl false 9 .str, x1⟩]] []).run = (G.s_l1Close x0 x1).bind fun y => some (Res.mk [.one ⟨.sl true 105 (.pair (.int .i64) (.pair (.int .i64) .str)), y⟩] []) := by kernel_rfl
def k_s_l1Close : Kn := ⟨100, [false], fun args rows => match args, rows with
  | [.ag [⟨.sl false 4 .bool, x0⟩, ⟨.sl false 9 .str, x1⟩]], [] => some ⟨_, G.s_l1Close x0 x1, fun y => ⟨[.one ⟨.sl true 105 (.pair (.int .i64) (.pair (.int .i64) .str)), y⟩], []⟩⟩
  | _, _ => none⟩
theorem s_s_l1Close : KnOk Try.prog k_s_l1Close := by
  intro args rows a h y hy
  simp only [k_s_l1Close] at h
  split at h
  · injection h with h
    subst h
    exact vfun_ok eok_s_l1Close Try.func100 rfl (by rw [v_s_l1Close]; simp only at hy; rw [hy]; rfl)
  · cases h

def J_s_l1Compose : Joins := [(.r, ⟨[.sl true 105 (.pair (.int .i64) (.pair (.int .i64) .str))], [(4, .one (.vw 219286))], [], [(219286, 0)]⟩)]
def ann_s_l1Compose : Ann := .seq .nil (.seq .nil (.seq .nil (.seq .nil (.seq .nil (.seq .nil (.seq (.seq .nil (.block [] (.loop ⟨[.int .i64, .sl true 9 .str, .int .i64, .int .i64, .sl true 4 .bool, .sl true 4 .bool, .sl true 9 .str, .sl true 4 .bool, .sl true 9 .str], [(5, .pl 5 0), (6, .pl 6 0), (7, .pl 7 0), (8, .one (.h 0)), (29, .one (.vw 219136)), (30, .one (.h 2)), (31, .one (.h 3))], [(5, [.vw 219137, .vw 219136]), (6, [.vw 219138, .vw 219139]), (7, [.vw 219140, .vw 219141])], [(219136, 1), (219137, 4), (219138, 5), (219139, 6), (219140, 7), (219141, 8)]⟩ [(.x 0, ⟨[.sl true 4 .bool, .sl true 9 .str], [(7, .pl 7 0)], [(7, [.vw 219284, .vw 219285])], [(219284, 0), (219285, 1)]⟩)] (.seq .nil (.seq .nil (.seq (.block [(.n, ⟨[.int .i64, .sl true 9 .str, .int .i64, .int .i64, .sl true 4 .bool, .sl true 4 .bool, .sl true 9 .str, .sl true 4 .bool, .sl true 9 .str], [(5, .pl 5 0), (6, .pl 6 0), (7, .pl 7 0), (8, .one (.h 0)), (29, .one (.vw 219276)), (30, .one (.h 2)), (31, .one (.h 3))], [(5, [.vw 219277, .vw 219276]), (6, [.vw 219278, .vw 219279]), (7, [.vw 219280, .vw 219281])], [(219276, 1), (219277, 4), (219278, 5), (219279, 6), (219280, 7), (219281, 8)]⟩), (.x 0, ⟨[.sl true 4 .bool, .sl true 9 .str], [(7, .pl 7 0)], [(7, [.vw 219282, .vw 219283])], [(219282, 0), (219283, 1)]⟩)] (.seq .nil (.seq (.seq .nil (.block [] (.loop ⟨[.int .i64, .int .i64, .str, .int .i64, .sl true 9 .str, .int .i64, .int .i64, .sl true 4 .bool, .sl true 4 .bool, .sl true 9 .str, .sl true 4 .bool, .sl true 9 .str], [(5, .pl 5 0), (6, .pl 6 0), (7, .pl 7 0), (8, .one (.h 0)), (9, .one (.h 1)), (10, .one (.h 2)), (11, .one (.h 3)), (29, .one (.vw 219200)), (30, .one (.h 5)), (31, .one (.h 6))], [(5, [.vw 219201, .vw 219200]), (6, [.vw 219202, .vw 219203]), (7, [.vw 219204, .vw 219205])], [(219200, 4), (219201, 7), (219202, 8), (219203, 9), (219204, 10), (219205, 11)]⟩ [(.x 2, ⟨[.int .i64, .int .i64, .sl true 9 .str, .int .i64, .int .i64, .sl true 4 .bool, .sl true 4 .bool, .sl true 9 .str, .sl true 4 .bool, .sl true 9 .str], [(5, .pl 5 0), (6, .pl 6 0), (7, .pl 7 0), (8, .one (.h 0)), (9, .one (.h 1)), (29, .one (.vw 219270)), (30, .one (.h 3)), (31, .one (.h 4))], [(5, [.vw 219271, .vw 219270]), (6, [.vw 219272, .vw 219273]), (7, [.vw 219274, .vw 219275])], [(219270, 2), (219271, 5), (219272, 6), (219273, 7), (219274, 8), (219275, 9)]⟩)] (.seq .nil (.seq (.block [] (.seq (.seq .nil (.cond [(.n, ⟨[.int .i64, .int .i64, .str, .int .i64, .sl true 9 .str, .int .i64, .int .i64, .sl true 4 .bool, .sl true 4 .bool, .sl true 9 .str, .sl true 4 .bool, .sl true 9 .str], [(5, .pl 5 0), (6, .pl 6 0), (7, .pl 7 0), (8, .one (.h 0)), (9, .one (.h 1)), (10, .one (.h 2)), (11, .one (.h 3)), (29, .one (.vw 219264)), (30, .one (.h 5)), (31, .one (.h 6))], [(5, [.vw 219265, .vw 219264]), (6, [.vw 219266, .vw 219267]), (7, [.vw 219268, .vw 219269])], [(219264, 4), (219265, 7), (219266, 8), (219267, 9), (219268, 10), (219269, 11)]⟩)] .nil .nil)) .nil)) .nil))))) .nil))) .nil)))))) .nil))))))
def env_s_l1Compose : Env := envOf ti [k_s_l1Open, k_s_l1Close]
theorem eok_s_l1Compose : EnvOk Try.prog env_s_l1Compose := envOf_ok tab mix _ (by
  intro k hk
  simp only [List.mem_cons, List.not_mem_nil, or_false] at hk
  rcases hk with rfl | rfl
  · exact s_s_l1Open
  · exact s_s_l1Close)
theorem v_s_l1Compose (x0 : List (Int × (Int × List UInt8))) (x1 : List (Int × (Int × List UInt8))) : (vfun env_s_l1Compose Try.f88 J_s_l1Compose ann_s_l1Compose [.one ⟨.sl false 105 (.pair (.int .i64) (.pair (.int .i64) .str)), x0⟩, .one ⟨.sl false 105 (.pair (.int .i64) (.pair (.int .i64) .str)), x1⟩] []).run = (G.s_l1Compose x0 x1).bind fun y => some (Res.mk [.one ⟨.sl true 105 (.pair (.int .i64) (.pair (.int .i64) .str)), y⟩] []) := by kernel_rfl
def k_s_l1Compose : Kn := ⟨88, [false, false], fun args rows => match args, rows with
  | [.one ⟨.sl false 105 (.pair (.int .i64) (.pair (.int .i64) .str)), x0⟩, .one ⟨.sl false 105 (.pair (.int .i64) (.pair (.int .i64) .str)), x1⟩], [] => some ⟨_, G.s_l1Compose x0 x1, fun y => ⟨[.one ⟨.sl true 105 (.pair (.int .i64) (.pair (.int .i64) .str)), y⟩], []⟩⟩
  | _, _ => none⟩
theorem s_s_l1Compose : KnOk Try.prog k_s_l1Compose := by
  intro args rows a h y hy
  simp only [k_s_l1Compose] at h
  split at h
  · injection h with h
    subst h
    exact vfun_ok eok_s_l1Compose Try.func88 rfl (by rw [v_s_l1Compose]; simp only at hy; rw [hy]; rfl)
  · cases h

def J_s_ComposeChanges : Joins := [(.r, ⟨[.sl true 105 (.pair (.int .i64) (.pair (.int .i64) .str)), .bool], [(4, .one (.vw 126976)), (5, .one (.h 1))], [], [(126976, 0)]⟩)]
def ann_s_ComposeChanges : Ann := .seq .nil (.seq (.seq (.reg [(.n, ⟨[.sl false 105 (.pair (.int .i64) (.pair (.int .i64) .str)), .sl false 105 (.pair (.int .i64) (.pair (.int .i64) .str)), .bool], [(0, .one (.h 0)), (1, .one (.h 1)), (20, .one (.h 2))], [], []⟩)]) .nil) .nil)
def env_s_ComposeChanges : Env := envOf ti [k_s_GoodChange, k_s_l1Target, k_s_l1Source, k_s_l1Compose]
theorem eok_s_ComposeChanges : EnvOk Try.prog env_s_ComposeChanges := envOf_ok tab mix _ (by
  intro k hk
  simp only [List.mem_cons, List.not_mem_nil, or_false] at hk
  rcases hk with rfl | rfl | rfl | rfl
  · exact s_s_GoodChange
  · exact s_s_l1Target
  · exact s_s_l1Source
  · exact s_s_l1Compose)
theorem v_s_ComposeChanges (x0 : List (Int × (Int × List UInt8))) (x1 : List (Int × (Int × List UInt8))) : (vfun env_s_ComposeChanges Try.f43 J_s_ComposeChanges ann_s_ComposeChanges [.one ⟨.sl false 105 (.pair (.int .i64) (.pair (.int .i64) .str)), x0⟩, .one ⟨.sl false 105 (.pair (.int .i64) (.pair (.int .i64) .str)), x1⟩] []).run = (G.s_ComposeChanges x0 x1).bind fun y => some (Res.mk [.one ⟨.sl true 105 (.pair (.int .i64) (.pair (.int .i64) .str)), y.1⟩, .one ⟨.bool, y.2⟩] []) := by kernel_rfl
def k_s_ComposeChanges : Kn := ⟨43, [false, false], fun args rows => match args, rows with
  | [.one ⟨.sl false 105 (.pair (.int .i64) (.pair (.int .i64) .str)), x0⟩, .one ⟨.sl false 105 (.pair (.int .i64) (.pair (.int .i64) .str)), x1⟩], [] => some ⟨_, G.s_ComposeChanges x0 x1, fun y => ⟨[.one ⟨.sl true 105 (.pair (.int .i64) (.pair (.int .i64) .str)), y.1⟩, .one ⟨.bool, y.2⟩], []⟩⟩
  | _, _ => none⟩
theorem s_s_ComposeChanges : KnOk Try.prog k_s_ComposeChanges := by
  intro args rows a h y hy
  simp only [k_s_ComposeChanges] at h
  split at h
  · injection h with h
    subst h
    exact vfun_ok eok_s_ComposeChanges Try.func43 rfl (by rw [v_s_ComposeChanges]; simp only at hy; rw [hy]; rfl)
  · cases h

def J_s_ChangeFor : Joins := [(.r, ⟨[.sl true 105 (.pair (.int .i64) (.pair (.int .i64) .str))], [(4, .one (.vw 120832))], [], [(120832, 0)]⟩)]
def ann_s_ChangeFor : Ann := .seq .nil (.seq .nil (.seq (.seq (.reg [(.n, ⟨[.int .i64, .bool, .sl false 5 (.int .u8), .int .i64, .int .u64], [(1, .one (.h 0)), (5, .pl 8 0), (14, .one (.h 1))], [(8, [.h 2, .h 3, .h 4])], []⟩)]) (.cond [(.n, ⟨[.int .i64, .sl false 5 (.int .u8), .int .i64, .int .u64], [(1, .one (.h 0)), (5, .pl 8 0)], [(8, [.h 1, .h 2, .h 3])], []⟩)] .nil .nil)) .nil))
def env_s_ChangeFor : Env := envOf ti [k_s_l1Cur_changeOf_f]
theorem eok_s_ChangeFor : EnvOk Try.prog env_s_ChangeFor := envOf_ok tab mix _ (by
  intro k hk
  simp only [List.mem_cons, List.not_mem_nil, or_false] at hk
  rcases hk with rfl
  · exact s_s_l1Cur_changeOf_f)
theorem v_s_ChangeFor (x0 : List Int) (x1 : Int) : (vfun env_s_ChangeFor Try.f44 J_s_ChangeFor ann_s_ChangeFor [.one ⟨.sl false 5 (.int .u8), x0⟩, .one ⟨.int .i64, x1⟩] []).run = (G.s_ChangeFor x0 x1).bind fun y => some (Res.mk [.one ⟨.sl true 105 (.pair (.int .i64) (.pair (.int .i64) .str)), y⟩] []) := by kernel_rfl
def k_s_ChangeFor : Kn := ⟨44, [false, false], fun args rows => match args, rows with
  | [.one ⟨.sl false 5 (.int .u8), x0⟩, .one ⟨.int .i64, x1⟩], [] => some ⟨_, G.s_ChangeFor x0 x1, fun y => ⟨[.one ⟨.sl true 105 (.pair (.int .i64) (.pair (.int .i64) .str)), y⟩], []⟩⟩
  | _, _ => none⟩
theorem s_s_ChangeFor : KnOk Try.prog k_s_ChangeFor := by
  intro args rows a h y hy
  simp only [k_s_ChangeFor] at h
  split at h
  · injection h with h
    subst h
    exact vfun_ok eok_s_ChangeFor Try.func44 rfl (by rw [v_s_ChangeFor]; simp only at hy; rw [hy]; rfl)
  · cases h

def J_l_FnCarried : Joins := [(.r, ⟨[.bool], [(4, .one (.h 0))], [], []⟩)]
def ann_l_FnCarried : Ann := .seq .nil (.seq .nil (.seq .nil (.seq .nil (.seq .nil (.seq .nil (.seq (.seq (.reg [(.n, ⟨[.sl true 105 (.pair (.int .i64) (.pair (.int .i64) .str)), .sl true 105 (.pair (.int .i64) (.pair (.int .i64) .str)), .sl true 105 (.pair (.int .i64) (.pair (.int .i64) .str)), .sl true 105 (.pair (.int .i64) (.pair (.int .i64) .str)), .bool], [(5, .one (.vw 208896)), (6, .one (.vw 208897)), (10, .one (.vw 208898)), (12, .one (.vw 208899)), (57, .one (.h 4))], [], [(208896, 0), (208897, 1), (208898, 2), (208899, 3)]⟩)]) .nil) (.seq .nil (.seq .nil (.seq (.seq (.reg [(.n, ⟨[.sl true 105 (.pair (.int .i64) (.pair (.int .i64) .str)), .sl true 105 (.pair (.int .i64) (.pair (.int .i64) .str)), .sl true 105 (.pair (.int .i64) (.pair (.int .i64) .str)), .sl true 105 (.pair (.int .i64) (.pair (.int .i64) .str)), .bool, .bool], [(6, .one (.vw 208900)), (10, .one (.vw 208901)), (12, .one (.vw 208902)), (13, .one (.vw 208903)), (14, .one (.h 4)), (78, .one (.h 5))], [], [(208900, 0), (208901, 1), (208902, 2), (208903, 3)]⟩)]) .nil) (.seq .nil (.seq .nil (.seq (.seq (.reg [(.n, ⟨[.sl true 105 (.pair (.int .i64) (.pair (.int .i64) .str)), .sl true 105 (.pair (.int .i64) (.pair (.int .i64) .str)), .bool], [(17, .one (.vw 208904)), (19, .one (.vw 208905)), (100, .one (.h 2))], [], [(208904, 0), (208905, 1)]⟩)]) .nil) .nil))))))))))))
def env_l_FnCarried : Env := envOf ti [k_s_DrawComposeChanges, k_s_LengthsOf, k_s_ComposeChanges, k_s_ChangeFor, k_s_GoodChange, k_i_CarryChange, k_s_CarryChange, k_l_sameParts]
theorem eok_l_FnCarried : EnvOk Try.prog env_l_FnCarried := envOf_ok tab mix _ (by
  intro k hk
  simp only [List.mem_cons, List.not_mem_nil, or_false] at hk
  rcases hk with rfl | rfl | rfl | rfl | rfl | rfl | rfl | rfl
  · exact s_s_DrawComposeChanges
  · exact s_s_LengthsOf
  · exact s_s_ComposeChanges
  · exact s_s_ChangeFor
  · exact s_s_GoodChange
  · exact s_i_CarryChange
  · exact s_s_CarryChange
  · exact s_l_sameParts)
theorem v_l_FnCarried (x0 : List Int) (x1 : List Int) : (vfun env_l_FnCarried Try.f9 J_l_FnCarried ann_l_FnCarried [.one ⟨.sl false 5 (.int .u8), x0⟩, .one ⟨.sl false 5 (.int .u8), x1⟩] []).run = (G.l_FnCarried x0 x1).bind fun y => some (Res.mk [.one ⟨.bool, y⟩] []) := by kernel_rfl
def k_l_FnCarried : Kn := ⟨9, [false, false], fun args rows => match args, rows with
  | [.one ⟨.sl false 5 (.int .u8), x0⟩, .one ⟨.sl false 5 (.int .u8), x1⟩], [] => some ⟨_, G.l_FnCarried x0 x1, fun y => ⟨[.one ⟨.bool, y⟩], []⟩⟩
  | _, _ => none⟩
theorem s_l_FnCarried : KnOk Try.prog k_l_FnCarried := by
  intro args rows a h y hy
  simp only [k_l_FnCarried] at h
  split at h
  · injection h with h
    subst h
    exact vfun_ok eok_l_FnCarried Try.func9 rfl (by rw [v_l_FnCarried]; simp only at hy; rw [hy]; rfl)
  · cases h

def J_i_told_parts : Joins := [(.r, ⟨[.sl true 105 (.pair (.int .i64) (.pair (.int .i64) .str))], [(2, .one (.vw 142404))], [], [(142404, 0)]⟩)]
def ann_i_told_parts : Ann := .seq .nil (.seq .nil (.seq (.seq .nil (.block [] (.loop ⟨[.sl false 9 .str, .int .i64, .int .i64, .sl false 4 .bool, .sl false 9 .str, .sl true 105 (.pair (.int .i64) (.pair (.int .i64) .str))], [(1, .pl 1 0), (3, .pl 3 0), (8, .one (.h 0)), (9, .one (.h 1)), (10, .one (.h 2))], [(1, [.h 3, .h 4]), (3, [.vw 142336])], [(142336, 5)]⟩ [(.x 0, ⟨[.sl true 105 (.pair (.int .i64) (.pair (.int .i64) .str))], [(3, .pl 3 0)], [(3, [.vw 142403])], [(142403, 0)]⟩)] (.seq .nil (.seq .nil (.seq (.block [] (.seq .nil (.seq (.seq .nil (.cond [(.n, ⟨[.int .i64, .sl false 9 .str, .int .i64, .int .i64, .sl false 4 .bool, .sl false 9 .str, .sl true 105 (.pair (.int .i64) (.pair (.int .i64) .str))], [(1, .pl 1 0), (3, .pl 3 0), (4, .one (.h 0)), (8, .one (.h 1)), (9, .one (.h 2)), (10, .one (.h 3))], [(1, [.h 4, .h 5]), (3, [.vw 142400])], [(142400, 6)]⟩)] .nil .nil)) (.block [] (.seq .nil (.cond [(.n, ⟨[.sl false 9 .str, .int .i64, .int .i64, .sl false 4 .bool, .sl false 9 .str, .sl true 105 (.pair (.int .i64) (.pair (.int .i64) .str))], [(1, .pl 1 0), (3, .pl 3 0), (8, .one (.h 0)), (9, .one (.h 1)), (10, .one (.h 2))], [(1, [.h 3, .h 4]), (3, [.vw 142402])], [(142402, 5)]⟩)] .nil (.seq .nil (.cond [(.n, ⟨[.sl false 9 .str, .int .i64, .int .i64, .sl false 4 .bool, .sl false 9 .str, .sl true 105 (.pair (.int .i64) (.pair (.int .i64) .str))], [(1, .pl 1 0), (3, .pl 3 0), (8, .one (.h 0)), (9, .one (.h 1)), (10, .one (.h 2))], [(1, [.h 3, .h 4]), (3, [.vw 142401])], [(142401, 5)]⟩)] .nil .nil)))))))) .nil)))))) .nil))
def env_i_told_parts : Env := envOf ti [k_i_builder_add_o]
theorem eok_i_told_parts : EnvOk Try.prog env_i_told_parts := envOf_ok tab mix _ (by
  intro k hk
  simp only [List.mem_cons, List.not_mem_nil, or_false] at hk
  rcases hk with rfl
  · exact s_i_builder_add_o)
theorem v_i_told_parts (x0 : List Bool) (x1 : List (List UInt8)) : (vfun env_i_told_parts Try.f101 J_i_told_parts ann_i_told_parts [.ag [⟨.sl false 4 .bool, x0⟩, ⟨.sl false 9 .str, x1⟩]] []).run = (G.i_told_parts x0 x1).bind fun y => some (Res.mk [.one ⟨.sl true 105 (.pair (.int .i64) (.pair (.int .i64) .str)), y⟩] []) := by kernel_rfl
def k_i_told_parts : Kn := ⟨101, [false], fun args rows => match args, rows with
  | [.ag [⟨.sl false 4 .bool, x0⟩, ⟨.sl false 9 .str, x1⟩]], [] => some ⟨_, G.i_told_parts x0 x1, fun y => ⟨[.one ⟨.sl true 105 (.pair (.int .i64) (.pair (.int .i64) .str)), y⟩], []⟩⟩
  | _, _ => none⟩
theorem s_i_told_parts : KnOk Try.prog k_i_told_parts := by
  intro args rows a h y hy
  simp only [k_i_told_parts] at h
  split at h
  · injection h with h
    subst h
    exact vfun_ok eok_i_told_parts Try.func101 rfl (by rw [v_i_told_parts]; simp only at hy; rw [hy]; rfl)
  · cases h
end
end Go.Proofs.Ytdicgiljgelkfaa
