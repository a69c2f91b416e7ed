import Derived.Test.YtdicgiljgelkfaaW0
set_option linter.unusedVariables false
set_option maxRecDepth 100000
namespace Go.Proofs.Ytdicgiljgelkfaa
open Go.V
noncomputable section
def J_l_szPart : Joins := [(.r, ⟨[.int .i64], [(4, .one (.h 0))], [], []⟩)]
def ann_l_szPart : Ann := .nil
def env_l_szPart : Env := envOf ti []
theorem eok_l_szPart : EnvOk Try.prog env_l_szPart := envOf_ok tab mix _ (by
  intro k hk; cases hk)
theorem v_l_szPart (x0 : Int) (x1 : Int) (x2 : List UInt8) (x3 : Int) : (vfun env_l_szPart Try.f90 J_l_szPart ann_l_szPart [.ag [⟨.int .i64, x0⟩, ⟨.int .i64, x1⟩, ⟨.str, x2⟩], .one ⟨.int .i64, x3⟩] []).run = (G.l_szPart x0 x1 x2 x3).bind fun y => some (Res.mk [.one ⟨.int .i64, y⟩] []) := by kernel_rfl
def k_l_szPart : Kn := ⟨90, [false, false], fun args rows => match args, rows with
  | [.ag [⟨.int .i64, x0⟩, ⟨.int .i64, x1⟩, ⟨.str, x2⟩], .one ⟨.int .i64, x3⟩], [] => some ⟨_, G.l_szPart x0 x1 x2 x3, fun y => ⟨[.one ⟨.int .i64, y⟩], []⟩⟩
  | _, _ => none⟩
theorem s_l_szPart : KnOk Try.prog k_l_szPart := by
  intro args rows a h y hy
  simp only [k_l_szPart] at h
  split at h
  · injection h with h
    subst h
    exact vfun_ok eok_l_szPart Try.func90 rfl (by rw [v_l_szPart]; simp only at hy; rw [hy]; rfl)
  · cases h

def J_l_szPartS : Joins := [(.r, ⟨[.int .i64], [(4, .one (.h 0))], [], []⟩)]
def ann_l_szPartS : Ann := .seq .nil (.seq .nil (.seq .nil (.seq (.seq .nil (.block [] (.loop ⟨[.sl false 119 (.pair (.int .i64) (.pair (.int .i64) .str)), .int .i64, .int .i64], [(0, .one (.h 0)), (1, .one (.h 1)), (5, .one (.h 2))], [], []⟩ [(.x 0, ⟨[.int .i64], [(1, .one (.h 0))], [], []⟩), (.r, ⟨[.int .i64], [(4, .one (.h 0))], [], []⟩)] .nil))) .nil)))
def env_l_szPartS : Env := envOf ti [k_l_szPart]
theorem eok_l_szPartS : EnvOk Try.prog env_l_szPartS := envOf_ok tab mix _ (by
  intro k hk
  simp only [List.mem_cons, List.not_mem_nil, or_false] at hk
  rcases hk with rfl
  · exact s_l_szPart)
theorem v_l_szPartS (x0 : List (Int × (Int × List UInt8))) (x1 : Int) : (vfun env_l_szPartS Try.f47 J_l_szPartS ann_l_szPartS [.one ⟨.sl false 119 (.pair (.int .i64) (.pair (.int .i64) .str)), x0⟩, .one ⟨.int .i64, x1⟩] []).run = (G.l_szPartS x0 x1).bind fun y => some (Res.mk [.one ⟨.int .i64, y⟩] []) := by kernel_rfl
def k_l_szPartS : Kn := ⟨47, [false, false], fun args rows => match args, rows with
  | [.one ⟨.sl false 119 (.pair (.int .i64) (.pair (.int .i64) .str)), x0⟩, .one ⟨.int .i64, x1⟩], [] => some ⟨_, G.l_szPartS x0 x1, fun y => ⟨[.one ⟨.int .i64, y⟩], []⟩⟩
  | _, _ => none⟩
theorem s_l_szPartS : KnOk Try.prog k_l_szPartS := by
  intro args rows a h y hy
  simp only [k_l_szPartS] at h
  split at h
  · injection h with h
    subst h
    exact vfun_ok eok_l_szPartS Try.func47 rfl (by rw [v_l_szPartS]; simp only at hy; rw [hy]; rfl)
  · cases h

def J_l_szCall : Joins := [(.r, ⟨[.int .i64], [(4, .one (.h 0))], [], []⟩)]
def ann_l_szCall : Ann := .nil
def env_l_szCall : Env := envOf ti [k_l_szPartS]
theorem eok_l_szCall : EnvOk Try.prog env_l_szCall := envOf_ok tab mix _ (by
  intro k hk
  simp only [List.mem_cons, List.not_mem_nil, or_false] at hk
  rcases hk with rfl
  · exact s_l_szPartS)
theorem v_l_szCall (x0 : Int) (x1 : Int) (x2 : List (Int × (Int × List UInt8))) (x3 : Int) : (vfun env_l_szCall Try.f11 J_l_szCall ann_l_szCall [.ag [⟨.int .i64, x0⟩, ⟨.int .i64, x1⟩, ⟨.sl false 119 (.pair (.int .i64) (.pair (.int .i64) .str)), x2⟩], .one ⟨.int .i64, x3⟩] []).run = (G.l_szCall x0 x1 x2 x3).bind fun y => some (Res.mk [.one ⟨.int .i64, y⟩] []) := by kernel_rfl
def k_l_szCall : Kn := ⟨11, [false, false], fun args rows => match args, rows with
  | [.ag [⟨.int .i64, x0⟩, ⟨.int .i64, x1⟩, ⟨.sl false 119 (.pair (.int .i64) (.pair (.int .i64) .str)), x2⟩], .one ⟨.int .i64, x3⟩], [] => some ⟨_, G.l_szCall x0 x1 x2 x3, fun y => ⟨[.one ⟨.int .i64, y⟩], []⟩⟩
  | _, _ => none⟩
theorem s_l_szCall : KnOk Try.prog k_l_szCall := by
  intro args rows a h y hy
  simp only [k_l_szCall] at h
  split at h
  · injection h with h
    subst h
    exact vfun_ok eok_l_szCall Try.func11 rfl (by rw [v_l_szCall]; simp only at hy; rw [hy]; rfl)
  · cases h

def J_l_toPart : Joins := [(.r, ⟨[.int .i64, .int .i64, .str], [(2, .pl 2 0)], [(2, [.h 0, .h 1, .h 2])], []⟩)]
def ann_l_toPart : Ann := .nil
def env_l_toPart : Env := envOf ti []
theorem eok_l_toPart : EnvOk Try.prog env_l_toPart := envOf_ok tab mix _ (by
  intro k hk; cases hk)
theorem v_l_toPart (x0 : Int) (x1 : Int) (x2 : List UInt8) : (vfun env_l_toPart Try.f91 J_l_toPart ann_l_toPart [.ag [⟨.int .i64, x0⟩, ⟨.int .i64, x1⟩, ⟨.str, x2⟩]] []).run = (G.l_toPart x0 x1 x2).bind fun y => some (Res.mk [.ag [⟨.int .i64, y.1⟩, ⟨.int .i64, y.2.1⟩, ⟨.str, y.2.2⟩]] []) := by kernel_rfl
def k_l_toPart : Kn := ⟨91, [false], fun args rows => match args, rows with
  | [.ag [⟨.int .i64, x0⟩, ⟨.int .i64, x1⟩, ⟨.str, x2⟩]], [] => some ⟨_, G.l_toPart x0 x1 x2, fun y => ⟨[.ag [⟨.int .i64, y.1⟩, ⟨.int .i64, y.2.1⟩, ⟨.str, y.2.2⟩]], []⟩⟩
  | _, _ => none⟩
theorem s_l_toPart : KnOk Try.prog k_l_toPart := by
  intro args rows a h y hy
  simp only [k_l_toPart] at h
  split at h
  · injection h with h
    subst h
    exact vfun_ok eok_l_toPart Try.func91 rfl (by rw [v_l_toPart]; simp only at hy; rw [hy]; rfl)
  · cases h

def J_l_toPartS : Joins := [(.r, ⟨[.sl true 105 (.pair (.int .i64) (.pair (.int .i64) .str))], [(2, .one (.vw 126017))], [], [(126017, 0)]⟩)]
def ann_l_toPartS : Ann := .seq .nil (.seq .nil (.seq (.seq .nil (.block [] (.loop ⟨[.sl false 119 (.pair (.int .i64) (.pair (.int .i64) .str)), .sl true 105 (.pair (.int .i64) (.pair (.int .i64) .str)), .int .i64], [(0, .one (.h 0)), (3, .one (.vw 125952)), (4, .one (.h 2))], [], [(125952, 1)]⟩ [(.x 0, ⟨[.sl true 105 (.pair (.int .i64) (.pair (.int .i64) .str))], [(3, .one (.vw 126016))], [], [(126016, 0)]⟩)] .nil))) .nil))
def env_l_toPartS : Env := envOf ti [k_l_toPart]
theorem eok_l_toPartS : EnvOk Try.prog env_l_toPartS := envOf_ok tab mix _ (by
  intro k hk
  simp only [List.mem_cons, List.not_mem_nil, or_false] at hk
  rcases hk with rfl
  · exact s_l_toPart)
theorem v_l_toPartS (x0 : List (Int × (Int × List UInt8))) : (vfun env_l_toPartS Try.f48 J_l_toPartS ann_l_toPartS [.one ⟨.sl false 119 (.pair (.int .i64) (.pair (.int .i64) .str)), x0⟩] []).run = (G.l_toPartS x0).bind fun y => some (Res.mk [.one ⟨.sl true 105 (.pair (.int .i64) (.pair (.int .i64) .str)), y⟩] []) := by kernel_rfl
def k_l_toPartS : Kn := ⟨48, [false], fun args rows => match args, rows with
  | [.one ⟨.sl false 119 (.pair (.int .i64) (.pair (.int .i64) .str)), x0⟩], [] => some ⟨_, G.l_toPartS x0, fun y => ⟨[.one ⟨.sl true 105 (.pair (.int .i64) (.pair (.int .i64) .str)), y⟩], []⟩⟩
  | _, _ => none⟩
theorem s_l_toPartS : KnOk Try.prog k_l_toPartS := by
  intro args rows a h y hy
  simp only [k_l_toPartS] at h
  split at h
  · injection h with h
    subst h
    exact vfun_ok eok_l_toPartS Try.func48 rfl (by rw [v_l_toPartS]; simp only at hy; rw [hy]; rfl)
  · cases h

def J_l_toCall : Joins := [(.r, ⟨[.int .i64, .int .i64, .sl true 105 (.pair (.int .i64) (.pair (.int .i64) .str))], [(2, .pl 2 0)], [(2, [.h 0, .h 1, .vw 117760])], [(117760, 2)]⟩)]
def ann_l_toCall : Ann := .nil
def env_l_toCall : Env := envOf ti [k_l_toPartS]
theorem eok_l_toCall : EnvOk Try.prog env_l_toCall := envOf_ok tab mix _ (by
  intro k hk
  simp only [List.mem_cons, List.not_mem_nil, or_false] at hk
  rcases hk with rfl
  · exact s_l_toPartS)
theorem v_l_toCall (x0 : Int) (x1 : Int) (x2 : List (Int × (Int × List UInt8))) : (vfun env_l_toCall Try.f13 J_l_toCall ann_l_toCall [.ag [⟨.int .i64, x0⟩, ⟨.int .i64, x1⟩, ⟨.sl false 119 (.pair (.int .i64) (.pair (.int .i64) .str)), x2⟩]] []).run = (G.l_toCall x0 x1 x2).bind fun y => some (Res.mk [.ag [⟨.int .i64, y.1⟩, ⟨.int .i64, y.2.1⟩, ⟨.sl true 105 (.pair (.int .i64) (.pair (.int .i64) .str)), y.2.2⟩]] []) := by kernel_rfl
def k_l_toCall : Kn := ⟨13, [false], fun args rows => match args, rows with
  | [.ag [⟨.int .i64, x0⟩, ⟨.int .i64, x1⟩, ⟨.sl false 119 (.pair (.int .i64) (.pair (.int .i64) .str)), x2⟩]], [] => some ⟨_, G.l_toCall x0 x1 x2, fun y => ⟨[.ag [⟨.int .i64, y.1⟩, ⟨.int .i64, y.2.1⟩, ⟨.sl true 105 (.pair (.int .i64) (.pair (.int .i64) .str)), y.2.2⟩]], []⟩⟩
  | _, _ => none⟩
theorem s_l_toCall : KnOk Try.prog k_l_toCall := by
  intro args rows a h y hy
  simp only [k_l_toCall] at h
  split at h
  · injection h with h
    subst h
    exact vfun_ok eok_l_toCall Try.func13 rfl (by rw [v_l_toCall]; simp only at hy; rw [hy]; rfl)
  · cases h

def J_s_GoodCall : Joins := [(.r, ⟨[.bool], [(2, .one (.h 0))], [], []⟩)]
def ann_s_GoodCall : Ann := .seq .nil (.seq (.reg [(.n, ⟨[.bool], [(2, .one (.h 0))], [], []⟩)]) .nil)
def env_s_GoodCall : Env := envOf ti []
theorem eok_s_GoodCall : EnvOk Try.prog env_s_GoodCall := envOf_ok tab mix _ (by
  intro k hk; cases hk)
theorem v_s_GoodCall (x0 : Int) (x1 : Int) (x2 : List (Int × (Int × List UInt8))) : (vfun env_s_GoodCall Try.f12 J_s_GoodCall ann_s_GoodCall [.ag [⟨.int .i64, x0⟩, ⟨.int .i64, x1⟩, ⟨.sl false 105 (.pair (.int .i64) (.pair (.int .i64) .str)), x2⟩]] []).run = (G.s_GoodCall x0 x1 x2).bind fun y => some (Res.mk [.one ⟨.bool, y⟩] []) := by kernel_rfl
def k_s_GoodCall : Kn := ⟨12, [false], fun args rows => match args, rows with
  | [.ag [⟨.int .i64, x0⟩, ⟨.int .i64, x1⟩, ⟨.sl false 105 (.pair (.int .i64) (.pair (.int .i64) .str)), x2⟩]], [] => some ⟨_, G.s_GoodCall x0 x1 x2, fun y => ⟨[.one ⟨.bool, y⟩], []⟩⟩
  | _, _ => none⟩
theorem s_s_GoodCall : KnOk Try.prog k_s_GoodCall := by
  intro args rows a h y hy
  simp only [k_s_GoodCall] at h
  split at h
  · injection h with h
    subst h
    exact vfun_ok eok_s_GoodCall Try.func12 rfl (by rw [v_s_GoodCall]; simp only at hy; rw [hy]; rfl)
  · cases h

def J_i_GoodCall : Joins := [(.r, ⟨[.bool], [(2, .one (.h 0))], [], []⟩)]
def ann_i_GoodCall : Ann := .seq .nil (.seq (.reg [(.n, ⟨[.bool], [(2, .one (.h 0))], [], []⟩)]) .nil)
def env_i_GoodCall : Env := envOf ti []
theorem eok_i_GoodCall : EnvOk Try.prog env_i_GoodCall := envOf_ok tab mix _ (by
  intro k hk; cases hk)
theorem v_i_GoodCall (x0 : Int) (x1 : Int) (x2 : List (Int × (Int × List UInt8))) : (vfun env_i_GoodCall Try.f14 J_i_GoodCall ann_i_GoodCall [.ag [⟨.int .i64, x0⟩, ⟨.int .i64, x1⟩, ⟨.sl false 105 (.pair (.int .i64) (.pair (.int .i64) .str)), x2⟩]] []).run = (G.i_GoodCall x0 x1 x2).bind fun y => some (Res.mk [.one ⟨.bool, y⟩] []) := by kernel_rfl
def k_i_GoodCall : Kn := ⟨14, [false], fun args rows => match args, rows with
  | [.ag [⟨.int .i64, x0⟩, ⟨.int .i64, x1⟩, ⟨.sl false 105 (.pair (.int .i64) (.pair (.int .i64) .str)), x2⟩]], [] => some ⟨_, G.i_GoodCall x0 x1 x2, fun y => ⟨[.one ⟨.bool, y⟩], []⟩⟩
  | _, _ => none⟩
theorem s_i_GoodCall : KnOk Try.prog k_i_GoodCall := by
  intro args rows a h y hy
  simp only [k_i_GoodCall] at h
  split at h
  · injection h with h
    subst h
    exact vfun_ok eok_i_GoodCall Try.func14 rfl (by rw [v_i_GoodCall]; simp only at hy; rw [hy]; rfl)
  · cases h

def J_l_eqPart : Joins := [(.r, ⟨[.bool], [(4, .one (.h 0))], [], []⟩)]
def ann_l_eqPart : Ann := .nil
def env_l_eqPart : Env := envOf ti []
theorem eok_l_eqPart : EnvOk Try.prog env_l_eqPart := envOf_ok tab mix _ (by
  intro k hk; cases hk)
theorem v_l_eqPart (x0 : Int) (x1 : Int) (x2 : List UInt8) (x3 : Int) (x4 : Int) (x5 : List UInt8) : (vfun env_l_eqPart Try.f92 J_l_eqPart ann_l_eqPart [.ag [⟨.int .i64, x0⟩, ⟨.int .i64, x1⟩, ⟨.str, x2⟩], .ag [⟨.int .i64, x3⟩, ⟨.int .i64, x4⟩, ⟨.str, x5⟩]] []).run = (G.l_eqPart x0 x1 x2 x3 x4 x5).bind fun y => some (Res.mk [.one ⟨.bool, y⟩] []) := by kernel_rfl
def k_l_eqPart : Kn := ⟨92, [false, false], fun args rows => match args, rows with
  | [.ag [⟨.int .i64, x0⟩, ⟨.int .i64, x1⟩, ⟨.str, x2⟩], .ag [⟨.int .i64, x3⟩, ⟨.int .i64, x4⟩, ⟨.str, x5⟩]], [] => some ⟨_, G.l_eqPart x0 x1 x2 x3 x4 x5, fun y => ⟨[.one ⟨.bool, y⟩], []⟩⟩
  | _, _ => none⟩
theorem s_l_eqPart : KnOk Try.prog k_l_eqPart := by
  intro args rows a h y hy
  simp only [k_l_eqPart] at h
  split at h
  · injection h with h
    subst h
    exact vfun_ok eok_l_eqPart Try.func92 rfl (by rw [v_l_eqPart]; simp only at hy; rw [hy]; rfl)
  · cases h

def J_l_eqPartS : Joins := [(.r, ⟨[.bool], [(4, .one (.h 0))], [], []⟩)]
def ann_l_eqPartS : Ann := .seq .nil (.seq .nil (.seq (.seq .nil (.block [] (.loop ⟨[.sl false 105 (.pair (.int .i64) (.pair (.int .i64) .str)), .sl false 105 (.pair (.int .i64) (.pair (.int .i64) .str)), .int .i64], [(0, .one (.h 0)), (1, .one (.h 1)), (5, .one (.h 2))], [], []⟩ [(.x 0, ⟨[], [], [], []⟩), (.r, ⟨[.bool], [(4, .one (.h 0))], [], []⟩)] .nil))) .nil))
def env_l_eqPartS : Env := envOf ti [k_l_eqPart]
theorem eok_l_eqPartS : EnvOk Try.prog env_l_eqPartS := envOf_ok tab mix _ (by
  intro k hk
  simp only [List.mem_cons, List.not_mem_nil, or_false] at hk
  rcases hk with rfl
  · exact s_l_eqPart)
theorem v_l_eqPartS (x0 : List (Int × (Int × List UInt8))) (x1 : List (Int × (Int × List UInt8))) : (vfun env_l_eqPartS Try.f49 J_l_eqPartS ann_l_eqPartS [.one ⟨.sl false 105 (.pair (.int .i64) (.pair (.int .i64) .str)), x0⟩, .one ⟨.sl false 105 (.pair (.int .i64) (.pair (.int .i64) .str)), x1⟩] []).run = (G.l_eqPartS x0 x1).bind fun y => some (Res.mk [.one ⟨.bool, y⟩] []) := by kernel_rfl
def k_l_eqPartS : Kn := ⟨49, [false, false], fun args rows => match args, rows with
  | [.one ⟨.sl false 105 (.pair (.int .i64) (.pair (.int .i64) .str)), x0⟩, .one ⟨.sl false 105 (.pair (.int .i64) (.pair (.int .i64) .str)), x1⟩], [] => some ⟨_, G.l_eqPartS x0 x1, fun y => ⟨[.one ⟨.bool, y⟩], []⟩⟩
  | _, _ => none⟩
theorem s_l_eqPartS : KnOk Try.prog k_l_eqPartS := by
  intro args rows a h y hy
  simp only [k_l_eqPartS] at h
  split at h
  · injection h with h
    subst h
    exact vfun_ok eok_l_eqPartS Try.func49 rfl (by rw [v_l_eqPartS]; simp only at hy; rw [hy]; rfl)
  · cases h

def J_l_eqCall : Joins := [(.r, ⟨[.bool], [(4, .one (.h 0))], [], []⟩)]
def ann_l_eqCall : Ann := .nil
def env_l_eqCall : Env := envOf ti [k_l_eqPartS]
theorem eok_l_eqCall : EnvOk Try.prog env_l_eqCall := envOf_ok tab mix _ (by
  intro k hk
  simp only [List.mem_cons, List.not_mem_nil, or_false] at hk
  rcases hk with rfl
  · exact s_l_eqPartS)
theorem v_l_eqCall (x0 : Int) (x1 : Int) (x2 : List (Int × (Int × List UInt8))) (x3 : Int) (x4 : Int) (x5 : List (Int × (Int × List UInt8))) : (vfun env_l_eqCall Try.f15 J_l_eqCall ann_l_eqCall [.ag [⟨.int .i64, x0⟩, ⟨.int .i64, x1⟩, ⟨.sl false 105 (.pair (.int .i64) (.pair (.int .i64) .str)), x2⟩], .ag [⟨.int .i64, x3⟩, ⟨.int .i64, x4⟩, ⟨.sl false 105 (.pair (.int .i64) (.pair (.int .i64) .str)), x5⟩]] []).run = (G.l_eqCall x0 x1 x2 x3 x4 x5).bind fun y => some (Res.mk [.one ⟨.bool, y⟩] []) := by kernel_rfl
def k_l_eqCall : Kn := ⟨15, [false, false], fun args rows => match args, rows with
  | [.ag [⟨.int .i64, x0⟩, ⟨.int .i64, x1⟩, ⟨.sl false 105 (.pair (.int .i64) (.pair (.int .i64) .str)), x2⟩], .ag [⟨.int .i64, x3⟩, ⟨.int .i64, x4⟩, ⟨.sl false 105 (.pair (.int .i64) (.pair (.int .i64) .str)), x5⟩]], [] => some ⟨_, G.l_eqCall x0 x1 x2 x3 x4 x5, fun y => ⟨[.one ⟨.bool, y⟩], []⟩⟩
  | _, _ => none⟩
theorem s_l_eqCall : KnOk Try.prog k_l_eqCall := by
  intro args rows a h y hy
  simp only [k_l_eqCall] at h
  split at h
  · injection h with h
    subst h
    exact vfun_ok eok_l_eqCall Try.func15 rfl (by rw [v_l_eqCall]; simp only at hy; rw [hy]; rfl)
  · cases h

def J_l_FnExactGoodCall : Joins := [(.r, ⟨[.bool], [(2, .one (.h 0))], [], []⟩)]
def ann_l_FnExactGoodCall : Ann := .nil
def env_l_FnExactGoodCall : Env := envOf ti [k_l_szCall, k_l_toCall, k_s_GoodCall, k_i_GoodCall, k_l_eqCall]
theorem eok_l_FnExactGoodCall : EnvOk Try.prog env_l_FnExactGoodCall := envOf_ok tab mix _ (by
  intro k hk
  simp only [List.mem_cons, List.not_mem_nil, or_false] at hk
  rcases hk with rfl | rfl | rfl | rfl | rfl
  · exact s_l_szCall
  · exact s_l_toCall
  · exact s_s_GoodCall
  · exact s_i_GoodCall
  · exact s_l_eqCall)
theorem v_l_FnExactGoodCall (x0 : Int) (x1 : Int) (x2 : List (Int × (Int × List UInt8))) : (vfun env_l_FnExactGoodCall Try.f3 J_l_FnExactGoodCall ann_l_FnExactGoodCall [.ag [⟨.int .i64, x0⟩, ⟨.int .i64, x1⟩, ⟨.sl false 119 (.pair (.int .i64) (.pair (.int .i64) .str)), x2⟩]] []).run = (G.l_FnExactGoodCall x0 x1 x2).bind fun y => some (Res.mk [.one ⟨.bool, y⟩] []) := by kernel_rfl
def k_l_FnExactGoodCall : Kn := ⟨3, [false], fun args rows => match args, rows with
  | [.ag [⟨.int .i64, x0⟩, ⟨.int .i64, x1⟩, ⟨.sl false 119 (.pair (.int .i64) (.pair (.int .i64) .str)), x2⟩]], [] => some ⟨_, G.l_FnExactGoodCall x0 x1 x2, fun y => ⟨[.one ⟨.bool, y⟩], []⟩⟩
  | _, _ => none⟩
theorem s_l_FnExactGoodCall : KnOk Try.prog k_l_FnExactGoodCall := by
  intro args rows a h y hy
  simp only [k_l_FnExactGoodCall] at h
  split at h
  · injection h with h
    subst h
    exact vfun_ok eok_l_FnExactGoodCall Try.func3 rfl (by rw [v_l_FnExactGoodCall]; simp only at hy; rw [hy]; rfl)
  · cases h
end
end Go.Proofs.Ytdicgiljgelkfaa
