import Derived.Test.YtdicgiljgelkfaaProg
import Derived.Test.YtdicgiljgelkfaaQF1
import Derived.Test.YtdicgiljgelkfaaQC
import Derived.KernelRfl
set_option linter.unusedVariables false
set_option maxRecDepth 100000
namespace Go.Proofs.Ytdicgiljgelkfaa
open Go.V
def tiL : List TI := [
  .other,
  .other,
  .cell (.int .i64),
  .cell (.int .i64),
  .cell .bool,
  .cell (.int .u8),
  .cell (.int .u8),
  .other,
  .other,
  .cell .str,
  .cell .str,
  .cell .str,
  .cell (.int .u64),
  .other,
  .other,
  .ptr 138,
  .ptr 141,
  .ptr 150,
  .other,
  .other,
  .other,
  .cell (.int .i32),
  .slice 119 [(.int .i64), (.int .i64), .str] 32,
  .struct [(0, 1, false), (1, 1, false), (2, 1, false)] [(.int .i64), (.int .i64), (.sl true 119 (.pair (.int .i64) (.pair (.int .i64) .str)))] false,
  .struct [(0, 1, false), (1, 1, false), (2, 1, false)] [(.int .i64), (.int .i64), (.sl true 119 (.pair (.int .i64) (.pair (.int .i64) .str)))] false,
  .other,
  .other,
  .slice 105 [(.int .i64), (.int .i64), .str] 32,
  .struct [(0, 1, false), (1, 1, false), (2, 1, false)] [(.int .i64), (.int .i64), (.sl true 105 (.pair (.int .i64) (.pair (.int .i64) .str)))] false,
  .struct [(0, 1, false), (1, 1, false), (2, 1, false)] [(.int .i64), (.int .i64), (.sl true 105 (.pair (.int .i64) (.pair (.int .i64) .str)))] false,
  .other,
  .other,
  .other,
  .slice 5 [(.int .u8)] 1,
  .slice 33 [(.sl true 5 (.int .u8))] 24,
  .struct [(0, 1, false), (1, 1, false), (2, 1, false), (3, 1, false)] [(.sl true 33 (.sl true 5 (.int .u8))), (.int .i64), .bool, (.int .i64)] false,
  .struct [(0, 1, false), (1, 1, false), (2, 1, false), (3, 1, false)] [(.sl true 33 (.sl true 5 (.int .u8))), (.int .i64), .bool, (.int .i64)] false,
  .other,
  .other,
  .other,
  .other,
  .other,
  .other,
  .other,
  .other,
  .other,
  .other,
  .other,
  .other,
  .other,
  .other,
  .other,
  .other,
  .other,
  .other,
  .other,
  .other,
  .other,
  .other,
  .other,
  .other,
  .other,
  .other,
  .other,
  .other,
  .slice 70 [(.sl true 105 (.pair (.int .i64) (.pair (.int .i64) .str)))] 24,
  .other,
  .other,
  .other,
  .struct [(0, 1, false)] [(.sl true 105 (.pair (.int .i64) (.pair (.int .i64) .str)))] false,
  .struct [(0, 1, false)] [(.sl true 105 (.pair (.int .i64) (.pair (.int .i64) .str)))] false,
  .other,
  .other,
  .other,
  .other,
  .other,
  .other,
  .ptr 80,
  .cell (.int .u64),
  .struct [(0, 1, false), (1, 1, false), (2, 1, false)] [(.sl true 5 (.int .u8)), (.int .i64), (.int .u64)] false,
  .struct [(0, 1, false), (1, 1, false), (2, 1, false)] [(.sl true 5 (.int .u8)), (.int .i64), (.int .u64)] false,
  .other,
  .other,
  .other,
  .other,
  .other,
  .other,
  .other,
  .other,
  .other,
  .ptr 36,
  .other,
  .other,
  .other,
  .other,
  .other,
  .slice 3 [(.int .i64)] 8,
  .slice 4 [.bool] 1,
  .slice 9 [.str] 16,
  .struct [(0, 1, false), (1, 1, false)] [(.sl true 4 .bool), (.sl true 9 .str)] false,
  .struct [(0, 1, false), (1, 1, false)] [(.sl true 4 .bool), (.sl true 9 .str)] false,
  .other,
  .other,
  .other,
  .struct [(0, 1, false), (1, 1, false), (2, 1, false)] [(.int .i64), (.int .i64), .str] true,
  .struct [(0, 1, false), (1, 1, false), (2, 1, false)] [(.int .i64), (.int .i64), .str] true,
  .other,
  .other,
  .struct [(0, 1, false)] [(.sl true 105 (.pair (.int .i64) (.pair (.int .i64) .str)))] false,
  .struct [(0, 1, false)] [(.sl true 105 (.pair (.int .i64) (.pair (.int .i64) .str)))] false,
  .other,
  .other,
  .other,
  .other,
  .other,
  .other,
  .other,
  .other,
  .other,
  .struct [(0, 1, false), (1, 1, false), (2, 1, false)] [(.int .i64), (.int .i64), .str] true,
  .other,
  .other,
  .other,
  .other,
  .other,
  .other,
  .struct [(0, 1, false), (1, 1, false)] [(.sl true 4 .bool), (.sl true 9 .str)] false,
  .struct [(0, 1, false), (1, 1, false)] [(.sl true 4 .bool), (.sl true 9 .str)] false,
  .other,
  .other,
  .ptr 109,
  .ptr 105,
  .other,
  .other,
  .cell (.int .u64),
  .other,
  .other,
  .other,
  .other,
  .other,
  .other,
  .other,
  .cell (.int .u32),
  .cell (.int .u8),
  .cell (.int .u8),
  .other,
  .ptr 5,
  .cell (.int .i32),
  .cell (.int .i32),
  .other,
  .other,
  .other]
def ti (t : TypeId) : TI := tiL.getD t .other
theorem tab : TabOk Try.prog ti := tabOf Try.prog tiL (by kernel_rfl)
theorem mix : Try.prog.follows .mixedOrders = true := by kernel_rfl
end Go.Proofs.Ytdicgiljgelkfaa

set_option linter.unusedVariables false
set_option maxRecDepth 100000
namespace Go.Proofs.Ytdicgiljgelkfaa
open Go.V
noncomputable section
def J_l_szPart : Joins := [(.r, ⟨[.int .i64], [(4, .one (.h 0))], [], [], []⟩)]
def ann_l_szPart : Ann := .nil
def env_l_szPart : Env := envOf ti [] []
theorem eok_l_szPart : EnvOk Try.prog env_l_szPart := envOf_ok tab mix _ _ (by
  intro k hk; cases hk)
theorem v_l_szPart (x0 : Int) (x1 : Int) (x2 : List UInt8) (x3 : Int) : (vfun env_l_szPart Try.f90 J_l_szPart ann_l_szPart [] [.ag [⟨.int .i64, x0⟩, ⟨.int .i64, x1⟩, ⟨.str, x2⟩], .one ⟨.int .i64, x3⟩] []).run = (G.l_szPart x0 x1 x2 x3).bind fun y => some (Res.mk [.one ⟨.int .i64, y⟩] [] []) := by kernel_rfl
def k_l_szPart : Kn := ⟨90, [0, 0], fun args rows => match args, rows with
  | [.ag [⟨.int .i64, x0⟩, ⟨.int .i64, x1⟩, ⟨.str, x2⟩], .one ⟨.int .i64, x3⟩], [] => some ⟨_, G.l_szPart x0 x1 x2 x3, fun y => ⟨[.one ⟨.int .i64, y⟩], [], []⟩⟩
  | _, _ => none, []⟩
theorem s_l_szPart : KnOk Try.prog k_l_szPart := by
  intro args rows a h y hy
  simp only [k_l_szPart] at h
  split at h
  · injection h with h
    subst h
    exact vfun_ok eok_l_szPart Try.func90 rfl (by rw [v_l_szPart]; simp only at hy; rw [hy]; rfl)
  · cases h

def J_l_szPartS : Joins := [(.r, ⟨[.int .i64], [(4, .one (.h 0))], [], [], []⟩)]
def ann_l_szPartS : Ann := .seq .nil (.seq .nil (.seq .nil (.seq (.seq .nil (.block [] (.loop ⟨[.sl false 119 (.pair (.int .i64) (.pair (.int .i64) .str)), .int .i64, .int .i64], [(0, .one (.h 0)), (1, .one (.h 1)), (5, .one (.h 2))], [], [], []⟩ [(.x 0, ⟨[.int .i64], [(1, .one (.h 0))], [], [], []⟩), (.r, ⟨[.int .i64], [(4, .one (.h 0))], [], [], []⟩)] .nil))) .nil)))
def env_l_szPartS : Env := envOf ti [k_l_szPart] []
theorem eok_l_szPartS : EnvOk Try.prog env_l_szPartS := envOf_ok tab mix _ _ (by
  intro k hk
  simp only [List.mem_cons, List.not_mem_nil, or_false] at hk
  rcases hk with rfl
  · exact s_l_szPart)
theorem v_l_szPartS (x0 : List (Int × (Int × List UInt8))) (x1 : Int) : (vfun env_l_szPartS Try.f47 J_l_szPartS ann_l_szPartS [] [.one ⟨.sl false 119 (.pair (.int .i64) (.pair (.int .i64) .str)), x0⟩, .one ⟨.int .i64, x1⟩] []).run = (G.l_szPartS x0 x1).bind fun y => some (Res.mk [.one ⟨.int .i64, y⟩] [] []) := by kernel_rfl
def k_l_szPartS : Kn := ⟨47, [0, 0], fun args rows => match args, rows with
  | [.one ⟨.sl false 119 (.pair (.int .i64) (.pair (.int .i64) .str)), x0⟩, .one ⟨.int .i64, x1⟩], [] => some ⟨_, G.l_szPartS x0 x1, fun y => ⟨[.one ⟨.int .i64, y⟩], [], []⟩⟩
  | _, _ => none, []⟩
theorem s_l_szPartS : KnOk Try.prog k_l_szPartS := by
  intro args rows a h y hy
  simp only [k_l_szPartS] at h
  split at h
  · injection h with h
    subst h
    exact vfun_ok eok_l_szPartS Try.func47 rfl (by rw [v_l_szPartS]; simp only at hy; rw [hy]; rfl)
  · cases h

def J_l_szCall : Joins := [(.r, ⟨[.int .i64], [(4, .one (.h 0))], [], [], []⟩)]
def ann_l_szCall : Ann := .nil
def env_l_szCall : Env := envOf ti [k_l_szPartS] []
theorem eok_l_szCall : EnvOk Try.prog env_l_szCall := envOf_ok tab mix _ _ (by
  intro k hk
  simp only [List.mem_cons, List.not_mem_nil, or_false] at hk
  rcases hk with rfl
  · exact s_l_szPartS)
theorem v_l_szCall (x0 : Int) (x1 : Int) (x2 : List (Int × (Int × List UInt8))) (x3 : Int) : (vfun env_l_szCall Try.f11 J_l_szCall ann_l_szCall [] [.ag [⟨.int .i64, x0⟩, ⟨.int .i64, x1⟩, ⟨.sl false 119 (.pair (.int .i64) (.pair (.int .i64) .str)), x2⟩], .one ⟨.int .i64, x3⟩] []).run = (G.l_szCall x0 x1 x2 x3).bind fun y => some (Res.mk [.one ⟨.int .i64, y⟩] [] []) := by kernel_rfl
def k_l_szCall : Kn := ⟨11, [0, 0], fun args rows => match args, rows with
  | [.ag [⟨.int .i64, x0⟩, ⟨.int .i64, x1⟩, ⟨.sl false 119 (.pair (.int .i64) (.pair (.int .i64) .str)), x2⟩], .one ⟨.int .i64, x3⟩], [] => some ⟨_, G.l_szCall x0 x1 x2 x3, fun y => ⟨[.one ⟨.int .i64, y⟩], [], []⟩⟩
  | _, _ => none, []⟩
theorem s_l_szCall : KnOk Try.prog k_l_szCall := by
  intro args rows a h y hy
  simp only [k_l_szCall] at h
  split at h
  · injection h with h
    subst h
    exact vfun_ok eok_l_szCall Try.func11 rfl (by rw [v_l_szCall]; simp only at hy; rw [hy]; rfl)
  · cases h

def J_l_toPart : Joins := [(.r, ⟨[.int .i64, .int .i64, .str], [(2, .pl 2 0)], [(2, [.h 0, .h 1, .h 2])], [], []⟩)]
def ann_l_toPart : Ann := .nil
def env_l_toPart : Env := envOf ti [] []
theorem eok_l_toPart : EnvOk Try.prog env_l_toPart := envOf_ok tab mix _ _ (by
  intro k hk; cases hk)
theorem v_l_toPart (x0 : Int) (x1 : Int) (x2 : List UInt8) : (vfun env_l_toPart Try.f91 J_l_toPart ann_l_toPart [] [.ag [⟨.int .i64, x0⟩, ⟨.int .i64, x1⟩, ⟨.str, x2⟩]] []).run = (G.l_toPart x0 x1 x2).bind fun y => some (Res.mk [.ag [⟨.int .i64, y.1⟩, ⟨.int .i64, y.2.1⟩, ⟨.str, y.2.2⟩]] [] []) := by kernel_rfl
def k_l_toPart : Kn := ⟨91, [0], fun args rows => match args, rows with
  | [.ag [⟨.int .i64, x0⟩, ⟨.int .i64, x1⟩, ⟨.str, x2⟩]], [] => some ⟨_, G.l_toPart x0 x1 x2, fun y => ⟨[.ag [⟨.int .i64, y.1⟩, ⟨.int .i64, y.2.1⟩, ⟨.str, y.2.2⟩]], [], []⟩⟩
  | _, _ => none, []⟩
theorem s_l_toPart : KnOk Try.prog k_l_toPart := by
  intro args rows a h y hy
  simp only [k_l_toPart] at h
  split at h
  · injection h with h
    subst h
    exact vfun_ok eok_l_toPart Try.func91 rfl (by rw [v_l_toPart]; simp only at hy; rw [hy]; rfl)
  · cases h

def J_l_toPartS : Joins := [(.r, ⟨[.sl true 105 (.pair (.int .i64) (.pair (.int .i64) .str))], [(2, .one (.vw 126017))], [], [(126017, 0)], []⟩)]
def ann_l_toPartS : Ann := .seq .nil (.seq .nil (.seq (.seq .nil (.block [] (.loop ⟨[.sl false 119 (.pair (.int .i64) (.pair (.int .i64) .str)), .sl true 105 (.pair (.int .i64) (.pair (.int .i64) .str)), .int .i64], [(0, .one (.h 0)), (3, .one (.vw 125952)), (4, .one (.h 2))], [], [(125952, 1)], []⟩ [(.x 0, ⟨[.sl true 105 (.pair (.int .i64) (.pair (.int .i64) .str))], [(3, .one (.vw 126016))], [], [(126016, 0)], []⟩)] .nil))) .nil))
def env_l_toPartS : Env := envOf ti [k_l_toPart] []
theorem eok_l_toPartS : EnvOk Try.prog env_l_toPartS := envOf_ok tab mix _ _ (by
  intro k hk
  simp only [List.mem_cons, List.not_mem_nil, or_false] at hk
  rcases hk with rfl
  · exact s_l_toPart)
theorem v_l_toPartS (x0 : List (Int × (Int × List UInt8))) : (vfun env_l_toPartS Try.f48 J_l_toPartS ann_l_toPartS [] [.one ⟨.sl false 119 (.pair (.int .i64) (.pair (.int .i64) .str)), x0⟩] []).run = (G.l_toPartS x0).bind fun y => some (Res.mk [.one ⟨.sl true 105 (.pair (.int .i64) (.pair (.int .i64) .str)), y⟩] [] []) := by kernel_rfl
def k_l_toPartS : Kn := ⟨48, [0], fun args rows => match args, rows with
  | [.one ⟨.sl false 119 (.pair (.int .i64) (.pair (.int .i64) .str)), x0⟩], [] => some ⟨_, G.l_toPartS x0, fun y => ⟨[.one ⟨.sl true 105 (.pair (.int .i64) (.pair (.int .i64) .str)), y⟩], [], []⟩⟩
  | _, _ => none, []⟩
theorem s_l_toPartS : KnOk Try.prog k_l_toPartS := by
  intro args rows a h y hy
  simp only [k_l_toPartS] at h
  split at h
  · injection h with h
    subst h
    exact vfun_ok eok_l_toPartS Try.func48 rfl (by rw [v_l_toPartS]; simp only at hy; rw [hy]; rfl)
  · cases h

def J_l_toCall : Joins := [(.r, ⟨[.int .i64, .int .i64, .sl true 105 (.pair (.int .i64) (.pair (.int .i64) .str))], [(2, .pl 2 0)], [(2, [.h 0, .h 1, .vw 117760])], [(117760, 2)], []⟩)]
def ann_l_toCall : Ann := .nil
def env_l_toCall : Env := envOf ti [k_l_toPartS] []
theorem eok_l_toCall : EnvOk Try.prog env_l_toCall := envOf_ok tab mix _ _ (by
  intro k hk
  simp only [List.mem_cons, List.not_mem_nil, or_false] at hk
  rcases hk with rfl
  · exact s_l_toPartS)
theorem v_l_toCall (x0 : Int) (x1 : Int) (x2 : List (Int × (Int × List UInt8))) : (vfun env_l_toCall Try.f13 J_l_toCall ann_l_toCall [] [.ag [⟨.int .i64, x0⟩, ⟨.int .i64, x1⟩, ⟨.sl false 119 (.pair (.int .i64) (.pair (.int .i64) .str)), x2⟩]] []).run = (G.l_toCall x0 x1 x2).bind fun y => some (Res.mk [.ag [⟨.int .i64, y.1⟩, ⟨.int .i64, y.2.1⟩, ⟨.sl true 105 (.pair (.int .i64) (.pair (.int .i64) .str)), y.2.2⟩]] [] []) := by kernel_rfl
def k_l_toCall : Kn := ⟨13, [0], fun args rows => match args, rows with
  | [.ag [⟨.int .i64, x0⟩, ⟨.int .i64, x1⟩, ⟨.sl false 119 (.pair (.int .i64) (.pair (.int .i64) .str)), x2⟩]], [] => some ⟨_, G.l_toCall x0 x1 x2, fun y => ⟨[.ag [⟨.int .i64, y.1⟩, ⟨.int .i64, y.2.1⟩, ⟨.sl true 105 (.pair (.int .i64) (.pair (.int .i64) .str)), y.2.2⟩]], [], []⟩⟩
  | _, _ => none, []⟩
theorem s_l_toCall : KnOk Try.prog k_l_toCall := by
  intro args rows a h y hy
  simp only [k_l_toCall] at h
  split at h
  · injection h with h
    subst h
    exact vfun_ok eok_l_toCall Try.func13 rfl (by rw [v_l_toCall]; simp only at hy; rw [hy]; rfl)
  · cases h

def J_s_GoodCall : Joins := [(.r, ⟨[.bool], [(2, .one (.h 0))], [], [], []⟩)]
def ann_s_GoodCall : Ann := .seq .nil (.seq (.reg [(.n, ⟨[.bool], [(2, .one (.h 0))], [], [], []⟩)]) .nil)
def env_s_GoodCall : Env := envOf ti [] []
theorem eok_s_GoodCall : EnvOk Try.prog env_s_GoodCall := envOf_ok tab mix _ _ (by
  intro k hk; cases hk)
theorem v_s_GoodCall (x0 : Int) (x1 : Int) (x2 : List (Int × (Int × List UInt8))) : (vfun env_s_GoodCall Try.f12 J_s_GoodCall ann_s_GoodCall [] [.ag [⟨.int .i64, x0⟩, ⟨.int .i64, x1⟩, ⟨.sl false 105 (.pair (.int .i64) (.pair (.int .i64) .str)), x2⟩]] []).run = (G.s_GoodCall x0 x1 x2).bind fun y => some (Res.mk [.one ⟨.bool, y⟩] [] []) := by kernel_rfl
def k_s_GoodCall : Kn := ⟨12, [0], fun args rows => match args, rows with
  | [.ag [⟨.int .i64, x0⟩, ⟨.int .i64, x1⟩, ⟨.sl false 105 (.pair (.int .i64) (.pair (.int .i64) .str)), x2⟩]], [] => some ⟨_, G.s_GoodCall x0 x1 x2, fun y => ⟨[.one ⟨.bool, y⟩], [], []⟩⟩
  | _, _ => none, []⟩
theorem s_s_GoodCall : KnOk Try.prog k_s_GoodCall := by
  intro args rows a h y hy
  simp only [k_s_GoodCall] at h
  split at h
  · injection h with h
    subst h
    exact vfun_ok eok_s_GoodCall Try.func12 rfl (by rw [v_s_GoodCall]; simp only at hy; rw [hy]; rfl)
  · cases h

def J_i_GoodCall : Joins := [(.r, ⟨[.bool], [(2, .one (.h 0))], [], [], []⟩)]
def ann_i_GoodCall : Ann := .seq .nil (.seq (.reg [(.n, ⟨[.bool], [(2, .one (.h 0))], [], [], []⟩)]) .nil)
def env_i_GoodCall : Env := envOf ti [] []
theorem eok_i_GoodCall : EnvOk Try.prog env_i_GoodCall := envOf_ok tab mix _ _ (by
  intro k hk; cases hk)
theorem v_i_GoodCall (x0 : Int) (x1 : Int) (x2 : List (Int × (Int × List UInt8))) : (vfun env_i_GoodCall Try.f14 J_i_GoodCall ann_i_GoodCall [] [.ag [⟨.int .i64, x0⟩, ⟨.int .i64, x1⟩, ⟨.sl false 105 (.pair (.int .i64) (.pair (.int .i64) .str)), x2⟩]] []).run = (G.i_GoodCall x0 x1 x2).bind fun y => some (Res.mk [.one ⟨.bool, y⟩] [] []) := by kernel_rfl
def k_i_GoodCall : Kn := ⟨14, [0], fun args rows => match args, rows with
  | [.ag [⟨.int .i64, x0⟩, ⟨.int .i64, x1⟩, ⟨.sl false 105 (.pair (.int .i64) (.pair (.int .i64) .str)), x2⟩]], [] => some ⟨_, G.i_GoodCall x0 x1 x2, fun y => ⟨[.one ⟨.bool, y⟩], [], []⟩⟩
  | _, _ => none, []⟩
theorem s_i_GoodCall : KnOk Try.prog k_i_GoodCall := by
  intro args rows a h y hy
  simp only [k_i_GoodCall] at h
  split at h
  · injection h with h
    subst h
    exact vfun_ok eok_i_GoodCall Try.func14 rfl (by rw [v_i_GoodCall]; simp only at hy; rw [hy]; rfl)
  · cases h

def J_l_eqPart : Joins := [(.r, ⟨[.bool], [(4, .one (.h 0))], [], [], []⟩)]
def ann_l_eqPart : Ann := .nil
def env_l_eqPart : Env := envOf ti [] []
theorem eok_l_eqPart : EnvOk Try.prog env_l_eqPart := envOf_ok tab mix _ _ (by
  intro k hk; cases hk)
theorem v_l_eqPart (x0 : Int) (x1 : Int) (x2 : List UInt8) (x3 : Int) (x4 : Int) (x5 : List UInt8) : (vfun env_l_eqPart Try.f92 J_l_eqPart ann_l_eqPart [] [.ag [⟨.int .i64, x0⟩, ⟨.int .i64, x1⟩, ⟨.str, x2⟩], .ag [⟨.int .i64, x3⟩, ⟨.int .i64, x4⟩, ⟨.str, x5⟩]] []).run = (G.l_eqPart x0 x1 x2 x3 x4 x5).bind fun y => some (Res.mk [.one ⟨.bool, y⟩] [] []) := by kernel_rfl
def k_l_eqPart : Kn := ⟨92, [0, 0], fun args rows => match args, rows with
  | [.ag [⟨.int .i64, x0⟩, ⟨.int .i64, x1⟩, ⟨.str, x2⟩], .ag [⟨.int .i64, x3⟩, ⟨.int .i64, x4⟩, ⟨.str, x5⟩]], [] => some ⟨_, G.l_eqPart x0 x1 x2 x3 x4 x5, fun y => ⟨[.one ⟨.bool, y⟩], [], []⟩⟩
  | _, _ => none, []⟩
theorem s_l_eqPart : KnOk Try.prog k_l_eqPart := by
  intro args rows a h y hy
  simp only [k_l_eqPart] at h
  split at h
  · injection h with h
    subst h
    exact vfun_ok eok_l_eqPart Try.func92 rfl (by rw [v_l_eqPart]; simp only at hy; rw [hy]; rfl)
  · cases h

def J_l_eqPartS : Joins := [(.r, ⟨[.bool], [(4, .one (.h 0))], [], [], []⟩)]
def ann_l_eqPartS : Ann := .seq .nil (.seq .nil (.seq (.seq .nil (.block [] (.loop ⟨[.sl false 105 (.pair (.int .i64) (.pair (.int .i64) .str)), .sl false 105 (.pair (.int .i64) (.pair (.int .i64) .str)), .int .i64], [(0, .one (.h 0)), (1, .one (.h 1)), (5, .one (.h 2))], [], [], []⟩ [(.x 0, ⟨[], [], [], [], []⟩), (.r, ⟨[.bool], [(4, .one (.h 0))], [], [], []⟩)] .nil))) .nil))
def env_l_eqPartS : Env := envOf ti [k_l_eqPart] []
theorem eok_l_eqPartS : EnvOk Try.prog env_l_eqPartS := envOf_ok tab mix _ _ (by
  intro k hk
  simp only [List.mem_cons, List.not_mem_nil, or_false] at hk
  rcases hk with rfl
  · exact s_l_eqPart)
theorem v_l_eqPartS (x0 : List (Int × (Int × List UInt8))) (x1 : List (Int × (Int × List UInt8))) : (vfun env_l_eqPartS Try.f49 J_l_eqPartS ann_l_eqPartS [] [.one ⟨.sl false 105 (.pair (.int .i64) (.pair (.int .i64) .str)), x0⟩, .one ⟨.sl false 105 (.pair (.int .i64) (.pair (.int .i64) .str)), x1⟩] []).run = (G.l_eqPartS x0 x1).bind fun y => some (Res.mk [.one ⟨.bool, y⟩] [] []) := by kernel_rfl
def k_l_eqPartS : Kn := ⟨49, [0, 0], fun args rows => match args, rows with
  | [.one ⟨.sl false 105 (.pair (.int .i64) (.pair (.int .i64) .str)), x0⟩, .one ⟨.sl false 105 (.pair (.int .i64) (.pair (.int .i64) .str)), x1⟩], [] => some ⟨_, G.l_eqPartS x0 x1, fun y => ⟨[.one ⟨.bool, y⟩], [], []⟩⟩
  | _, _ => none, []⟩
theorem s_l_eqPartS : KnOk Try.prog k_l_eqPartS := by
  intro args rows a h y hy
  simp only [k_l_eqPartS] at h
  split at h
  · injection h with h
    subst h
    exact vfun_ok eok_l_eqPartS Try.func49 rfl (by rw [v_l_eqPartS]; simp only at hy; rw [hy]; rfl)
  · cases h

def J_l_eqCall : Joins := [(.r, ⟨[.bool], [(4, .one (.h 0))], [], [], []⟩)]
def ann_l_eqCall : Ann := .nil
def env_l_eqCall : Env := envOf ti [k_l_eqPartS] []
theorem eok_l_eqCall : EnvOk Try.prog env_l_eqCall := envOf_ok tab mix _ _ (by
  intro k hk
  simp only [List.mem_cons, List.not_mem_nil, or_false] at hk
  rcases hk with rfl
  · exact s_l_eqPartS)
theorem v_l_eqCall (x0 : Int) (x1 : Int) (x2 : List (Int × (Int × List UInt8))) (x3 : Int) (x4 : Int) (x5 : List (Int × (Int × List UInt8))) : (vfun env_l_eqCall Try.f15 J_l_eqCall ann_l_eqCall [] [.ag [⟨.int .i64, x0⟩, ⟨.int .i64, x1⟩, ⟨.sl false 105 (.pair (.int .i64) (.pair (.int .i64) .str)), x2⟩], .ag [⟨.int .i64, x3⟩, ⟨.int .i64, x4⟩, ⟨.sl false 105 (.pair (.int .i64) (.pair (.int .i64) .str)), x5⟩]] []).run = (G.l_eqCall x0 x1 x2 x3 x4 x5).bind fun y => some (Res.mk [.one ⟨.bool, y⟩] [] []) := by kernel_rfl
def k_l_eqCall : Kn := ⟨15, [0, 0], fun args rows => match args, rows with
  | [.ag [⟨.int .i64, x0⟩, ⟨.int .i64, x1⟩, ⟨.sl false 105 (.pair (.int .i64) (.pair (.int .i64) .str)), x2⟩], .ag [⟨.int .i64, x3⟩, ⟨.int .i64, x4⟩, ⟨.sl false 105 (.pair (.int .i64) (.pair (.int .i64) .str)), x5⟩]], [] => some ⟨_, G.l_eqCall x0 x1 x2 x3 x4 x5, fun y => ⟨[.one ⟨.bool, y⟩], [], []⟩⟩
  | _, _ => none, []⟩
theorem s_l_eqCall : KnOk Try.prog k_l_eqCall := by
  intro args rows a h y hy
  simp only [k_l_eqCall] at h
  split at h
  · injection h with h
    subst h
    exact vfun_ok eok_l_eqCall Try.func15 rfl (by rw [v_l_eqCall]; simp only at hy; rw [hy]; rfl)
  · cases h

def J_l_FnExactGoodCall : Joins := [(.r, ⟨[.bool], [(2, .one (.h 0))], [], [], []⟩)]
def ann_l_FnExactGoodCall : Ann := .nil
def env_l_FnExactGoodCall : Env := envOf ti [k_l_szCall, k_l_toCall, k_s_GoodCall, k_i_GoodCall, k_l_eqCall] []
theorem eok_l_FnExactGoodCall : EnvOk Try.prog env_l_FnExactGoodCall := envOf_ok tab mix _ _ (by
  intro k hk
  simp only [List.mem_cons, List.not_mem_nil, or_false] at hk
  rcases hk with rfl | rfl | rfl | rfl | rfl
  · exact s_l_szCall
  · exact s_l_toCall
  · exact s_s_GoodCall
  · exact s_i_GoodCall
  · exact s_l_eqCall)
theorem v_l_FnExactGoodCall (x0 : Int) (x1 : Int) (x2 : List (Int × (Int × List UInt8))) : (vfun env_l_FnExactGoodCall Try.f3 J_l_FnExactGoodCall ann_l_FnExactGoodCall [] [.ag [⟨.int .i64, x0⟩, ⟨.int .i64, x1⟩, ⟨.sl false 119 (.pair (.int .i64) (.pair (.int .i64) .str)), x2⟩]] []).run = (G.l_FnExactGoodCall x0 x1 x2).bind fun y => some (Res.mk [.one ⟨.bool, y⟩] [] []) := by kernel_rfl
def k_l_FnExactGoodCall : Kn := ⟨3, [0], fun args rows => match args, rows with
  | [.ag [⟨.int .i64, x0⟩, ⟨.int .i64, x1⟩, ⟨.sl false 119 (.pair (.int .i64) (.pair (.int .i64) .str)), x2⟩]], [] => some ⟨_, G.l_FnExactGoodCall x0 x1 x2, fun y => ⟨[.one ⟨.bool, y⟩], [], []⟩⟩
  | _, _ => none, []⟩
theorem s_l_FnExactGoodCall : KnOk Try.prog k_l_FnExactGoodCall := by
  intro args rows a h y hy
  simp only [k_l_FnExactGoodCall] at h
  split at h
  · injection h with h
    subst h
    exact vfun_ok eok_l_FnExactGoodCall Try.func3 rfl (by rw [v_l_FnExactGoodCall]; simp only at hy; rw [hy]; rfl)
  · cases h
end
end Go.Proofs.Ytdicgiljgelkfaa

set_option linter.unusedVariables false
set_option maxRecDepth 100000
namespace Go.Proofs.Ytdicgiljgelkfaa
open Go.V
noncomputable section
def J_s_l1Cur_next_f : Joins := [(.r, ⟨[.int .i64, .sl false 5 (.int .u8), .int .i64, .int .u64], [(2, .one (.h 0))], [(63, [.h 1, .h 2, .h 3])], [], []⟩)]
def ann_s_l1Cur_next_f : Ann := .seq .nil (.seq .nil (.seq (.seq .nil (.cond [(.n, ⟨[.int .i64, .sl false 5 (.int .u8), .int .i64, .int .u64], [(0, .pl 63 0), (3, .one (.h 0))], [(63, [.h 1, .h 2, .h 3])], [], []⟩)] .nil .nil)) .nil))
def env_s_l1Cur_next_f : Env := envOf ti [] []
theorem eok_s_l1Cur_next_f : EnvOk Try.prog env_s_l1Cur_next_f := envOf_ok tab mix _ _ (by
  intro k hk; cases hk)
theorem v_s_l1Cur_next_f (x0 : List Int) (x1 : Int) (x2 : Int) : (vfun env_s_l1Cur_next_f Try.f94 J_s_l1Cur_next_f ann_s_l1Cur_next_f [] [.pl 0 0] [[⟨.sl false 5 (.int .u8), x0⟩, ⟨.int .i64, x1⟩, ⟨.int .u64, x2⟩]]).run = (G.s_l1Cur_next_f x0 x1 x2).bind fun y => some (Res.mk [.one ⟨.int .i64, y.1⟩] [[⟨.sl false 5 (.int .u8), y.2.1⟩, ⟨.int .i64, y.2.2.1⟩, ⟨.int .u64, y.2.2.2⟩]] []) := by kernel_rfl
def k_s_l1Cur_next_f : Kn := ⟨94, [0], fun args rows => match args, rows with
  | [.pl 0 0], [[⟨.sl false 5 (.int .u8), x0⟩, ⟨.int .i64, x1⟩, ⟨.int .u64, x2⟩]] => some ⟨_, G.s_l1Cur_next_f x0 x1 x2, fun y => ⟨[.one ⟨.int .i64, y.1⟩], [[⟨.sl false 5 (.int .u8), y.2.1⟩, ⟨.int .i64, y.2.2.1⟩, ⟨.int .u64, y.2.2.2⟩]], []⟩⟩
  | _, _ => none, []⟩
theorem s_s_l1Cur_next_f : KnOk Try.prog k_s_l1Cur_next_f := by
  intro args rows a h y hy
  simp only [k_s_l1Cur_next_f] at h
  split at h
  · injection h with h
    subst h
    exact vfun_ok eok_s_l1Cur_next_f Try.func94 rfl (by rw [v_s_l1Cur_next_f]; simp only at hy; rw [hy]; rfl)
  · cases h

def J_s_l1Cur_pick_f : Joins := [(.r, ⟨[.int .i64, .sl false 5 (.int .u8), .int .i64, .int .u64], [(4, .one (.h 0))], [(21, [.h 1, .h 2, .h 3])], [], []⟩)]
def ann_s_l1Cur_pick_f : Ann := .seq .nil (.seq .nil (.seq .nil (.seq (.seq .nil (.cond [(.n, ⟨[.int .i64, .int .i64, .sl false 5 (.int .u8), .int .i64, .int .u64], [(1, .one (.h 0)), (5, .one (.h 1))], [(21, [.h 2, .h 3, .h 4])], [], []⟩)] .nil .nil)) .nil)))
def env_s_l1Cur_pick_f : Env := envOf ti [k_s_l1Cur_next_f] []
theorem eok_s_l1Cur_pick_f : EnvOk Try.prog env_s_l1Cur_pick_f := envOf_ok tab mix _ _ (by
  intro k hk
  simp only [List.mem_cons, List.not_mem_nil, or_false] at hk
  rcases hk with rfl
  · exact s_s_l1Cur_next_f)
theorem v_s_l1Cur_pick_f (x0 : Int) (x1 : List Int) (x2 : Int) (x3 : Int) : (vfun env_s_l1Cur_pick_f Try.f65 J_s_l1Cur_pick_f ann_s_l1Cur_pick_f [] [.pl 0 0, .one ⟨.int .i64, x0⟩] [[⟨.sl false 5 (.int .u8), x1⟩, ⟨.int .i64, x2⟩, ⟨.int .u64, x3⟩]]).run = (G.s_l1Cur_pick_f x0 x1 x2 x3).bind fun y => some (Res.mk [.one ⟨.int .i64, y.1⟩] [[⟨.sl false 5 (.int .u8), y.2.1⟩, ⟨.int .i64, y.2.2.1⟩, ⟨.int .u64, y.2.2.2⟩]] []) := by kernel_rfl
def k_s_l1Cur_pick_f : Kn := ⟨65, [0, 0], fun args rows => match args, rows with
  | [.pl 0 0, .one ⟨.int .i64, x0⟩], [[⟨.sl false 5 (.int .u8), x1⟩, ⟨.int .i64, x2⟩, ⟨.int .u64, x3⟩]] => some ⟨_, G.s_l1Cur_pick_f x0 x1 x2 x3, fun y => ⟨[.one ⟨.int .i64, y.1⟩], [[⟨.sl false 5 (.int .u8), y.2.1⟩, ⟨.int .i64, y.2.2.1⟩, ⟨.int .u64, y.2.2.2⟩]], []⟩⟩
  | _, _ => none, []⟩
theorem s_s_l1Cur_pick_f : KnOk Try.prog k_s_l1Cur_pick_f := by
  intro args rows a h y hy
  simp only [k_s_l1Cur_pick_f] at h
  split at h
  · injection h with h
    subst h
    exact vfun_ok eok_s_l1Cur_pick_f Try.func65 rfl (by rw [v_s_l1Cur_pick_f]; simp only at hy; rw [hy]; rfl)
  · cases h

def J_s_l1In : Joins := [(.r, ⟨[.bool], [(6, .one (.h 0))], [], [], []⟩)]
def ann_s_l1In : Ann := .seq .nil (.seq (.reg [(.n, ⟨[.bool], [(6, .one (.h 0))], [], [], []⟩)]) .nil)
def env_s_l1In : Env := envOf ti [] []
theorem eok_s_l1In : EnvOk Try.prog env_s_l1In := envOf_ok tab mix _ _ (by
  intro k hk; cases hk)
theorem v_s_l1In (x0 : Int) (x1 : Int) (x2 : Int) : (vfun env_s_l1In Try.f60 J_s_l1In ann_s_l1In [] [.one ⟨.int .i64, x0⟩, .one ⟨.int .i64, x1⟩, .one ⟨.int .i64, x2⟩] []).run = (G.s_l1In x0 x1 x2).bind fun y => some (Res.mk [.one ⟨.bool, y⟩] [] []) := by kernel_rfl
def k_s_l1In : Kn := ⟨60, [0, 0, 0], fun args rows => match args, rows with
  | [.one ⟨.int .i64, x0⟩, .one ⟨.int .i64, x1⟩, .one ⟨.int .i64, x2⟩], [] => some ⟨_, G.s_l1In x0 x1 x2, fun y => ⟨[.one ⟨.bool, y⟩], [], []⟩⟩
  | _, _ => none, []⟩
theorem s_s_l1In : KnOk Try.prog k_s_l1In := by
  intro args rows a h y hy
  simp only [k_s_l1In] at h
  split at h
  · injection h with h
    subst h
    exact vfun_ok eok_s_l1In Try.func60 rfl (by rw [v_s_l1In]; simp only at hy; rw [hy]; rfl)
  · cases h

def J_s_NewDisk : Joins := [(.r, ⟨[.bool, .sl true 33 (.sl true 5 (.int .u8)), .int .i64, .bool, .int .i64], [(2, .pl 2 0), (3, .one (.h 0))], [(2, [.vw 123969, .h 2, .h 3, .h 4])], [(123969, 1)], []⟩)]
def ann_s_NewDisk : Ann := .seq .nil (.seq .nil (.seq .nil (.seq (.block [] (.loop ⟨[.int .i64, .int .i64, .bool, .int .i64, .sl true 33 (.sl true 5 (.int .u8)), .int .i64, .bool, .int .i64], [(0, .one (.h 0)), (2, .pl 2 0), (4, .pl 4 0)], [(2, [.nil, .h 1, .h 2, .h 3]), (4, [.vw 123904, .h 5, .h 6, .h 7])], [(123904, 4)], []⟩ [(.x 0, ⟨[.int .i64, .bool, .int .i64, .sl true 33 (.sl true 5 (.int .u8)), .int .i64, .bool, .int .i64], [(2, .pl 2 0), (4, .pl 4 0)], [(2, [.nil, .h 0, .h 1, .h 2]), (4, [.vw 123968, .h 4, .h 5, .h 6])], [(123968, 3)], []⟩)] .nil)) .nil)))
def env_s_NewDisk : Env := envOf ti [k_s_l1In] []
theorem eok_s_NewDisk : EnvOk Try.prog env_s_NewDisk := envOf_ok tab mix _ _ (by
  intro k hk
  simp only [List.mem_cons, List.not_mem_nil, or_false] at hk
  rcases hk with rfl
  · exact s_s_l1In)
theorem v_s_NewDisk (x0 : Int) : (vfun env_s_NewDisk Try.f93 J_s_NewDisk ann_s_NewDisk [] [.one ⟨.int .i64, x0⟩] []).run = (G.s_NewDisk x0).bind fun y => some (Res.mk [.ag [⟨.sl true 33 (.sl true 5 (.int .u8)), y.2.1⟩, ⟨.int .i64, y.2.2.1⟩, ⟨.bool, y.2.2.2.1⟩, ⟨.int .i64, y.2.2.2.2⟩], .one ⟨.bool, y.1⟩] [] []) := by kernel_rfl
def k_s_NewDisk : Kn := ⟨93, [0], fun args rows => match args, rows with
  | [.one ⟨.int .i64, x0⟩], [] => some ⟨_, G.s_NewDisk x0, fun y => ⟨[.ag [⟨.sl true 33 (.sl true 5 (.int .u8)), y.2.1⟩, ⟨.int .i64, y.2.2.1⟩, ⟨.bool, y.2.2.2.1⟩, ⟨.int .i64, y.2.2.2.2⟩], .one ⟨.bool, y.1⟩], [], []⟩⟩
  | _, _ => none, []⟩
theorem s_s_NewDisk : KnOk Try.prog k_s_NewDisk := by
  intro args rows a h y hy
  simp only [k_s_NewDisk] at h
  split at h
  · injection h with h
    subst h
    exact vfun_ok eok_s_NewDisk Try.func93 rfl (by rw [v_s_NewDisk]; simp only at hy; rw [hy]; rfl)
  · cases h

def J_s_l1Cur_block_f : Joins := [(.r, ⟨[.sl true 5 (.int .u8), .sl false 5 (.int .u8), .int .i64, .int .u64], [(2, .one (.vw 122945))], [(21, [.h 1, .h 2, .h 3])], [(122945, 0)], []⟩)]
def ann_s_l1Cur_block_f : Ann := .seq .nil (.seq .nil (.seq (.seq .nil (.block [] (.loop ⟨[.sl true 5 (.int .u8), .int .i64, .sl false 5 (.int .u8), .int .i64, .int .u64], [(0, .pl 21 0), (3, .one (.vw 122880)), (4, .one (.h 1))], [(21, [.h 2, .h 3, .h 4])], [(122880, 0)], []⟩ [(.x 0, ⟨[.sl true 5 (.int .u8), .sl false 5 (.int .u8), .int .i64, .int .u64], [(3, .one (.vw 122944))], [(21, [.h 1, .h 2, .h 3])], [(122944, 0)], []⟩)] .nil))) .nil))
def env_s_l1Cur_block_f : Env := envOf ti [k_s_l1Cur_pick_f, k_s_l1Cur_next_f] []
theorem eok_s_l1Cur_block_f : EnvOk Try.prog env_s_l1Cur_block_f := envOf_ok tab mix _ _ (by
  intro k hk
  simp only [List.mem_cons, List.not_mem_nil, or_false] at hk
  rcases hk with rfl | rfl
  · exact s_s_l1Cur_pick_f
  · exact s_s_l1Cur_next_f)
theorem v_s_l1Cur_block_f (x0 : List Int) (x1 : Int) (x2 : Int) : (vfun env_s_l1Cur_block_f Try.f51 J_s_l1Cur_block_f ann_s_l1Cur_block_f [] [.pl 0 0] [[⟨.sl false 5 (.int .u8), x0⟩, ⟨.int .i64, x1⟩, ⟨.int .u64, x2⟩]]).run = (G.s_l1Cur_block_f x0 x1 x2).bind fun y => some (Res.mk [.one ⟨.sl true 5 (.int .u8), y.1⟩] [[⟨.sl false 5 (.int .u8), y.2.1⟩, ⟨.int .i64, y.2.2.1⟩, ⟨.int .u64, y.2.2.2⟩]] []) := by kernel_rfl
def k_s_l1Cur_block_f : Kn := ⟨51, [0], fun args rows => match args, rows with
  | [.pl 0 0], [[⟨.sl false 5 (.int .u8), x0⟩, ⟨.int .i64, x1⟩, ⟨.int .u64, x2⟩]] => some ⟨_, G.s_l1Cur_block_f x0 x1 x2, fun y => ⟨[.one ⟨.sl true 5 (.int .u8), y.1⟩], [[⟨.sl false 5 (.int .u8), y.2.1⟩, ⟨.int .i64, y.2.2.1⟩, ⟨.int .u64, y.2.2.2⟩]], []⟩⟩
  | _, _ => none, []⟩
theorem s_s_l1Cur_block_f : KnOk Try.prog k_s_l1Cur_block_f := by
  intro args rows a h y hy
  simp only [k_s_l1Cur_block_f] at h
  split at h
  · injection h with h
    subst h
    exact vfun_ok eok_s_l1Cur_block_f Try.func51 rfl (by rw [v_s_l1Cur_block_f]; simp only at hy; rw [hy]; rfl)
  · cases h

def J_s_l2Put_o : Joins := [(.r, ⟨[.bool, .sl true 33 (.sl true 5 (.int .u8)), .int .i64, .bool, .int .i64], [(6, .one (.h 0))], [(49, [.vw 151553, .h 2, .h 3, .h 4])], [(151553, 1)], []⟩)]
def ann_s_l2Put_o : Ann := .seq .nil (.seq .nil (.seq .nil (.seq (.seq .nil (.cond [(.n, ⟨[.int .i64, .sl false 5 (.int .u8), .sl true 33 (.sl true 5 (.int .u8)), .int .i64, .bool, .int .i64], [(0, .pl 49 0), (1, .one (.h 0)), (2, .one (.h 1))], [(49, [.vw 151552, .h 3, .h 4, .h 5])], [(151552, 2)], []⟩)] .nil .nil)) .nil)))
def env_s_l2Put_o : Env := envOf ti [] []
theorem eok_s_l2Put_o : EnvOk Try.prog env_s_l2Put_o := envOf_ok tab mix _ _ (by
  intro k hk; cases hk)
theorem v_s_l2Put_o (x0 : Int) (x1 : List Int) (x2 : List (List Int)) (x3 : Int) (x4 : Bool) (x5 : Int) : (vfun env_s_l2Put_o Try.f61 J_s_l2Put_o ann_s_l2Put_o [] [.pl 0 0, .one ⟨.int .i64, x0⟩, .one ⟨.sl false 5 (.int .u8), x1⟩] [[⟨.sl true 33 (.sl true 5 (.int .u8)), x2⟩, ⟨.int .i64, x3⟩, ⟨.bool, x4⟩, ⟨.int .i64, x5⟩]]).run = (G.s_l2Put_o x0 x1 x2 x3 x4 x5).bind fun y => some (Res.mk [.one ⟨.bool, y.1⟩] [[⟨.sl true 33 (.sl true 5 (.int .u8)), y.2.1⟩, ⟨.int .i64, y.2.2.1⟩, ⟨.bool, y.2.2.2.1⟩, ⟨.int .i64, y.2.2.2.2⟩]] []) := by kernel_rfl
def k_s_l2Put_o : Kn := ⟨61, [0, 0, 0], fun args rows => match args, rows with
  | [.pl 0 0, .one ⟨.int .i64, x0⟩, .one ⟨.sl false 5 (.int .u8), x1⟩], [[⟨.sl true 33 (.sl true 5 (.int .u8)), x2⟩, ⟨.int .i64, x3⟩, ⟨.bool, x4⟩, ⟨.int .i64, x5⟩]] => some ⟨_, G.s_l2Put_o x0 x1 x2 x3 x4 x5, fun y => ⟨[.one ⟨.bool, y.1⟩], [[⟨.sl true 33 (.sl true 5 (.int .u8)), y.2.1⟩, ⟨.int .i64, y.2.2.1⟩, ⟨.bool, y.2.2.2.1⟩, ⟨.int .i64, y.2.2.2.2⟩]], []⟩⟩
  | _, _ => none, []⟩
theorem s_s_l2Put_o : KnOk Try.prog k_s_l2Put_o := by
  intro args rows a h y hy
  simp only [k_s_l2Put_o] at h
  split at h
  · injection h with h
    subst h
    exact vfun_ok eok_s_l2Put_o Try.func61 rfl (by rw [v_s_l2Put_o]; simp only at hy; rw [hy]; rfl)
  · cases h

def J_s_l1Cur_one_f : Joins := [(.r, ⟨[.bool, .sl false 5 (.int .u8), .int .i64, .int .u64], [(4, .one (.h 0))], [(10, [.h 1, .h 2, .h 3])], [], []⟩)]
def ann_s_l1Cur_one_f : Ann := .nil
def env_s_l1Cur_one_f : Env := envOf ti [k_s_l1Cur_pick_f] []
theorem eok_s_l1Cur_one_f : EnvOk Try.prog env_s_l1Cur_one_f := envOf_ok tab mix _ _ (by
  intro k hk
  simp only [List.mem_cons, List.not_mem_nil, or_false] at hk
  rcases hk with rfl
  · exact s_s_l1Cur_pick_f)
theorem v_s_l1Cur_one_f (x0 : Int) (x1 : List Int) (x2 : Int) (x3 : Int) : (vfun env_s_l1Cur_one_f Try.f52 J_s_l1Cur_one_f ann_s_l1Cur_one_f [] [.pl 0 0, .one ⟨.int .i64, x0⟩] [[⟨.sl false 5 (.int .u8), x1⟩, ⟨.int .i64, x2⟩, ⟨.int .u64, x3⟩]]).run = (G.s_l1Cur_one_f x0 x1 x2 x3).bind fun y => some (Res.mk [.one ⟨.bool, y.1⟩] [[⟨.sl false 5 (.int .u8), y.2.1⟩, ⟨.int .i64, y.2.2.1⟩, ⟨.int .u64, y.2.2.2⟩]] []) := by kernel_rfl
def k_s_l1Cur_one_f : Kn := ⟨52, [0, 0], fun args rows => match args, rows with
  | [.pl 0 0, .one ⟨.int .i64, x0⟩], [[⟨.sl false 5 (.int .u8), x1⟩, ⟨.int .i64, x2⟩, ⟨.int .u64, x3⟩]] => some ⟨_, G.s_l1Cur_one_f x0 x1 x2 x3, fun y => ⟨[.one ⟨.bool, y.1⟩], [[⟨.sl false 5 (.int .u8), y.2.1⟩, ⟨.int .i64, y.2.2.1⟩, ⟨.int .u64, y.2.2.2⟩]], []⟩⟩
  | _, _ => none, []⟩
theorem s_s_l1Cur_one_f : KnOk Try.prog k_s_l1Cur_one_f := by
  intro args rows a h y hy
  simp only [k_s_l1Cur_one_f] at h
  split at h
  · injection h with h
    subst h
    exact vfun_ok eok_s_l1Cur_one_f Try.func52 rfl (by rw [v_s_l1Cur_one_f]; simp only at hy; rw [hy]; rfl)
  · cases h

def J_s_l1Cur_among_f : Joins := [(.r, ⟨[.int .i64, .sl false 5 (.int .u8), .int .i64, .int .u64], [(4, .one (.h 0))], [(13, [.h 1, .h 2, .h 3])], [], []⟩)]
def ann_s_l1Cur_among_f : Ann := .nil
def env_s_l1Cur_among_f : Env := envOf ti [k_s_l1Cur_pick_f] []
theorem eok_s_l1Cur_among_f : EnvOk Try.prog env_s_l1Cur_among_f := envOf_ok tab mix _ _ (by
  intro k hk
  simp only [List.mem_cons, List.not_mem_nil, or_false] at hk
  rcases hk with rfl
  · exact s_s_l1Cur_pick_f)
theorem v_s_l1Cur_among_f (x0 : List Int) (x1 : List Int) (x2 : Int) (x3 : Int) : (vfun env_s_l1Cur_among_f Try.f66 J_s_l1Cur_among_f ann_s_l1Cur_among_f [] [.pl 0 0, .one ⟨.sl true 3 (.int .i64), x0⟩] [[⟨.sl false 5 (.int .u8), x1⟩, ⟨.int .i64, x2⟩, ⟨.int .u64, x3⟩]]).run = (G.s_l1Cur_among_f x0 x1 x2 x3).bind fun y => some (Res.mk [.one ⟨.int .i64, y.1⟩] [[⟨.sl false 5 (.int .u8), y.2.1⟩, ⟨.int .i64, y.2.2.1⟩, ⟨.int .u64, y.2.2.2⟩]] []) := by kernel_rfl
def k_s_l1Cur_among_f : Kn := ⟨66, [0, 1], fun args rows => match args, rows with
  | [.pl 0 0, .one ⟨.sl true 3 (.int .i64), x0⟩], [[⟨.sl false 5 (.int .u8), x1⟩, ⟨.int .i64, x2⟩, ⟨.int .u64, x3⟩]] => some ⟨_, G.s_l1Cur_among_f x0 x1 x2 x3, fun y => ⟨[.one ⟨.int .i64, y.1⟩], [[⟨.sl false 5 (.int .u8), y.2.1⟩, ⟨.int .i64, y.2.2.1⟩, ⟨.int .u64, y.2.2.2⟩]], []⟩⟩
  | _, _ => none, []⟩
theorem s_s_l1Cur_among_f : KnOk Try.prog k_s_l1Cur_among_f := by
  intro args rows a h y hy
  simp only [k_s_l1Cur_among_f] at h
  split at h
  · injection h with h
    subst h
    exact vfun_ok eok_s_l1Cur_among_f Try.func66 rfl (by rw [v_s_l1Cur_among_f]; simp only at hy; rw [hy]; rfl)
  · cases h

def J_s_l1Cur_disk_f : Joins := [(.r, ⟨[.sl true 33 (.sl true 5 (.int .u8)), .int .i64, .bool, .int .i64, .sl false 5 (.int .u8), .int .i64, .int .u64], [(2, .pl 2 0)], [(2, [.vw 170055, .h 1, .h 2, .h 3]), (67, [.h 4, .h 5, .h 6])], [(170055, 0)], []⟩)]
def ann_s_l1Cur_disk_f : Ann := .seq .nil (.seq .nil (.seq (.seq .nil (.block [] (.loop ⟨[.int .i64, .int .i64, .bool, .int .i64, .sl true 33 (.sl true 5 (.int .u8)), .int .i64, .bool, .int .i64, .sl false 5 (.int .u8), .int .i64, .int .u64], [(0, .pl 67 0), (2, .pl 2 0), (3, .pl 3 0), (5, .one (.h 0))], [(2, [.nil, .h 1, .h 2, .h 3]), (3, [.vw 169984, .h 5, .h 6, .h 7]), (67, [.h 8, .h 9, .h 10])], [(169984, 4)], []⟩ [(.x 0, ⟨[.int .i64, .bool, .int .i64, .sl true 33 (.sl true 5 (.int .u8)), .int .i64, .bool, .int .i64, .sl false 5 (.int .u8), .int .i64, .int .u64], [(0, .pl 67 0), (2, .pl 2 0), (3, .pl 3 0)], [(2, [.nil, .h 0, .h 1, .h 2]), (3, [.vw 170048, .h 4, .h 5, .h 6]), (67, [.h 7, .h 8, .h 9])], [(170048, 3)], []⟩)] .nil))) (.seq (.seq .nil (.cond [(.n, ⟨[.int .i64, .bool, .int .i64, .sl true 33 (.sl true 5 (.int .u8)), .int .i64, .bool, .int .i64, .sl false 5 (.int .u8), .int .i64, .int .u64], [(0, .pl 67 0), (2, .pl 2 0), (3, .pl 3 0)], [(2, [.nil, .h 0, .h 1, .h 2]), (3, [.vw 170049, .h 4, .h 5, .h 6]), (67, [.h 7, .h 8, .h 9])], [(170049, 3)], []⟩)] .nil .nil)) (.seq (.seq .nil (.block [] (.seq .nil (.cond [(.n, ⟨[.int .i64, .bool, .int .i64, .sl true 33 (.sl true 5 (.int .u8)), .int .i64, .bool, .int .i64, .sl false 5 (.int .u8), .int .i64, .int .u64], [(2, .pl 2 0), (3, .pl 3 0)], [(2, [.nil, .h 0, .h 1, .h 2]), (3, [.vw 170054, .h 4, .h 5, .h 6]), (67, [.h 7, .h 8, .h 9])], [(170054, 3)], []⟩)] .nil (.seq .nil (.cond [(.n, ⟨[.int .i64, .bool, .int .i64, .sl true 33 (.sl true 5 (.int .u8)), .int .i64, .bool, .int .i64, .sl false 5 (.int .u8), .int .i64, .int .u64], [(2, .pl 2 0), (3, .pl 3 0)], [(2, [.nil, .h 0, .h 1, .h 2]), (3, [.vw 170053, .h 4, .h 5, .h 6]), (67, [.h 7, .h 8, .h 9])], [(170053, 3)], []⟩)] .nil (.seq .nil (.cond [(.n, ⟨[.int .i64, .bool, .int .i64, .sl true 33 (.sl true 5 (.int .u8)), .int .i64, .bool, .int .i64, .sl false 5 (.int .u8), .int .i64, .int .u64], [(2, .pl 2 0), (3, .pl 3 0)], [(2, [.nil, .h 0, .h 1, .h 2]), (3, [.vw 170052, .h 4, .h 5, .h 6]), (67, [.h 7, .h 8, .h 9])], [(170052, 3)], []⟩)] .nil (.seq .nil (.cond [(.n, ⟨[.int .i64, .bool, .int .i64, .sl true 33 (.sl true 5 (.int .u8)), .int .i64, .bool, .int .i64, .sl false 5 (.int .u8), .int .i64, .int .u64], [(2, .pl 2 0), (3, .pl 3 0)], [(2, [.nil, .h 0, .h 1, .h 2]), (3, [.vw 170051, .h 4, .h 5, .h 6]), (67, [.h 7, .h 8, .h 9])], [(170051, 3)], []⟩)] .nil (.seq .nil (.cond [(.n, ⟨[.int .i64, .bool, .int .i64, .sl true 33 (.sl true 5 (.int .u8)), .int .i64, .bool, .int .i64, .sl false 5 (.int .u8), .int .i64, .int .u64], [(2, .pl 2 0), (3, .pl 3 0)], [(2, [.nil, .h 0, .h 1, .h 2]), (3, [.vw 170050, .h 4, .h 5, .h 6]), (67, [.h 7, .h 8, .h 9])], [(170050, 3)], [.mc 3 0]⟩)] .nil .nil)))))))))))) .nil))))
def env_s_l1Cur_disk_f : Env := envOf ti [k_s_l1Cur_pick_f, k_s_NewDisk, k_s_l1Cur_block_f, k_s_l2Put_o, k_s_l1Cur_one_f, k_s_l1Cur_among_f] []
theorem eok_s_l1Cur_disk_f : EnvOk Try.prog env_s_l1Cur_disk_f := envOf_ok tab mix _ _ (by
  intro k hk
  simp only [List.mem_cons, List.not_mem_nil, or_false] at hk
  rcases hk with rfl | rfl | rfl | rfl | rfl | rfl
  · exact s_s_l1Cur_pick_f
  · exact s_s_NewDisk
  · exact s_s_l1Cur_block_f
  · exact s_s_l2Put_o
  · exact s_s_l1Cur_one_f
  · exact s_s_l1Cur_among_f)
theorem v_s_l1Cur_disk_f (x0 : List Int) (x1 : Int) (x2 : Int) : (vfun env_s_l1Cur_disk_f Try.f50 J_s_l1Cur_disk_f ann_s_l1Cur_disk_f [] [.pl 0 0] [[⟨.sl false 5 (.int .u8), x0⟩, ⟨.int .i64, x1⟩, ⟨.int .u64, x2⟩]]).run = (G.s_l1Cur_disk_f x0 x1 x2).bind fun y => some (Res.mk [.ag [⟨.sl true 33 (.sl true 5 (.int .u8)), y.1⟩, ⟨.int .i64, y.2.1⟩, ⟨.bool, y.2.2.1⟩, ⟨.int .i64, y.2.2.2.1⟩]] [[⟨.sl false 5 (.int .u8), y.2.2.2.2.1⟩, ⟨.int .i64, y.2.2.2.2.2.1⟩, ⟨.int .u64, y.2.2.2.2.2.2⟩]] []) := by kernel_rfl
def k_s_l1Cur_disk_f : Kn := ⟨50, [0], fun args rows => match args, rows with
  | [.pl 0 0], [[⟨.sl false 5 (.int .u8), x0⟩, ⟨.int .i64, x1⟩, ⟨.int .u64, x2⟩]] => some ⟨_, G.s_l1Cur_disk_f x0 x1 x2, fun y => ⟨[.ag [⟨.sl true 33 (.sl true 5 (.int .u8)), y.1⟩, ⟨.int .i64, y.2.1⟩, ⟨.bool, y.2.2.1⟩, ⟨.int .i64, y.2.2.2.1⟩]], [[⟨.sl false 5 (.int .u8), y.2.2.2.2.1⟩, ⟨.int .i64, y.2.2.2.2.2.1⟩, ⟨.int .u64, y.2.2.2.2.2.2⟩]], []⟩⟩
  | _, _ => none, []⟩
theorem s_s_l1Cur_disk_f : KnOk Try.prog k_s_l1Cur_disk_f := by
  intro args rows a h y hy
  simp only [k_s_l1Cur_disk_f] at h
  split at h
  · injection h with h
    subst h
    exact vfun_ok eok_s_l1Cur_disk_f Try.func50 rfl (by rw [v_s_l1Cur_disk_f]; simp only at hy; rw [hy]; rfl)
  · cases h

def J_s_l1Cur_place_f : Joins := [(.r, ⟨[.int .i64, .sl false 5 (.int .u8), .int .i64, .int .u64], [(4, .one (.h 0))], [(19, [.h 1, .h 2, .h 3])], [], []⟩)]
def ann_s_l1Cur_place_f : Ann := .nil
def env_s_l1Cur_place_f : Env := envOf ti [k_s_l1Cur_one_f, k_s_l1Cur_among_f, k_s_l1Cur_pick_f] []
theorem eok_s_l1Cur_place_f : EnvOk Try.prog env_s_l1Cur_place_f := envOf_ok tab mix _ _ (by
  intro k hk
  simp only [List.mem_cons, List.not_mem_nil, or_false] at hk
  rcases hk with rfl | rfl | rfl
  · exact s_s_l1Cur_one_f
  · exact s_s_l1Cur_among_f
  · exact s_s_l1Cur_pick_f)
theorem v_s_l1Cur_place_f (x0 : List (List Int)) (x1 : Int) (x2 : Bool) (x3 : Int) (x4 : List Int) (x5 : Int) (x6 : Int) : (vfun env_s_l1Cur_place_f Try.f53 J_s_l1Cur_place_f ann_s_l1Cur_place_f [] [.pl 0 0, .ag [⟨.sl false 33 (.sl false 5 (.int .u8)), x0⟩, ⟨.int .i64, x1⟩, ⟨.bool, x2⟩, ⟨.int .i64, x3⟩]] [[⟨.sl false 5 (.int .u8), x4⟩, ⟨.int .i64, x5⟩, ⟨.int .u64, x6⟩]]).run = (G.s_l1Cur_place_f x0 x1 x2 x3 x4 x5 x6).bind fun y => some (Res.mk [.one ⟨.int .i64, y.1⟩] [[⟨.sl false 5 (.int .u8), y.2.1⟩, ⟨.int .i64, y.2.2.1⟩, ⟨.int .u64, y.2.2.2⟩]] []) := by kernel_rfl
def k_s_l1Cur_place_f : Kn := ⟨53, [0, 0], fun args rows => match args, rows with
  | [.pl 0 0, .ag [⟨.sl false 33 (.sl false 5 (.int .u8)), x0⟩, ⟨.int .i64, x1⟩, ⟨.bool, x2⟩, ⟨.int .i64, x3⟩]], [[⟨.sl false 5 (.int .u8), x4⟩, ⟨.int .i64, x5⟩, ⟨.int .u64, x6⟩]] => some ⟨_, G.s_l1Cur_place_f x0 x1 x2 x3 x4 x5 x6, fun y => ⟨[.one ⟨.int .i64, y.1⟩], [[⟨.sl false 5 (.int .u8), y.2.1⟩, ⟨.int .i64, y.2.2.1⟩, ⟨.int .u64, y.2.2.2⟩]], []⟩⟩
  | _, _ => none, []⟩
theorem s_s_l1Cur_place_f : KnOk Try.prog k_s_l1Cur_place_f := by
  intro args rows a h y hy
  simp only [k_s_l1Cur_place_f] at h
  split at h
  · injection h with h
    subst h
    exact vfun_ok eok_s_l1Cur_place_f Try.func53 rfl (by rw [v_s_l1Cur_place_f]; simp only at hy; rw [hy]; rfl)
  · cases h

def J_s_l1Cur_place_l_f : Joins := [(.r, ⟨[.sl true 33 (.sl true 5 (.int .u8)), .int .i64, .bool, .int .i64, .int .i64, .sl false 5 (.int .u8), .int .i64, .int .u64], [(1, .ag [.vw 120832, .h 1, .h 2, .h 3]), (4, .one (.h 4))], [(19, [.h 5, .h 6, .h 7])], [(120832, 0)], []⟩)]
def ann_s_l1Cur_place_l_f : Ann := .nil
def env_s_l1Cur_place_l_f : Env := envOf ti [k_s_l1Cur_one_f, k_s_l1Cur_among_f, k_s_l1Cur_pick_f] [1]
theorem eok_s_l1Cur_place_l_f : EnvOk Try.prog env_s_l1Cur_place_l_f := envOf_ok tab mix _ _ (by
  intro k hk
  simp only [List.mem_cons, List.not_mem_nil, or_false] at hk
  rcases hk with rfl | rfl | rfl
  · exact s_s_l1Cur_one_f
  · exact s_s_l1Cur_among_f
  · exact s_s_l1Cur_pick_f)
theorem v_s_l1Cur_place_l_f (x0 : List (List Int)) (x1 : Int) (x2 : Bool) (x3 : Int) (x4 : List Int) (x5 : Int) (x6 : Int) : (vfun env_s_l1Cur_place_l_f Try.f53 J_s_l1Cur_place_l_f ann_s_l1Cur_place_l_f [(1, 0)] [.pl 0 0, .ag [⟨.sl true 33 (.sl true 5 (.int .u8)), x0⟩, ⟨.int .i64, x1⟩, ⟨.bool, x2⟩, ⟨.int .i64, x3⟩]] [[⟨.sl false 5 (.int .u8), x4⟩, ⟨.int .i64, x5⟩, ⟨.int .u64, x6⟩]]).run = (G.s_l1Cur_place_l_f x0 x1 x2 x3 x4 x5 x6).bind fun y => some (Res.mk [.one ⟨.int .i64, y.2.2.2.2.1⟩] [[⟨.sl false 5 (.int .u8), y.2.2.2.2.2.1⟩, ⟨.int .i64, y.2.2.2.2.2.2.1⟩, ⟨.int .u64, y.2.2.2.2.2.2.2⟩]] [((1, 0), ⟨.sl true 33 (.sl true 5 (.int .u8)), y.1⟩)]) := by kernel_rfl
def k_s_l1Cur_place_l_f : Kn := ⟨53, [0, 2], fun args rows => match args, rows with
  | [.pl 0 0, .ag [⟨.sl true 33 (.sl true 5 (.int .u8)), x0⟩, ⟨.int .i64, x1⟩, ⟨.bool, x2⟩, ⟨.int .i64, x3⟩]], [[⟨.sl false 5 (.int .u8), x4⟩, ⟨.int .i64, x5⟩, ⟨.int .u64, x6⟩]] => some ⟨_, G.s_l1Cur_place_l_f x0 x1 x2 x3 x4 x5 x6, fun y => ⟨[.one ⟨.int .i64, y.2.2.2.2.1⟩], [[⟨.sl false 5 (.int .u8), y.2.2.2.2.2.1⟩, ⟨.int .i64, y.2.2.2.2.2.2.1⟩, ⟨.int .u64, y.2.2.2.2.2.2.2⟩]], [((1, 0), ⟨.sl true 33 (.sl true 5 (.int .u8)), y.1⟩)]⟩⟩
  | _, _ => none, []⟩
theorem s_s_l1Cur_place_l_f : KnOk Try.prog k_s_l1Cur_place_l_f := by
  intro args rows a h y hy
  simp only [k_s_l1Cur_place_l_f] at h
  split at h
  · injection h with h
    subst h
    exact vfun_ok eok_s_l1Cur_place_l_f Try.func53 rfl (by rw [v_s_l1Cur_place_l_f]; simp only at hy; rw [hy]; rfl)
  · cases h

def J_s_DrawWriteBlock : Joins := [(.r, ⟨[.int .i64, .sl true 5 (.int .u8), .sl true 33 (.sl true 5 (.int .u8)), .int .i64, .bool, .int .i64], [(2, .pl 2 0), (3, .one (.h 0)), (4, .one (.vw 126978))], [(2, [.vw 126979, .h 3, .h 4, .h 5])], [(126978, 1), (126979, 2)], []⟩)]
def ann_s_DrawWriteBlock : Ann := .seq .nil (.seq .nil (.seq .nil (.seq .nil (.seq (.seq .nil (.cond [(.n, ⟨[.sl true 5 (.int .u8), .int .i64, .bool, .int .i64, .sl true 33 (.sl true 5 (.int .u8)), .int .i64, .bool, .int .i64, .sl false 5 (.int .u8), .int .i64, .int .u64], [(2, .pl 2 0), (5, .pl 10 0), (6, .pl 6 0), (7, .one (.vw 126976))], [(2, [.nil, .h 1, .h 2, .h 3]), (6, [.vw 126977, .h 5, .h 6, .h 7]), (10, [.h 8, .h 9, .h 10])], [(126976, 0), (126977, 4)], [.sl 7]⟩)] .nil .nil)) .nil))))
def env_s_DrawWriteBlock : Env := envOf ti [k_s_l1Cur_disk_f, k_s_l1Cur_block_f, k_s_l1Cur_one_f, k_s_l1Cur_place_l_f] []
theorem eok_s_DrawWriteBlock : EnvOk Try.prog env_s_DrawWriteBlock := envOf_ok tab mix _ _ (by
  intro k hk
  simp only [List.mem_cons, List.not_mem_nil, or_false] at hk
  rcases hk with rfl | rfl | rfl | rfl
  · exact s_s_l1Cur_disk_f
  · exact s_s_l1Cur_block_f
  · exact s_s_l1Cur_one_f
  · exact s_s_l1Cur_place_l_f)
theorem v_s_DrawWriteBlock (x0 : List Int) : (vfun env_s_DrawWriteBlock Try.f16 J_s_DrawWriteBlock ann_s_DrawWriteBlock [] [.one ⟨.sl false 5 (.int .u8), x0⟩] []).run = (G.s_DrawWriteBlock x0).bind fun y => some (Res.mk [.ag [⟨.sl true 33 (.sl true 5 (.int .u8)), y.2.2.1⟩, ⟨.int .i64, y.2.2.2.1⟩, ⟨.bool, y.2.2.2.2.1⟩, ⟨.int .i64, y.2.2.2.2.2⟩], .one ⟨.int .i64, y.1⟩, .one ⟨.sl true 5 (.int .u8), y.2.1⟩] [] []) := by kernel_rfl
def k_s_DrawWriteBlock : Kn := ⟨16, [0], fun args rows => match args, rows with
  | [.one ⟨.sl false 5 (.int .u8), x0⟩], [] => some ⟨_, G.s_DrawWriteBlock x0, fun y => ⟨[.ag [⟨.sl true 33 (.sl true 5 (.int .u8)), y.2.2.1⟩, ⟨.int .i64, y.2.2.2.1⟩, ⟨.bool, y.2.2.2.2.1⟩, ⟨.int .i64, y.2.2.2.2.2⟩], .one ⟨.int .i64, y.1⟩, .one ⟨.sl true 5 (.int .u8), y.2.1⟩], [], []⟩⟩
  | _, _ => none, []⟩
theorem s_s_DrawWriteBlock : KnOk Try.prog k_s_DrawWriteBlock := by
  intro args rows a h y hy
  simp only [k_s_DrawWriteBlock] at h
  split at h
  · injection h with h
    subst h
    exact vfun_ok eok_s_DrawWriteBlock Try.func16 rfl (by rw [v_s_DrawWriteBlock]; simp only at hy; rw [hy]; rfl)
  · cases h
end
end Go.Proofs.Ytdicgiljgelkfaa

set_option linter.unusedVariables false
set_option maxRecDepth 100000
namespace Go.Proofs.Ytdicgiljgelkfaa
open Go.V
noncomputable section
def J_i_within : Joins := [(.r, ⟨[.bool], [(6, .one (.h 0))], [], [], []⟩)]
def ann_i_within : Ann := .seq .nil (.seq (.reg [(.n, ⟨[.bool], [(6, .one (.h 0))], [], [], []⟩)]) .nil)
def env_i_within : Env := envOf ti [] []
theorem eok_i_within : EnvOk Try.prog env_i_within := envOf_ok tab mix _ _ (by
  intro k hk; cases hk)
theorem v_i_within (x0 : Int) (x1 : Int) (x2 : Int) : (vfun env_i_within Try.f68 J_i_within ann_i_within [] [.one ⟨.int .i64, x0⟩, .one ⟨.int .i64, x1⟩, .one ⟨.int .i64, x2⟩] []).run = (G.i_within x0 x1 x2).bind fun y => some (Res.mk [.one ⟨.bool, y⟩] [] []) := by kernel_rfl
def k_i_within : Kn := ⟨68, [0, 0, 0], fun args rows => match args, rows with
  | [.one ⟨.int .i64, x0⟩, .one ⟨.int .i64, x1⟩, .one ⟨.int .i64, x2⟩], [] => some ⟨_, G.i_within x0 x1 x2, fun y => ⟨[.one ⟨.bool, y⟩], [], []⟩⟩
  | _, _ => none, []⟩
theorem s_i_within : KnOk Try.prog k_i_within := by
  intro args rows a h y hy
  simp only [k_i_within] at h
  split at h
  · injection h with h
    subst h
    exact vfun_ok eok_i_within Try.func68 rfl (by rw [v_i_within]; simp only at hy; rw [hy]; rfl)
  · cases h

def J_i_areBlocks_1 : Joins := [(.r, ⟨[.bool], [(2, .one (.h 0))], [], [], []⟩)]
def ann_i_areBlocks_1 : Ann := .nil
def env_i_areBlocks_1 : Env := envOf ti [] []
theorem eok_i_areBlocks_1 : EnvOk Try.prog env_i_areBlocks_1 := envOf_ok tab mix _ _ (by
  intro k hk; cases hk)
theorem v_i_areBlocks_1 (x0 : List Int) : (vfun env_i_areBlocks_1 Try.f103 J_i_areBlocks_1 ann_i_areBlocks_1 [] [.one ⟨.sl false 5 (.int .u8), x0⟩] []).run = (G.i_areBlocks_1 x0).bind fun y => some (Res.mk [.one ⟨.bool, y⟩] [] []) := by kernel_rfl
def k_i_areBlocks_1 : Kn := ⟨103, [0], fun args rows => match args, rows with
  | [.one ⟨.sl false 5 (.int .u8), x0⟩], [] => some ⟨_, G.i_areBlocks_1 x0, fun y => ⟨[.one ⟨.bool, y⟩], [], []⟩⟩
  | _, _ => none, []⟩
theorem s_i_areBlocks_1 : KnOk Try.prog k_i_areBlocks_1 := by
  intro args rows a h y hy
  simp only [k_i_areBlocks_1] at h
  split at h
  · injection h with h
    subst h
    exact vfun_ok eok_i_areBlocks_1 Try.func103 rfl (by rw [v_i_areBlocks_1]; simp only at hy; rw [hy]; rfl)
  · cases h

def J_slices_IndexFunc_byte_byte_i_areBlocks_1 : Joins := [(.r, ⟨[.int .i64], [(4, .one (.h 0))], [], [], []⟩)]
def ann_slices_IndexFunc_byte_byte_i_areBlocks_1 : Ann := .seq .nil (.seq (.seq .nil (.block [] (.loop ⟨[.sl false 33 (.sl false 5 (.int .u8)), .int .i64, .int .i64], [(0, .one (.h 0)), (1, .fv 103 []), (7, .one (.h 1)), (8, .one (.h 2))], [], [], []⟩ [(.x 0, ⟨[], [], [], [], []⟩), (.r, ⟨[.int .i64], [(4, .one (.h 0))], [], [], []⟩)] .nil))) .nil)
def env_slices_IndexFunc_byte_byte_i_areBlocks_1 : Env := envOf ti [k_i_areBlocks_1] []
theorem eok_slices_IndexFunc_byte_byte_i_areBlocks_1 : EnvOk Try.prog env_slices_IndexFunc_byte_byte_i_areBlocks_1 := envOf_ok tab mix _ _ (by
  intro k hk
  simp only [List.mem_cons, List.not_mem_nil, or_false] at hk
  rcases hk with rfl
  · exact s_i_areBlocks_1)
theorem v_slices_IndexFunc_byte_byte_i_areBlocks_1 (x0 : List (List Int)) : (vfun env_slices_IndexFunc_byte_byte_i_areBlocks_1 Try.f105 J_slices_IndexFunc_byte_byte_i_areBlocks_1 ann_slices_IndexFunc_byte_byte_i_areBlocks_1 [] [.one ⟨.sl false 33 (.sl false 5 (.int .u8)), x0⟩, .fv 103 []] []).run = (G.slices_IndexFunc_byte_byte_i_areBlocks_1 x0).bind fun y => some (Res.mk [.one ⟨.int .i64, y⟩] [] []) := by kernel_rfl
def k_slices_IndexFunc_byte_byte_i_areBlocks_1 : Kn := ⟨105, [0, 0], fun args rows => match args, rows with
  | [.one ⟨.sl false 33 (.sl false 5 (.int .u8)), x0⟩, .fv 103 []], [] => some ⟨_, G.slices_IndexFunc_byte_byte_i_areBlocks_1 x0, fun y => ⟨[.one ⟨.int .i64, y⟩], [], []⟩⟩
  | _, _ => none, []⟩
theorem s_slices_IndexFunc_byte_byte_i_areBlocks_1 : KnOk Try.prog k_slices_IndexFunc_byte_byte_i_areBlocks_1 := by
  intro args rows a h y hy
  simp only [k_slices_IndexFunc_byte_byte_i_areBlocks_1] at h
  split at h
  · injection h with h
    subst h
    exact vfun_ok eok_slices_IndexFunc_byte_byte_i_areBlocks_1 Try.func105 rfl (by rw [v_slices_IndexFunc_byte_byte_i_areBlocks_1]; simp only at hy; rw [hy]; rfl)
  · cases h

def J_slices_ContainsFunc_byte_byte_i_areBlocks_1 : Joins := [(.r, ⟨[.bool], [(4, .one (.h 0))], [], [], []⟩)]
def ann_slices_ContainsFunc_byte_byte_i_areBlocks_1 : Ann := .nil
def env_slices_ContainsFunc_byte_byte_i_areBlocks_1 : Env := envOf ti [k_slices_IndexFunc_byte_byte_i_areBlocks_1] []
theorem eok_slices_ContainsFunc_byte_byte_i_areBlocks_1 : EnvOk Try.prog env_slices_ContainsFunc_byte_byte_i_areBlocks_1 := envOf_ok tab mix _ _ (by
  intro k hk
  simp only [List.mem_cons, List.not_mem_nil, or_false] at hk
  rcases hk with rfl
  · exact s_slices_IndexFunc_byte_byte_i_areBlocks_1)
theorem v_slices_ContainsFunc_byte_byte_i_areBlocks_1 (x0 : List (List Int)) : (vfun env_slices_ContainsFunc_byte_byte_i_areBlocks_1 Try.f102 J_slices_ContainsFunc_byte_byte_i_areBlocks_1 ann_slices_ContainsFunc_byte_byte_i_areBlocks_1 [] [.one ⟨.sl false 33 (.sl false 5 (.int .u8)), x0⟩, .fv 103 []] []).run = (G.slices_ContainsFunc_byte_byte_i_areBlocks_1 x0).bind fun y => some (Res.mk [.one ⟨.bool, y⟩] [] []) := by kernel_rfl
def k_slices_ContainsFunc_byte_byte_i_areBlocks_1 : Kn := ⟨102, [0, 0], fun args rows => match args, rows with
  | [.one ⟨.sl false 33 (.sl false 5 (.int .u8)), x0⟩, .fv 103 []], [] => some ⟨_, G.slices_ContainsFunc_byte_byte_i_areBlocks_1 x0, fun y => ⟨[.one ⟨.bool, y⟩], [], []⟩⟩
  | _, _ => none, []⟩
theorem s_slices_ContainsFunc_byte_byte_i_areBlocks_1 : KnOk Try.prog k_slices_ContainsFunc_byte_byte_i_areBlocks_1 := by
  intro args rows a h y hy
  simp only [k_slices_ContainsFunc_byte_byte_i_areBlocks_1] at h
  split at h
  · injection h with h
    subst h
    exact vfun_ok eok_slices_ContainsFunc_byte_byte_i_areBlocks_1 Try.func102 rfl (by rw [v_slices_ContainsFunc_byte_byte_i_areBlocks_1]; simp only at hy; rw [hy]; rfl)
  · cases h

def J_i_areBlocks : Joins := [(.r, ⟨[.bool], [(2, .one (.h 0))], [], [], []⟩)]
def ann_i_areBlocks : Ann := .seq .nil (.seq (.reg [(.n, ⟨[.bool], [(2, .one (.h 0))], [], [], []⟩)]) .nil)
def env_i_areBlocks : Env := envOf ti [k_i_within, k_slices_ContainsFunc_byte_byte_i_areBlocks_1] []
theorem eok_i_areBlocks : EnvOk Try.prog env_i_areBlocks := envOf_ok tab mix _ _ (by
  intro k hk
  simp only [List.mem_cons, List.not_mem_nil, or_false] at hk
  rcases hk with rfl | rfl
  · exact s_i_within
  · exact s_slices_ContainsFunc_byte_byte_i_areBlocks_1)
theorem v_i_areBlocks (x0 : List (List Int)) : (vfun env_i_areBlocks Try.f95 J_i_areBlocks ann_i_areBlocks [] [.one ⟨.sl false 33 (.sl false 5 (.int .u8)), x0⟩] []).run = (G.i_areBlocks x0).bind fun y => some (Res.mk [.one ⟨.bool, y⟩] [] []) := by kernel_rfl
def k_i_areBlocks : Kn := ⟨95, [0], fun args rows => match args, rows with
  | [.one ⟨.sl false 33 (.sl false 5 (.int .u8)), x0⟩], [] => some ⟨_, G.i_areBlocks x0, fun y => ⟨[.one ⟨.bool, y⟩], [], []⟩⟩
  | _, _ => none, []⟩
theorem s_i_areBlocks : KnOk Try.prog k_i_areBlocks := by
  intro args rows a h y hy
  simp only [k_i_areBlocks] at h
  split at h
  · injection h with h
    subst h
    exact vfun_ok eok_i_areBlocks Try.func95 rfl (by rw [v_i_areBlocks]; simp only at hy; rw [hy]; rfl)
  · cases h

def J_i_GoodDisk : Joins := [(.r, ⟨[.bool], [(2, .one (.h 0))], [], [], []⟩)]
def ann_i_GoodDisk : Ann := .seq .nil (.seq (.reg [(.n, ⟨[.bool], [(2, .one (.h 0))], [], [], []⟩)]) .nil)
def env_i_GoodDisk : Env := envOf ti [k_i_areBlocks, k_i_within] []
theorem eok_i_GoodDisk : EnvOk Try.prog env_i_GoodDisk := envOf_ok tab mix _ _ (by
  intro k hk
  simp only [List.mem_cons, List.not_mem_nil, or_false] at hk
  rcases hk with rfl | rfl
  · exact s_i_areBlocks
  · exact s_i_within)
theorem v_i_GoodDisk (x0 : List (List Int)) (x1 : Int) (x2 : Bool) (x3 : Int) : (vfun env_i_GoodDisk Try.f54 J_i_GoodDisk ann_i_GoodDisk [] [.ag [⟨.sl false 33 (.sl false 5 (.int .u8)), x0⟩, ⟨.int .i64, x1⟩, ⟨.bool, x2⟩, ⟨.int .i64, x3⟩]] []).run = (G.i_GoodDisk x0 x1 x2 x3).bind fun y => some (Res.mk [.one ⟨.bool, y⟩] [] []) := by kernel_rfl
def k_i_GoodDisk : Kn := ⟨54, [0], fun args rows => match args, rows with
  | [.ag [⟨.sl false 33 (.sl false 5 (.int .u8)), x0⟩, ⟨.int .i64, x1⟩, ⟨.bool, x2⟩, ⟨.int .i64, x3⟩]], [] => some ⟨_, G.i_GoodDisk x0 x1 x2 x3, fun y => ⟨[.one ⟨.bool, y⟩], [], []⟩⟩
  | _, _ => none, []⟩
theorem s_i_GoodDisk : KnOk Try.prog k_i_GoodDisk := by
  intro args rows a h y hy
  simp only [k_i_GoodDisk] at h
  split at h
  · injection h with h
    subst h
    exact vfun_ok eok_i_GoodDisk Try.func54 rfl (by rw [v_i_GoodDisk]; simp only at hy; rw [hy]; rfl)
  · cases h

def J_slices_Clone_byte_byte : Joins := [(.r, ⟨[.sl true 5 (.int .u8)], [(2, .one (.vw 110592))], [], [(110592, 0)], []⟩)]
def ann_slices_Clone_byte_byte : Ann := .seq .nil (.seq (.seq .nil (.cond [(.n, ⟨[.sl false 5 (.int .u8)], [(0, .one (.h 0))], [], [], []⟩), (.r, ⟨[], [(2, .one (.nil))], [], [], []⟩)] .nil .nil)) .nil)
def env_slices_Clone_byte_byte : Env := envOf ti [] []
theorem eok_slices_Clone_byte_byte : EnvOk Try.prog env_slices_Clone_byte_byte := envOf_ok tab mix _ _ (by
  intro k hk; cases hk)
theorem v_slices_Clone_byte_byte (x0 : List Int) : (vfun env_slices_Clone_byte_byte Try.f62 J_slices_Clone_byte_byte ann_slices_Clone_byte_byte [] [.one ⟨.sl false 5 (.int .u8), x0⟩] []).run = (G.slices_Clone_byte_byte x0).bind fun y => some (Res.mk [.one ⟨.sl true 5 (.int .u8), y⟩] [] []) := by kernel_rfl
def k_slices_Clone_byte_byte : Kn := ⟨62, [0], fun args rows => match args, rows with
  | [.one ⟨.sl false 5 (.int .u8), x0⟩], [] => some ⟨_, G.slices_Clone_byte_byte x0, fun y => ⟨[.one ⟨.sl true 5 (.int .u8), y⟩], [], []⟩⟩
  | _, _ => none, []⟩
theorem s_slices_Clone_byte_byte : KnOk Try.prog k_slices_Clone_byte_byte := by
  intro args rows a h y hy
  simp only [k_slices_Clone_byte_byte] at h
  split at h
  · injection h with h
    subst h
    exact vfun_ok eok_slices_Clone_byte_byte Try.func62 rfl (by rw [v_slices_Clone_byte_byte]; simp only at hy; rw [hy]; rfl)
  · cases h

def J_i_copyBlocks : Joins := [(.r, ⟨[.sl true 33 (.sl true 5 (.int .u8))], [(2, .one (.vw 122945))], [], [(122945, 0)], []⟩)]
def ann_i_copyBlocks : Ann := .seq .nil (.seq .nil (.seq (.seq .nil (.block [] (.loop ⟨[.sl true 33 (.sl true 5 (.int .u8)), .sl false 33 (.sl false 5 (.int .u8)), .int .i64, .int .i64], [(3, .one (.vw 122880)), (7, .one (.h 1)), (8, .one (.h 2)), (9, .one (.h 3))], [], [(122880, 0)], []⟩ [(.x 0, ⟨[.sl true 33 (.sl true 5 (.int .u8))], [(3, .one (.vw 122944))], [], [(122944, 0)], []⟩)] .nil))) .nil))
def env_i_copyBlocks : Env := envOf ti [k_slices_Clone_byte_byte] []
theorem eok_i_copyBlocks : EnvOk Try.prog env_i_copyBlocks := envOf_ok tab mix _ _ (by
  intro k hk
  simp only [List.mem_cons, List.not_mem_nil, or_false] at hk
  rcases hk with rfl
  · exact s_slices_Clone_byte_byte)
theorem v_i_copyBlocks (x0 : List (List Int)) : (vfun env_i_copyBlocks Try.f96 J_i_copyBlocks ann_i_copyBlocks [] [.one ⟨.sl false 33 (.sl false 5 (.int .u8)), x0⟩] []).run = (G.i_copyBlocks x0).bind fun y => some (Res.mk [.one ⟨.sl true 33 (.sl true 5 (.int .u8)), y⟩] [] []) := by kernel_rfl
def k_i_copyBlocks : Kn := ⟨96, [0], fun args rows => match args, rows with
  | [.one ⟨.sl false 33 (.sl false 5 (.int .u8)), x0⟩], [] => some ⟨_, G.i_copyBlocks x0, fun y => ⟨[.one ⟨.sl true 33 (.sl true 5 (.int .u8)), y⟩], [], []⟩⟩
  | _, _ => none, []⟩
theorem s_i_copyBlocks : KnOk Try.prog k_i_copyBlocks := by
  intro args rows a h y hy
  simp only [k_i_copyBlocks] at h
  split at h
  · injection h with h
    subst h
    exact vfun_ok eok_i_copyBlocks Try.func96 rfl (by rw [v_i_copyBlocks]; simp only at hy; rw [hy]; rfl)
  · cases h

def J_i_Disk_copied : Joins := [(.r, ⟨[.sl true 33 (.sl true 5 (.int .u8)), .int .i64, .bool, .int .i64], [(2, .pl 2 0)], [(2, [.vw 110592, .h 1, .h 2, .h 3])], [(110592, 0)], []⟩)]
def ann_i_Disk_copied : Ann := .nil
def env_i_Disk_copied : Env := envOf ti [k_i_copyBlocks] []
theorem eok_i_Disk_copied : EnvOk Try.prog env_i_Disk_copied := envOf_ok tab mix _ _ (by
  intro k hk
  simp only [List.mem_cons, List.not_mem_nil, or_false] at hk
  rcases hk with rfl
  · exact s_i_copyBlocks)
theorem v_i_Disk_copied (x0 : List (List Int)) (x1 : Int) (x2 : Bool) (x3 : Int) : (vfun env_i_Disk_copied Try.f55 J_i_Disk_copied ann_i_Disk_copied [] [.ag [⟨.sl false 33 (.sl false 5 (.int .u8)), x0⟩, ⟨.int .i64, x1⟩, ⟨.bool, x2⟩, ⟨.int .i64, x3⟩]] []).run = (G.i_Disk_copied x0 x1 x2 x3).bind fun y => some (Res.mk [.ag [⟨.sl true 33 (.sl true 5 (.int .u8)), y.1⟩, ⟨.int .i64, y.2.1⟩, ⟨.bool, y.2.2.1⟩, ⟨.int .i64, y.2.2.2⟩]] [] []) := by kernel_rfl
def k_i_Disk_copied : Kn := ⟨55, [0], fun args rows => match args, rows with
  | [.ag [⟨.sl false 33 (.sl false 5 (.int .u8)), x0⟩, ⟨.int .i64, x1⟩, ⟨.bool, x2⟩, ⟨.int .i64, x3⟩]], [] => some ⟨_, G.i_Disk_copied x0 x1 x2 x3, fun y => ⟨[.ag [⟨.sl true 33 (.sl true 5 (.int .u8)), y.1⟩, ⟨.int .i64, y.2.1⟩, ⟨.bool, y.2.2.1⟩, ⟨.int .i64, y.2.2.2⟩]], [], []⟩⟩
  | _, _ => none, []⟩
theorem s_i_Disk_copied : KnOk Try.prog k_i_Disk_copied := by
  intro args rows a h y hy
  simp only [k_i_Disk_copied] at h
  split at h
  · injection h with h
    subst h
    exact vfun_ok eok_i_Disk_copied Try.func55 rfl (by rw [v_i_Disk_copied]; simp only at hy; rw [hy]; rfl)
  · cases h

def J_i_Disk_has : Joins := [(.r, ⟨[.bool], [(4, .one (.h 0))], [], [], []⟩)]
def ann_i_Disk_has : Ann := .nil
def env_i_Disk_has : Env := envOf ti [k_i_within] []
theorem eok_i_Disk_has : EnvOk Try.prog env_i_Disk_has := envOf_ok tab mix _ _ (by
  intro k hk
  simp only [List.mem_cons, List.not_mem_nil, or_false] at hk
  rcases hk with rfl
  · exact s_i_within)
theorem v_i_Disk_has (x0 : List (List Int)) (x1 : Int) (x2 : Bool) (x3 : Int) (x4 : Int) : (vfun env_i_Disk_has Try.f56 J_i_Disk_has ann_i_Disk_has [] [.ag [⟨.sl false 33 (.sl false 5 (.int .u8)), x0⟩, ⟨.int .i64, x1⟩, ⟨.bool, x2⟩, ⟨.int .i64, x3⟩], .one ⟨.int .i64, x4⟩] []).run = (G.i_Disk_has x0 x1 x2 x3 x4).bind fun y => some (Res.mk [.one ⟨.bool, y⟩] [] []) := by kernel_rfl
def k_i_Disk_has : Kn := ⟨56, [0, 0], fun args rows => match args, rows with
  | [.ag [⟨.sl false 33 (.sl false 5 (.int .u8)), x0⟩, ⟨.int .i64, x1⟩, ⟨.bool, x2⟩, ⟨.int .i64, x3⟩], .one ⟨.int .i64, x4⟩], [] => some ⟨_, G.i_Disk_has x0 x1 x2 x3 x4, fun y => ⟨[.one ⟨.bool, y⟩], [], []⟩⟩
  | _, _ => none, []⟩
theorem s_i_Disk_has : KnOk Try.prog k_i_Disk_has := by
  intro args rows a h y hy
  simp only [k_i_Disk_has] at h
  split at h
  · injection h with h
    subst h
    exact vfun_ok eok_i_Disk_has Try.func56 rfl (by rw [v_i_Disk_has]; simp only at hy; rw [hy]; rfl)
  · cases h

def J_i_Disk_write_o : Joins := [(.r, ⟨[.bool, .sl true 33 (.sl true 5 (.int .u8)), .int .i64, .bool, .int .i64], [(6, .one (.h 0))], [(43, [.vw 145409, .h 2, .h 3, .h 4])], [(145409, 1)], []⟩)]
def ann_i_Disk_write_o : Ann := .seq .nil (.seq .nil (.seq .nil (.seq .nil (.seq (.seq .nil (.cond [(.n, ⟨[.sl true 33 (.sl true 5 (.int .u8)), .int .i64, .bool, .int .i64], [], [(43, [.vw 145408, .h 1, .h 2, .h 3])], [(145408, 0)], []⟩)] .nil .nil)) .nil))))
def env_i_Disk_write_o : Env := envOf ti [k_slices_Clone_byte_byte] []
theorem eok_i_Disk_write_o : EnvOk Try.prog env_i_Disk_write_o := envOf_ok tab mix _ _ (by
  intro k hk
  simp only [List.mem_cons, List.not_mem_nil, or_false] at hk
  rcases hk with rfl
  · exact s_slices_Clone_byte_byte)
theorem v_i_Disk_write_o (x0 : Int) (x1 : List Int) (x2 : List (List Int)) (x3 : Int) (x4 : Bool) (x5 : Int) : (vfun env_i_Disk_write_o Try.f57 J_i_Disk_write_o ann_i_Disk_write_o [] [.pl 0 0, .one ⟨.int .i64, x0⟩, .one ⟨.sl false 5 (.int .u8), x1⟩] [[⟨.sl true 33 (.sl true 5 (.int .u8)), x2⟩, ⟨.int .i64, x3⟩, ⟨.bool, x4⟩, ⟨.int .i64, x5⟩]]).run = (G.i_Disk_write_o x0 x1 x2 x3 x4 x5).bind fun y => some (Res.mk [.one ⟨.bool, y.1⟩] [[⟨.sl true 33 (.sl true 5 (.int .u8)), y.2.1⟩, ⟨.int .i64, y.2.2.1⟩, ⟨.bool, y.2.2.2.1⟩, ⟨.int .i64, y.2.2.2.2⟩]] []) := by kernel_rfl
def k_i_Disk_write_o : Kn := ⟨57, [0, 0, 0], fun args rows => match args, rows with
  | [.pl 0 0, .one ⟨.int .i64, x0⟩, .one ⟨.sl false 5 (.int .u8), x1⟩], [[⟨.sl true 33 (.sl true 5 (.int .u8)), x2⟩, ⟨.int .i64, x3⟩, ⟨.bool, x4⟩, ⟨.int .i64, x5⟩]] => some ⟨_, G.i_Disk_write_o x0 x1 x2 x3 x4 x5, fun y => ⟨[.one ⟨.bool, y.1⟩], [[⟨.sl true 33 (.sl true 5 (.int .u8)), y.2.1⟩, ⟨.int .i64, y.2.2.1⟩, ⟨.bool, y.2.2.2.1⟩, ⟨.int .i64, y.2.2.2.2⟩]], []⟩⟩
  | _, _ => none, []⟩
theorem s_i_Disk_write_o : KnOk Try.prog k_i_Disk_write_o := by
  intro args rows a h y hy
  simp only [k_i_Disk_write_o] at h
  split at h
  · injection h with h
    subst h
    exact vfun_ok eok_i_Disk_write_o Try.func57 rfl (by rw [v_i_Disk_write_o]; simp only at hy; rw [hy]; rfl)
  · cases h

def J_i_WriteBlock : Joins := [(.r, ⟨[.int .i64, .sl true 33 (.sl true 5 (.int .u8)), .int .i64, .bool, .int .i64], [(6, .pl 6 0), (7, .one (.h 0))], [(6, [.vw 148480, .h 2, .h 3, .h 4])], [(148480, 1)], []⟩)]
def ann_i_WriteBlock : Ann := .seq .nil (.seq (.block [] (.seq (.reg [(.n, ⟨[.int .i64, .sl false 5 (.int .u8), .bool, .sl false 33 (.sl false 5 (.int .u8)), .int .i64, .bool, .int .i64, .int .i64, .bool, .int .i64], [(1, .one (.h 0)), (2, .one (.h 1)), (3, .pl 3 0), (6, .pl 6 0), (9, .one (.h 2))], [(3, [.h 3, .h 4, .h 5, .h 6]), (6, [.nil, .h 7, .h 8, .h 9])], [], []⟩)]) .nil)) .nil)
def env_i_WriteBlock : Env := envOf ti [k_i_GoodDisk, k_i_Disk_copied, k_i_Disk_has, k_i_Disk_write_o] []
theorem eok_i_WriteBlock : EnvOk Try.prog env_i_WriteBlock := envOf_ok tab mix _ _ (by
  intro k hk
  simp only [List.mem_cons, List.not_mem_nil, or_false] at hk
  rcases hk with rfl | rfl | rfl | rfl
  · exact s_i_GoodDisk
  · exact s_i_Disk_copied
  · exact s_i_Disk_has
  · exact s_i_Disk_write_o)
theorem v_i_WriteBlock (x0 : List (List Int)) (x1 : Int) (x2 : Bool) (x3 : Int) (x4 : Int) (x5 : List Int) : (vfun env_i_WriteBlock Try.f17 J_i_WriteBlock ann_i_WriteBlock [] [.ag [⟨.sl false 33 (.sl false 5 (.int .u8)), x0⟩, ⟨.int .i64, x1⟩, ⟨.bool, x2⟩, ⟨.int .i64, x3⟩], .one ⟨.int .i64, x4⟩, .one ⟨.sl false 5 (.int .u8), x5⟩] []).run = (G.i_WriteBlock x0 x1 x2 x3 x4 x5).bind fun y => some (Res.mk [.ag [⟨.sl true 33 (.sl true 5 (.int .u8)), y.2.1⟩, ⟨.int .i64, y.2.2.1⟩, ⟨.bool, y.2.2.2.1⟩, ⟨.int .i64, y.2.2.2.2⟩], .one ⟨.int .i64, y.1⟩] [] []) := by kernel_rfl
def k_i_WriteBlock : Kn := ⟨17, [0, 0, 0], fun args rows => match args, rows with
  | [.ag [⟨.sl false 33 (.sl false 5 (.int .u8)), x0⟩, ⟨.int .i64, x1⟩, ⟨.bool, x2⟩, ⟨.int .i64, x3⟩], .one ⟨.int .i64, x4⟩, .one ⟨.sl false 5 (.int .u8), x5⟩], [] => some ⟨_, G.i_WriteBlock x0 x1 x2 x3 x4 x5, fun y => ⟨[.ag [⟨.sl true 33 (.sl true 5 (.int .u8)), y.2.1⟩, ⟨.int .i64, y.2.2.1⟩, ⟨.bool, y.2.2.2.1⟩, ⟨.int .i64, y.2.2.2.2⟩], .one ⟨.int .i64, y.1⟩], [], []⟩⟩
  | _, _ => none, []⟩
theorem s_i_WriteBlock : KnOk Try.prog k_i_WriteBlock := by
  intro args rows a h y hy
  simp only [k_i_WriteBlock] at h
  split at h
  · injection h with h
    subst h
    exact vfun_ok eok_i_WriteBlock Try.func17 rfl (by rw [v_i_WriteBlock]; simp only at hy; rw [hy]; rfl)
  · cases h
end
end Go.Proofs.Ytdicgiljgelkfaa
