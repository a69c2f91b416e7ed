import Derived.Test.YtdicgiljgelkfaaProg
import Derived.Test.YtdicgiljgelkfaaQF1
import Derived.Test.YtdicgiljgelkfaaQC
import Derived.KernelRfl
set_option linter.unusedVariables false
set_option maxRecDepth 100000
namespace Go.Proofs.Ytdicgiljgelkfaa
open Go.V
def tiL : List TI := [
  .other,
  .other,
  .cell (.int .i64),
  .cell (.int .i64),
  .cell .bool,
  .cell (.int .u8),
  .cell (.int .u8),
  .other,
  .other,
  .cell .str,
  .cell .str,
  .cell .str,
  .cell (.int .u64),
  .other,
  .other,
  .ptr 138,
  .ptr 141,
  .ptr 150,
  .other,
  .other,
  .other,
  .cell (.int .i32),
  .slice 119 [(.int .i64), (.int .i64), .str] 32,
  .struct [(0, 1, false), (1, 1, false), (2, 1, false)] [(.int .i64), (.int .i64), (.sl true 119 (.pair (.int .i64) (.pair (.int .i64) .str)))] false,
  .struct [(0, 1, false), (1, 1, false), (2, 1, false)] [(.int .i64), (.int .i64), (.sl true 119 (.pair (.int .i64) (.pair (.int .i64) .str)))] false,
  .other,
  .other,
  .slice 105 [(.int .i64), (.int .i64), .str] 32,
  .struct [(0, 1, false), (1, 1, false), (2, 1, false)] [(.int .i64), (.int .i64), (.sl true 105 (.pair (.int .i64) (.pair (.int .i64) .str)))] false,
  .struct [(0, 1, false), (1, 1, false), (2, 1, false)] [(.int .i64), (.int .i64), (.sl true 105 (.pair (.int .i64) (.pair (.int .i64) .str)))] false,
  .other,
  .other,
  .other,
  .slice 5 [(.int .u8)] 1,
  .slice 33 [(.sl true 5 (.int .u8))] 24,
  .struct [(0, 1, false), (1, 1, false), (2, 1, false), (3, 1, false)] [(.sl true 33 (.sl true 5 (.int .u8))), (.int .i64), .bool, (.int .i64)] false,
  .struct [(0, 1, false), (1, 1, false), (2, 1, false), (3, 1, false)] [(.sl true 33 (.sl true 5 (.int .u8))), (.int .i64), .bool, (.int .i64)] false,
  .other,
  .other,
  .other,
  .other,
  .other,
  .other,
  .other,
  .other,
  .other,
  .other,
  .other,
  .other,
  .other,
  .other,
  .other,
  .other,
  .other,
  .other,
  .other,
  .other,
  .other,
  .other,
  .other,
  .other,
  .other,
  .other,
  .other,
  .other,
  .slice 70 [(.sl true 105 (.pair (.int .i64) (.pair (.int .i64) .str)))] 24,
  .other,
  .other,
  .other,
  .struct [(0, 1, false)] [(.sl true 105 (.pair (.int .i64) (.pair (.int .i64) .str)))] false,
  .struct [(0, 1, false)] [(.sl true 105 (.pair (.int .i64) (.pair (.int .i64) .str)))] false,
  .other,
  .other,
  .other,
  .other,
  .other,
  .other,
  .ptr 80,
  .cell (.int .u64),
  .struct [(0, 1, false), (1, 1, false), (2, 1, false)] [(.sl true 5 (.int .u8)), (.int .i64), (.int .u64)] false,
  .struct [(0, 1, false), (1, 1, false), (2, 1, false)] [(.sl true 5 (.int .u8)), (.int .i64), (.int .u64)] false,
  .other,
  .other,
  .other,
  .other,
  .other,
  .other,
  .other,
  .other,
  .other,
  .ptr 36,
  .other,
  .other,
  .other,
  .other,
  .other,
  .slice 3 [(.int .i64)] 8,
  .slice 4 [.bool] 1,
  .slice 9 [.str] 16,
  .struct [(0, 1, false), (1, 1, false)] [(.sl true 4 .bool), (.sl true 9 .str)] false,
  .struct [(0, 1, false), (1, 1, false)] [(.sl true 4 .bool), (.sl true 9 .str)] false,
  .other,
  .other,
  .other,
  .struct [(0, 1, false), (1, 1, false), (2, 1, false)] [(.int .i64), (.int .i64), .str] true,
  .struct [(0, 1, false), (1, 1, false), (2, 1, false)] [(.int .i64), (.int .i64), .str] true,
  .other,
  .other,
  .struct [(0, 1, false)] [(.sl true 105 (.pair (.int .i64) (.pair (.int .i64) .str)))] false,
  .struct [(0, 1, false)] [(.sl true 105 (.pair (.int .i64) (.pair (.int .i64) .str)))] false,
  .other,
  .other,
  .other,
  .other,
  .other,
  .other,
  .other,
  .other,
  .other,
  .struct [(0, 1, false), (1, 1, false), (2, 1, false)] [(.int .i64), (.int .i64), .str] true,
  .other,
  .other,
  .other,
  .other,
  .other,
  .other,
  .struct [(0, 1, false), (1, 1, false)] [(.sl true 4 .bool), (.sl true 9 .str)] false,
  .struct [(0, 1, false), (1, 1, false)] [(.sl true 4 .bool), (.sl true 9 .str)] false,
  .other,
  .other,
  .ptr 109,
  .ptr 105,
  .other,
  .other,
  .cell (.int .u64),
  .other,
  .other,
  .other,
  .other,
  .other,
  .other,
  .other,
  .cell (.int .u32),
  .cell (.int .u8),
  .cell (.int .u8),
  .other,
  .ptr 5,
  .cell (.int .i32),
  .cell (.int .i32),
  .other,
  .other,
  .other]
def ti (t : TypeId) : TI := tiL.getD t .other
theorem tab : TabOk Try.prog ti := tabOf Try.prog tiL (by kernel_rfl)
theorem mix : Try.prog.follows .mixedOrders = true := by kernel_rfl
end Go.Proofs.Ytdicgiljgelkfaa

set_option linter.unusedVariables false
set_option maxRecDepth 100000
namespace Go.Proofs.Ytdicgiljgelkfaa
open Go.V
noncomputable section
def J_l_szPart : Joins := [(.r, ⟨[.int .i64], [(4, .one (.h 0))], [], []⟩)]
def ann_l_szPart : Ann := .nil
def env_l_szPart : Env := envOf ti []
theorem eok_l_szPart : EnvOk Try.prog env_l_szPart := envOf_ok tab mix _ (by
  intro k hk; cases hk)
theorem v_l_szPart (x0 : Int) (x1 : Int) (x2 : List UInt8) (x3 : Int) : (vfun env_l_szPart Try.f90 J_l_szPart ann_l_szPart [.ag [⟨.int .i64, x0⟩, ⟨.int .i64, x1⟩, ⟨.str, x2⟩], .one ⟨.int .i64, x3⟩] []).run = (G.l_szPart x0 x1 x2 x3).bind fun y => some (Res.mk [.one ⟨.int .i64, y⟩] []) := by kernel_rfl
def k_l_szPart : Kn := ⟨90, [false, false], fun args rows => match args, rows with
  | [.ag [⟨.int .i64, x0⟩, ⟨.int .i64, x1⟩, ⟨.str, x2⟩], .one ⟨.int .i64, x3⟩], [] => some ⟨_, G.l_szPart x0 x1 x2 x3, fun y => ⟨[.one ⟨.int .i64, y⟩], []⟩⟩
  | _, _ => none⟩
theorem s_l_szPart : KnOk Try.prog k_l_szPart := by
  intro args rows a h y hy
  simp only [k_l_szPart] at h
  split at h
  · injection h with h
    subst h
    exact vfun_ok eok_l_szPart Try.func90 rfl (by rw [v_l_szPart]; simp only at hy; rw [hy]; rfl)
  · cases h

def J_l_szPartS : Joins := [(.r, ⟨[.int .i64], [(4, .one (.h 0))], [], []⟩)]
def ann_l_szPartS : Ann := .seq .nil (.seq .nil (.seq .nil (.seq (.seq .nil (.block [] (.loop ⟨[.sl false 119 (.pair (.int .i64) (.pair (.int .i64) .str)), .int .i64, .int .i64], [(0, .one (.h 0)), (1, .one (.h 1)), (5, .one (.h 2))], [], []⟩ [(.x 0, ⟨[.int .i64], [(1, .one (.h 0))], [], []⟩), (.r, ⟨[.int .i64], [(4, .one (.h 0))], [], []⟩)] .nil))) .nil)))
def env_l_szPartS : Env := envOf ti [k_l_szPart]
theorem eok_l_szPartS : EnvOk Try.prog env_l_szPartS := envOf_ok tab mix _ (by
  intro k hk
  simp only [List.mem_cons, List.not_mem_nil, or_false] at hk
  rcases hk with rfl
  · exact s_l_szPart)
theorem v_l_szPartS (x0 : List (Int × (Int × List UInt8))) (x1 : Int) : (vfun env_l_szPartS Try.f47 J_l_szPartS ann_l_szPartS [.one ⟨.sl false 119 (.pair (.int .i64) (.pair (.int .i64) .str)), x0⟩, .one ⟨.int .i64, x1⟩] []).run = (G.l_szPartS x0 x1).bind fun y => some (Res.mk [.one ⟨.int .i64, y⟩] []) := by kernel_rfl
def k_l_szPartS : Kn := ⟨47, [false, false], fun args rows => match args, rows with
  | [.one ⟨.sl false 119 (.pair (.int .i64) (.pair (.int .i64) .str)), x0⟩, .one ⟨.int .i64, x1⟩], [] => some ⟨_, G.l_szPartS x0 x1, fun y => ⟨[.one ⟨.int .i64, y⟩], []⟩⟩
  | _, _ => none⟩
theorem s_l_szPartS : KnOk Try.prog k_l_szPartS := by
  intro args rows a h y hy
  simp only [k_l_szPartS] at h
  split at h
  · injection h with h
    subst h
    exact vfun_ok eok_l_szPartS Try.func47 rfl (by rw [v_l_szPartS]; simp only at hy; rw [hy]; rfl)
  · cases h

def J_l_szCall : Joins := [(.r, ⟨[.int .i64], [(4, .one (.h 0))], [], []⟩)]
def ann_l_szCall : Ann := .nil
def env_l_szCall : Env := envOf ti [k_l_szPartS]
theorem eok_l_szCall : EnvOk Try.prog env_l_szCall := envOf_ok tab mix _ (by
  intro k hk
  simp only [List.mem_cons, List.not_mem_nil, or_false] at hk
  rcases hk with rfl
  · exact s_l_szPartS)
theorem v_l_szCall (x0 : Int) (x1 : Int) (x2 : List (Int × (Int × List UInt8))) (x3 : Int) : (vfun env_l_szCall Try.f11 J_l_szCall ann_l_szCall [.ag [⟨.int .i64, x0⟩, ⟨.int .i64, x1⟩, ⟨.sl false 119 (.pair (.int .i64) (.pair (.int .i64) .str)), x2⟩], .one ⟨.int .i64, x3⟩] []).run = (G.l_szCall x0 x1 x2 x3).bind fun y => some (Res.mk [.one ⟨.int .i64, y⟩] []) := by kernel_rfl
def k_l_szCall : Kn := ⟨11, [false, false], fun args rows => match args, rows with
  | [.ag [⟨.int .i64, x0⟩, ⟨.int .i64, x1⟩, ⟨.sl false 119 (.pair (.int .i64) (.pair (.int .i64) .str)), x2⟩], .one ⟨.int .i64, x3⟩], [] => some ⟨_, G.l_szCall x0 x1 x2 x3, fun y => ⟨[.one ⟨.int .i64, y⟩], []⟩⟩
  | _, _ => none⟩
theorem s_l_szCall : KnOk Try.prog k_l_szCall := by
  intro args rows a h y hy
  simp only [k_l_szCall] at h
  split at h
  · injection h with h
    subst h
    exact vfun_ok eok_l_szCall Try.func11 rfl (by rw [v_l_szCall]; simp only at hy; rw [hy]; rfl)
  · cases h

def J_l_toPart : Joins := [(.r, ⟨[.int .i64, .int .i64, .str], [(2, .pl 2 0)], [(2, [.h 0, .h 1, .h 2])], []⟩)]
def ann_l_toPart : Ann := .nil
def env_l_toPart : Env := envOf ti []
theorem eok_l_toPart : EnvOk Try.prog env_l_toPart := envOf_ok tab mix _ (by
  intro k hk; cases hk)
theorem v_l_toPart (x0 : Int) (x1 : Int) (x2 : List UInt8) : (vfun env_l_toPart Try.f91 J_l_toPart ann_l_toPart [.ag [⟨.int .i64, x0⟩, ⟨.int .i64, x1⟩, ⟨.str, x2⟩]] []).run = (G.l_toPart x0 x1 x2).bind fun y => some (Res.mk [.ag [⟨.int .i64, y.1⟩, ⟨.int .i64, y.2.1⟩, ⟨.str, y.2.2⟩]] []) := by kernel_rfl
def k_l_toPart : Kn := ⟨91, [false], fun args rows => match args, rows with
  | [.ag [⟨.int .i64, x0⟩, ⟨.int .i64, x1⟩, ⟨.str, x2⟩]], [] => some ⟨_, G.l_toPart x0 x1 x2, fun y => ⟨[.ag [⟨.int .i64, y.1⟩, ⟨.int .i64, y.2.1⟩, ⟨.str, y.2.2⟩]], []⟩⟩
  | _, _ => none⟩
theorem s_l_toPart : KnOk Try.prog k_l_toPart := by
  intro args rows a h y hy
  simp only [k_l_toPart] at h
  split at h
  · injection h with h
    subst h
    exact vfun_ok eok_l_toPart Try.func91 rfl (by rw [v_l_toPart]; simp only at hy; rw [hy]; rfl)
  · cases h

def J_l_toPartS : Joins := [(.r, ⟨[.sl true 105 (.pair (.int .i64) (.pair (.int .i64) .str))], [(2, .one (.vw 126017))], [], [(126017, 0)]⟩)]
def ann_l_toPartS : Ann := .seq .nil (.seq .nil (.seq (.seq .nil (.block [] (.loop ⟨[.sl false 119 (.pair (.int .i64) (.pair (.int .i64) .str)), .sl true 105 (.pair (.int .i64) (.pair (.int .i64) .str)), .int .i64], [(0, .one (.h 0)), (3, .one (.vw 125952)), (4, .one (.h 2))], [], [(125952, 1)]⟩ [(.x 0, ⟨[.sl true 105 (.pair (.int .i64) (.pair (.int .i64) .str))], [(3, .one (.vw 126016))], [], [(126016, 0)]⟩)] .nil))) .nil))
def env_l_toPartS : Env := envOf ti [k_l_toPart]
theorem eok_l_toPartS : EnvOk Try.prog env_l_toPartS := envOf_ok tab mix _ (by
  intro k hk
  simp only [List.mem_cons, List.not_mem_nil, or_false] at hk
  rcases hk with rfl
  · exact s_l_toPart)
theorem v_l_toPartS (x0 : List (Int × (Int × List UInt8))) : (vfun env_l_toPartS Try.f48 J_l_toPartS ann_l_toPartS [.one ⟨.sl false 119 (.pair (.int .i64) (.pair (.int .i64) .str)), x0⟩] []).run = (G.l_toPartS x0).bind fun y => some (Res.mk [.one ⟨.sl true 105 (.pair (.int .i64) (.pair (.int .i64) .str)), y⟩] []) := by kernel_rfl
def k_l_toPartS : Kn := ⟨48, [false], fun args rows => match args, rows with
  | [.one ⟨.sl false 119 (.pair (.int .i64) (.pair (.int .i64) .str)), x0⟩], [] => some ⟨_, G.l_toPartS x0, fun y => ⟨[.one ⟨.sl true 105 (.pair (.int .i64) (.pair (.int .i64) .str)), y⟩], []⟩⟩
  | _, _ => none⟩
theorem s_l_toPartS : KnOk Try.prog k_l_toPartS := by
  intro args rows a h y hy
  simp only [k_l_toPartS] at h
  split at h
  · injection h with h
    subst h
    exact vfun_ok eok_l_toPartS Try.func48 rfl (by rw [v_l_toPartS]; simp only at hy; rw [hy]; rfl)
  · cases h

def J_l_toCall : Joins := [(.r, ⟨[.int .i64, .int .i64, .sl true 105 (.pair (.int .i64) (.pair (.int .i64) .str))], [(2, .pl 2 0)], [(2, [.h 0, .h 1, .vw 117760])], [(117760, 2)]⟩)]
def ann_l_toCall : Ann := .nil
def env_l_toCall : Env := envOf ti [k_l_toPartS]
theorem eok_l_toCall : EnvOk Try.prog env_l_toCall := envOf_ok tab mix _ (by
  intro k hk
  simp only [List.mem_cons, List.not_mem_nil, or_false] at hk
  rcases hk with rfl
  · exact s_l_toPartS)
theorem v_l_toCall (x0 : Int) (x1 : Int) (x2 : List (Int × (Int × List UInt8))) : (vfun env_l_toCall Try.f13 J_l_toCall ann_l_toCall [.ag [⟨.int .i64, x0⟩, ⟨.int .i64, x1⟩, ⟨.sl false 119 (.pair (.int .i64) (.pair (.int .i64) .str)), x2⟩]] []).run = (G.l_toCall x0 x1 x2).bind fun y => some (Res.mk [.ag [⟨.int .i64, y.1⟩, ⟨.int .i64, y.2.1⟩, ⟨.sl true 105 (.pair (.int .i64) (.pair (.int .i64) .str)), y.2.2⟩]] []) := by kernel_rfl
def k_l_toCall : Kn := ⟨13, [false], fun args rows => match args, rows with
  | [.ag [⟨.int .i64, x0⟩, ⟨.int .i64, x1⟩, ⟨.sl false 119 (.pair (.int .i64) (.pair (.int .i64) .str)), x2⟩]], [] => some ⟨_, G.l_toCall x0 x1 x2, fun y => ⟨[.ag [⟨.int .i64, y.1⟩, ⟨.int .i64, y.2.1⟩, ⟨.sl true 105 (.pair (.int .i64) (.pair (.int .i64) .str)), y.2.2⟩]], []⟩⟩
  | _, _ => none⟩
theorem s_l_toCall : KnOk Try.prog k_l_toCall := by
  intro args rows a h y hy
  simp only [k_l_toCall] at h
  split at h
  · injection h with h
    subst h
    exact vfun_ok eok_l_toCall Try.func13 rfl (by rw [v_l_toCall]; simp only at hy; rw [hy]; rfl)
  · cases h

def J_s_GoodCall : Joins := [(.r, ⟨[.bool], [(2, .one (.h 0))], [], []⟩)]
def ann_s_GoodCall : Ann := .seq .nil (.seq (.reg [(.n, ⟨[.bool], [(2, .one (.h 0))], [], []⟩)]) .nil)
def env_s_GoodCall : Env := envOf ti []
theorem eok_s_GoodCall : EnvOk Try.prog env_s_GoodCall := envOf_ok tab mix _ (by
  intro k hk; cases hk)
theorem v_s_GoodCall (x0 : Int) (x1 : Int) (x2 : List (Int × (Int × List UInt8))) : (vfun env_s_GoodCall Try.f12 J_s_GoodCall ann_s_GoodCall [.ag [⟨.int .i64, x0⟩, ⟨.int .i64, x1⟩, ⟨.sl false 105 (.pair (.int .i64) (.pair (.int .i64) .str)), x2⟩]] []).run = (G.s_GoodCall x0 x1 x2).bind fun y => some (Res.mk [.one ⟨.bool, y⟩] []) := by kernel_rfl
def k_s_GoodCall : Kn := ⟨12, [false], fun args rows => match args, rows with
  | [.ag [⟨.int .i64, x0⟩, ⟨.int .i64, x1⟩, ⟨.sl false 105 (.pair (.int .i64) (.pair (.int .i64) .str)), x2⟩]], [] => some ⟨_, G.s_GoodCall x0 x1 x2, fun y => ⟨[.one ⟨.bool, y⟩], []⟩⟩
  | _, _ => none⟩
theorem s_s_GoodCall : KnOk Try.prog k_s_GoodCall := by
  intro args rows a h y hy
  simp only [k_s_GoodCall] at h
  split at h
  · injection h with h
    subst h
    exact vfun_ok eok_s_GoodCall Try.func12 rfl (by rw [v_s_GoodCall]; simp only at hy; rw [hy]; rfl)
  · cases h

def J_i_GoodCall : Joins := [(.r, ⟨[.bool], [(2, .one (.h 0))], [], []⟩)]
def ann_i_GoodCall : Ann := .seq .nil (.seq (.reg [(.n, ⟨[.bool], [(2, .one (.h 0))], [], []⟩)]) .nil)
def env_i_GoodCall : Env := envOf ti []
theorem eok_i_GoodCall : EnvOk Try.prog env_i_GoodCall := envOf_ok tab mix _ (by
  intro k hk; cases hk)
theorem v_i_GoodCall (x0 : Int) (x1 : Int) (x2 : List (Int × (Int × List UInt8))) : (vfun env_i_GoodCall Try.f14 J_i_GoodCall ann_i_GoodCall [.ag [⟨.int .i64, x0⟩, ⟨.int .i64, x1⟩, ⟨.sl false 105 (.pair (.int .i64) (.pair (.int .i64) .str)), x2⟩]] []).run = (G.i_GoodCall x0 x1 x2).bind fun y => some (Res.mk [.one ⟨.bool, y⟩] []) := by kernel_rfl
def k_i_GoodCall : Kn := ⟨14, [false], fun args rows => match args, rows with
  | [.ag [⟨.int .i64, x0⟩, ⟨.int .i64, x1⟩, ⟨.sl false 105 (.pair (.int .i64) (.pair (.int .i64) .str)), x2⟩]], [] => some ⟨_, G.i_GoodCall x0 x1 x2, fun y => ⟨[.one ⟨.bool, y⟩], []⟩⟩
  | _, _ => none⟩
theorem s_i_GoodCall : KnOk Try.prog k_i_GoodCall := by
  intro args rows a h y hy
  simp only [k_i_GoodCall] at h
  split at h
  · injection h with h
    subst h
    exact vfun_ok eok_i_GoodCall Try.func14 rfl (by rw [v_i_GoodCall]; simp only at hy; rw [hy]; rfl)
  · cases h

def J_l_eqPart : Joins := [(.r, ⟨[.bool], [(4, .one (.h 0))], [], []⟩)]
def ann_l_eqPart : Ann := .nil
def env_l_eqPart : Env := envOf ti []
theorem eok_l_eqPart : EnvOk Try.prog env_l_eqPart := envOf_ok tab mix _ (by
  intro k hk; cases hk)
theorem v_l_eqPart (x0 : Int) (x1 : Int) (x2 : List UInt8) (x3 : Int) (x4 : Int) (x5 : List UInt8) : (vfun env_l_eqPart Try.f92 J_l_eqPart ann_l_eqPart [.ag [⟨.int .i64, x0⟩, ⟨.int .i64, x1⟩, ⟨.str, x2⟩], .ag [⟨.int .i64, x3⟩, ⟨.int .i64, x4⟩, ⟨.str, x5⟩]] []).run = (G.l_eqPart x0 x1 x2 x3 x4 x5).bind fun y => some (Res.mk [.one ⟨.bool, y⟩] []) := by kernel_rfl
def k_l_eqPart : Kn := ⟨92, [false, false], fun args rows => match args, rows with
  | [.ag [⟨.int .i64, x0⟩, ⟨.int .i64, x1⟩, ⟨.str, x2⟩], .ag [⟨.int .i64, x3⟩, ⟨.int .i64, x4⟩, ⟨.str, x5⟩]], [] => some ⟨_, G.l_eqPart x0 x1 x2 x3 x4 x5, fun y => ⟨[.one ⟨.bool, y⟩], []⟩⟩
  | _, _ => none⟩
theorem s_l_eqPart : KnOk Try.prog k_l_eqPart := by
  intro args rows a h y hy
  simp only [k_l_eqPart] at h
  split at h
  · injection h with h
    subst h
    exact vfun_ok eok_l_eqPart Try.func92 rfl (by rw [v_l_eqPart]; simp only at hy; rw [hy]; rfl)
  · cases h

def J_l_eqPartS : Joins := [(.r, ⟨[.bool], [(4, .one (.h 0))], [], []⟩)]
def ann_l_eqPartS : Ann := .seq .nil (.seq .nil (.seq (.seq .nil (.block [] (.loop ⟨[.sl false 105 (.pair (.int .i64) (.pair (.int .i64) .str)), .sl false 105 (.pair (.int .i64) (.pair (.int .i64) .str)), .int .i64], [(0, .one (.h 0)), (1, .one (.h 1)), (5, .one (.h 2))], [], []⟩ [(.x 0, ⟨[], [], [], []⟩), (.r, ⟨[.bool], [(4, .one (.h 0))], [], []⟩)] .nil))) .nil))
def env_l_eqPartS : Env := envOf ti [k_l_eqPart]
theorem eok_l_eqPartS : EnvOk Try.prog env_l_eqPartS := envOf_ok tab mix _ (by
  intro k hk
  simp only [List.mem_cons, List.not_mem_nil, or_false] at hk
  rcases hk with rfl
  · exact s_l_eqPart)
theorem v_l_eqPartS (x0 : List (Int × (Int × List UInt8))) (x1 : List (Int × (Int × List UInt8))) : (vfun env_l_eqPartS Try.f49 J_l_eqPartS ann_l_eqPartS [.one ⟨.sl false 105 (.pair (.int .i64) (.pair (.int .i64) .str)), x0⟩, .one ⟨.sl false 105 (.pair (.int .i64) (.pair (.int .i64) .str)), x1⟩] []).run = (G.l_eqPartS x0 x1).bind fun y => some (Res.mk [.one ⟨.bool, y⟩] []) := by kernel_rfl
def k_l_eqPartS : Kn := ⟨49, [false, false], fun args rows => match args, rows with
  | [.one ⟨.sl false 105 (.pair (.int .i64) (.pair (.int .i64) .str)), x0⟩, .one ⟨.sl false 105 (.pair (.int .i64) (.pair (.int .i64) .str)), x1⟩], [] => some ⟨_, G.l_eqPartS x0 x1, fun y => ⟨[.one ⟨.bool, y⟩], []⟩⟩
  | _, _ => none⟩
theorem s_l_eqPartS : KnOk Try.prog k_l_eqPartS := by
  intro args rows a h y hy
  simp only [k_l_eqPartS] at h
  split at h
  · injection h with h
    subst h
    exact vfun_ok eok_l_eqPartS Try.func49 rfl (by rw [v_l_eqPartS]; simp only at hy; rw [hy]; rfl)
  · cases h

def J_l_eqCall : Joins := [(.r, ⟨[.bool], [(4, .one (.h 0))], [], []⟩)]
def ann_l_eqCall : Ann := .nil
def env_l_eqCall : Env := envOf ti [k_l_eqPartS]
theorem eok_l_eqCall : EnvOk Try.prog env_l_eqCall := envOf_ok tab mix _ (by
  intro k hk
  simp only [List.mem_cons, List.not_mem_nil, or_false] at hk
  rcases hk with rfl
  · exact s_l_eqPartS)
theorem v_l_eqCall (x0 : Int) (x1 : Int) (x2 : List (Int × (Int × List UInt8))) (x3 : Int) (x4 : Int) (x5 : List (Int × (Int × List UInt8))) : (vfun env_l_eqCall Try.f15 J_l_eqCall ann_l_eqCall [.ag [⟨.int .i64, x0⟩, ⟨.int .i64, x1⟩, ⟨.sl false 105 (.pair (.int .i64) (.pair (.int .i64) .str)), x2⟩], .ag [⟨.int .i64, x3⟩, ⟨.int .i64, x4⟩, ⟨.sl false 105 (.pair (.int .i64) (.pair (.int .i64) .str)), x5⟩]] []).run = (G.l_eqCall x0 x1 x2 x3 x4 x5).bind fun y => some (Res.mk [.one ⟨.bool, y⟩] []) := by kernel_rfl
def k_l_eqCall : Kn := ⟨15, [false, false], fun args rows => match args, rows with
  | [.ag [⟨.int .i64, x0⟩, ⟨.int .i64, x1⟩, ⟨.sl false 105 (.pair (.int .i64) (.pair (.int .i64) .str)), x2⟩], .ag [⟨.int .i64, x3⟩, ⟨.int .i64, x4⟩, ⟨.sl false 105 (.pair (.int .i64) (.pair (.int .i64) .str)), x5⟩]], [] => some ⟨_, G.l_eqCall x0 x1 x2 x3 x4 x5, fun y => ⟨[.one ⟨.bool, y⟩], []⟩⟩
  | _, _ => none⟩
theorem s_l_eqCall : KnOk Try.prog k_l_eqCall := by
  intro args rows a h y hy
  simp only [k_l_eqCall] at h
  split at h
  · injection h with h
    subst h
    exact vfun_ok eok_l_eqCall Try.func15 rfl (by rw [v_l_eqCall]; simp only at hy; rw [hy]; rfl)
  · cases h

def J_l_FnExactGoodCall : Joins := [(.r, ⟨[.bool], [(2, .one (.h 0))], [], []⟩)]
def ann_l_FnExactGoodCall : Ann := .nil
def env_l_FnExactGoodCall : Env := envOf ti [k_l_szCall, k_l_toCall, k_s_GoodCall, k_i_GoodCall, k_l_eqCall]
theorem eok_l_FnExactGoodCall : EnvOk Try.prog env_l_FnExactGoodCall := envOf_ok tab mix _ (by
  intro k hk
  simp only [List.mem_cons, List.not_mem_nil, or_false] at hk
  rcases hk with rfl | rfl | rfl | rfl | rfl
  · exact s_l_szCall
  · exact s_l_toCall
  · exact s_s_GoodCall
  · exact s_i_GoodCall
  · exact s_l_eqCall)
theorem v_l_FnExactGoodCall (x0 : Int) (x1 : Int) (x2 : List (Int × (Int × List UInt8))) : (vfun env_l_FnExactGoodCall Try.f3 J_l_FnExactGoodCall ann_l_FnExactGoodCall [.ag [⟨.int .i64, x0⟩, ⟨.int .i64, x1⟩, ⟨.sl false 119 (.pair (.int .i64) (.pair (.int .i64) .str)), x2⟩]] []).run = (G.l_FnExactGoodCall x0 x1 x2).bind fun y => some (Res.mk [.one ⟨.bool, y⟩] []) := by kernel_rfl
def k_l_FnExactGoodCall : Kn := ⟨3, [false], fun args rows => match args, rows with
  | [.ag [⟨.int .i64, x0⟩, ⟨.int .i64, x1⟩, ⟨.sl false 119 (.pair (.int .i64) (.pair (.int .i64) .str)), x2⟩]], [] => some ⟨_, G.l_FnExactGoodCall x0 x1 x2, fun y => ⟨[.one ⟨.bool, y⟩], []⟩⟩
  | _, _ => none⟩
theorem s_l_FnExactGoodCall : KnOk Try.prog k_l_FnExactGoodCall := by
  intro args rows a h y hy
  simp only [k_l_FnExactGoodCall] at h
  split at h
  · injection h with h
    subst h
    exact vfun_ok eok_l_FnExactGoodCall Try.func3 rfl (by rw [v_l_FnExactGoodCall]; simp only at hy; rw [hy]; rfl)
  · cases h
end
end Go.Proofs.Ytdicgiljgelkfaa

set_option linter.unusedVariables false
set_option maxRecDepth 100000
namespace Go.Proofs.Ytdicgiljgelkfaa
open Go.V
noncomputable section
def J_s_l1Cur_next_f : Joins := [(.r, ⟨[.int .i64, .sl false 5 (.int .u8), .int .i64, .int .u64], [(2, .one (.h 0))], [(63, [.h 1, .h 2, .h 3])], []⟩)]
def ann_s_l1Cur_next_f : Ann := .seq .nil (.seq .nil (.seq (.seq .nil (.cond [(.n, ⟨[.int .i64, .sl false 5 (.int .u8), .int .i64, .int .u64], [(0, .pl 63 0), (3, .one (.h 0))], [(63, [.h 1, .h 2, .h 3])], []⟩)] .nil .nil)) .nil))
def env_s_l1Cur_next_f : Env := envOf ti []
theorem eok_s_l1Cur_next_f : EnvOk Try.prog env_s_l1Cur_next_f := envOf_ok tab mix _ (by
  intro k hk; cases hk)
theorem v_s_l1Cur_next_f (x0 : List Int) (x1 : Int) (x2 : Int) : (vfun env_s_l1Cur_next_f Try.f94 J_s_l1Cur_next_f ann_s_l1Cur_next_f [.pl 0 0] [[⟨.sl false 5 (.int .u8), x0⟩, ⟨.int .i64, x1⟩, ⟨.int .u64, x2⟩]]).run = (G.s_l1Cur_next_f x0 x1 x2).bind fun y => some (Res.mk [.one ⟨.int .i64, y.1⟩] [[⟨.sl false 5 (.int .u8), y.2.1⟩, ⟨.int .i64, y.2.2.1⟩, ⟨.int .u64, y.2.2.2⟩]]) := by kernel_rfl
def k_s_l1Cur_next_f : Kn := ⟨94, [false], fun args rows => match args, rows with
  | [.pl 0 0], [[⟨.sl false 5 (.int .u8), x0⟩, ⟨.int .i64, x1⟩, ⟨.int .u64, x2⟩]] => some ⟨_, G.s_l1Cur_next_f x0 x1 x2, fun y => ⟨[.one ⟨.int .i64, y.1⟩], [[⟨.sl false 5 (.int .u8), y.2.1⟩, ⟨.int .i64, y.2.2.1⟩, ⟨.int .u64, y.2.2.2⟩]]⟩⟩
  | _, _ => none⟩
theorem s_s_l1Cur_next_f : KnOk Try.prog k_s_l1Cur_next_f := by
  intro args rows a h y hy
  simp only [k_s_l1Cur_next_f] at h
  split at h
  · injection h with h
    subst h
    exact vfun_ok eok_s_l1Cur_next_f Try.func94 rfl (by rw [v_s_l1Cur_next_f]; simp only at hy; rw [hy]; rfl)
  · cases h

def J_s_l1Cur_pick_f : Joins := [(.r, ⟨[.int .i64, .sl false 5 (.int .u8), .int .i64, .int .u64], [(4, .one (.h 0))], [(21, [.h 1, .h 2, .h 3])], []⟩)]
def ann_s_l1Cur_pick_f : Ann := .seq .nil (.seq .nil (.seq .nil (.seq (.seq .nil (.cond [(.n, ⟨[.int .i64, .int .i64, .sl false 5 (.int .u8), .int .i64, .int .u64], [(1, .one (.h 0)), (5, .one (.h 1))], [(21, [.h 2, .h 3, .h 4])], []⟩)] .nil .nil)) .nil)))
def env_s_l1Cur_pick_f : Env := envOf ti [k_s_l1Cur_next_f]
theorem eok_s_l1Cur_pick_f : EnvOk Try.prog env_s_l1Cur_pick_f := envOf_ok tab mix _ (by
  intro k hk
  simp only [List.mem_cons, List.not_mem_nil, or_false] at hk
  rcases hk with rfl
  · exact s_s_l1Cur_next_f)
theorem v_s_l1Cur_pick_f (x0 : Int) (x1 : List Int) (x2 : Int) (x3 : Int) : (vfun env_s_l1Cur_pick_f Try.f65 J_s_l1Cur_pick_f ann_s_l1Cur_pick_f [.pl 0 0, .one ⟨.int .i64, x0⟩] [[⟨.sl false 5 (.int .u8), x1⟩, ⟨.int .i64, x2⟩, ⟨.int .u64, x3⟩]]).run = (G.s_l1Cur_pick_f x0 x1 x2 x3).bind fun y => some (Res.mk [.one ⟨.int .i64, y.1⟩] [[⟨.sl false 5 (.int .u8), y.2.1⟩, ⟨.int .i64, y.2.2.1⟩, ⟨.int .u64, y.2.2.2⟩]]) := by kernel_rfl
def k_s_l1Cur_pick_f : Kn := ⟨65, [false, false], fun args rows => match args, rows with
  | [.pl 0 0, .one ⟨.int .i64, x0⟩], [[⟨.sl false 5 (.int .u8), x1⟩, ⟨.int .i64, x2⟩, ⟨.int .u64, x3⟩]] => some ⟨_, G.s_l1Cur_pick_f x0 x1 x2 x3, fun y => ⟨[.one ⟨.int .i64, y.1⟩], [[⟨.sl false 5 (.int .u8), y.2.1⟩, ⟨.int .i64, y.2.2.1⟩, ⟨.int .u64, y.2.2.2⟩]]⟩⟩
  | _, _ => none⟩
theorem s_s_l1Cur_pick_f : KnOk Try.prog k_s_l1Cur_pick_f := by
  intro args rows a h y hy
  simp only [k_s_l1Cur_pick_f] at h
  split at h
  · injection h with h
    subst h
    exact vfun_ok eok_s_l1Cur_pick_f Try.func65 rfl (by rw [v_s_l1Cur_pick_f]; simp only at hy; rw [hy]; rfl)
  · cases h

def J_s_l1Cur_one_f : Joins := [(.r, ⟨[.bool, .sl false 5 (.int .u8), .int .i64, .int .u64], [(4, .one (.h 0))], [(10, [.h 1, .h 2, .h 3])], []⟩)]
def ann_s_l1Cur_one_f : Ann := .nil
def env_s_l1Cur_one_f : Env := envOf ti [k_s_l1Cur_pick_f]
theorem eok_s_l1Cur_one_f : EnvOk Try.prog env_s_l1Cur_one_f := envOf_ok tab mix _ (by
  intro k hk
  simp only [List.mem_cons, List.not_mem_nil, or_false] at hk
  rcases hk with rfl
  · exact s_s_l1Cur_pick_f)
theorem v_s_l1Cur_one_f (x0 : Int) (x1 : List Int) (x2 : Int) (x3 : Int) : (vfun env_s_l1Cur_one_f Try.f52 J_s_l1Cur_one_f ann_s_l1Cur_one_f [.pl 0 0, .one ⟨.int .i64, x0⟩] [[⟨.sl false 5 (.int .u8), x1⟩, ⟨.int .i64, x2⟩, ⟨.int .u64, x3⟩]]).run = (G.s_l1Cur_one_f x0 x1 x2 x3).bind fun y => some (Res.mk [.one ⟨.bool, y.1⟩] [[⟨.sl false 5 (.int .u8), y.2.1⟩, ⟨.int .i64, y.2.2.1⟩, ⟨.int .u64, y.2.2.2⟩]]) := by kernel_rfl
def k_s_l1Cur_one_f : Kn := ⟨52, [false, false], fun args rows => match args, rows with
  | [.pl 0 0, .one ⟨.int .i64, x0⟩], [[⟨.sl false 5 (.int .u8), x1⟩, ⟨.int .i64, x2⟩, ⟨.int .u64, x3⟩]] => some ⟨_, G.s_l1Cur_one_f x0 x1 x2 x3, fun y => ⟨[.one ⟨.bool, y.1⟩], [[⟨.sl false 5 (.int .u8), y.2.1⟩, ⟨.int .i64, y.2.2.1⟩, ⟨.int .u64, y.2.2.2⟩]]⟩⟩
  | _, _ => none⟩
theorem s_s_l1Cur_one_f : KnOk Try.prog k_s_l1Cur_one_f := by
  intro args rows a h y hy
  simp only [k_s_l1Cur_one_f] at h
  split at h
  · injection h with h
    subst h
    exact vfun_ok eok_s_l1Cur_one_f Try.func52 rfl (by rw [v_s_l1Cur_one_f]; simp only at hy; rw [hy]; rfl)
  · cases h

def J_s_l1Cur_size_f : Joins := [(.r, ⟨[.int .i64, .sl false 5 (.int .u8), .int .i64, .int .u64], [(2, .one (.h 0))], [(11, [.h 1, .h 2, .h 3])], []⟩)]
def ann_s_l1Cur_size_f : Ann := .nil
def env_s_l1Cur_size_f : Env := envOf ti [k_s_l1Cur_one_f, k_s_l1Cur_pick_f]
theorem eok_s_l1Cur_size_f : EnvOk Try.prog env_s_l1Cur_size_f := envOf_ok tab mix _ (by
  intro k hk
  simp only [List.mem_cons, List.not_mem_nil, or_false] at hk
  rcases hk with rfl | rfl
  · exact s_s_l1Cur_one_f
  · exact s_s_l1Cur_pick_f)
theorem v_s_l1Cur_size_f (x0 : List Int) (x1 : Int) (x2 : Int) : (vfun env_s_l1Cur_size_f Try.f63 J_s_l1Cur_size_f ann_s_l1Cur_size_f [.pl 0 0] [[⟨.sl false 5 (.int .u8), x0⟩, ⟨.int .i64, x1⟩, ⟨.int .u64, x2⟩]]).run = (G.s_l1Cur_size_f x0 x1 x2).bind fun y => some (Res.mk [.one ⟨.int .i64, y.1⟩] [[⟨.sl false 5 (.int .u8), y.2.1⟩, ⟨.int .i64, y.2.2.1⟩, ⟨.int .u64, y.2.2.2⟩]]) := by kernel_rfl
def k_s_l1Cur_size_f : Kn := ⟨63, [false], fun args rows => match args, rows with
  | [.pl 0 0], [[⟨.sl false 5 (.int .u8), x0⟩, ⟨.int .i64, x1⟩, ⟨.int .u64, x2⟩]] => some ⟨_, G.s_l1Cur_size_f x0 x1 x2, fun y => ⟨[.one ⟨.int .i64, y.1⟩], [[⟨.sl false 5 (.int .u8), y.2.1⟩, ⟨.int .i64, y.2.2.1⟩, ⟨.int .u64, y.2.2.2⟩]]⟩⟩
  | _, _ => none⟩
theorem s_s_l1Cur_size_f : KnOk Try.prog k_s_l1Cur_size_f := by
  intro args rows a h y hy
  simp only [k_s_l1Cur_size_f] at h
  split at h
  · injection h with h
    subst h
    exact vfun_ok eok_s_l1Cur_size_f Try.func63 rfl (by rw [v_s_l1Cur_size_f]; simp only at hy; rw [hy]; rfl)
  · cases h

def J_s_l1Cur_of_f : Joins := [(.r, ⟨[.str, .sl false 5 (.int .u8), .int .i64, .int .u64], [(4, .one (.h 0))], [(13, [.h 1, .h 2, .h 3])], []⟩)]
def ann_s_l1Cur_of_f : Ann := .nil
def env_s_l1Cur_of_f : Env := envOf ti [k_s_l1Cur_pick_f]
theorem eok_s_l1Cur_of_f : EnvOk Try.prog env_s_l1Cur_of_f := envOf_ok tab mix _ (by
  intro k hk
  simp only [List.mem_cons, List.not_mem_nil, or_false] at hk
  rcases hk with rfl
  · exact s_s_l1Cur_pick_f)
theorem v_s_l1Cur_of_f (x0 : List (List UInt8)) (x1 : List Int) (x2 : Int) (x3 : Int) : (vfun env_s_l1Cur_of_f Try.f98 J_s_l1Cur_of_f ann_s_l1Cur_of_f [.pl 0 0, .one ⟨.sl true 9 .str, x0⟩] [[⟨.sl false 5 (.int .u8), x1⟩, ⟨.int .i64, x2⟩, ⟨.int .u64, x3⟩]]).run = (G.s_l1Cur_of_f x0 x1 x2 x3).bind fun y => some (Res.mk [.one ⟨.str, y.1⟩] [[⟨.sl false 5 (.int .u8), y.2.1⟩, ⟨.int .i64, y.2.2.1⟩, ⟨.int .u64, y.2.2.2⟩]]) := by kernel_rfl
def k_s_l1Cur_of_f : Kn := ⟨98, [false, true], fun args rows => match args, rows with
  | [.pl 0 0, .one ⟨.sl true 9 .str, x0⟩], [[⟨.sl false 5 (.int .u8), x1⟩, ⟨.int .i64, x2⟩, ⟨.int .u64, x3⟩]] => some ⟨_, G.s_l1Cur_of_f x0 x1 x2 x3, fun y => ⟨[.one ⟨.str, y.1⟩], [[⟨.sl false 5 (.int .u8), y.2.1⟩, ⟨.int .i64, y.2.2.1⟩, ⟨.int .u64, y.2.2.2⟩]]⟩⟩
  | _, _ => none⟩
theorem s_s_l1Cur_of_f : KnOk Try.prog k_s_l1Cur_of_f := by
  intro args rows a h y hy
  simp only [k_s_l1Cur_of_f] at h
  split at h
  · injection h with h
    subst h
    exact vfun_ok eok_s_l1Cur_of_f Try.func98 rfl (by rw [v_s_l1Cur_of_f]; simp only at hy; rw [hy]; rfl)
  · cases h

def J_s_l1Cur_put_f : Joins := [(.r, ⟨[.str, .sl false 5 (.int .u8), .int .i64, .int .u64], [(2, .one (.h 0))], [(7, [.h 1, .h 2, .h 3])], []⟩)]
def ann_s_l1Cur_put_f : Ann := .nil
def env_s_l1Cur_put_f : Env := envOf ti [k_s_l1Cur_of_f]
theorem eok_s_l1Cur_put_f : EnvOk Try.prog env_s_l1Cur_put_f := envOf_ok tab mix _ (by
  intro k hk
  simp only [List.mem_cons, List.not_mem_nil, or_false] at hk
  rcases hk with rfl
  · exact s_s_l1Cur_of_f)
theorem v_s_l1Cur_put_f (x0 : List Int) (x1 : Int) (x2 : Int) : (vfun env_s_l1Cur_put_f Try.f76 J_s_l1Cur_put_f ann_s_l1Cur_put_f [.pl 0 0] [[⟨.sl false 5 (.int .u8), x0⟩, ⟨.int .i64, x1⟩, ⟨.int .u64, x2⟩]]).run = (G.s_l1Cur_put_f x0 x1 x2).bind fun y => some (Res.mk [.one ⟨.str, y.1⟩] [[⟨.sl false 5 (.int .u8), y.2.1⟩, ⟨.int .i64, y.2.2.1⟩, ⟨.int .u64, y.2.2.2⟩]]) := by kernel_rfl
def k_s_l1Cur_put_f : Kn := ⟨76, [false], fun args rows => match args, rows with
  | [.pl 0 0], [[⟨.sl false 5 (.int .u8), x0⟩, ⟨.int .i64, x1⟩, ⟨.int .u64, x2⟩]] => some ⟨_, G.s_l1Cur_put_f x0 x1 x2, fun y => ⟨[.one ⟨.str, y.1⟩], [[⟨.sl false 5 (.int .u8), y.2.1⟩, ⟨.int .i64, y.2.2.1⟩, ⟨.int .u64, y.2.2.2⟩]]⟩⟩
  | _, _ => none⟩
theorem s_s_l1Cur_put_f : KnOk Try.prog k_s_l1Cur_put_f := by
  intro args rows a h y hy
  simp only [k_s_l1Cur_put_f] at h
  split at h
  · injection h with h
    subst h
    exact vfun_ok eok_s_l1Cur_put_f Try.func76 rfl (by rw [v_s_l1Cur_put_f]; simp only at hy; rw [hy]; rfl)
  · cases h

def J_s_l1Kind : Joins := [(.r, ⟨[.int .i64], [(2, .one (.h 0))], [], []⟩)]
def ann_s_l1Kind : Ann := .seq .nil (.seq (.block [] (.seq (.reg [(.n, ⟨[.bool, .int .i64, .int .i64, .str], [(1, .pl 1 0), (3, .one (.h 0))], [(1, [.h 1, .h 2, .h 3])], []⟩)]) (.cond [] .nil (.seq (.reg [(.n, ⟨[.bool, .int .i64, .int .i64, .str], [(1, .pl 1 0), (17, .one (.h 0))], [(1, [.h 1, .h 2, .h 3])], []⟩)]) (.cond [] .nil (.seq (.reg [(.n, ⟨[.bool], [(31, .one (.h 0))], [], []⟩)]) .nil)))))) .nil)
def env_s_l1Kind : Env := envOf ti []
theorem eok_s_l1Kind : EnvOk Try.prog env_s_l1Kind := envOf_ok tab mix _ (by
  intro k hk; cases hk)
theorem v_s_l1Kind (x0 : Int) (x1 : Int) (x2 : List UInt8) : (vfun env_s_l1Kind Try.f80 J_s_l1Kind ann_s_l1Kind [.ag [⟨.int .i64, x0⟩, ⟨.int .i64, x1⟩, ⟨.str, x2⟩]] []).run = (G.s_l1Kind x0 x1 x2).bind fun y => some (Res.mk [.one ⟨.int .i64, y⟩] []) := by kernel_rfl
def k_s_l1Kind : Kn := ⟨80, [false], fun args rows => match args, rows with
  | [.ag [⟨.int .i64, x0⟩, ⟨.int .i64, x1⟩, ⟨.str, x2⟩]], [] => some ⟨_, G.s_l1Kind x0 x1 x2, fun y => ⟨[.one ⟨.int .i64, y⟩], []⟩⟩
  | _, _ => none⟩
theorem s_s_l1Kind : KnOk Try.prog k_s_l1Kind := by
  intro args rows a h y hy
  simp only [k_s_l1Kind] at h
  split at h
  · injection h with h
    subst h
    exact vfun_ok eok_s_l1Kind Try.func80 rfl (by rw [v_s_l1Kind]; simp only at hy; rw [hy]; rfl)
  · cases h

def J_s_l1Add : Joins := [(.r, ⟨[.sl true 105 (.pair (.int .i64) (.pair (.int .i64) .str))], [(4, .one (.vw 165889))], [], [(165889, 0)]⟩)]
def ann_s_l1Add : Ann := .seq .nil (.seq .nil (.seq (.seq .nil (.seq (.reg [(.n, ⟨[.sl true 105 (.pair (.int .i64) (.pair (.int .i64) .str)), .int .i64, .bool, .int .i64, .int .i64, .str], [(0, .one (.vw 165888)), (3, .pl 3 0), (5, .one (.h 1)), (24, .one (.h 2))], [(3, [.h 3, .h 4, .h 5])], [(165888, 0)]⟩)]) .nil)) .nil))
def env_s_l1Add : Env := envOf ti [k_s_l1Kind]
theorem eok_s_l1Add : EnvOk Try.prog env_s_l1Add := envOf_ok tab mix _ (by
  intro k hk
  simp only [List.mem_cons, List.not_mem_nil, or_false] at hk
  rcases hk with rfl
  · exact s_s_l1Kind)
theorem v_s_l1Add (x0 : List (Int × (Int × List UInt8))) (x1 : Int) (x2 : Int) (x3 : List UInt8) : (vfun env_s_l1Add Try.f81 J_s_l1Add ann_s_l1Add [.one ⟨.sl true 105 (.pair (.int .i64) (.pair (.int .i64) .str)), x0⟩, .ag [⟨.int .i64, x1⟩, ⟨.int .i64, x2⟩, ⟨.str, x3⟩]] []).run = (G.s_l1Add x0 x1 x2 x3).bind fun y => some (Res.mk [.one ⟨.sl true 105 (.pair (.int .i64) (.pair (.int .i64) .str)), y⟩] []) := by kernel_rfl
def k_s_l1Add : Kn := ⟨81, [true, false], fun args rows => match args, rows with
  | [.one ⟨.sl true 105 (.pair (.int .i64) (.pair (.int .i64) .str)), x0⟩, .ag [⟨.int .i64, x1⟩, ⟨.int .i64, x2⟩, ⟨.str, x3⟩]], [] => some ⟨_, G.s_l1Add x0 x1 x2 x3, fun y => ⟨[.one ⟨.sl true 105 (.pair (.int .i64) (.pair (.int .i64) .str)), y⟩], []⟩⟩
  | _, _ => none⟩
theorem s_s_l1Add : KnOk Try.prog k_s_l1Add := by
  intro args rows a h y hy
  simp only [k_s_l1Add] at h
  split at h
  · injection h with h
    subst h
    exact vfun_ok eok_s_l1Add Try.func81 rfl (by rw [v_s_l1Add]; simp only at hy; rw [hy]; rfl)
  · cases h

def J_s_l1Cur_wide_f : Joins := [(.r, ⟨[.int .i64, .sl false 5 (.int .u8), .int .i64, .int .u64], [(2, .one (.h 0))], [(16, [.h 1, .h 2, .h 3])], []⟩)]
def ann_s_l1Cur_wide_f : Ann := .seq .nil (.seq .nil (.seq (.seq .nil (.block [] (.loop ⟨[.int .i64, .int .i64, .sl false 5 (.int .u8), .int .i64, .int .u64], [(0, .pl 16 0), (3, .one (.h 0)), (4, .one (.h 1))], [(16, [.h 2, .h 3, .h 4])], []⟩ [(.x 0, ⟨[.int .i64, .sl false 5 (.int .u8), .int .i64, .int .u64], [(3, .one (.h 0))], [(16, [.h 1, .h 2, .h 3])], []⟩)] .nil))) .nil))
def env_s_l1Cur_wide_f : Env := envOf ti [k_s_l1Cur_next_f]
theorem eok_s_l1Cur_wide_f : EnvOk Try.prog env_s_l1Cur_wide_f := envOf_ok tab mix _ (by
  intro k hk
  simp only [List.mem_cons, List.not_mem_nil, or_false] at hk
  rcases hk with rfl
  · exact s_s_l1Cur_next_f)
theorem v_s_l1Cur_wide_f (x0 : List Int) (x1 : Int) (x2 : Int) : (vfun env_s_l1Cur_wide_f Try.f104 J_s_l1Cur_wide_f ann_s_l1Cur_wide_f [.pl 0 0] [[⟨.sl false 5 (.int .u8), x0⟩, ⟨.int .i64, x1⟩, ⟨.int .u64, x2⟩]]).run = (G.s_l1Cur_wide_f x0 x1 x2).bind fun y => some (Res.mk [.one ⟨.int .i64, y.1⟩] [[⟨.sl false 5 (.int .u8), y.2.1⟩, ⟨.int .i64, y.2.2.1⟩, ⟨.int .u64, y.2.2.2⟩]]) := by kernel_rfl
def k_s_l1Cur_wide_f : Kn := ⟨104, [false], fun args rows => match args, rows with
  | [.pl 0 0], [[⟨.sl false 5 (.int .u8), x0⟩, ⟨.int .i64, x1⟩, ⟨.int .u64, x2⟩]] => some ⟨_, G.s_l1Cur_wide_f x0 x1 x2, fun y => ⟨[.one ⟨.int .i64, y.1⟩], [[⟨.sl false 5 (.int .u8), y.2.1⟩, ⟨.int .i64, y.2.2.1⟩, ⟨.int .u64, y.2.2.2⟩]]⟩⟩
  | _, _ => none⟩
theorem s_s_l1Cur_wide_f : KnOk Try.prog k_s_l1Cur_wide_f := by
  intro args rows a h y hy
  simp only [k_s_l1Cur_wide_f] at h
  split at h
  · injection h with h
    subst h
    exact vfun_ok eok_s_l1Cur_wide_f Try.func104 rfl (by rw [v_s_l1Cur_wide_f]; simp only at hy; rw [hy]; rfl)
  · cases h

def J_s_l1Cur_sized_f : Joins := [(.r, ⟨[.int .i64, .sl false 5 (.int .u8), .int .i64, .int .u64], [(2, .one (.h 0))], [(39, [.h 1, .h 2, .h 3])], []⟩)]
def ann_s_l1Cur_sized_f : Ann := .seq .nil (.seq .nil (.seq (.seq .nil (.block [] (.seq .nil (.cond [(.n, ⟨[.int .i64, .sl false 5 (.int .u8), .int .i64, .int .u64], [(0, .pl 39 0), (3, .one (.h 0))], [(39, [.h 1, .h 2, .h 3])], []⟩)] .nil (.seq .nil (.cond [(.n, ⟨[.int .i64, .sl false 5 (.int .u8), .int .i64, .int .u64], [(0, .pl 39 0), (3, .one (.h 0))], [(39, [.h 1, .h 2, .h 3])], []⟩)] .nil (.seq .nil (.cond [(.n, ⟨[.int .i64, .sl false 5 (.int .u8), .int .i64, .int .u64], [(0, .pl 39 0), (3, .one (.h 0))], [(39, [.h 1, .h 2, .h 3])], []⟩)] .nil (.seq .nil (.cond [(.n, ⟨[.int .i64, .sl false 5 (.int .u8), .int .i64, .int .u64], [(0, .pl 39 0), (3, .one (.h 0))], [(39, [.h 1, .h 2, .h 3])], []⟩)] .nil .nil)))))))))) (.seq (.seq .nil (.cond [(.n, ⟨[.int .i64, .sl false 5 (.int .u8), .int .i64, .int .u64], [(3, .one (.h 0))], [(39, [.h 1, .h 2, .h 3])], []⟩)] .nil .nil)) .nil)))
def env_s_l1Cur_sized_f : Env := envOf ti [k_s_l1Cur_pick_f, k_s_l1Cur_wide_f, k_s_l1Cur_one_f]
theorem eok_s_l1Cur_sized_f : EnvOk Try.prog env_s_l1Cur_sized_f := envOf_ok tab mix _ (by
  intro k hk
  simp only [List.mem_cons, List.not_mem_nil, or_false] at hk
  rcases hk with rfl | rfl | rfl
  · exact s_s_l1Cur_pick_f
  · exact s_s_l1Cur_wide_f
  · exact s_s_l1Cur_one_f)
theorem v_s_l1Cur_sized_f (x0 : List Int) (x1 : Int) (x2 : Int) : (vfun env_s_l1Cur_sized_f Try.f99 J_s_l1Cur_sized_f ann_s_l1Cur_sized_f [.pl 0 0] [[⟨.sl false 5 (.int .u8), x0⟩, ⟨.int .i64, x1⟩, ⟨.int .u64, x2⟩]]).run = (G.s_l1Cur_sized_f x0 x1 x2).bind fun y => some (Res.mk [.one ⟨.int .i64, y.1⟩] [[⟨.sl false 5 (.int .u8), y.2.1⟩, ⟨.int .i64, y.2.2.1⟩, ⟨.int .u64, y.2.2.2⟩]]) := by kernel_rfl
def k_s_l1Cur_sized_f : Kn := ⟨99, [false], fun args rows => match args, rows with
  | [.pl 0 0], [[⟨.sl false 5 (.int .u8), x0⟩, ⟨.int .i64, x1⟩, ⟨.int .u64, x2⟩]] => some ⟨_, G.s_l1Cur_sized_f x0 x1 x2, fun y => ⟨[.one ⟨.int .i64, y.1⟩], [[⟨.sl false 5 (.int .u8), y.2.1⟩, ⟨.int .i64, y.2.2.1⟩, ⟨.int .u64, y.2.2.2⟩]]⟩⟩
  | _, _ => none⟩
theorem s_s_l1Cur_sized_f : KnOk Try.prog k_s_l1Cur_sized_f := by
  intro args rows a h y hy
  simp only [k_s_l1Cur_sized_f] at h
  split at h
  · injection h with h
    subst h
    exact vfun_ok eok_s_l1Cur_sized_f Try.func99 rfl (by rw [v_s_l1Cur_sized_f]; simp only at hy; rw [hy]; rfl)
  · cases h

def J_s_l1Cur_part_f : Joins := [(.r, ⟨[.int .i64, .int .i64, .str, .sl false 5 (.int .u8), .int .i64, .int .u64], [(2, .pl 2 0)], [(2, [.h 0, .h 1, .h 2]), (28, [.h 3, .h 4, .h 5])], []⟩)]
def ann_s_l1Cur_part_f : Ann := .nil
def env_s_l1Cur_part_f : Env := envOf ti [k_s_l1Cur_pick_f, k_s_l1Cur_sized_f]
theorem eok_s_l1Cur_part_f : EnvOk Try.prog env_s_l1Cur_part_f := envOf_ok tab mix _ (by
  intro k hk
  simp only [List.mem_cons, List.not_mem_nil, or_false] at hk
  rcases hk with rfl | rfl
  · exact s_s_l1Cur_pick_f
  · exact s_s_l1Cur_sized_f)
theorem v_s_l1Cur_part_f (x0 : List Int) (x1 : Int) (x2 : Int) : (vfun env_s_l1Cur_part_f Try.f77 J_s_l1Cur_part_f ann_s_l1Cur_part_f [.pl 0 0] [[⟨.sl false 5 (.int .u8), x0⟩, ⟨.int .i64, x1⟩, ⟨.int .u64, x2⟩]]).run = (G.s_l1Cur_part_f x0 x1 x2).bind fun y => some (Res.mk [.ag [⟨.int .i64, y.1⟩, ⟨.int .i64, y.2.1⟩, ⟨.str, y.2.2.1⟩]] [[⟨.sl false 5 (.int .u8), y.2.2.2.1⟩, ⟨.int .i64, y.2.2.2.2.1⟩, ⟨.int .u64, y.2.2.2.2.2⟩]]) := by kernel_rfl
def k_s_l1Cur_part_f : Kn := ⟨77, [false], fun args rows => match args, rows with
  | [.pl 0 0], [[⟨.sl false 5 (.int .u8), x0⟩, ⟨.int .i64, x1⟩, ⟨.int .u64, x2⟩]] => some ⟨_, G.s_l1Cur_part_f x0 x1 x2, fun y => ⟨[.ag [⟨.int .i64, y.1⟩, ⟨.int .i64, y.2.1⟩, ⟨.str, y.2.2.1⟩]], [[⟨.sl false 5 (.int .u8), y.2.2.2.1⟩, ⟨.int .i64, y.2.2.2.2.1⟩, ⟨.int .u64, y.2.2.2.2.2⟩]]⟩⟩
  | _, _ => none⟩
theorem s_s_l1Cur_part_f : KnOk Try.prog k_s_l1Cur_part_f := by
  intro args rows a h y hy
  simp only [k_s_l1Cur_part_f] at h
  split at h
  · injection h with h
    subst h
    exact vfun_ok eok_s_l1Cur_part_f Try.func77 rfl (by rw [v_s_l1Cur_part_f]; simp only at hy; rw [hy]; rfl)
  · cases h

def J_s_l1Cur_changeOf_f : Joins := [(.r, ⟨[.sl true 105 (.pair (.int .i64) (.pair (.int .i64) .str)), .sl false 5 (.int .u8), .int .i64, .int .u64], [(4, .one (.vw 184393))], [(81, [.h 1, .h 2, .h 3])], [(184393, 0)]⟩)]
def ann_s_l1Cur_changeOf_f : Ann := .seq .nil (.seq .nil (.seq .nil (.seq (.block [] (.loop ⟨[.int .i64, .sl true 105 (.pair (.int .i64) (.pair (.int .i64) .str)), .int .i64, .sl false 5 (.int .u8), .int .i64, .int .u64], [(0, .pl 81 0), (1, .one (.h 0)), (5, .one (.vw 184320)), (6, .one (.h 2))], [(81, [.h 3, .h 4, .h 5])], [(184320, 1)]⟩ [(.x 0, ⟨[.sl true 105 (.pair (.int .i64) (.pair (.int .i64) .str)), .int .i64, .sl false 5 (.int .u8), .int .i64, .int .u64], [(0, .pl 81 0), (5, .one (.vw 184389)), (6, .one (.h 1))], [(81, [.h 2, .h 3, .h 4])], [(184389, 0)]⟩)] (.seq .nil (.block [] (.seq (.seq .nil (.seq (.reg [(.n, ⟨[.int .i64, .sl true 105 (.pair (.int .i64) (.pair (.int .i64) .str)), .int .i64, .str, .bool, .sl false 5 (.int .u8), .int .i64, .int .u64], [(0, .pl 81 0), (1, .one (.h 0)), (5, .one (.vw 184384)), (6, .one (.h 2)), (7, .one (.h 3)), (23, .one (.h 4))], [(81, [.h 5, .h 6, .h 7])], [(184384, 1)]⟩)]) (.cond [(.n, ⟨[.int .i64, .sl true 105 (.pair (.int .i64) (.pair (.int .i64) .str)), .int .i64, .sl false 5 (.int .u8), .int .i64, .int .u64], [(0, .pl 81 0), (1, .one (.h 0)), (5, .one (.vw 184385)), (6, .one (.h 2))], [(81, [.h 3, .h 4, .h 5])], [(184385, 1)]⟩)] .nil .nil))) (.seq .nil (.seq (.seq .nil (.cond [(.n, ⟨[.int .i64, .sl true 105 (.pair (.int .i64) (.pair (.int .i64) .str)), .int .i64, .int .i64, .sl false 5 (.int .u8), .int .i64, .int .u64], [(0, .pl 81 0), (1, .one (.h 0)), (5, .one (.vw 184386)), (6, .one (.h 2)), (8, .one (.h 3))], [(81, [.h 4, .h 5, .h 6])], [(184386, 1)]⟩)] .nil .nil)) (.seq (.seq .nil (.cond [(.n, ⟨[.int .i64, .sl true 105 (.pair (.int .i64) (.pair (.int .i64) .str)), .int .i64, .int .i64, .sl false 5 (.int .u8), .int .i64, .int .u64], [(0, .pl 81 0), (1, .one (.h 0)), (5, .one (.vw 184387)), (6, .one (.h 2)), (8, .one (.h 3))], [(81, [.h 4, .h 5, .h 6])], [(184387, 1)]⟩)] .nil .nil)) (.seq (.seq .nil (.cond [(.n, ⟨[.int .i64, .sl true 105 (.pair (.int .i64) (.pair (.int .i64) .str)), .int .i64, .int .i64, .sl false 5 (.int .u8), .int .i64, .int .u64], [(0, .pl 81 0), (1, .one (.h 0)), (5, .one (.vw 184388)), (6, .one (.h 2)), (8, .one (.h 3))], [(81, [.h 4, .h 5, .h 6])], [(184388, 1)]⟩)] .nil .nil)) .nil))))))))) (.seq (.seq .nil (.seq (.reg [(.n, ⟨[.sl true 105 (.pair (.int .i64) (.pair (.int .i64) .str)), .str, .bool, .sl false 5 (.int .u8), .int .i64, .int .u64], [(0, .pl 81 0), (5, .one (.vw 184390)), (9, .one (.h 1)), (67, .one (.h 2))], [(81, [.h 3, .h 4, .h 5])], [(184390, 0)]⟩)]) (.cond [(.n, ⟨[.sl true 105 (.pair (.int .i64) (.pair (.int .i64) .str)), .sl false 5 (.int .u8), .int .i64, .int .u64], [(0, .pl 81 0), (5, .one (.vw 184391))], [(81, [.h 1, .h 2, .h 3])], [(184391, 0)]⟩)] .nil .nil))) (.seq (.seq .nil (.cond [(.n, ⟨[.sl true 105 (.pair (.int .i64) (.pair (.int .i64) .str)), .sl false 5 (.int .u8), .int .i64, .int .u64], [(5, .one (.vw 184392))], [(81, [.h 1, .h 2, .h 3])], [(184392, 0)]⟩)] .nil .nil)) .nil)))))
def env_s_l1Cur_changeOf_f : Env := envOf ti [k_s_l1Cur_put_f, k_s_l1Cur_one_f, k_s_l1Add, k_s_l1Cur_pick_f, k_s_l1Cur_part_f]
theorem eok_s_l1Cur_changeOf_f : EnvOk Try.prog env_s_l1Cur_changeOf_f := envOf_ok tab mix _ (by
  intro k hk
  simp only [List.mem_cons, List.not_mem_nil, or_false] at hk
  rcases hk with rfl | rfl | rfl | rfl | rfl
  · exact s_s_l1Cur_put_f
  · exact s_s_l1Cur_one_f
  · exact s_s_l1Add
  · exact s_s_l1Cur_pick_f
  · exact s_s_l1Cur_part_f)
theorem v_s_l1Cur_changeOf_f (x0 : Int) (x1 : List Int) (x2 : Int) (x3 : Int) : (vfun env_s_l1Cur_changeOf_f Try.f64 J_s_l1Cur_changeOf_f ann_s_l1Cur_changeOf_f [.pl 0 0, .one ⟨.int .i64, x0⟩] [[⟨.sl false 5 (.int .u8), x1⟩, ⟨.int .i64, x2⟩, ⟨.int .u64, x3⟩]]).run = (G.s_l1Cur_changeOf_f x0 x1 x2 x3).bind fun y => some (Res.mk [.one ⟨.sl true 105 (.pair (.int .i64) (.pair (.int .i64) .str)), y.1⟩] [[⟨.sl false 5 (.int .u8), y.2.1⟩, ⟨.int .i64, y.2.2.1⟩, ⟨.int .u64, y.2.2.2⟩]]) := by kernel_rfl
def k_s_l1Cur_changeOf_f : Kn := ⟨64, [false, false], fun args rows => match args, rows with
  | [.pl 0 0, .one ⟨.int .i64, x0⟩], [[⟨.sl false 5 (.int .u8), x1⟩, ⟨.int .i64, x2⟩, ⟨.int .u64, x3⟩]] => some ⟨_, G.s_l1Cur_changeOf_f x0 x1 x2 x3, fun y => ⟨[.one ⟨.sl true 105 (.pair (.int .i64) (.pair (.int .i64) .str)), y.1⟩], [[⟨.sl false 5 (.int .u8), y.2.1⟩, ⟨.int .i64, y.2.2.1⟩, ⟨.int .u64, y.2.2.2⟩]]⟩⟩
  | _, _ => none⟩
theorem s_s_l1Cur_changeOf_f : KnOk Try.prog k_s_l1Cur_changeOf_f := by
  intro args rows a h y hy
  simp only [k_s_l1Cur_changeOf_f] at h
  split at h
  · injection h with h
    subst h
    exact vfun_ok eok_s_l1Cur_changeOf_f Try.func64 rfl (by rw [v_s_l1Cur_changeOf_f]; simp only at hy; rw [hy]; rfl)
  · cases h
end
end Go.Proofs.Ytdicgiljgelkfaa

set_option linter.unusedVariables false
set_option maxRecDepth 100000
namespace Go.Proofs.Ytdicgiljgelkfaa
open Go.V
noncomputable section
def J_s_l1Cur_among_f : Joins := [(.r, ⟨[.int .i64, .sl false 5 (.int .u8), .int .i64, .int .u64], [(4, .one (.h 0))], [(13, [.h 1, .h 2, .h 3])], []⟩)]
def ann_s_l1Cur_among_f : Ann := .nil
def env_s_l1Cur_among_f : Env := envOf ti [k_s_l1Cur_pick_f]
theorem eok_s_l1Cur_among_f : EnvOk Try.prog env_s_l1Cur_among_f := envOf_ok tab mix _ (by
  intro k hk
  simp only [List.mem_cons, List.not_mem_nil, or_false] at hk
  rcases hk with rfl
  · exact s_s_l1Cur_pick_f)
theorem v_s_l1Cur_among_f (x0 : List Int) (x1 : List Int) (x2 : Int) (x3 : Int) : (vfun env_s_l1Cur_among_f Try.f66 J_s_l1Cur_among_f ann_s_l1Cur_among_f [.pl 0 0, .one ⟨.sl true 3 (.int .i64), x0⟩] [[⟨.sl false 5 (.int .u8), x1⟩, ⟨.int .i64, x2⟩, ⟨.int .u64, x3⟩]]).run = (G.s_l1Cur_among_f x0 x1 x2 x3).bind fun y => some (Res.mk [.one ⟨.int .i64, y.1⟩] [[⟨.sl false 5 (.int .u8), y.2.1⟩, ⟨.int .i64, y.2.2.1⟩, ⟨.int .u64, y.2.2.2⟩]]) := by kernel_rfl
def k_s_l1Cur_among_f : Kn := ⟨66, [false, true], fun args rows => match args, rows with
  | [.pl 0 0, .one ⟨.sl true 3 (.int .i64), x0⟩], [[⟨.sl false 5 (.int .u8), x1⟩, ⟨.int .i64, x2⟩, ⟨.int .u64, x3⟩]] => some ⟨_, G.s_l1Cur_among_f x0 x1 x2 x3, fun y => ⟨[.one ⟨.int .i64, y.1⟩], [[⟨.sl false 5 (.int .u8), y.2.1⟩, ⟨.int .i64, y.2.2.1⟩, ⟨.int .u64, y.2.2.2⟩]]⟩⟩
  | _, _ => none⟩
theorem s_s_l1Cur_among_f : KnOk Try.prog k_s_l1Cur_among_f := by
  intro args rows a h y hy
  simp only [k_s_l1Cur_among_f] at h
  split at h
  · injection h with h
    subst h
    exact vfun_ok eok_s_l1Cur_among_f Try.func66 rfl (by rw [v_s_l1Cur_among_f]; simp only at hy; rw [hy]; rfl)
  · cases h

def J_s_DrawImageOf : Joins := [(.r, ⟨[.sl true 105 (.pair (.int .i64) (.pair (.int .i64) .str)), .int .i64, .bool], [(2, .one (.vw 135169)), (3, .one (.h 1)), (4, .one (.h 2))], [], [(135169, 0)]⟩)]
def ann_s_DrawImageOf : Ann := .seq .nil (.seq .nil (.seq .nil (.seq .nil (.seq .nil (.seq (.seq .nil (.cond [(.n, ⟨[.sl true 105 (.pair (.int .i64) (.pair (.int .i64) .str)), .int .i64, .sl false 5 (.int .u8), .int .i64, .int .u64], [(5, .pl 11 0), (7, .one (.vw 135168)), (8, .one (.h 1))], [(11, [.h 2, .h 3, .h 4])], [(135168, 0)]⟩)] .nil .nil)) .nil)))))
def env_s_DrawImageOf : Env := envOf ti [k_s_l1Cur_size_f, k_s_l1Cur_changeOf_f, k_s_l1Cur_pick_f, k_s_l1Cur_one_f, k_s_l1Cur_among_f]
theorem eok_s_DrawImageOf : EnvOk Try.prog env_s_DrawImageOf := envOf_ok tab mix _ (by
  intro k hk
  simp only [List.mem_cons, List.not_mem_nil, or_false] at hk
  rcases hk with rfl | rfl | rfl | rfl | rfl
  · exact s_s_l1Cur_size_f
  · exact s_s_l1Cur_changeOf_f
  · exact s_s_l1Cur_pick_f
  · exact s_s_l1Cur_one_f
  · exact s_s_l1Cur_among_f)
theorem v_s_DrawImageOf (x0 : List Int) : (vfun env_s_DrawImageOf Try.f21 J_s_DrawImageOf ann_s_DrawImageOf [.one ⟨.sl false 5 (.int .u8), x0⟩] []).run = (G.s_DrawImageOf x0).bind fun y => some (Res.mk [.one ⟨.sl true 105 (.pair (.int .i64) (.pair (.int .i64) .str)), y.1⟩, .one ⟨.int .i64, y.2.1⟩, .one ⟨.bool, y.2.2⟩] []) := by kernel_rfl
def k_s_DrawImageOf : Kn := ⟨21, [false], fun args rows => match args, rows with
  | [.one ⟨.sl false 5 (.int .u8), x0⟩], [] => some ⟨_, G.s_DrawImageOf x0, fun y => ⟨[.one ⟨.sl true 105 (.pair (.int .i64) (.pair (.int .i64) .str)), y.1⟩, .one ⟨.int .i64, y.2.1⟩, .one ⟨.bool, y.2.2⟩], []⟩⟩
  | _, _ => none⟩
theorem s_s_DrawImageOf : KnOk Try.prog k_s_DrawImageOf := by
  intro args rows a h y hy
  simp only [k_s_DrawImageOf] at h
  split at h
  · injection h with h
    subst h
    exact vfun_ok eok_s_DrawImageOf Try.func21 rfl (by rw [v_s_DrawImageOf]; simp only at hy; rw [hy]; rfl)
  · cases h

def J_i_Part_kind : Joins := [(.r, ⟨[.int .i64], [(2, .one (.h 0))], [], []⟩)]
def ann_i_Part_kind : Ann := .seq .nil (.seq (.block [] (.seq (.reg [(.n, ⟨[.bool, .int .i64, .int .i64, .str], [(1, .pl 1 0), (3, .one (.h 0))], [(1, [.h 1, .h 2, .h 3])], []⟩)]) (.cond [] .nil (.seq (.reg [(.n, ⟨[.bool, .int .i64, .int .i64, .str], [(1, .pl 1 0), (17, .one (.h 0))], [(1, [.h 1, .h 2, .h 3])], []⟩)]) (.cond [] .nil (.seq (.reg [(.n, ⟨[.bool], [(31, .one (.h 0))], [], []⟩)]) .nil)))))) .nil)
def env_i_Part_kind : Env := envOf ti []
theorem eok_i_Part_kind : EnvOk Try.prog env_i_Part_kind := envOf_ok tab mix _ (by
  intro k hk; cases hk)
theorem v_i_Part_kind (x0 : Int) (x1 : Int) (x2 : List UInt8) : (vfun env_i_Part_kind Try.f78 J_i_Part_kind ann_i_Part_kind [.ag [⟨.int .i64, x0⟩, ⟨.int .i64, x1⟩, ⟨.str, x2⟩]] []).run = (G.i_Part_kind x0 x1 x2).bind fun y => some (Res.mk [.one ⟨.int .i64, y⟩] []) := by kernel_rfl
def k_i_Part_kind : Kn := ⟨78, [false], fun args rows => match args, rows with
  | [.ag [⟨.int .i64, x0⟩, ⟨.int .i64, x1⟩, ⟨.str, x2⟩]], [] => some ⟨_, G.i_Part_kind x0 x1 x2, fun y => ⟨[.one ⟨.int .i64, y⟩], []⟩⟩
  | _, _ => none⟩
theorem s_i_Part_kind : KnOk Try.prog k_i_Part_kind := by
  intro args rows a h y hy
  simp only [k_i_Part_kind] at h
  split at h
  · injection h with h
    subst h
    exact vfun_ok eok_i_Part_kind Try.func78 rfl (by rw [v_i_Part_kind]; simp only at hy; rw [hy]; rfl)
  · cases h

def J_i_lengths : Joins := [(.r, ⟨[.int .i64, .int .i64, .bool], [(2, .one (.h 0)), (3, .one (.h 1)), (4, .one (.h 2))], [], []⟩)]
def ann_i_lengths : Ann := .seq .nil (.seq .nil (.seq (.seq .nil (.block [] (.loop ⟨[.int .i64, .int .i64, .sl false 105 (.pair (.int .i64) (.pair (.int .i64) .str)), .int .i64, .int .i64], [(5, .one (.h 0)), (6, .one (.h 1)), (9, .one (.h 2)), (10, .one (.h 3)), (11, .one (.h 4))], [], []⟩ [(.x 0, ⟨[.int .i64, .int .i64], [(5, .one (.h 0)), (6, .one (.h 1))], [], []⟩), (.r, ⟨[.int .i64, .int .i64, .bool], [(2, .one (.h 0)), (3, .one (.h 1)), (4, .one (.h 2))], [], []⟩)] (.seq .nil (.seq .nil (.seq (.block [] (.seq .nil (.seq (.seq (.reg [(.n, ⟨[.int .i64, .int .i64, .sl false 105 (.pair (.int .i64) (.pair (.int .i64) .str)), .int .i64, .int .i64, .bool, .int .i64, .int .i64, .str], [(5, .one (.h 0)), (6, .one (.h 1)), (8, .pl 8 0), (9, .one (.h 2)), (10, .one (.h 3)), (11, .one (.h 4)), (22, .one (.h 5))], [(8, [.h 6, .h 7, .h 8])], []⟩)]) .nil) (.seq .nil (.seq .nil (.seq (.reg [(.n, ⟨[.int .i64, .int .i64, .sl false 105 (.pair (.int .i64) (.pair (.int .i64) .str)), .int .i64, .int .i64, .bool], [(5, .one (.h 0)), (6, .one (.h 1)), (9, .one (.h 2)), (10, .one (.h 3)), (11, .one (.h 4)), (43, .one (.h 5))], [], []⟩)]) .nil)))))) .nil)))))) .nil))
def env_i_lengths : Env := envOf ti []
theorem eok_i_lengths : EnvOk Try.prog env_i_lengths := envOf_ok tab mix _ (by
  intro k hk; cases hk)
theorem v_i_lengths (x0 : List (Int × (Int × List UInt8))) : (vfun env_i_lengths Try.f82 J_i_lengths ann_i_lengths [.one ⟨.sl false 105 (.pair (.int .i64) (.pair (.int .i64) .str)), x0⟩] []).run = (G.i_lengths x0).bind fun y => some (Res.mk [.one ⟨.int .i64, y.1⟩, .one ⟨.int .i64, y.2.1⟩, .one ⟨.bool, y.2.2⟩] []) := by kernel_rfl
def k_i_lengths : Kn := ⟨82, [false], fun args rows => match args, rows with
  | [.one ⟨.sl false 105 (.pair (.int .i64) (.pair (.int .i64) .str)), x0⟩], [] => some ⟨_, G.i_lengths x0, fun y => ⟨[.one ⟨.int .i64, y.1⟩, .one ⟨.int .i64, y.2.1⟩, .one ⟨.bool, y.2.2⟩], []⟩⟩
  | _, _ => none⟩
theorem s_i_lengths : KnOk Try.prog k_i_lengths := by
  intro args rows a h y hy
  simp only [k_i_lengths] at h
  split at h
  · injection h with h
    subst h
    exact vfun_ok eok_i_lengths Try.func82 rfl (by rw [v_i_lengths]; simp only at hy; rw [hy]; rfl)
  · cases h

def J_i_GoodChange : Joins := [(.r, ⟨[.bool], [(2, .one (.h 0))], [], []⟩)]
def ann_i_GoodChange : Ann := .seq .nil (.seq (.seq .nil (.block [] (.loop ⟨[.sl false 105 (.pair (.int .i64) (.pair (.int .i64) .str)), .sl false 105 (.pair (.int .i64) (.pair (.int .i64) .str)), .int .i64, .int .i64], [(0, .one (.h 0)), (9, .one (.h 1)), (10, .one (.h 2)), (11, .one (.h 3))], [], []⟩ [(.x 0, ⟨[.sl false 105 (.pair (.int .i64) (.pair (.int .i64) .str))], [(0, .one (.h 0))], [], []⟩), (.r, ⟨[.bool], [(2, .one (.h 0))], [], []⟩)] (.seq .nil (.seq .nil (.seq (.block [] (.seq .nil (.seq .nil (.seq (.reg [(.n, ⟨[.sl false 105 (.pair (.int .i64) (.pair (.int .i64) .str)), .sl false 105 (.pair (.int .i64) (.pair (.int .i64) .str)), .int .i64, .int .i64, .bool], [(0, .one (.h 0)), (9, .one (.h 1)), (10, .one (.h 2)), (11, .one (.h 3)), (33, .one (.h 4))], [], []⟩)]) .nil)))) .nil)))))) .nil)
def env_i_GoodChange : Env := envOf ti [k_i_Part_kind, k_i_lengths]
theorem eok_i_GoodChange : EnvOk Try.prog env_i_GoodChange := envOf_ok tab mix _ (by
  intro k hk
  simp only [List.mem_cons, List.not_mem_nil, or_false] at hk
  rcases hk with rfl | rfl
  · exact s_i_Part_kind
  · exact s_i_lengths)
theorem v_i_GoodChange (x0 : List (Int × (Int × List UInt8))) : (vfun env_i_GoodChange Try.f33 J_i_GoodChange ann_i_GoodChange [.one ⟨.sl false 105 (.pair (.int .i64) (.pair (.int .i64) .str)), x0⟩] []).run = (G.i_GoodChange x0).bind fun y => some (Res.mk [.one ⟨.bool, y⟩] []) := by kernel_rfl
def k_i_GoodChange : Kn := ⟨33, [false], fun args rows => match args, rows with
  | [.one ⟨.sl false 105 (.pair (.int .i64) (.pair (.int .i64) .str)), x0⟩], [] => some ⟨_, G.i_GoodChange x0, fun y => ⟨[.one ⟨.bool, y⟩], []⟩⟩
  | _, _ => none⟩
theorem s_i_GoodChange : KnOk Try.prog k_i_GoodChange := by
  intro args rows a h y hy
  simp only [k_i_GoodChange] at h
  split at h
  · injection h with h
    subst h
    exact vfun_ok eok_i_GoodChange Try.func33 rfl (by rw [v_i_GoodChange]; simp only at hy; rw [hy]; rfl)
  · cases h

def J_i_LengthsOf : Joins := [(.r, ⟨[.int .i64, .int .i64, .bool], [(2, .one (.h 0)), (3, .one (.h 1)), (4, .one (.h 2))], [], []⟩)]
def ann_i_LengthsOf : Ann := .nil
def env_i_LengthsOf : Env := envOf ti [k_i_GoodChange, k_i_lengths]
theorem eok_i_LengthsOf : EnvOk Try.prog env_i_LengthsOf := envOf_ok tab mix _ (by
  intro k hk
  simp only [List.mem_cons, List.not_mem_nil, or_false] at hk
  rcases hk with rfl | rfl
  · exact s_i_GoodChange
  · exact s_i_lengths)
theorem v_i_LengthsOf (x0 : List (Int × (Int × List UInt8))) : (vfun env_i_LengthsOf Try.f67 J_i_LengthsOf ann_i_LengthsOf [.one ⟨.sl false 105 (.pair (.int .i64) (.pair (.int .i64) .str)), x0⟩] []).run = (G.i_LengthsOf x0).bind fun y => some (Res.mk [.one ⟨.int .i64, y.1⟩, .one ⟨.int .i64, y.2.1⟩, .one ⟨.bool, y.2.2⟩] []) := by kernel_rfl
def k_i_LengthsOf : Kn := ⟨67, [false], fun args rows => match args, rows with
  | [.one ⟨.sl false 105 (.pair (.int .i64) (.pair (.int .i64) .str)), x0⟩], [] => some ⟨_, G.i_LengthsOf x0, fun y => ⟨[.one ⟨.int .i64, y.1⟩, .one ⟨.int .i64, y.2.1⟩, .one ⟨.bool, y.2.2⟩], []⟩⟩
  | _, _ => none⟩
theorem s_i_LengthsOf : KnOk Try.prog k_i_LengthsOf := by
  intro args rows a h y hy
  simp only [k_i_LengthsOf] at h
  split at h
  · injection h with h
    subst h
    exact vfun_ok eok_i_LengthsOf Try.func67 rfl (by rw [v_i_LengthsOf]; simp only at hy; rw [hy]; rfl)
  · cases h

def J_i_within : Joins := [(.r, ⟨[.bool], [(6, .one (.h 0))], [], []⟩)]
def ann_i_within : Ann := .seq .nil (.seq (.reg [(.n, ⟨[.bool], [(6, .one (.h 0))], [], []⟩)]) .nil)
def env_i_within : Env := envOf ti []
theorem eok_i_within : EnvOk Try.prog env_i_within := envOf_ok tab mix _ (by
  intro k hk; cases hk)
theorem v_i_within (x0 : Int) (x1 : Int) (x2 : Int) : (vfun env_i_within Try.f68 J_i_within ann_i_within [.one ⟨.int .i64, x0⟩, .one ⟨.int .i64, x1⟩, .one ⟨.int .i64, x2⟩] []).run = (G.i_within x0 x1 x2).bind fun y => some (Res.mk [.one ⟨.bool, y⟩] []) := by kernel_rfl
def k_i_within : Kn := ⟨68, [false, false, false], fun args rows => match args, rows with
  | [.one ⟨.int .i64, x0⟩, .one ⟨.int .i64, x1⟩, .one ⟨.int .i64, x2⟩], [] => some ⟨_, G.i_within x0 x1 x2, fun y => ⟨[.one ⟨.bool, y⟩], []⟩⟩
  | _, _ => none⟩
theorem s_i_within : KnOk Try.prog k_i_within := by
  intro args rows a h y hy
  simp only [k_i_within] at h
  split at h
  · injection h with h
    subst h
    exact vfun_ok eok_i_within Try.func68 rfl (by rw [v_i_within]; simp only at hy; rw [hy]; rfl)
  · cases h

def J_i_tell : Joins := [(.r, ⟨[.sl true 4 .bool, .sl true 9 .str], [(2, .pl 2 0)], [(2, [.vw 152708, .vw 152709])], [(152708, 0), (152709, 1)]⟩)]
def ann_i_tell : Ann := .seq .nil (.seq .nil (.seq (.seq .nil (.block [] (.loop ⟨[.sl false 105 (.pair (.int .i64) (.pair (.int .i64) .str)), .int .i64, .int .i64, .sl true 4 .bool, .sl true 9 .str], [(2, .pl 2 0), (3, .pl 3 0), (8, .one (.h 0)), (9, .one (.h 1)), (10, .one (.h 2))], [(2, [.nil, .nil]), (3, [.vw 152576, .vw 152577])], [(152576, 3), (152577, 4)]⟩ [(.x 0, ⟨[.sl true 4 .bool, .sl true 9 .str], [(2, .pl 2 0), (3, .pl 3 0)], [(2, [.nil, .nil]), (3, [.vw 152706, .vw 152707])], [(152706, 0), (152707, 1)]⟩)] (.seq .nil (.seq .nil (.seq (.block [] (.seq .nil (.seq .nil (.seq .nil (.block [] (.loop ⟨[.sl false 105 (.pair (.int .i64) (.pair (.int .i64) .str)), .int .i64, .int .i64, .int .i64, .int .i64, .sl true 4 .bool, .sl true 9 .str, .int .i64, .int .i64, .str], [(2, .pl 2 0), (3, .pl 3 0), (5, .pl 5 0), (8, .one (.h 0)), (9, .one (.h 1)), (10, .one (.h 2)), (30, .one (.h 3)), (31, .one (.h 4))], [(2, [.nil, .nil]), (3, [.vw 152640, .vw 152641]), (5, [.h 7, .h 8, .h 9])], [(152640, 5), (152641, 6)]⟩ [(.x 2, ⟨[.sl false 105 (.pair (.int .i64) (.pair (.int .i64) .str)), .int .i64, .int .i64, .sl true 4 .bool, .sl true 9 .str], [(2, .pl 2 0), (3, .pl 3 0), (8, .one (.h 0)), (9, .one (.h 1)), (10, .one (.h 2))], [(2, [.nil, .nil]), (3, [.vw 152704, .vw 152705])], [(152704, 3), (152705, 4)]⟩)] .nil)))))) .nil)))))) .nil))
def env_i_tell : Env := envOf ti []
theorem eok_i_tell : EnvOk Try.prog env_i_tell := envOf_ok tab mix _ (by
  intro k hk; cases hk)
theorem v_i_tell (x0 : List (Int × (Int × List UInt8))) : (vfun env_i_tell Try.f69 J_i_tell ann_i_tell [.one ⟨.sl false 105 (.pair (.int .i64) (.pair (.int .i64) .str)), x0⟩] []).run = (G.i_tell x0).bind fun y => some (Res.mk [.ag [⟨.sl true 4 .bool, y.1⟩, ⟨.sl true 9 .str, y.2⟩]] []) := by kernel_rfl
def k_i_tell : Kn := ⟨69, [false], fun args rows => match args, rows with
  | [.one ⟨.sl false 105 (.pair (.int .i64) (.pair (.int .i64) .str)), x0⟩], [] => some ⟨_, G.i_tell x0, fun y => ⟨[.ag [⟨.sl true 4 .bool, y.1⟩, ⟨.sl true 9 .str, y.2⟩]], []⟩⟩
  | _, _ => none⟩
theorem s_i_tell : KnOk Try.prog k_i_tell := by
  intro args rows a h y hy
  simp only [k_i_tell] at h
  split at h
  · injection h with h
    subst h
    exact vfun_ok eok_i_tell Try.func69 rfl (by rw [v_i_tell]; simp only at hy; rw [hy]; rfl)
  · cases h

def J_i_ImageOf : Joins := [(.r, ⟨[.int .i64], [(6, .one (.h 0))], [], []⟩)]
def ann_i_ImageOf : Ann := .seq .nil (.seq .nil (.seq (.seq (.reg [(.n, ⟨[.sl false 105 (.pair (.int .i64) (.pair (.int .i64) .str)), .int .i64, .bool, .bool], [(0, .one (.h 0)), (1, .one (.h 1)), (2, .one (.h 2)), (26, .one (.h 3))], [], []⟩)]) .nil) (.seq .nil (.seq (.seq .nil (.block [] (.loop ⟨[.int .i64, .bool, .int .i64, .int .i64, .int .i64, .sl true 4 .bool, .sl true 9 .str], [(1, .one (.h 0)), (2, .one (.h 1)), (10, .pl 10 0), (11, .one (.h 2)), (29, .one (.h 3)), (30, .one (.h 4))], [(10, [.vw 162816, .vw 162817])], [(162816, 5), (162817, 6)]⟩ [(.x 0, ⟨[.int .i64, .bool, .int .i64, .sl true 4 .bool, .sl true 9 .str], [(1, .one (.h 0)), (2, .one (.h 1)), (10, .pl 10 0), (11, .one (.h 2))], [(10, [.vw 162882, .vw 162883])], [(162882, 3), (162883, 4)]⟩)] (.seq .nil (.seq .nil (.seq (.block [] (.seq .nil (.seq .nil (.seq .nil (.cond [(.n, ⟨[.int .i64, .bool, .int .i64, .int .i64, .int .i64, .sl true 4 .bool, .sl true 9 .str], [(1, .one (.h 0)), (2, .one (.h 1)), (10, .pl 10 0), (11, .one (.h 2)), (29, .one (.h 3)), (30, .one (.h 4))], [(10, [.vw 162880, .vw 162881])], [(162880, 5), (162881, 6)]⟩)] .nil .nil))))) .nil)))))) (.seq (.seq .nil (.cond [(.n, ⟨[.int .i64], [(11, .one (.h 0))], [], []⟩)] .nil .nil)) .nil)))))
def env_i_ImageOf : Env := envOf ti [k_i_LengthsOf, k_i_within, k_i_tell]
theorem eok_i_ImageOf : EnvOk Try.prog env_i_ImageOf := envOf_ok tab mix _ (by
  intro k hk
  simp only [List.mem_cons, List.not_mem_nil, or_false] at hk
  rcases hk with rfl | rfl | rfl
  · exact s_i_LengthsOf
  · exact s_i_within
  · exact s_i_tell)
theorem v_i_ImageOf (x0 : List (Int × (Int × List UInt8))) (x1 : Int) (x2 : Bool) : (vfun env_i_ImageOf Try.f22 J_i_ImageOf ann_i_ImageOf [.one ⟨.sl false 105 (.pair (.int .i64) (.pair (.int .i64) .str)), x0⟩, .one ⟨.int .i64, x1⟩, .one ⟨.bool, x2⟩] []).run = (G.i_ImageOf x0 x1 x2).bind fun y => some (Res.mk [.one ⟨.int .i64, y⟩] []) := by kernel_rfl
def k_i_ImageOf : Kn := ⟨22, [false, false, false], fun args rows => match args, rows with
  | [.one ⟨.sl false 105 (.pair (.int .i64) (.pair (.int .i64) .str)), x0⟩, .one ⟨.int .i64, x1⟩, .one ⟨.bool, x2⟩], [] => some ⟨_, G.i_ImageOf x0 x1 x2, fun y => ⟨[.one ⟨.int .i64, y⟩], []⟩⟩
  | _, _ => none⟩
theorem s_i_ImageOf : KnOk Try.prog k_i_ImageOf := by
  intro args rows a h y hy
  simp only [k_i_ImageOf] at h
  split at h
  · injection h with h
    subst h
    exact vfun_ok eok_i_ImageOf Try.func22 rfl (by rw [v_i_ImageOf]; simp only at hy; rw [hy]; rfl)
  · cases h

def J_s_GoodChange : Joins := [(.r, ⟨[.bool], [(2, .one (.h 0))], [], []⟩)]
def ann_s_GoodChange : Ann := .seq .nil (.seq .nil (.seq .nil (.seq (.seq .nil (.block [] (.loop ⟨[.sl false 105 (.pair (.int .i64) (.pair (.int .i64) .str)), .int .i64, .int .i64, .sl false 105 (.pair (.int .i64) (.pair (.int .i64) .str)), .int .i64, .int .i64], [(0, .one (.h 0)), (3, .one (.h 1)), (4, .one (.h 2)), (8, .one (.h 3)), (9, .one (.h 4)), (10, .one (.h 5))], [], []⟩ [(.x 0, ⟨[], [], [], []⟩), (.r, ⟨[.bool], [(2, .one (.h 0))], [], []⟩)] (.seq .nil (.seq .nil (.seq (.block [] (.seq .nil (.seq .nil (.seq (.seq (.reg [(.n, ⟨[.sl false 105 (.pair (.int .i64) (.pair (.int .i64) .str)), .int .i64, .int .i64, .sl false 105 (.pair (.int .i64) (.pair (.int .i64) .str)), .int .i64, .int .i64, .bool, .int .i64, .int .i64, .str], [(0, .one (.h 0)), (3, .one (.h 1)), (4, .one (.h 2)), (6, .pl 6 0), (8, .one (.h 3)), (9, .one (.h 4)), (10, .one (.h 5)), (48, .one (.h 6))], [(6, [.h 7, .h 8, .h 9])], []⟩)]) .nil) (.seq .nil (.seq .nil (.seq (.reg [(.n, ⟨[.sl false 105 (.pair (.int .i64) (.pair (.int .i64) .str)), .int .i64, .int .i64, .sl false 105 (.pair (.int .i64) (.pair (.int .i64) .str)), .int .i64, .int .i64, .bool], [(0, .one (.h 0)), (3, .one (.h 1)), (4, .one (.h 2)), (8, .one (.h 3)), (9, .one (.h 4)), (10, .one (.h 5)), (69, .one (.h 6))], [], []⟩)]) .nil))))))) .nil)))))) .nil)))
def env_s_GoodChange : Env := envOf ti [k_s_l1Kind]
theorem eok_s_GoodChange : EnvOk Try.prog env_s_GoodChange := envOf_ok tab mix _ (by
  intro k hk
  simp only [List.mem_cons, List.not_mem_nil, or_false] at hk
  rcases hk with rfl
  · exact s_s_l1Kind)
theorem v_s_GoodChange (x0 : List (Int × (Int × List UInt8))) : (vfun env_s_GoodChange Try.f45 J_s_GoodChange ann_s_GoodChange [.one ⟨.sl false 105 (.pair (.int .i64) (.pair (.int .i64) .str)), x0⟩] []).run = (G.s_GoodChange x0).bind fun y => some (Res.mk [.one ⟨.bool, y⟩] []) := by kernel_rfl
def k_s_GoodChange : Kn := ⟨45, [false], fun args rows => match args, rows with
  | [.one ⟨.sl false 105 (.pair (.int .i64) (.pair (.int .i64) .str)), x0⟩], [] => some ⟨_, G.s_GoodChange x0, fun y => ⟨[.one ⟨.bool, y⟩], []⟩⟩
  | _, _ => none⟩
theorem s_s_GoodChange : KnOk Try.prog k_s_GoodChange := by
  intro args rows a h y hy
  simp only [k_s_GoodChange] at h
  split at h
  · injection h with h
    subst h
    exact vfun_ok eok_s_GoodChange Try.func45 rfl (by rw [v_s_GoodChange]; simp only at hy; rw [hy]; rfl)
  · cases h

def J_s_l1Source : Joins := [(.r, ⟨[.int .i64], [(2, .one (.h 0))], [], []⟩)]
def ann_s_l1Source : Ann := .seq .nil (.seq .nil (.seq (.seq .nil (.block [] (.loop ⟨[.int .i64, .sl false 105 (.pair (.int .i64) (.pair (.int .i64) .str)), .int .i64, .int .i64], [(3, .one (.h 0)), (6, .one (.h 1)), (7, .one (.h 2)), (8, .one (.h 3))], [], []⟩ [(.x 0, ⟨[.int .i64], [(3, .one (.h 0))], [], []⟩)] .nil))) .nil))
def env_s_l1Source : Env := envOf ti []
theorem eok_s_l1Source : EnvOk Try.prog env_s_l1Source := envOf_ok tab mix _ (by
  intro k hk; cases hk)
theorem v_s_l1Source (x0 : List (Int × (Int × List UInt8))) : (vfun env_s_l1Source Try.f70 J_s_l1Source ann_s_l1Source [.one ⟨.sl false 105 (.pair (.int .i64) (.pair (.int .i64) .str)), x0⟩] []).run = (G.s_l1Source x0).bind fun y => some (Res.mk [.one ⟨.int .i64, y⟩] []) := by kernel_rfl
def k_s_l1Source : Kn := ⟨70, [false], fun args rows => match args, rows with
  | [.one ⟨.sl false 105 (.pair (.int .i64) (.pair (.int .i64) .str)), x0⟩], [] => some ⟨_, G.s_l1Source x0, fun y => ⟨[.one ⟨.int .i64, y⟩], []⟩⟩
  | _, _ => none⟩
theorem s_s_l1Source : KnOk Try.prog k_s_l1Source := by
  intro args rows a h y hy
  simp only [k_s_l1Source] at h
  split at h
  · injection h with h
    subst h
    exact vfun_ok eok_s_l1Source Try.func70 rfl (by rw [v_s_l1Source]; simp only at hy; rw [hy]; rfl)
  · cases h

def J_s_l1In : Joins := [(.r, ⟨[.bool], [(6, .one (.h 0))], [], []⟩)]
def ann_s_l1In : Ann := .seq .nil (.seq (.reg [(.n, ⟨[.bool], [(6, .one (.h 0))], [], []⟩)]) .nil)
def env_s_l1In : Env := envOf ti []
theorem eok_s_l1In : EnvOk Try.prog env_s_l1In := envOf_ok tab mix _ (by
  intro k hk; cases hk)
theorem v_s_l1In (x0 : Int) (x1 : Int) (x2 : Int) : (vfun env_s_l1In Try.f60 J_s_l1In ann_s_l1In [.one ⟨.int .i64, x0⟩, .one ⟨.int .i64, x1⟩, .one ⟨.int .i64, x2⟩] []).run = (G.s_l1In x0 x1 x2).bind fun y => some (Res.mk [.one ⟨.bool, y⟩] []) := by kernel_rfl
def k_s_l1In : Kn := ⟨60, [false, false, false], fun args rows => match args, rows with
  | [.one ⟨.int .i64, x0⟩, .one ⟨.int .i64, x1⟩, .one ⟨.int .i64, x2⟩], [] => some ⟨_, G.s_l1In x0 x1 x2, fun y => ⟨[.one ⟨.bool, y⟩], []⟩⟩
  | _, _ => none⟩
theorem s_s_l1In : KnOk Try.prog k_s_l1In := by
  intro args rows a h y hy
  simp only [k_s_l1In] at h
  split at h
  · injection h with h
    subst h
    exact vfun_ok eok_s_l1In Try.func60 rfl (by rw [v_s_l1In]; simp only at hy; rw [hy]; rfl)
  · cases h
end
end Go.Proofs.Ytdicgiljgelkfaa
