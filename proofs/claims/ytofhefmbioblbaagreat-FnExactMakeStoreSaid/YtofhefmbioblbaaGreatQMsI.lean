import Derived.Test.YtofhefmbioblbaaGreatQMsH
import Derived.Test.YtofhefmbioblbaaGreatProg
import Derived.KernelRfl
import Derived.Test.YtofhefmbioblbaaGreatRows
import Derived.WalkKit
import Derived.ProofKit
import Derived.OpenShut
import Derived.ShutString
import Derived.ChangeOld
import Derived.Below
set_option linter.unusedVariables false
set_option linter.unusedSimpArgs false
set_option maxRecDepth 100000
namespace Go.Proofs.YtofhefmbioblbaaGreat
open Go.V
abbrev q0:Ty:=.bool
abbrev q1:Ty:=.int .u8
abbrev q2:Ty:=.int .u32
abbrev q3:Ty:=.int .i64
abbrev q4:Ty:=.int .u64
abbrev q5:Ty:=.sl true 9 .str
abbrev q6:Ty:=.sl true 4 q0
abbrev q7:Ty:=.sl true 5 q1
abbrev q8:Ty:=.sl false 5 q1
abbrev q9:Ty:=.sl true 3 q3
abbrev q10:Ty:=.pair q3 .str
abbrev q11:Ty:=.sl false 3 q3
abbrev q12:Ty:=.pair q3 q3
abbrev q13:Ty:=.sl true 65 q7
abbrev q14:Ty:=.sl true 47 q9
abbrev q15:Ty:=.sl false 65 q8
abbrev q16:Ty:=.sl false 47 q11
abbrev q17:Ty:=.pair q3 q10
abbrev q18:Ty:=.sl true 99 q12
abbrev q19:Ty:=.sl true 181 q12
abbrev q20:Ty:=.sl true 202 q12
abbrev q21:Ty:=.sl true 246 q12
abbrev q22:Ty:=.sl false 99 q12
abbrev q23:Ty:=.sl false 181 q12
abbrev q24:Ty:=.sl false 202 q12
abbrev q25:Ty:=.sl true 287 (.pair q3 q7)
abbrev q26:Ty:=.sl true 148 q17
abbrev q27:Ty:=.sl true 154 q17
abbrev q28:Ty:=.sl true 297 q17
abbrev q29:Ty:=.pair q11 q11
abbrev q30:Ty:=.sl false 287 (.pair q3 q8)
abbrev q31:Ty:=.sl false 148 q17
abbrev q32:Ty:=.sl false 154 q17
abbrev q33:Ty:=.sl false 297 q17
abbrev q34:Ty:=.sl true 171 q27
abbrev q35:Ty:=.sl true 174 q26
abbrev q36:Ty:=.sl false 174 q31
abbrev q37:Ty:=.sl false 171 q32
abbrev q38:Ty:=.pair q8 q29
abbrev q39:Ty:=.pair q15 q38
abbrev q40:Ty:=.pt q39
def tiL:List TI:=[
 .other,
 .other,
 .cell q3,
 .cell q3,
 .cell q0,
 .cell q1,
 .cell q1,
 .other,
 .other,
 .cell .str,
 .cell .str,
 .cell .str,
 .cell q4,
 .other,
 .other,
 .ptr 400,
 .ptr 403,
 .ptr 411,
 .other,
 .other,
 .other,
 .cell (.int .i32),
 .slice 65 [q7] 24,
 .struct [(0,1,false),(1,1,false),(2,1,false),(3,1,false)] [q13,q3,q0,q3] false,
 .struct [(0,1,false),(1,1,false),(2,1,false),(3,1,false)] [q13,q3,q0,q3] false,
 .slice 202 [q3,q3] 16,
 .slice 171 [q27] 24,
 .struct [(0,1,false),(1,1,false),(2,1,false),(3,1,false)] [q3,.str,q20,q34] false,
 .struct [(0,1,false),(1,1,false),(2,1,false),(3,1,false)] [q3,.str,q20,q34] false,
 .other,
 .other,
 .struct [(0,1,false),(1,1,false),(2,1,false),(3,1,false)] [q13,q3,q0,q3] false,
 .other,
 .other,
 .other,
 .slice 181 [q3,q3] 16,
 .slice 174 [q26] 24,
 .struct [(0,1,false),(1,1,false),(2,1,false),(3,1,false)] [q3,.str,q19,q35] false,
 .struct [(0,1,false),(1,1,false),(2,1,false),(3,1,false)] [q3,.str,q19,q35] false,
 .other,
 .other,
 .other,
 .other,
 .other,
 .other,
 .other,
 .other,
 .slice 3 [q3] 8,
 .other,
 .other,
 .other,
 .other,
 .other,
 .other,
 .other,
 .slice 148 [q3,q3,.str] 32,
 .other,
 .other,
 .other,
 .other,
 .other,
 .other,
 .other,
 .other,
 .other,
 .slice 5 [q1] 1,
 .other,
 .other,
 .other,
 .other,
 .other,
 .other,
 .slice 154 [q3,q3,.str] 32,
 .other,
 .other,
 .other,
 .other,
 .other,
 .other,
 .other,
 .other,
 .other,
 .other,
 .other,
 .other,
 .struct [(0,1,false),(1,1,false),(2,1,false),(3,1,false)] [q13,q7,q9,q9] false,
 .struct [(0,1,false),(1,1,false),(2,1,false),(3,1,false)] [q13,q7,q9,q9] false,
 .other,
 .other,
 .other,
 .other,
 .other,
 .struct [(0,1,false),(1,1,false),(2,1,false),(3,1,false),(4,1,false)] [q3,q3,q3,q3,q3] true,
 .struct [(0,1,false),(1,1,false),(2,1,false),(3,1,false),(4,1,false)] [q3,q3,q3,q3,q3] true,
 .other,
 .ptr 86,
 .other,
 .other,
 .struct [(0,1,false),(1,1,false)] [q3,q3] true,
 .struct [(0,1,false),(1,1,false)] [q3,q3] true,
 .slice 99 [q3,q3] 16,
 .other,
 .other,
 .other,
 .other,
 .other,
 .ptr 108,
 .struct [(0,4,true),(4,1,false),(5,1,false),(6,1,false),(7,1,false)] [q13,q7,q9,q9,q18,q0,q3,q0] false,
 .struct [(0,4,true),(4,1,false),(5,1,false),(6,1,false),(7,1,false)] [q13,q7,q9,q9,q18,q0,q3,q0] false,
 .other,
 .other,
 .slice 47 [q9] 24,
 .struct [(0,1,false),(1,1,false),(2,1,false)] [q3,q9,q14] false,
 .struct [(0,1,false),(1,1,false),(2,1,false)] [q3,q9,q14] false,
 .other,
 .other,
 .other,
 .other,
 .other,
 .other,
 .other,
 .other,
 .other,
 .struct [(0,5,true),(5,4,true),(9,1,false),(10,4,true),(14,1,false)] [q3,q3,q3,q3,q3,q13,q7,q9,q9,q18,q3,.str,q19,q35,q9] false,
 .struct [(0,5,true),(5,4,true),(9,1,false),(10,4,true),(14,1,false)] [q3,q3,q3,q3,q3,q13,q7,q9,q9,q18,q3,.str,q19,q35,q9] false,
 .other,
 .other,
 .ptr 132,
 .other,
 .other,
 .other,
 .struct [(0,4,true),(4,5,true),(9,4,true),(13,3,true),(16,4,true)] [q13,q3,q0,q3,q3,q3,q3,q3,q3,q13,q7,q9,q9,q3,q9,q14,q3,.str,q19,q35] false,
 .struct [(0,4,true),(4,5,true),(9,4,true),(13,3,true),(16,4,true)] [q13,q3,q0,q3,q3,q3,q3,q3,q3,q13,q7,q9,q9,q3,q9,q14,q3,.str,q19,q35] false,
 .other,
 .other,
 .other,
 .other,
 .other,
 .slice 246 [q3,q3] 16,
 .other,
 .other,
 .other,
 .other,
 .other,
 .other,
 .other,
 .other,
 .struct [(0,1,false),(1,1,false),(2,1,false)] [q3,q3,.str] true,
 .struct [(0,1,false),(1,1,false),(2,1,false)] [q3,q3,.str] true,
 .other,
 .other,
 .other,
 .other,
 .other,
 .struct [(0,1,false),(1,1,false),(2,1,false)] [q3,q3,.str] true,
 .struct [(0,4,true),(4,1,false),(5,1,false),(6,1,false),(7,1,false),(8,1,false)] [q3,.str,q19,q35,q21,q13,q0,q3,.str] false,
 .struct [(0,4,true),(4,1,false),(5,1,false),(6,1,false),(7,1,false),(8,1,false)] [q3,.str,q19,q35,q21,q13,q0,q3,.str] false,
 .other,
 .other,
 .other,
 .other,
 .other,
 .other,
 .other,
 .other,
 .other,
 .other,
 .other,
 .other,
 .other,
 .struct [(0,1,false)] [q27] false,
 .struct [(0,1,false)] [q27] false,
 .other,
 .struct [(0,1,false)] [q26] false,
 .struct [(0,1,false)] [q26] false,
 .other,
 .other,
 .other,
 .other,
 .other,
 .struct [(0,1,false),(1,1,false)] [q3,q3] true,
 .struct [(0,1,false),(1,1,false)] [q3,q3] true,
 .other,
 .slice 9 [.str] 16,
 .other,
 .other,
 .other,
 .other,
 .other,
 .slice 4 [q0] 1,
 .other,
 .other,
 .other,
 .other,
 .other,
 .slice 287 [q3,q7] 32,
 .other,
 .other,
 .other,
 .ptr 31,
 .other,
 .other,
 .struct [(0,1,false),(1,1,false)] [q3,q3] true,
 .other,
 .other,
 .other,
 .other,
 .other,
 .other,
 .other,
 .other,
 .other,
 .other,
 .other,
 .other,
 .other,
 .other,
 .other,
 .other,
 .other,
 .other,
 .other,
 .other,
 .other,
 .other,
 .other,
 .other,
 .other,
 .other,
 .other,
 .other,
 .other,
 .other,
 .other,
 .other,
 .ptr 237,
 .struct [(0,4,true),(4,1,false),(5,1,false),(6,1,false),(7,1,false)] [q13,q7,q9,q9,q9,q9,q9,q0] false,
 .struct [(0,4,true),(4,1,false),(5,1,false),(6,1,false),(7,1,false)] [q13,q7,q9,q9,q9,q9,q9,q0] false,
 .other,
 .other,
 .other,
 .other,
 .other,
 .other,
 .other,
 .struct [(0,1,false),(1,1,false)] [q3,q3] true,
 .struct [(0,1,false),(1,1,false)] [q3,q3] true,
 .slice 55 [q26] 24,
 .other,
 .other,
 .other,
 .other,
 .cell q4,
 .other,
 .other,
 .other,
 .other,
 .other,
 .other,
 .other,
 .other,
 .other,
 .other,
 .cell q2,
 .other,
 .other,
 .other,
 .other,
 .other,
 .other,
 .other,
 .other,
 .other,
 .other,
 .other,
 .other,
 .other,
 .other,
 .other,
 .other,
 .other,
 .other,
 .other,
 .other,
 .other,
 .other,
 .struct [(0,1,false),(1,1,false)] [q3,q7] false,
 .struct [(0,1,false),(1,1,false)] [q3,q7] false,
 .other,
 .other,
 .other,
 .other,
 .other,
 .slice 297 [q3,q3,.str] 32,
 .other,
 .other,
 .struct [(0,1,false),(1,1,false),(2,1,false)] [q3,q3,.str] true,
 .struct [(0,1,false),(1,1,false),(2,1,false)] [q3,q3,.str] true,
 .other,
 .other,
 .other,
 .other,
 .other,
 .other,
 .other,
 .other,
 .other,
 .other,
 .other,
 .other,
 .other,
 .other,
 .other,
 .other,
 .other,
 .other,
 .other,
 .other,
 .other,
 .other,
 .ptr 323,
 .other,
 .other,
 .other,
 .ptr 38,
 .other,
 .other,
 .other,
 .struct [(0,1,false),(1,1,false)] [q6,q5] false,
 .struct [(0,1,false),(1,1,false)] [q6,q5] false,
 .other,
 .other,
 .cell q4,
 .other,
 .other,
 .other,
 .other,
 .other,
 .other,
 .other,
 .other,
 .other,
 .other,
 .other,
 .other,
 .other,
 .cell q3,
 .other,
 .other,
 .other,
 .other,
 .other,
 .other,
 .other,
 .other,
 .other,
 .other,
 .other,
 .other,
 .other,
 .other,
 .other,
 .other,
 .other,
 .struct [(0,1,false),(1,1,false)] [q6,q5] false,
 .struct [(0,1,false),(1,1,false)] [q6,q5] false,
 .other,
 .other,
 .other,
 .other,
 .other,
 .other,
 .other,
 .other,
 .cell q4,
 .other,
 .other,
 .other,
 .ptr 3,
 .other,
 .other,
 .other,
 .other,
 .other,
 .other,
 .other,
 .struct [(0,1,false)] [q26] false,
 .struct [(0,1,false)] [q26] false,
 .other,
 .other,
 .other,
 .ptr 374,
 .other,
 .other,
 .other,
 .ptr 387,
 .ptr 148,
 .other,
 .other,
 .other,
 .other,
 .other,
 .other,
 .other,
 .cell q1,
 .cell q1,
 .other,
 .ptr 5,
 .cell (.int .i32),
 .cell (.int .i32),
 .other,
 .other,
 .other]
def ti (t:TypeId):TI:=tiL.getD t .other
theorem tab:TabOk Tryz.prog ti:=Aef Tryz.prog tiL (by kernel_rfl)
theorem mix:Tryz.prog.follows .mixedOrders=true:=by kernel_rfl
abbrev Ko:=LT Tryz.prog
theorem ek (l:List Kn) (fx:List Nat) (hn:List (Nat×List Ty)) (h:KnsOk Tryz.prog l):EnvOk Tryz.prog (Zd ti l fx hn):=Aec tab mix l fx hn h
end Go.Proofs.YtofhefmbioblbaaGreat
set_option maxRecDepth 100000
namespace Go.Proofs.YtofhefmbioblbaaGreat
open Go.V
theorem own:ownKnob Tryz.prog.godebug=none:=by kernel_rfl
theorem Te:laidOutB Tryz.prog=true:=by kernel_rfl
theorem Aby:∀ t,IG Tryz.prog ti t (ti t)=true:=Ad5 Tryz.prog tiL (by kernel_rfl)
end Go.Proofs.YtofhefmbioblbaaGreat
set_option maxRecDepth 100000
namespace Go.Proofs.YtofhefmbioblbaaGreat
open Go.V
noncomputable section
def P4:Kn:=kn 135 [0,0] [.one q8,.one q3] [] [] G.K6 fun y=>⟨[.one ⟨q3,y⟩],[],[]⟩
theorem XO:Ko P4:=Ac (J:=[(.r,⟨[q3],[(4,.one (.h 0))],[],[],[],[]⟩)]) (ann:=.nil) (ln:=[]) (ek [] [] [] trivial) Tryz.func135 rfl fun x y=>by kernel_rfl
def Of:Kn:=kn 60 [0,0] [.one q15,.one q3] [] [] G.JL fun y=>⟨[.one ⟨q3,y⟩],[],[]⟩
theorem WA:Ko Of:=Ac (J:=[(.r,⟨[q3],[(4,.one (.h 0))],[],[],[],[]⟩)]) (ann:=.seq .nil (.seq .nil (.seq .nil (.seq (.seq .nil (.block [] (.loop ⟨[q15,q3,q3],[(0,.one (.h 0)),(1,.one (.h 1)),(5,.one (.h 2))],[],[],[],[]⟩ [(.x 0,⟨[q3],[(1,.one (.h 0))],[],[],[],[]⟩),(.r,⟨[q3],[(4,.one (.h 0))],[],[],[],[]⟩)] .nil))) .nil)))) (ln:=[]) (ek [P4] [] [] ⟨XO,trivial⟩) Tryz.func60 rfl fun x y=>by kernel_rfl
def Rf:Kn:=kn 15 [0,0] [.ag [q15,q3,q0,q3],.one q3] [] [] G.M1 fun y=>⟨[.one ⟨q3,y⟩],[],[]⟩
theorem Zk:Ko Rf:=Ac (J:=[(.r,⟨[q3],[(4,.one (.h 0))],[],[],[],[]⟩)]) (ann:=.nil) (ln:=[]) (ek [Of] [] [] ⟨WA,trivial⟩) Tryz.func15 rfl fun x y=>by kernel_rfl
def Sd:Kn:=kn 61 [0,0] [.one q24,.one q3] [] [] G.Mz fun y=>⟨[.one ⟨q3,y⟩],[],[]⟩
theorem Ze:Ko Sd:=Ac (J:=[(.r,⟨[q3],[(4,.one (.h 0))],[],[],[],[]⟩)]) (ann:=.nil) (ln:=[]) (ek [] [] [] trivial) Tryz.func61 rfl fun x y=>by kernel_rfl
def Q6:Kn:=kn 121 [0,0] [.ag [q3,q3,.str],.one q3] [] [] G.M9 fun y=>⟨[.one ⟨q3,y⟩],[],[]⟩
theorem Zt:Ko Q6:=Ac (J:=[(.r,⟨[q3],[(4,.one (.h 0))],[],[],[],[]⟩)]) (ann:=.nil) (ln:=[]) (ek [] [] [] trivial) Tryz.func121 rfl fun x y=>by kernel_rfl
def PI:Kn:=kn 52 [0,0] [.one q32,.one q3] [] [] G.Ls fun y=>⟨[.one ⟨q3,y⟩],[],[]⟩
theorem Xq:Ko PI:=Ac (J:=[(.r,⟨[q3],[(4,.one (.h 0))],[],[],[],[]⟩)]) (ann:=.seq .nil (.seq .nil (.seq .nil (.seq (.seq .nil (.block [] (.loop ⟨[q32,q3,q3],[(0,.one (.h 0)),(1,.one (.h 1)),(5,.one (.h 2))],[],[],[],[]⟩ [(.x 0,⟨[q3],[(1,.one (.h 0))],[],[],[],[]⟩),(.r,⟨[q3],[(4,.one (.h 0))],[],[],[],[]⟩)] .nil))) .nil)))) (ln:=[]) (ek [Q6] [] [] ⟨Zt,trivial⟩) Tryz.func52 rfl fun x y=>by kernel_rfl
def OO:Kn:=kn 136 [0,0] [.ag [q32],.one q3] [] [] G.JD fun y=>⟨[.one ⟨q3,y⟩],[],[]⟩
theorem VM:Ko OO:=Ac (J:=[(.r,⟨[q3],[(4,.one (.h 0))],[],[],[],[]⟩)]) (ann:=.nil) (ln:=[]) (ek [PI] [] [] ⟨Xq,trivial⟩) Tryz.func136 rfl fun x y=>by kernel_rfl
def No:Kn:=kn 62 [0,0] [.one q37,.one q3] [] [] G.IU fun y=>⟨[.one ⟨q3,y⟩],[],[]⟩
theorem UE:Ko No:=Ac (J:=[(.r,⟨[q3],[(4,.one (.h 0))],[],[],[],[]⟩)]) (ann:=.seq .nil (.seq .nil (.seq .nil (.seq (.seq .nil (.block [] (.loop ⟨[q37,q3,q3],[(0,.one (.h 0)),(1,.one (.h 1)),(5,.one (.h 2))],[],[],[],[]⟩ [(.x 0,⟨[q3],[(1,.one (.h 0))],[],[],[],[]⟩),(.r,⟨[q3],[(4,.one (.h 0))],[],[],[],[]⟩)] .nil))) .nil)))) (ln:=[]) (ek [OO] [] [] ⟨VM,trivial⟩) Tryz.func62 rfl fun x y=>by kernel_rfl
def Nj:Kn:=kn 16 [0,0] [.ag [q3,.str,q24,q37],.one q3] [] [] G.IE fun y=>⟨[.one ⟨q3,y⟩],[],[]⟩
theorem UH:Ko Nj:=Ac (J:=[(.r,⟨[q3],[(4,.one (.h 0))],[],[],[],[]⟩)]) (ann:=.nil) (ln:=[]) (ek [Sd,No] [] [] ⟨Ze,UE,trivial⟩) Tryz.func16 rfl fun x y=>by kernel_rfl
def Qe:Kn:=kn 155 [0] [.one q8] [] [] G.KS fun y=>⟨[.one ⟨q7,y⟩],[],[]⟩
theorem XE:Ko Qe:=Ac (J:=[(.r,⟨[q7],[(2,.one (.vw 124993))],[],[(124993,0)],[],[]⟩)]) (ann:=.seq .nil (.seq .nil (.seq (.seq .nil (.block [] (.loop ⟨[q8,q7,q3],[(0,.one (.h 0)),(3,.one (.vw 124928)),(4,.one (.h 2))],[],[(124928,1)],[],[]⟩ [(.x 0,⟨[q7],[(3,.one (.vw 124992))],[],[(124992,0)],[],[]⟩)] .nil))) .nil))) (ln:=[]) (ek [] [] [] trivial) Tryz.func155 rfl fun x y=>by kernel_rfl
def Oq:Kn:=kn 76 [0] [.one q15] [] [] G.Jv fun y=>⟨[.one ⟨q13,y⟩],[],[]⟩
theorem Wl:Ko Oq:=Ac (J:=[(.r,⟨[q13],[(2,.one (.vw 126017))],[],[(126017,0)],[],[]⟩)]) (ann:=.seq .nil (.seq .nil (.seq (.seq .nil (.block [] (.loop ⟨[q15,q13,q3],[(0,.one (.h 0)),(3,.one (.vw 125952)),(4,.one (.h 2))],[],[(125952,1)],[],[]⟩ [(.x 0,⟨[q13],[(3,.one (.vw 126016))],[],[(126016,0)],[],[]⟩)] .nil))) .nil))) (ln:=[]) (ek [Qe] [] [] ⟨XE,trivial⟩) Tryz.func76 rfl fun x y=>by kernel_rfl
def Rc:Kn:=kn 18 [0] [.ag [q15,q3,q0,q3]] [] [] G.FJ fun y=>⟨[.ag [⟨q13,y.1⟩,⟨q3,y.2.1⟩,⟨q0,y.2.2.1⟩,⟨q3,y.2.2.2⟩]],[],[]⟩
theorem Y8:Ko Rc:=Ac (J:=[(.r,⟨[q13,q3,q0,q3],[(2,.pl 2 0)],[(2,[.vw 120832,.h 1,.h 2,.h 3])],[(120832,0)],[],[]⟩)]) (ann:=.nil) (ln:=[]) (ek [Oq] [] [] ⟨Wl,trivial⟩) Tryz.func18 rfl fun x y=>by kernel_rfl
end
end Go.Proofs.YtofhefmbioblbaaGreat
set_option maxRecDepth 100000
namespace Go.Proofs.YtofhefmbioblbaaGreat
open Go.V
noncomputable section
def T2:Kn:=kn 156 [0] [.ag [q3,q3]] [] [] G.Tk fun y=>⟨[.ag [⟨q3,y.1⟩,⟨q3,y.2⟩]],[],[]⟩
theorem Z4:Ko T2:=Ac (J:=[(.r,⟨[q3,q3],[(2,.pl 2 0)],[(2,[.h 0,.h 1])],[],[],[]⟩)]) (ann:=.nil) (ln:=[]) (ek [] [] [] trivial) Tryz.func156 rfl fun x y=>by kernel_rfl
def Q7:Kn:=kn 77 [0] [.one q24] [] [] G.MC fun y=>⟨[.one ⟨q19,y⟩],[],[]⟩
theorem Y7:Ko Q7:=Ac (J:=[(.r,⟨[q19],[(2,.one (.vw 126017))],[],[(126017,0)],[],[]⟩)]) (ann:=.seq .nil (.seq .nil (.seq (.seq .nil (.block [] (.loop ⟨[q24,q19,q3],[(0,.one (.h 0)),(3,.one (.vw 125952)),(4,.one (.h 2))],[],[(125952,1)],[],[]⟩ [(.x 0,⟨[q19],[(3,.one (.vw 126016))],[],[(126016,0)],[],[]⟩)] .nil))) .nil))) (ln:=[]) (ek [T2] [] [] ⟨Z4,trivial⟩) Tryz.func77 rfl fun x y=>by kernel_rfl
def Rm:Kn:=kn 124 [0] [.ag [q3,q3,.str]] [] [] G.QO fun y=>⟨[.ag [⟨q3,y.1⟩,⟨q3,y.2.1⟩,⟨.str,y.2.2⟩]],[],[]⟩
theorem Zs:Ko Rm:=Ac (J:=[(.r,⟨[q3,q3,.str],[(2,.pl 2 0)],[(2,[.h 0,.h 1,.h 2])],[],[],[]⟩)]) (ann:=.nil) (ln:=[]) (ek [] [] [] trivial) Tryz.func124 rfl fun x y=>by kernel_rfl
def PH:Kn:=kn 54 [0] [.one q32] [] [] G.KY fun y=>⟨[.one ⟨q26,y⟩],[],[]⟩
theorem XW:Ko PH:=Ac (J:=[(.r,⟨[q26],[(2,.one (.vw 126017))],[],[(126017,0)],[],[]⟩)]) (ann:=.seq .nil (.seq .nil (.seq (.seq .nil (.block [] (.loop ⟨[q32,q26,q3],[(0,.one (.h 0)),(3,.one (.vw 125952)),(4,.one (.h 2))],[],[(125952,1)],[],[]⟩ [(.x 0,⟨[q26],[(3,.one (.vw 126016))],[],[(126016,0)],[],[]⟩)] .nil))) .nil))) (ln:=[]) (ek [Rm] [] [] ⟨Zs,trivial⟩) Tryz.func54 rfl fun x y=>by kernel_rfl
def N4:Kn:=kn 157 [0] [.ag [q32]] [] [] G.JG fun y=>⟨[.ag [⟨q26,y⟩]],[],[]⟩
theorem WD:Ko N4:=Ac (J:=[(.r,⟨[q26],[(2,.pl 2 0)],[(2,[.vw 111616])],[(111616,0)],[],[]⟩)]) (ann:=.nil) (ln:=[]) (ek [PH] [] [] ⟨XW,trivial⟩) Tryz.func157 rfl fun x y=>by kernel_rfl
def Nm:Kn:=kn 78 [0] [.one q37] [] [] G.IR fun y=>⟨[.one ⟨q35,y⟩],[],[]⟩
theorem UR:Ko Nm:=Ac (J:=[(.r,⟨[q35],[(2,.one (.vw 126017))],[],[(126017,0)],[],[]⟩)]) (ann:=.seq .nil (.seq .nil (.seq (.seq .nil (.block [] (.loop ⟨[q37,q35,q3],[(0,.one (.h 0)),(3,.one (.vw 125952)),(4,.one (.h 2))],[],[(125952,1)],[],[]⟩ [(.x 0,⟨[q35],[(3,.one (.vw 126016))],[],[(126016,0)],[],[]⟩)] .nil))) .nil))) (ln:=[]) (ek [N4] [] [] ⟨WD,trivial⟩) Tryz.func78 rfl fun x y=>by kernel_rfl
def NE:Kn:=kn 19 [0] [.ag [q3,.str,q24,q37]] [] [] G.Dz fun y=>⟨[.ag [⟨q3,y.1⟩,⟨.str,y.2.1⟩,⟨q19,y.2.2.1⟩,⟨q35,y.2.2.2⟩]],[],[]⟩
theorem U2:Ko NE:=Ac (J:=[(.r,⟨[q3,.str,q19,q35],[(2,.pl 2 0)],[(2,[.h 0,.h 1,.vw 121856,.vw 121857])],[(121856,2),(121857,3)],[],[]⟩)]) (ann:=.nil) (ln:=[]) (ek [Q7,Nm] [] [] ⟨Y7,UR,trivial⟩) Tryz.func19 rfl fun x y=>by kernel_rfl
def EY:Kn:=kn 64 [0,0,0] [.one q3,.one q3,.one q3] [] [] G.Da fun y=>⟨[.one ⟨q0,y⟩],[],[]⟩
theorem FK:Ko EY:=Ac (J:=[(.r,⟨[q0],[(6,.one (.h 0))],[],[],[],[]⟩)]) (ann:=.seq .nil (.seq (.reg [(.n,⟨[q0],[(6,.one (.h 0))],[],[],[],[]⟩)]) .nil)) (ln:=[]) (ek [] [] [] trivial) Tryz.func64 rfl fun x y=>by kernel_rfl
def Oh:Kn:=kn 63 [0] [.ag [q15,q3,q0,q3]] [] [] G.Ju fun y=>⟨[.one ⟨q0,y⟩],[],[]⟩
theorem V8:Ko Oh:=Ac (J:=[(.r,⟨[q0],[(2,.one (.h 0))],[],[],[],[]⟩)]) (ann:=.seq .nil (.seq (.seq (.reg [(.n,⟨[q0,q15,q3,q0,q3],[(1,.pl 1 0),(21,.one (.h 0))],[(1,[.h 1,.h 2,.h 3,.h 4])],[],[],[]⟩)]) .nil) (.seq (.seq .nil (.block [] (.loop ⟨[q15,q3,q3],[(23,.one (.h 0)),(24,.one (.h 1)),(25,.one (.h 2))],[],[],[],[]⟩ [(.x 0,⟨[],[],[],[],[],[]⟩),(.r,⟨[q0],[(2,.one (.h 0))],[],[],[],[]⟩)] .nil))) .nil))) (ln:=[]) (ek [EY] [] [] ⟨FK,trivial⟩) Tryz.func63 rfl fun x y=>by kernel_rfl
def On:Kn:=kn 137 [0,0,0] [.one q23,.one q3,.one q3] [] [] G.Jw fun y=>⟨[.one ⟨q0,y⟩],[],[]⟩
theorem Vo:Ko On:=Ac (J:=[(.r,⟨[q0],[(6,.one (.h 0))],[],[],[],[]⟩)]) (ann:=.seq .nil (.seq (.seq (.reg [(.n,⟨[q23,q3,q3,q0],[(0,.one (.h 0)),(1,.one (.h 1)),(2,.one (.h 2)),(17,.one (.h 3))],[],[],[],[]⟩)]) .nil) (.seq .nil (.seq (.seq .nil (.block [] (.loop ⟨[q23,q3,q3,q3,q23,q3,q3],[(0,.one (.h 0)),(1,.one (.h 1)),(2,.one (.h 2)),(7,.one (.h 3)),(18,.one (.h 4)),(19,.one (.h 5)),(20,.one (.h 6))],[],[],[],[]⟩ [(.x 0,⟨[q3,q3],[(1,.one (.h 0)),(7,.one (.h 1))],[],[],[],[]⟩),(.r,⟨[q0],[(6,.one (.h 0))],[],[],[],[]⟩)] (.seq .nil (.seq .nil (.seq (.block [] (.seq .nil (.seq (.seq (.reg [(.n,⟨[q23,q3,q3,q3,q23,q3,q3,q0,q3,q3],[(0,.one (.h 0)),(1,.one (.h 1)),(2,.one (.h 2)),(7,.one (.h 3)),(9,.pl 9 0),(18,.one (.h 4)),(19,.one (.h 5)),(20,.one (.h 6)),(53,.one (.h 7))],[(9,[.h 8,.h 9])],[],[],[]⟩)]) .nil) .nil))) .nil)))))) .nil)))) (ln:=[]) (ek [EY] [] [] ⟨FK,trivial⟩) Tryz.func137 rfl fun x y=>by kernel_rfl
def RJ:Kn:=kn 240 [0] [.ag [q3,q3,.str]] [] [] G.Ky fun y=>⟨[.one ⟨q3,y⟩],[],[]⟩
theorem Y4:Ko RJ:=Ac (J:=[(.r,⟨[q3],[(2,.one (.h 0))],[],[],[],[]⟩)]) (ann:=.seq .nil (.seq (.block [] (.seq (.reg [(.n,⟨[q0,q3,q3,.str],[(1,.pl 1 0),(3,.one (.h 0))],[(1,[.h 1,.h 2,.h 3])],[],[],[]⟩)]) (.cond [] .nil (.seq (.reg [(.n,⟨[q0,q3,q3,.str],[(1,.pl 1 0),(17,.one (.h 0))],[(1,[.h 1,.h 2,.h 3])],[],[],[]⟩)]) (.cond [] .nil (.seq (.reg [(.n,⟨[q0],[(31,.one (.h 0))],[],[],[],[]⟩)]) .nil)))))) .nil)) (ln:=[]) (ek [] [] [] trivial) Tryz.func240 rfl fun x y=>by kernel_rfl
def Mb:Kn:=kn 138 [0] [.one q31] [] [] G.HS fun y=>⟨[.one ⟨q0,y⟩],[],[]⟩
theorem Tc:Ko Mb:=Ac (J:=[(.r,⟨[q0],[(2,.one (.h 0))],[],[],[],[]⟩)]) (ann:=.seq .nil (.seq .nil (.seq .nil (.seq (.seq .nil (.block [] (.loop ⟨[q31,q3,q3,q31,q3,q3],[(0,.one (.h 0)),(3,.one (.h 1)),(4,.one (.h 2)),(8,.one (.h 3)),(9,.one (.h 4)),(10,.one (.h 5))],[],[],[],[]⟩ [(.x 0,⟨[],[],[],[],[],[]⟩),(.r,⟨[q0],[(2,.one (.h 0))],[],[],[],[]⟩)] (.seq .nil (.seq .nil (.seq (.block [] (.seq .nil (.seq .nil (.seq (.seq (.reg [(.n,⟨[q31,q3,q3,q31,q3,q3,q0,q3,q3,.str],[(0,.one (.h 0)),(3,.one (.h 1)),(4,.one (.h 2)),(6,.pl 6 0),(8,.one (.h 3)),(9,.one (.h 4)),(10,.one (.h 5)),(48,.one (.h 6))],[(6,[.h 7,.h 8,.h 9])],[],[],[]⟩)]) .nil) (.seq .nil (.seq .nil (.seq (.reg [(.n,⟨[q31,q3,q3,q31,q3,q3,q0],[(0,.one (.h 0)),(3,.one (.h 1)),(4,.one (.h 2)),(8,.one (.h 3)),(9,.one (.h 4)),(10,.one (.h 5)),(69,.one (.h 6))],[],[],[],[]⟩)]) .nil))))))) .nil)))))) .nil)))) (ln:=[]) (ek [RJ] [] [] ⟨Y4,trivial⟩) Tryz.func138 rfl fun x y=>by kernel_rfl
end
end Go.Proofs.YtofhefmbioblbaaGreat
set_option maxRecDepth 100000
namespace Go.Proofs.YtofhefmbioblbaaGreat
open Go.V
noncomputable section
def OB:Kn:=kn 139 [0] [.one q31] [] [] G.JB fun y=>⟨[.one ⟨q3,y⟩],[],[]⟩
theorem WV:Ko OB:=Ac (J:=[(.r,⟨[q3],[(2,.one (.h 0))],[],[],[],[]⟩)]) (ann:=.seq .nil (.seq .nil (.seq (.seq .nil (.block [] (.loop ⟨[q3,q31,q3,q3],[(3,.one (.h 0)),(6,.one (.h 1)),(7,.one (.h 2)),(8,.one (.h 3))],[],[],[],[]⟩ [(.x 0,⟨[q3],[(3,.one (.h 0))],[],[],[],[]⟩)] .nil))) .nil))) (ln:=[]) (ek [] [] [] trivial) Tryz.func139 rfl fun x y=>by kernel_rfl
def Od:Kn:=kn 140 [0] [.one q31] [] [] G.Jr fun y=>⟨[.one ⟨q3,y⟩],[],[]⟩
theorem WX:Ko Od:=Ac (J:=[(.r,⟨[q3],[(2,.one (.h 0))],[],[],[],[]⟩)]) (ann:=.seq .nil (.seq .nil (.seq (.seq .nil (.block [] (.loop ⟨[q3,q31,q3,q3],[(3,.one (.h 0)),(6,.one (.h 1)),(7,.one (.h 2)),(8,.one (.h 3))],[],[],[],[]⟩ [(.x 0,⟨[q3],[(3,.one (.h 0))],[],[],[],[]⟩)] .nil))) .nil))) (ln:=[]) (ek [] [] [] trivial) Tryz.func140 rfl fun x y=>by kernel_rfl
def KV:Kn:=kn 65 [0] [.ag [q3,.str,q23,q36]] [] [] G.GY fun y=>⟨[.one ⟨q0,y⟩],[],[]⟩
theorem Rj:Ko KV:=Ac (J:=[(.r,⟨[q0],[(2,.one (.h 0))],[],[],[],[]⟩)]) (ann:=.seq .nil (.seq (.seq (.reg [(.n,⟨[q0,q3,.str,q23,q36],[(1,.pl 1 0),(35,.one (.h 0))],[(1,[.h 1,.h 2,.h 3,.h 4])],[],[],[]⟩)]) .nil) (.seq .nil (.seq (.seq .nil (.block [] (.loop ⟨[q3,q36,q3,q3],[(3,.one (.h 0)),(40,.one (.h 1)),(41,.one (.h 2)),(42,.one (.h 3))],[],[],[],[]⟩ [(.x 0,⟨[],[],[],[],[],[]⟩),(.r,⟨[q0],[(2,.one (.h 0))],[],[],[],[]⟩)] (.seq .nil (.seq .nil (.seq (.block [] (.seq .nil (.seq (.seq (.reg [(.n,⟨[q36,q3,q3,q0,q31],[(5,.pl 5 0),(40,.one (.h 0)),(41,.one (.h 1)),(42,.one (.h 2)),(56,.one (.h 3))],[(5,[.h 4])],[],[],[]⟩)]) .nil) .nil))) .nil)))))) .nil)))) (ln:=[]) (ek [EY,On,Mb,OB,Od] [] [] ⟨FK,Vo,Tc,WV,WX,trivial⟩) Tryz.func65 rfl fun x y=>by kernel_rfl
def Om:Kn:=kn 66 [0] [.ag [q15,q3,q0,q3]] [] [] G.Iv fun y=>⟨[.ag [⟨q13,y.1⟩,⟨q3,y.2.1⟩,⟨q0,y.2.2.1⟩,⟨q3,y.2.2.2⟩]],[],[]⟩
theorem Uq:Ko Om:=Ac (J:=[(.r,⟨[q13,q3,q0,q3],[(2,.pl 2 0)],[(2,[.vw 126017,.h 1,.h 2,.h 3])],[(126017,0)],[],[]⟩)]) (ann:=.seq .nil (.seq .nil (.seq (.seq .nil (.block [] (.loop ⟨[q13,q15,q3,q3,q15,q3,q0,q3,q3,q0,q3],[(1,.pl 1 0),(2,.pl 2 0),(3,.one (.vw 125952)),(7,.one (.h 1)),(8,.one (.h 2)),(9,.one (.h 3))],[(1,[.h 4,.h 5,.h 6,.h 7]),(2,[.nil,.h 8,.h 9,.h 10])],[(125952,0)],[],[]⟩ [(.x 0,⟨[q13,q15,q3,q0,q3,q3,q0,q3],[(1,.pl 1 0),(2,.pl 2 0),(3,.one (.vw 126016))],[(1,[.h 1,.h 2,.h 3,.h 4]),(2,[.nil,.h 5,.h 6,.h 7])],[(126016,0)],[],[]⟩)] .nil))) .nil))) (ln:=[]) (ek [] [] [] trivial) Tryz.func66 rfl fun x y=>by kernel_rfl
def PD:Kn:=kn 141 [0] [.one q3] [] [] G.Ll fun y=>⟨[.ag [⟨q13,y.2.1⟩,⟨q3,y.2.2.1⟩,⟨q0,y.2.2.2.1⟩,⟨q3,y.2.2.2.2⟩],.one ⟨q0,y.1⟩],[],[]⟩
theorem Xt:Ko PD:=Ac (J:=[(.r,⟨[q0,q13,q3,q0,q3],[(2,.pl 2 0),(3,.one (.h 0))],[(2,[.vw 123969,.h 2,.h 3,.h 4])],[(123969,1)],[],[]⟩)]) (ann:=.seq .nil (.seq .nil (.seq .nil (.seq (.block [] (.loop ⟨[q3,q3,q0,q3,q13,q3,q0,q3],[(0,.one (.h 0)),(2,.pl 2 0),(4,.pl 4 0)],[(2,[.nil,.h 1,.h 2,.h 3]),(4,[.vw 123904,.h 5,.h 6,.h 7])],[(123904,4)],[],[]⟩ [(.x 0,⟨[q3,q0,q3,q13,q3,q0,q3],[(2,.pl 2 0),(4,.pl 4 0)],[(2,[.nil,.h 0,.h 1,.h 2]),(4,[.vw 123968,.h 4,.h 5,.h 6])],[(123968,3)],[],[]⟩)] .nil)) .nil)))) (ln:=[]) (ek [EY] [] [] ⟨FK,trivial⟩) Tryz.func141 rfl fun x y=>by kernel_rfl
def IQ:Kn:=kn 142 [2,0,0] [.one q7,.one q3,.one q0] [] [] G.EH fun y=>⟨[],[],[((0,0),⟨q7,y⟩)]⟩
theorem LR:Ko IQ:=Ac (J:=[(.r,⟨[q7],[(0,.one (.vw 132097))],[],[(132097,0)],[],[]⟩)]) (ann:=.seq .nil (.cond [(.n,⟨[q7],[(0,.one (.vw 132096))],[],[(132096,0)],[],[]⟩)] .nil .nil)) (ln:=[(0,0)]) (ek [] [0] [] trivial) Tryz.func142 rfl fun x y=>by kernel_rfl
def P3:Kn:=kn 67 [0] [.one q3] [] [] G.KW fun y=>⟨[.ag [⟨q13,y.1⟩,⟨q7,y.2⟩,⟨q9,[]⟩,⟨q9,[]⟩]],[],[]⟩
theorem XQ:Ko P3:=Ac (J:=[(.r,⟨[q13,q7],[(2,.pl 2 0)],[(2,[.vw 128066,.vw 128067,.nil,.nil])],[(128066,0),(128067,1)],[],[]⟩)]) (ann:=.seq .nil (.seq .nil (.seq .nil (.seq (.seq .nil (.block [] (.loop ⟨[q3,q13,q7],[(2,.pl 2 0),(5,.pl 5 0),(6,.one (.h 0))],[(2,[.nil,.nil,.nil,.nil]),(5,[.vw 128000,.vw 128001,.nil,.nil])],[(128000,1),(128001,2)],[],[]⟩ [(.x 0,⟨[q13,q7],[(2,.pl 2 0),(5,.pl 5 0)],[(2,[.nil,.nil,.nil,.nil]),(5,[.vw 128064,.vw 128065,.nil,.nil])],[(128064,0),(128065,1)],[],[]⟩)] .nil))) .nil)))) (ln:=[]) (ek [PD,IQ] [] [] ⟨Xt,LR,trivial⟩) Tryz.func67 rfl fun x y=>by kernel_rfl
def PJ:Kn:=kn 68 [0] [.one q23] [] [] G.Lv fun y=>⟨[.one ⟨q7,y⟩],[],[]⟩
theorem XC:Ko PJ:=Ac (J:=[(.r,⟨[q7],[(2,.one (.vw 126017))],[],[(126017,0)],[],[]⟩)]) (ann:=.seq .nil (.seq .nil (.seq (.seq .nil (.block [] (.loop ⟨[q7,q23,q3,q3],[(3,.one (.vw 125952)),(6,.one (.h 1)),(7,.one (.h 2)),(8,.one (.h 3))],[],[(125952,0)],[],[]⟩ [(.x 0,⟨[q7],[(3,.one (.vw 126016))],[],[(126016,0)],[],[]⟩)] .nil))) .nil))) (ln:=[]) (ek [] [] [] trivial) Tryz.func68 rfl fun x y=>by kernel_rfl
def H5:Kn:=kn 99 [0,0] [.one q8,.one q3] [] [] G.Hh fun y=>⟨[.one ⟨q0,y⟩],[],[]⟩
theorem JK:Ko H5:=Ac (J:=[(.r,⟨[q0],[(4,.one (.h 0))],[],[],[],[]⟩)]) (ann:=.nil) (ln:=[]) (ek [] [] [] trivial) Tryz.func99 rfl fun x y=>by kernel_rfl
def Q1:Kn:=kn 69 [0] [.ag [q15,q8,q11,q11]] [] [] G.MI fun y=>⟨[.one ⟨q3,y⟩],[],[]⟩
theorem YP:Ko Q1:=Ac (J:=[(.r,⟨[q3],[(2,.one (.h 0))],[],[],[],[]⟩)]) (ann:=.seq .nil (.seq .nil (.seq (.seq .nil (.block [] (.loop ⟨[q3,q3,q3,q15,q8,q11,q11],[(1,.pl 1 0),(3,.one (.h 0)),(7,.one (.h 1)),(8,.one (.h 2))],[(1,[.h 3,.h 4,.h 5,.h 6])],[],[],[]⟩ [(.x 0,⟨[q3],[(3,.one (.h 0))],[],[],[],[]⟩)] (.seq .nil (.seq .nil (.seq (.block [] (.seq .nil (.seq .nil (.cond [(.n,⟨[q3,q3,q3,q15,q8,q11,q11],[(1,.pl 1 0),(3,.one (.h 0)),(7,.one (.h 1)),(8,.one (.h 2))],[(1,[.h 3,.h 4,.h 5,.h 6])],[],[],[]⟩)] .nil .nil)))) .nil)))))) .nil))) (ln:=[]) (ek [H5] [] [] ⟨JK,trivial⟩) Tryz.func69 rfl fun x y=>by kernel_rfl
def KO:Kn:=kn 198 [0,0] [.one q11,.one q3] [] [] G.JT fun y=>⟨[.one ⟨q0,y⟩],[],[]⟩
theorem Oi:Ko KO:=Ac (J:=[(.r,⟨[q0],[(4,.one (.h 0))],[],[],[],[]⟩)]) (ann:=.seq .nil (.seq (.seq .nil (.block [] (.loop ⟨[q3,q11,q3,q3],[(1,.one (.h 0)),(7,.one (.h 1)),(8,.one (.h 2)),(9,.one (.h 3))],[],[],[],[]⟩ [(.x 0,⟨[],[],[],[],[],[]⟩),(.r,⟨[q0],[(4,.one (.h 0))],[],[],[],[]⟩)] .nil))) .nil)) (ln:=[]) (ek [] [] [] trivial) Tryz.func198 rfl fun x y=>by kernel_rfl
def MX:Kn:=kn 312 [0,0] [.ag [q15,q8,q11,q11],.one q3] [] [] G.Ip fun y=>⟨[.one ⟨q0,y⟩],[],[]⟩
theorem Si:Ko MX:=Ac (J:=[(.r,⟨[q0],[(4,.one (.h 0))],[],[],[],[]⟩)]) (ann:=.seq .nil (.seq (.reg [(.n,⟨[q0],[(4,.one (.h 0))],[],[],[],[]⟩)]) .nil)) (ln:=[]) (ek [EY,H5,KO] [] [] ⟨FK,JK,Oi,trivial⟩) Tryz.func312 rfl fun x y=>by kernel_rfl
end
end Go.Proofs.YtofhefmbioblbaaGreat
set_option maxRecDepth 100000
namespace Go.Proofs.YtofhefmbioblbaaGreat
open Go.V
noncomputable section
def Rt:Kn:=kn 313 [0,0] [.one q8,.one q3] [] [] G.Hr fun y=>⟨[.one ⟨q0,y⟩],[],[]⟩
theorem YE:Ko Rt:=Ac (J:=[(.r,⟨[q0],[(4,.one (.h 0))],[],[],[],[]⟩)]) (ann:=.seq .nil (.seq (.seq .nil (.block [] (.loop ⟨[q8,q3,q3],[(9,.one (.h 0)),(10,.one (.h 1)),(11,.one (.h 2))],[],[],[],[]⟩ [(.x 0,⟨[],[],[],[],[],[]⟩),(.r,⟨[q0],[(4,.one (.h 0))],[],[],[],[]⟩)] .nil))) .nil)) (ln:=[]) (ek [] [] [] trivial) Tryz.func313 rfl fun x y=>by kernel_rfl
def OQ:Kn:=kn 239 [0,0] [.ag [q15,q8,q11,q11],.one q3] [] [] G.Js fun y=>⟨[.one ⟨q9,y.1⟩,.one ⟨q0,y.2⟩],[],[]⟩
theorem V9:Ko OQ:=Ac (J:=[(.r,⟨[q9,q0],[(4,.one (.vw 234563)),(5,.one (.h 1))],[],[(234563,0)],[],[]⟩)]) (ann:=.seq .nil (.seq (.seq (.reg [(.n,⟨[q3,q0,q15,q8,q11,q11],[(1,.one (.h 0)),(2,.pl 2 0),(36,.one (.h 1))],[(2,[.h 2,.h 3,.h 4,.h 5])],[],[],[]⟩)]) .nil) (.seq .nil (.seq .nil (.seq .nil (.seq (.seq .nil (.block [] (.loop ⟨[q8,q3,q9,q3,q15,q8,q11,q11],[(2,.pl 2 0),(6,.one (.h 0)),(7,.one (.h 1)),(8,.one (.vw 234496)),(9,.one (.h 3))],[(2,[.h 4,.h 5,.h 6,.h 7])],[(234496,2)],[],[]⟩ [(.x 0,⟨[q8,q3,q9],[(6,.one (.h 0)),(7,.one (.h 1)),(8,.one (.vw 234562))],[],[(234562,2)],[],[]⟩),(.r,⟨[q0],[(4,.one (.nil)),(5,.one (.h 0))],[],[],[],[]⟩)] (.seq .nil (.seq (.block [] (.seq .nil (.seq (.seq (.reg [(.n,⟨[q8,q3,q9,q3,q3,q0,q15,q8,q11,q11],[(2,.pl 2 0),(6,.one (.h 0)),(7,.one (.h 1)),(8,.one (.vw 234560)),(9,.one (.h 3)),(10,.one (.h 4)),(75,.one (.h 5))],[(2,[.h 6,.h 7,.h 8,.h 9])],[(234560,2)],[],[]⟩)]) .nil) (.seq .nil (.seq .nil (.seq (.seq (.reg [(.n,⟨[q8,q3,q9,q3,q3,q0,q15,q8,q11,q11],[(2,.pl 2 0),(6,.one (.h 0)),(7,.one (.h 1)),(8,.one (.vw 234561)),(9,.one (.h 3)),(10,.one (.h 4)),(118,.one (.h 5))],[(2,[.h 6,.h 7,.h 8,.h 9])],[(234561,2)],[],[]⟩)]) .nil) .nil)))))) .nil))))) .nil)))))) (ln:=[]) (ek [MX,KO,EY,Rt] [] [] ⟨Si,Oi,FK,YE,trivial⟩) Tryz.func239 rfl fun x y=>by kernel_rfl
def N6:Kn:=kn 144 [0] [.one .str] [] [] G.LZ fun y=>⟨[.one ⟨q5,y⟩],[],[]⟩
theorem Uk:Ko N6:=Ac (J:=[(.r,⟨[q5],[(2,.one (.vw 123970))],[],[(123970,0)],[],[]⟩)]) (ann:=.seq .nil (.seq .nil (.seq (.block [] (.loop ⟨[.str,q5],[(0,.one (.h 0)),(3,.one (.vw 123904))],[],[(123904,1)],[],[]⟩ [(.x 0,⟨[.str,q5],[(0,.one (.h 0)),(3,.one (.vw 123968))],[],[(123968,1)],[],[]⟩)] .nil)) (.seq (.seq .nil (.cond [(.n,⟨[q5],[(3,.one (.vw 123969))],[],[(123969,0)],[],[]⟩)] .nil .nil)) .nil)))) (ln:=[]) (ek [] [] [] trivial) Tryz.func144 rfl fun x y=>by kernel_rfl
def Qa:Kn:=kn 241 [0,0] [.ag [q15,q8,q11,q11],.one q3] [] [] G.KM fun y=>⟨[.one ⟨.str,y⟩],[],[]⟩
theorem Xp:Ko Qa:=Ac (J:=[(.r,⟨[.str],[(4,.one (.h 0))],[],[],[],[]⟩)]) (ann:=.nil) (ln:=[]) (ek [] [] [] trivial) Tryz.func241 rfl fun x y=>by kernel_rfl
def Kg:Kn:=kn 143 [0,0,0] [.ag [q15,q8,q11,q11],.one .str,.one q3] [] [] G.H6 fun y=>⟨[.one ⟨q9,y⟩],[],[]⟩
theorem ON:Ko Kg:=Ac (J:=[(.r,⟨[q9],[(6,.one (.vw 169032))],[],[(169032,0)],[],[]⟩)]) (ann:=.seq .nil (.seq .nil (.seq (.seq .nil (.cond [(.n,⟨[.str,q9,q15,q8,q11,q11],[(1,.one (.h 0)),(3,.pl 3 0),(7,.one (.vw 168960))],[(3,[.h 2,.h 3,.h 4,.h 5])],[(168960,1)],[],[]⟩)] .nil .nil)) (.seq .nil (.seq (.seq .nil (.block [] (.loop ⟨[q9,q9,q5,q3,q3,q15,q8,q11,q11],[(3,.pl 3 0),(7,.one (.vw 168961)),(8,.one (.vw 168962)),(21,.one (.vw 168963)),(22,.one (.h 3)),(23,.one (.h 4))],[(3,[.h 5,.h 6,.h 7,.h 8])],[(168961,0),(168962,1),(168963,2)],[],[]⟩ [(.x 0,⟨[q9],[(8,.one (.vw 169031))],[],[(169031,0)],[],[]⟩)] (.seq .nil (.seq .nil (.seq (.block [] (.seq .nil (.seq .nil (.seq (.seq (.reg [(.n,⟨[q9,q9,q3,q3,q5,q3,q3,q0,q15,q8,q11,q11],[(3,.pl 3 0),(7,.one (.vw 169025)),(8,.one (.vw 169026)),(9,.one (.h 2)),(11,.one (.h 3)),(21,.one (.vw 169027)),(22,.one (.h 5)),(23,.one (.h 6)),(54,.one (.h 7))],[(3,[.h 8,.h 9,.h 10,.h 11])],[(169025,0),(169026,1),(169027,4)],[],[]⟩)]) (.cond [(.n,⟨[q9,q9,q3,q5,q3,q3,q15,q8,q11,q11],[(3,.pl 3 0),(7,.one (.vw 169028)),(8,.one (.vw 169029)),(11,.one (.h 2)),(21,.one (.vw 169030)),(22,.one (.h 4)),(23,.one (.h 5))],[(3,[.h 6,.h 7,.h 8,.h 9])],[(169028,0),(169029,1),(169030,3)],[],[]⟩)] .nil .nil)) .nil)))) .nil)))))) .nil))))) (ln:=[]) (ek [OQ,N6,Qa] [] [] ⟨V9,Uk,Xp,trivial⟩) Tryz.func143 rfl fun x y=>by kernel_rfl
def L5:Kn:=kn 70 [0,0,0] [.ag [q15,q8,q11,q11],.one .str,.one q3] [] [] G.HU fun y=>⟨[.one ⟨q3,y⟩],[],[]⟩
theorem Tp:Ko L5:=Ac (J:=[(.r,⟨[q3],[(6,.one (.h 0))],[],[],[],[]⟩)]) (ann:=.seq .nil (.seq .nil (.seq (.seq .nil (.block [] (.loop ⟨[q3,q9,q3,q3],[(7,.one (.h 0)),(13,.one (.vw 128000)),(14,.one (.h 2)),(15,.one (.h 3))],[],[(128000,1)],[],[]⟩ [(.x 0,⟨[q3],[(7,.one (.h 0))],[],[],[],[]⟩)] (.seq .nil (.seq .nil (.seq (.block [] (.seq .nil (.seq .nil (.cond [(.n,⟨[q3,q9,q3,q3],[(7,.one (.h 0)),(13,.one (.vw 128064)),(14,.one (.h 2)),(15,.one (.h 3))],[],[(128064,1)],[],[]⟩)] .nil .nil)))) .nil)))))) .nil))) (ln:=[]) (ek [Kg] [] [] ⟨ON,trivial⟩) Tryz.func70 rfl fun x y=>by kernel_rfl
def Nb:Kn:=kn 71 [0] [.one q3] [] [] G.Km fun y=>⟨[.one ⟨q3,y⟩],[],[]⟩
theorem Rb:Ko Nb:=Ac (J:=[(.r,⟨[q3],[(2,.one (.h 0))],[],[],[],[]⟩)]) (ann:=.nil) (ln:=[]) (ek [] [] [] trivial) Tryz.func71 rfl fun x y=>by kernel_rfl
def Lp:Kn:=kn 151 [1,0] [.one q9,.one q3] [] [] G.CZ fun y=>⟨[.one ⟨q9,y⟩],[],[]⟩
theorem Oz:Ko Lp:=Ac (J:=[(.r,⟨[q9],[(4,.one (.vw 151619))],[],[(151619,0)],[],[]⟩)]) (ann:=.seq .nil (.seq .nil (.seq (.block [] (.loop ⟨[q9,q3,q3],[(0,.one (.vw 151552)),(1,.one (.h 1)),(5,.one (.h 2))],[],[(151552,0)],[],[]⟩ [(.x 0,⟨[q9,q3,q3],[(0,.one (.vw 151617)),(1,.one (.h 1)),(5,.one (.h 2))],[],[(151617,0)],[],[]⟩)] (.seq (.seq (.reg [(.n,⟨[q9,q3,q3,q0],[(0,.one (.vw 151616)),(1,.one (.h 1)),(5,.one (.h 2)),(18,.one (.h 3))],[],[(151616,0)],[],[]⟩)]) .nil) .nil))) (.seq (.seq (.reg [(.n,⟨[q9,q3,q3,q0],[(0,.one (.vw 151618)),(1,.one (.h 1)),(5,.one (.h 2)),(32,.one (.h 3))],[],[(151618,0)],[],[]⟩)]) .nil) .nil)))) (ln:=[]) (ek [] [] [] trivial) Tryz.func151 rfl fun x y=>by kernel_rfl
def Fq:Kn:=kn 145 [0] [.pl 0 0] [[.v q13,.v q7,.v q9,.v q9]] [] G.Bh fun y=>⟨[.one ⟨q3,y.1⟩],[[⟨q13,y.2.1⟩,⟨q7,y.2.2.1⟩,⟨q9,y.2.2.2.1⟩,⟨q9,y.2.2.2.2⟩]],[]⟩
theorem HW:Ko Fq:=Ac (J:=[(.r,⟨[q3,q13,q7,q9,q9],[(2,.one (.h 0))],[(44,[.vw 146504,.vw 146505,.vw 146506,.vw 146507])],[(146504,1),(146505,2),(146506,3),(146507,4)],[],[]⟩)]) (ann:=.seq .nil (.seq (.seq .nil (.block [] (.loop ⟨[q3,q13,q7,q9,q9],[(0,.pl 44 0),(3,.one (.h 0))],[(44,[.vw 146432,.vw 146433,.vw 146434,.vw 146435])],[(146432,1),(146433,2),(146434,3),(146435,4)],[],[]⟩ [(.x 0,⟨[q13,q7,q9,q9],[],[(44,[.vw 146496,.vw 146497,.vw 146498,.vw 146499])],[(146496,0),(146497,1),(146498,2),(146499,3)],[],[]⟩),(.r,⟨[q3,q13,q7,q9,q9],[(2,.one (.h 0))],[(44,[.vw 146500,.vw 146501,.vw 146502,.vw 146503])],[(146500,1),(146501,2),(146502,3),(146503,4)],[],[]⟩)] .nil))) .nil)) (ln:=[]) (ek [H5,IQ,Lp] [] [] ⟨JK,LR,Oz,trivial⟩) Tryz.func145 rfl fun x y=>by kernel_rfl
def Gf:Kn:=kn 146 [0,0,0] [.pl 0 0,.one q3,.one q8] [[.v q13,.v q7,.v q9,.v q9]] [] G.B8 fun y=>⟨[],[[⟨q13,y.1⟩,⟨q7,y.2.1⟩,⟨q9,y.2.2.1⟩,⟨q9,y.2.2.2⟩]],[]⟩
theorem Ir:Ko Gf:=Ac (J:=[(.r,⟨[q13,q7,q9,q9],[],[(28,[.vw 130048,.vw 130049,.vw 130050,.vw 130051])],[(130048,0),(130049,1),(130050,2),(130051,3)],[],[]⟩)]) (ann:=.nil) (ln:=[]) (ek [Lp] [] [] ⟨Oz,trivial⟩) Tryz.func146 rfl fun x y=>by kernel_rfl
def I4:Kn:=kn 72 [0,0,0] [.pl 0 0,.one .str,.one q3] [[.v q13,.v q7,.v q9,.v q9]] [] G.DG fun y=>⟨[.one ⟨q3,y.1⟩],[[⟨q13,y.2.1⟩,⟨q7,y.2.2.1⟩,⟨q9,y.2.2.2.1⟩,⟨q9,y.2.2.2.2⟩]],[]⟩
theorem N2:Ko I4:=Ac (J:=[(.r,⟨[q3,q13,q7,q9,q9],[(6,.one (.h 0))],[(84,[.vw 187468,.vw 187469,.vw 187470,.vw 187471])],[(187468,1),(187469,2),(187470,3),(187471,4)],[],[]⟩)]) (ann:=.seq .nil (.seq .nil (.seq .nil (.seq (.seq .nil (.block [] (.loop ⟨[q9,q7,q5,q3,q3,q13,q7,q9,q9],[(0,.pl 84 0),(7,.one (.vw 187392)),(8,.one (.vw 187393)),(25,.one (.vw 187394)),(26,.one (.h 3)),(27,.one (.h 4))],[(84,[.vw 187395,.vw 187396,.vw 187397,.vw 187398])],[(187392,0),(187393,1),(187394,2),(187395,5),(187396,6),(187397,7),(187398,8)],[],[]⟩ [(.x 0,⟨[q7,q13,q7,q9,q9],[(0,.pl 84 0),(8,.one (.vw 187463))],[(84,[.vw 187464,.vw 187465,.vw 187466,.vw 187467])],[(187463,0),(187464,1),(187465,2),(187466,3),(187467,4)],[],[]⟩)] (.seq .nil (.seq .nil (.seq (.block [] (.seq .nil (.seq .nil (.seq (.seq .nil (.cond [(.n,⟨[q9,q7,q3,q5,q3,q3,q13,q7,q9,q9],[(0,.pl 84 0),(7,.one (.vw 187456)),(8,.one (.vw 187457)),(11,.one (.h 2)),(25,.one (.vw 187458)),(26,.one (.h 4)),(27,.one (.h 5))],[(84,[.vw 187459,.vw 187460,.vw 187461,.vw 187462])],[(187456,0),(187457,1),(187458,3),(187459,6),(187460,7),(187461,8),(187462,9)],[],[]⟩)] .nil .nil)) .nil)))) .nil)))))) .nil)))) (ln:=[]) (ek [Kg,N6,Fq,Gf] [] [] ⟨ON,Uk,HW,Ir,trivial⟩) Tryz.func72 rfl fun x y=>by kernel_rfl
def Mv:Kn:=kn 73 [0,0] [.pl 0 0,.one q8] [[.v q13,.v q7,.v q9,.v q9]] [] G.FY fun y=>⟨[.one ⟨q3,y.1⟩],[[⟨q13,y.2.1⟩,⟨q7,y.2.2.1⟩,⟨q9,y.2.2.2.1⟩,⟨q9,y.2.2.2.2⟩]],[]⟩
theorem Tb:Ko Mv:=Ac (J:=[(.r,⟨[q3,q13,q7,q9,q9],[(4,.one (.h 0))],[(70,[.vw 173204,.vw 173205,.vw 173206,.vw 173207])],[(173204,1),(173205,2),(173206,3),(173207,4)],[],[]⟩)]) (ann:=.seq .nil (.seq .nil (.seq (.seq .nil (.block [] (.loop ⟨[q8,q9,q3,q13,q7,q9,q9],[(0,.pl 70 0),(1,.one (.h 0)),(5,.one (.vw 173056)),(6,.one (.h 2))],[(70,[.vw 173057,.vw 173058,.vw 173059,.vw 173060])],[(173056,1),(173057,3),(173058,4),(173059,5),(173060,6)],[],[]⟩ [(.x 0,⟨[q8,q9,q13,q7,q9,q9],[(0,.pl 70 0),(1,.one (.h 0)),(5,.one (.vw 173120))],[(70,[.vw 173121,.vw 173122,.vw 173123,.vw 173124])],[(173120,1),(173121,2),(173122,3),(173123,4),(173124,5)],[],[]⟩)] .nil))) (.seq (.seq .nil (.block [] (.loop ⟨[q8,q9,q3,q3,q13,q7,q9,q9],[(0,.pl 70 0),(1,.one (.h 0)),(5,.one (.vw 173125)),(24,.one (.vw 173125)),(25,.one (.h 2)),(26,.one (.h 3))],[(70,[.vw 173126,.vw 173127,.vw 173128,.vw 173129])],[(173125,1),(173126,4),(173127,5),(173128,6),(173129,7)],[],[]⟩ [(.x 2,⟨[q9,q13,q7,q9,q9],[(5,.one (.vw 173199))],[(70,[.vw 173200,.vw 173201,.vw 173202,.vw 173203])],[(173199,0),(173200,1),(173201,2),(173202,3),(173203,4)],[],[]⟩)] (.seq .nil (.seq .nil (.seq (.block [] (.seq .nil (.seq .nil (.seq (.seq .nil (.cond [(.n,⟨[q8,q9,q3,q3,q3,q3,q3,q13,q7,q9,q9],[(0,.pl 70 0),(1,.one (.h 0)),(5,.one (.vw 173189)),(7,.one (.h 2)),(8,.one (.h 3)),(9,.one (.h 4)),(24,.one (.vw 173189)),(25,.one (.h 5)),(26,.one (.h 6))],[(70,[.vw 173190,.vw 173191,.vw 173192,.vw 173193])],[(173189,1),(173190,7),(173191,8),(173192,9),(173193,10)],[],[]⟩)] .nil .nil)) (.seq .nil (.seq (.seq .nil (.cond [(.n,⟨[q8,q9,q3,q3,q8,q3,q3,q13,q7,q9,q9],[(0,.pl 70 0),(1,.one (.h 0)),(5,.one (.vw 173194)),(8,.one (.h 2)),(9,.one (.h 3)),(10,.one (.h 4)),(24,.one (.vw 173194)),(25,.one (.h 5)),(26,.one (.h 6))],[(70,[.vw 173195,.vw 173196,.vw 173197,.vw 173198])],[(173194,1),(173195,7),(173196,8),(173197,9),(173198,10)],[],[]⟩)] .nil .nil)) .nil)))))) .nil)))))) .nil)))) (ln:=[]) (ek [Nb,Fq,Gf] [] [] ⟨Rb,HW,Ir,trivial⟩) Tryz.func73 rfl fun x y=>by kernel_rfl
end
end Go.Proofs.YtofhefmbioblbaaGreat
set_option maxRecDepth 100000
namespace Go.Proofs.YtofhefmbioblbaaGreat
open Go.V
noncomputable section
def Ny:Kn:=kn 242 [0,0,0] [.ag [q15,q8,q11,q11],.one q3,.one q1] [] [] G.GQ fun y=>⟨[.one ⟨q9,y.1⟩,.one ⟨q0,y.2⟩],[],[]⟩
theorem UN:Ko Ny:=Ac (J:=[(.r,⟨[q9,q0],[(6,.one (.vw 177282)),(7,.one (.h 1))],[],[(177282,0)],[],[]⟩)]) (ann:=.seq .nil (.seq (.seq (.reg [(.n,⟨[q3,q0,q15,q8,q11,q11],[(1,.one (.h 0)),(3,.pl 3 0),(26,.one (.h 1))],[(3,[.h 2,.h 3,.h 4,.h 5])],[],[],[]⟩)]) .nil) (.seq .nil (.seq (.seq .nil (.block [] (.loop ⟨[q3,q9,q3,q15,q8,q11,q11],[(1,.one (.h 0)),(3,.pl 3 0),(8,.one (.vw 177152)),(9,.one (.h 2))],[(3,[.h 3,.h 4,.h 5,.h 6])],[(177152,1)],[],[]⟩ [(.x 0,⟨[q3,q9,q15,q8,q11,q11],[(1,.one (.h 0)),(3,.pl 3 0),(8,.one (.vw 177216))],[(3,[.h 2,.h 3,.h 4,.h 5])],[(177216,1)],[],[]⟩)] .nil))) (.seq (.seq .nil (.block [] (.loop ⟨[q9,q8,q3,q3],[(8,.one (.vw 177217)),(63,.one (.h 1)),(64,.one (.h 2)),(65,.one (.h 3))],[],[(177217,0)],[],[]⟩ [(.x 2,⟨[q9],[(8,.one (.vw 177281))],[],[(177281,0)],[],[]⟩),(.r,⟨[q0],[(6,.one (.nil)),(7,.one (.h 0))],[],[],[],[]⟩)] .nil))) .nil))))) (ln:=[]) (ek [MX] [] [] ⟨Si,trivial⟩) Tryz.func242 rfl fun x y=>by kernel_rfl
def NZ:Kn:=kn 149 [0] [.one q11] [] [] G.Ij fun y=>⟨[.one ⟨q0,y⟩],[],[]⟩
theorem T6:Ko NZ:=Ac (J:=[(.r,⟨[q0],[(2,.one (.h 0))],[],[],[],[]⟩)]) (ann:=.seq .nil (.seq (.seq .nil (.block [] (.loop ⟨[q11,q3,q3],[(5,.one (.h 0)),(6,.one (.h 1)),(7,.one (.h 2))],[],[],[],[]⟩ [(.x 0,⟨[],[],[],[],[],[]⟩),(.r,⟨[q0],[(2,.one (.h 0))],[],[],[],[]⟩)] .nil))) .nil)) (ln:=[]) (ek [] [] [] trivial) Tryz.func149 rfl fun x y=>by kernel_rfl
def PU:Kn:=kn 243 [0,0] [.ag [q15,q8,q11,q11],.one q3] [] [] G.La fun y=>⟨[.one ⟨q0,y⟩],[],[]⟩
theorem XU:Ko PU:=Ac (J:=[(.r,⟨[q0],[(4,.one (.h 0))],[],[],[],[]⟩)]) (ann:=.seq .nil (.seq (.reg [(.n,⟨[q0],[(4,.one (.h 0))],[],[],[],[]⟩)]) .nil)) (ln:=[]) (ek [EY,H5] [] [] ⟨FK,JK,trivial⟩) Tryz.func243 rfl fun x y=>by kernel_rfl
def M3:Kn:=kn 147 [0,0] [.ag [q15,q8,q11,q11],.one q3] [] [] G.Kz fun y=>⟨[.one ⟨q14,y.1⟩,.one ⟨q9,y.2.1⟩,.one ⟨q0,y.2.2⟩],[],[]⟩
theorem Ra:Ko M3:=Ac (J:=[(.r,⟨[q14,q9,q0],[(4,.one (.vw 197841)),(5,.one (.vw 197842)),(6,.one (.h 2))],[],[(197841,0),(197842,1)],[],[]⟩)]) (ann:=.seq .nil (.seq .nil (.seq .nil (.seq .nil (.seq .nil (.seq (.seq (.reg [(.n,⟨[q14,q9,q0,q15,q8,q11,q11],[(2,.pl 2 0),(7,.one (.vw 197632)),(8,.one (.vw 197633)),(36,.one (.h 2))],[(2,[.h 3,.h 4,.h 5,.h 6])],[(197632,0),(197633,1)],[],[]⟩)]) .nil) (.seq (.seq .nil (.block [] (.loop ⟨[q14,q9,q3,q3,q15,q8,q11,q11],[(2,.pl 2 0),(7,.one (.vw 197634)),(8,.one (.vw 197635)),(37,.one (.vw 197635)),(38,.one (.h 2)),(39,.one (.h 3))],[(2,[.h 4,.h 5,.h 6,.h 7])],[(197634,0),(197635,1)],[],[]⟩ [(.x 0,⟨[q14,q9],[(7,.one (.vw 197839)),(8,.one (.vw 197840))],[],[(197839,0),(197840,1)],[],[]⟩),(.r,⟨[q0],[(4,.one (.nil)),(5,.one (.nil)),(6,.one (.h 0))],[],[],[],[]⟩)] (.seq .nil (.seq .nil (.seq (.block [(.n,⟨[q14,q9,q3,q3,q15,q8,q11,q11],[(2,.pl 2 0),(7,.one (.vw 197837)),(8,.one (.vw 197838)),(37,.one (.vw 197838)),(38,.one (.h 2)),(39,.one (.h 3))],[(2,[.h 4,.h 5,.h 6,.h 7])],[(197837,0),(197838,1)],[],[]⟩),(.r,⟨[q0],[(4,.one (.nil)),(5,.one (.nil)),(6,.one (.h 0))],[],[],[],[]⟩)] (.seq .nil (.seq .nil (.seq (.seq .nil (.block [] (.loop ⟨[q14,q9,q3,q3,q3,q3,q3,q3,q3,q3,q15,q8,q11,q11],[(2,.pl 2 0),(7,.one (.vw 197698)),(8,.one (.vw 197699)),(10,.one (.h 2)),(11,.one (.h 3)),(37,.one (.vw 197699)),(38,.one (.h 4)),(39,.one (.h 5)),(48,.one (.ww 197699 6 7)),(49,.one (.h 8)),(50,.one (.h 9))],[(2,[.h 10,.h 11,.h 12,.h 13])],[(197698,0),(197699,1)],[],[]⟩ [(.x 2,⟨[q14,q9,q3,q3,q3,q3,q15,q8,q11,q11],[(2,.pl 2 0),(7,.one (.vw 197762)),(8,.one (.vw 197763)),(10,.one (.h 2)),(11,.one (.h 3)),(37,.one (.vw 197763)),(38,.one (.h 4)),(39,.one (.h 5))],[(2,[.h 6,.h 7,.h 8,.h 9])],[(197762,0),(197763,1)],[],[]⟩),(.r,⟨[q0],[(4,.one (.nil)),(5,.one (.nil)),(6,.one (.h 0))],[],[],[],[]⟩)] .nil))) (.seq .nil (.seq (.seq (.reg [(.n,⟨[q14,q9,q3,q9,q3,q3,q0,q15,q8,q11,q11],[(2,.pl 2 0),(7,.one (.vw 197764)),(8,.one (.vw 197765)),(10,.one (.h 2)),(14,.one (.vw 197766)),(37,.one (.vw 197765)),(38,.one (.h 4)),(39,.one (.h 5)),(70,.one (.h 6))],[(2,[.h 7,.h 8,.h 9,.h 10])],[(197764,0),(197765,1),(197766,3)],[],[]⟩)]) .nil) (.seq (.seq .nil (.block [] (.loop ⟨[q14,q9,q3,q9,q3,q3,q3,q3,q15,q8,q11,q11],[(2,.pl 2 0),(7,.one (.vw 197767)),(8,.one (.vw 197768)),(10,.one (.h 2)),(14,.one (.vw 197769)),(37,.one (.vw 197768)),(38,.one (.h 4)),(39,.one (.h 5)),(71,.one (.vw 197769)),(72,.one (.h 6)),(73,.one (.h 7))],[(2,[.h 8,.h 9,.h 10,.h 11])],[(197767,0),(197768,1),(197769,3)],[],[]⟩ [(.x 4,⟨[q14,q9,q3,q9,q3,q3,q15,q8,q11,q11],[(2,.pl 2 0),(7,.one (.vw 197834)),(8,.one (.vw 197835)),(10,.one (.h 2)),(14,.one (.vw 197836)),(37,.one (.vw 197835)),(38,.one (.h 4)),(39,.one (.h 5))],[(2,[.h 6,.h 7,.h 8,.h 9])],[(197834,0),(197835,1),(197836,3)],[],[]⟩),(.r,⟨[q0],[(4,.one (.nil)),(5,.one (.nil)),(6,.one (.h 0))],[],[],[],[]⟩)] (.seq .nil (.seq .nil (.seq (.block [] (.seq .nil (.seq (.reg [(.n,⟨[q14,q9,q3,q9,q3,q3,q3,q3,q0,q15,q8,q11,q11],[(2,.pl 2 0),(7,.one (.vw 197831)),(8,.one (.vw 197832)),(10,.one (.h 2)),(14,.one (.vw 197833)),(37,.one (.vw 197832)),(38,.one (.h 4)),(39,.one (.h 5)),(71,.one (.vw 197833)),(72,.one (.h 6)),(73,.one (.h 7)),(84,.one (.h 8))],[(2,[.h 9,.h 10,.h 11,.h 12])],[(197831,0),(197832,1),(197833,3)],[],[]⟩)]) .nil))) .nil)))))) .nil))))))) .nil)))))) .nil))))))) (ln:=[]) (ek [Ny,NZ,PU] [] [] ⟨UN,T6,XU,trivial⟩) Tryz.func147 rfl fun x y=>by kernel_rfl
def P7:Kn:=kn 148 [0,0,0] [.ag [q15,q8,q11,q11],.one q3,.one q22] [] [] G.Ld fun y=>⟨[.one ⟨q14,y.1⟩,.one ⟨q6,y.2⟩],[],[]⟩
theorem Xe:Ko P7:=Ac (J:=[(.r,⟨[q14,q6],[(6,.one (.vw 161860)),(7,.one (.vw 161861))],[],[(161860,0),(161861,1)],[],[]⟩)]) (ann:=.seq .nil (.seq .nil (.seq .nil (.seq (.seq .nil (.block [] (.loop ⟨[q14,q6,q22,q3,q3],[(8,.one (.vw 161792)),(11,.one (.vw 161793)),(23,.one (.h 2)),(24,.one (.h 3)),(25,.one (.h 4))],[],[(161792,0),(161793,1)],[],[]⟩ [(.x 0,⟨[q14,q6],[(8,.one (.vw 161858)),(11,.one (.vw 161859))],[],[(161858,0),(161859,1)],[],[]⟩)] (.seq .nil (.seq .nil (.seq (.block [] (.seq .nil (.seq .nil (.seq .nil (.seq (.seq .nil (.cond [(.n,⟨[q14,q6,q3,q22,q3,q3,q3,q3],[(8,.one (.vw 161856)),(11,.one (.vw 161857)),(13,.pl 13 0),(14,.one (.h 2)),(23,.one (.h 3)),(24,.one (.h 4)),(25,.one (.h 5))],[(13,[.h 6,.h 7])],[(161856,0),(161857,1)],[],[]⟩)] .nil .nil)) .nil))))) .nil)))))) .nil)))) (ln:=[]) (ek [M3] [] [] ⟨Ra,trivial⟩) Tryz.func148 rfl fun x y=>by kernel_rfl
def KJ:Kn:=kn 150 [0,0,0,0] [.pl 0 0,.one q3,.one q1,.one q11] [[.v q13,.v q7,.v q9,.v q9]] [] G.DU fun y=>⟨[],[[⟨q13,y.1⟩,⟨q7,y.2.1⟩,⟨q9,y.2.2.1⟩,⟨q9,y.2.2.2⟩]],[]⟩
theorem Rx:Ko KJ:=Ac (J:=[(.r,⟨[q13,q7,q9,q9],[],[(33,[.vw 135237,.vw 135238,.vw 135239,.vw 135240])],[(135237,0),(135238,1),(135239,2),(135240,3)],[],[]⟩)]) (ann:=.seq .nil (.seq (.seq .nil (.block [] (.loop ⟨[q3,q7,q11,q3,q3,q13,q7,q9,q9],[(0,.pl 33 0),(1,.one (.h 0)),(8,.one (.vw 135168)),(13,.one (.h 2)),(14,.one (.h 3)),(15,.one (.h 4))],[(33,[.vw 135169,.vw 135170,.vw 135171,.vw 135172])],[(135168,1),(135169,5),(135170,6),(135171,7),(135172,8)],[],[]⟩ [(.x 0,⟨[q3,q7,q13,q7,q9,q9],[(0,.pl 33 0),(1,.one (.h 0)),(8,.one (.vw 135232))],[(33,[.vw 135233,.vw 135234,.vw 135235,.vw 135236])],[(135232,1),(135233,2),(135234,3),(135235,4),(135236,5)],[],[]⟩)] .nil))) .nil)) (ln:=[]) (ek [Gf] [] [] ⟨Ir,trivial⟩) Tryz.func150 rfl fun x y=>by kernel_rfl
def Mj:Kn:=kn 74 [0,0,0] [.pl 0 0,.one q3,.one q22] [[.v q13,.v q7,.v q9,.v q9]] [] G.ED fun y=>⟨[.one ⟨q3,y.1⟩],[[⟨q13,y.2.1⟩,⟨q7,y.2.2.1⟩,⟨q9,y.2.2.2.1⟩,⟨q9,y.2.2.2.2⟩]],[]⟩
theorem Tm:Ko Mj:=Ac (J:=[(.r,⟨[q3,q13,q7,q9,q9],[(6,.one (.h 0))],[(118,[.vw 222386,.vw 222387,.vw 222388,.vw 222389])],[(222386,1),(222387,2),(222388,3),(222389,4)],[],[]⟩)]) (ann:=.seq .nil (.seq .nil (.seq .nil (.seq .nil (.seq .nil (.seq (.seq .nil (.cond [(.n,⟨[q9,q14,q6,q9,q13,q7,q9,q9],[(0,.pl 118 0),(8,.one (.vw 222208)),(10,.one (.vw 222209)),(11,.one (.vw 222210)),(12,.one (.vw 222211))],[(118,[.vw 222212,.vw 222213,.vw 222214,.vw 222215])],[(222208,0),(222209,1),(222210,2),(222211,3),(222212,4),(222213,5),(222214,6),(222215,7)],[],[]⟩)] .nil .nil)) (.seq .nil (.seq (.seq .nil (.block [] (.loop ⟨[q9,q6,q9,q9,q14,q3,q3,q13,q7,q9,q9],[(0,.pl 118 0),(8,.one (.vw 222216)),(11,.one (.vw 222217)),(12,.one (.vw 222218)),(13,.one (.vw 222219)),(50,.one (.vw 222220)),(51,.one (.h 5)),(52,.one (.h 6))],[(118,[.vw 222221,.vw 222222,.vw 222223,.vw 222224])],[(222216,0),(222217,1),(222218,2),(222219,3),(222220,4),(222221,7),(222222,8),(222223,9),(222224,10)],[],[]⟩ [(.x 0,⟨[q9,q9,q13,q7,q9,q9],[(0,.pl 118 0),(12,.one (.vw 222307)),(13,.one (.vw 222308))],[(118,[.vw 222309,.vw 222310,.vw 222311,.vw 222312])],[(222307,0),(222308,1),(222309,2),(222310,3),(222311,4),(222312,5)],[],[]⟩)] (.seq .nil (.seq .nil (.seq (.block [(.n,⟨[q9,q6,q9,q9,q14,q3,q3,q13,q7,q9,q9],[(0,.pl 118 0),(8,.one (.vw 222298)),(11,.one (.vw 222299)),(12,.one (.vw 222300)),(13,.one (.vw 222301)),(50,.one (.vw 222302)),(51,.one (.h 5)),(52,.one (.h 6))],[(118,[.vw 222303,.vw 222304,.vw 222305,.vw 222306])],[(222298,0),(222299,1),(222300,2),(222301,3),(222302,4),(222303,7),(222304,8),(222305,9),(222306,10)],[],[]⟩)] (.seq .nil (.seq .nil (.seq (.seq .nil (.cond [(.n,⟨[q9,q6,q9,q9,q3,q14,q3,q3,q3,q13,q7,q9,q9],[(0,.pl 118 0),(8,.one (.vw 222280)),(11,.one (.vw 222281)),(12,.one (.vw 222282)),(13,.one (.vw 222283)),(14,.one (.h 4)),(15,.one (.vs 222284 6 0)),(50,.one (.vw 222284)),(51,.one (.h 7)),(52,.one (.h 8))],[(118,[.vw 222285,.vw 222286,.vw 222287,.vw 222288])],[(222280,0),(222281,1),(222282,2),(222283,3),(222284,5),(222285,9),(222286,10),(222287,11),(222288,12)],[],[]⟩)] .nil .nil)) (.seq .nil (.seq .nil (.cond [(.n,⟨[q9,q6,q9,q9,q14,q3,q3,q13,q7,q9,q9],[(0,.pl 118 0),(8,.one (.vw 222289)),(11,.one (.vw 222290)),(12,.one (.vw 222291)),(13,.one (.vw 222292)),(50,.one (.vw 222293)),(51,.one (.h 5)),(52,.one (.h 6))],[(118,[.vw 222294,.vw 222295,.vw 222296,.vw 222297])],[(222289,0),(222290,1),(222291,2),(222292,3),(222293,4),(222294,7),(222295,8),(222296,9),(222297,10)],[],[]⟩)] .nil .nil))))))) .nil)))))) (.seq .nil (.seq (.seq .nil (.cond [(.n,⟨[q9,q3,q13,q7,q9,q9],[(0,.pl 118 0),(12,.one (.vw 222313)),(16,.one (.h 1))],[(118,[.vw 222314,.vw 222315,.vw 222316,.vw 222317])],[(222313,0),(222314,2),(222315,3),(222316,4),(222317,5)],[],[]⟩)] .nil .nil)) (.seq (.seq .nil (.block [] (.loop ⟨[q3,q9,q3,q3,q13,q7,q9,q9],[(0,.pl 118 0),(16,.one (.h 0)),(100,.one (.vw 222318)),(101,.one (.h 2)),(102,.one (.h 3))],[(118,[.vw 222319,.vw 222320,.vw 222321,.vw 222322])],[(222318,1),(222319,4),(222320,5),(222321,6),(222322,7)],[],[]⟩ [(.x 2,⟨[q3,q13,q7,q9,q9],[(16,.one (.h 0))],[(118,[.vw 222382,.vw 222383,.vw 222384,.vw 222385])],[(222382,1),(222383,2),(222384,3),(222385,4)],[],[]⟩)] .nil))) .nil))))))))))) (ln:=[]) (ek [M3,P7,NZ,Fq,KJ,Lp] [] [] ⟨Ra,Xe,T6,HW,Rx,Oz,trivial⟩) Tryz.func74 rfl fun x y=>by kernel_rfl
def Kb:Kn:=kn 215 [0] [.one q8] [] [] G.Ic fun y=>⟨[.one ⟨q2,y⟩],[],[]⟩
theorem N5:Ko Kb:=Ac (J:=[(.r,⟨[q2],[(2,.one (.h 0))],[],[],[],[]⟩)]) (ann:=.seq .nil (.seq .nil (.seq (.seq .nil (.block [] (.loop ⟨[q4,q8,q3,q3],[(3,.one (.h 0)),(6,.one (.h 1)),(7,.one (.h 2)),(8,.one (.h 3))],[],[],[],[]⟩ [(.x 0,⟨[q4],[(3,.one (.h 0))],[],[],[],[]⟩)] .nil))) .nil))) (ln:=[]) (ek [] [] [] trivial) Tryz.func215 rfl fun x y=>by kernel_rfl
def O4:Kn:=kn 153 [0] [.ag [q3,q3,q3,q3,q3]] [] [] G.JE fun y=>⟨[.one ⟨q7,y⟩],[],[]⟩
theorem V1:Ko O4:=Ac (J:=[(.r,⟨[q7],[(2,.one (.vw 153600))],[],[(153600,0)],[],[]⟩)]) (ann:=.nil) (ln:=[]) (ek [Kb] [] [] ⟨N5,trivial⟩) Tryz.func153 rfl fun x y=>by kernel_rfl
def PK:Kn:=kn 152 [0,0] [.ag [q15,q8,q11,q11],.one q8] [] [] G.K4 fun y=>⟨[.one ⟨q25,y⟩],[],[]⟩
theorem XT:Ko PK:=Ac (J:=[(.r,⟨[q25],[(4,.one (.vw 163971))],[],[(163971,0)],[],[]⟩)]) (ann:=.seq .nil (.seq .nil (.seq .nil (.seq (.seq .nil (.block [] (.loop ⟨[q8,q7,q11,q3,q3,q15,q8,q11,q11],[(1,.one (.h 0)),(2,.pl 2 0),(5,.one (.vw 163840)),(17,.one (.h 2)),(18,.one (.h 3)),(19,.one (.h 4))],[(2,[.h 5,.h 6,.h 7,.h 8])],[(163840,1)],[],[]⟩ [(.x 0,⟨[q8,q7,q15,q8,q11,q11],[(1,.one (.h 0)),(2,.pl 2 0),(5,.one (.vw 163904))],[(2,[.h 2,.h 3,.h 4,.h 5])],[(163904,1)],[],[]⟩)] .nil))) (.seq .nil (.seq (.seq .nil (.block [] (.loop ⟨[q25,q11,q3,q3,q15,q8,q11,q11],[(2,.pl 2 0),(8,.one (.vw 163905)),(35,.one (.h 1)),(36,.one (.h 2)),(37,.one (.h 3))],[(2,[.h 4,.h 5,.h 6,.h 7])],[(163905,0)],[],[]⟩ [(.x 2,⟨[q25],[(8,.one (.vw 163970))],[],[(163970,0)],[],[]⟩)] (.seq .nil (.seq .nil (.seq (.block [] (.seq .nil (.seq .nil (.cond [(.n,⟨[q25,q11,q3,q3,q15,q8,q11,q11],[(2,.pl 2 0),(8,.one (.vw 163969)),(35,.one (.h 1)),(36,.one (.h 2)),(37,.one (.h 3))],[(2,[.h 4,.h 5,.h 6,.h 7])],[(163969,0)],[],[]⟩)] .nil .nil)))) .nil)))))) .nil)))))) (ln:=[]) (ek [IQ,KO] [] [] ⟨LR,Oi,trivial⟩) Tryz.func152 rfl fun x y=>by kernel_rfl
def Ov:Kn:=kn 276 [0] [.one q30] [] [] G.Jy fun y=>⟨[.one ⟨q7,y⟩],[],[]⟩
theorem Wo:Ko Ov:=Ac (J:=[(.r,⟨[q7],[(2,.one (.vw 170115))],[],[(170115,0)],[],[]⟩)]) (ann:=.seq .nil (.seq .nil (.seq (.seq .nil (.block [] (.loop ⟨[q30,q7,q30,q3,q3],[(0,.one (.h 0)),(3,.one (.vw 169984)),(14,.one (.h 2)),(15,.one (.h 3)),(16,.one (.h 4))],[],[(169984,1)],[],[]⟩ [(.x 0,⟨[q30,q7],[(0,.one (.h 0)),(3,.one (.vw 170048))],[],[(170048,1)],[],[]⟩)] .nil))) (.seq .nil (.seq .nil (.seq (.seq .nil (.block [] (.loop ⟨[q7,q7,q30,q3,q3],[(3,.one (.vw 170049)),(6,.one (.vw 170050)),(39,.one (.h 2)),(40,.one (.h 3)),(41,.one (.h 4))],[],[(170049,0),(170050,1)],[],[]⟩ [(.x 2,⟨[q7,q7],[(3,.one (.vw 170113)),(6,.one (.vw 170114))],[],[(170113,0),(170114,1)],[],[]⟩)] .nil))) .nil)))))) (ln:=[]) (ek [Kb] [] [] ⟨N5,trivial⟩) Tryz.func276 rfl fun x y=>by kernel_rfl
def Q3:Kn:=kn 244 [0] [.one q30] [] [] G.MZ fun y=>⟨[.one ⟨q25,y⟩],[],[]⟩
theorem YH:Ko Q3:=Ac (J:=[(.r,⟨[q25],[(2,.one (.vw 157826))],[],[(157826,0)],[],[]⟩)]) (ann:=.seq .nil (.seq .nil (.seq (.seq .nil (.block [] (.loop ⟨[q30,q25,q30,q3,q3],[(0,.one (.h 0)),(3,.one (.vw 157696)),(8,.one (.h 2)),(9,.one (.h 3)),(10,.one (.h 4))],[],[(157696,1)],[],[]⟩ [(.x 0,⟨[q30,q25],[(0,.one (.h 0)),(3,.one (.vw 157760))],[],[(157760,1)],[],[]⟩)] .nil))) (.seq .nil (.seq (.seq .nil (.block [] (.loop ⟨[q25,q30,q3,q3],[(3,.one (.vw 157761)),(32,.one (.h 1)),(33,.one (.h 2)),(34,.one (.h 3))],[],[(157761,0)],[],[]⟩ [(.x 2,⟨[q25],[(3,.one (.vw 157825))],[],[(157825,0)],[],[]⟩)] .nil))) .nil))))) (ln:=[]) (ek [Ov] [] [] ⟨Wo,trivial⟩) Tryz.func244 rfl fun x y=>by kernel_rfl
end
end Go.Proofs.YtofhefmbioblbaaGreat
set_option maxRecDepth 100000
namespace Go.Proofs.YtofhefmbioblbaaGreat
open Go.V
noncomputable section
def PO:Kn:=kn 245 [0,0,0] [.pl 0 0,.one q3,.one q8] [[.v q13,.v q3,.v q0,.v q3]] [] G.KN fun y=>⟨[.one ⟨q0,y.1⟩],[[⟨q13,y.2.1⟩,⟨q3,y.2.2.1⟩,⟨q0,y.2.2.2.1⟩,⟨q3,y.2.2.2.2⟩]],[]⟩
theorem Xk:Ko PO:=Ac (J:=[(.r,⟨[q0,q13,q3,q0,q3],[(6,.one (.h 0))],[(49,[.vw 151553,.h 2,.h 3,.h 4])],[(151553,1)],[],[]⟩)]) (ann:=.seq .nil (.seq .nil (.seq .nil (.seq (.seq .nil (.cond [(.n,⟨[q3,q8,q13,q3,q0,q3],[(0,.pl 49 0),(1,.one (.h 0)),(2,.one (.h 1))],[(49,[.vw 151552,.h 3,.h 4,.h 5])],[(151552,2)],[],[]⟩)] .nil .nil)) .nil)))) (ln:=[]) (ek [] [] [] trivial) Tryz.func245 rfl fun x y=>by kernel_rfl
def Md:Kn:=kn 154 [0,0] [.pl 0 0,.one q30] [[.v q13,.v q3,.v q0,.v q3]] [] G.HH fun y=>⟨[.one ⟨q0,y.1⟩],[[⟨q13,y.2.1⟩,⟨q3,y.2.2.1⟩,⟨q0,y.2.2.2.1⟩,⟨q3,y.2.2.2.2⟩]],[]⟩
theorem SL:Ko Md:=Ac (J:=[(.r,⟨[q0,q13,q3,q0,q3],[(4,.one (.h 0))],[(23,[.vw 124994,.h 2,.h 3,.h 4])],[(124994,1)],[],[]⟩)]) (ann:=.seq .nil (.seq (.seq .nil (.block [] (.loop ⟨[q25,q3,q3,q13,q3,q0,q3],[(0,.pl 23 0),(8,.one (.vw 124928)),(9,.one (.h 1)),(10,.one (.h 2))],[(23,[.vw 124929,.h 4,.h 5,.h 6])],[(124928,0),(124929,3)],[],[]⟩ [(.x 0,⟨[q13,q3,q0,q3],[],[(23,[.vw 124992,.h 1,.h 2,.h 3])],[(124992,0)],[],[]⟩),(.r,⟨[q0,q13,q3,q0,q3],[(4,.one (.h 0))],[(23,[.vw 124993,.h 2,.h 3,.h 4])],[(124993,1)],[],[]⟩)] .nil))) .nil)) (ln:=[]) (ek [Q3,PO] [] [] ⟨YH,Xk,trivial⟩) Tryz.func154 rfl fun x y=>by kernel_rfl
def NN:Kn:=kn 75 [0,0,0] [.ag [q15,q3,q0,q3],.ag [q15,q8,q11,q11],.ag [q3,q3,q3,q3,q3]] [] [] G.Gz fun y=>⟨[.ag [⟨q13,y.2.1⟩,⟨q3,y.2.2.1⟩,⟨q0,y.2.2.2.1⟩,⟨q3,y.2.2.2.2⟩],.one ⟨q3,y.1⟩],[],[]⟩
theorem UB:Ko NN:=Ac (J:=[(.r,⟨[q3,q13,q3,q0,q3],[(6,.pl 6 0),(7,.one (.h 0))],[(6,[.vw 126976,.h 2,.h 3,.h 4])],[(126976,1)],[],[]⟩)]) (ann:=.nil) (ln:=[]) (ek [O4,PK,Om,Md] [] [] ⟨V1,XT,Uq,SL,trivial⟩) Tryz.func75 rfl fun x y=>by kernel_rfl
def Nl:Kn:=kn 17 [0,0,0] [.ag [q15,q3,q0,q3],.one q3,.ag [q3,.str,q23,q36]] [] [] G.CB fun y=>⟨[.ag [⟨q13,y.2.1⟩,⟨q3,y.2.2.1⟩,⟨q0,y.2.2.2.1⟩,⟨q3,y.2.2.2.2⟩],.one ⟨q3,y.1⟩],[],[]⟩
theorem UU:Ko Nl:=Ac (J:=[(.r,⟨[q3,q13,q3,q0,q3],[(6,.pl 6 0),(7,.one (.h 0))],[(6,[.vw 195584,.h 2,.h 3,.h 4])],[(195584,1)],[],[]⟩)]) (ann:=.seq .nil (.seq (.seq (.reg [(.n,⟨[q3,q0,q15,q3,q0,q3,q3,.str,q23,q36,q3,q0,q3],[(1,.one (.h 0)),(3,.pl 3 0),(5,.pl 5 0),(6,.pl 6 0),(35,.one (.h 1))],[(3,[.h 2,.h 3,.h 4,.h 5]),(5,[.h 6,.h 7,.h 8,.h 9]),(6,[.nil,.h 10,.h 11,.h 12])],[],[],[]⟩)]) .nil) .nil)) (ln:=[]) (ek [Oh,EY,KV,Om,P3,PJ,Q1,L5,Nb,I4,Mv,Mj,NN] [] [] ⟨V8,FK,Rj,Uq,XQ,XC,YP,Tp,Rb,N2,Tb,Tm,UB,trivial⟩) Tryz.func17 rfl fun x y=>by kernel_rfl
def C4:Kn:=kn 80 [0,0,0] [.one q3,.one q3,.one q3] [] [] G.BM fun y=>⟨[.one ⟨q0,y⟩],[],[]⟩
theorem Dr:Ko C4:=Ac (J:=[(.r,⟨[q0],[(6,.one (.h 0))],[],[],[],[]⟩)]) (ann:=.seq .nil (.seq (.reg [(.n,⟨[q0],[(6,.one (.h 0))],[],[],[],[]⟩)]) .nil)) (ln:=[]) (ek [] [] [] trivial) Tryz.func80 rfl fun x y=>by kernel_rfl
def Lw:Kn:=kn 247 [0] [.one q8] [] [] G.Np fun y=>⟨[.one ⟨q0,y⟩],[],[]⟩
theorem Ri:Ko Lw:=Ac (J:=[(.r,⟨[q0],[(2,.one (.h 0))],[],[],[],[]⟩)]) (ann:=.nil) (ln:=[]) (ek [] [] [] trivial) Tryz.func247 rfl fun x y=>by kernel_rfl
def Ct:Kn:=kn 314 [0,0] [.one q15,.fv 247 []] [] [] G.A3 fun y=>⟨[.one ⟨q3,y⟩],[],[]⟩
theorem EE:Ko Ct:=Ac (J:=[(.r,⟨[q3],[(4,.one (.h 0))],[],[],[],[]⟩)]) (ann:=.seq .nil (.seq (.seq .nil (.block [] (.loop ⟨[q15,q3,q3],[(0,.one (.h 0)),(1,.fv 247 []),(7,.one (.h 1)),(8,.one (.h 2))],[],[],[],[]⟩ [(.x 0,⟨[],[],[],[],[],[]⟩),(.r,⟨[q3],[(4,.one (.h 0))],[],[],[],[]⟩)] .nil))) .nil)) (ln:=[]) (ek [Lw] [] [] ⟨Ri,trivial⟩) Tryz.func314 rfl fun x y=>by kernel_rfl
def B4:Kn:=kn 246 [0,0] [.one q15,.fv 247 []] [] [] G.Bo fun y=>⟨[.one ⟨q0,y⟩],[],[]⟩
theorem Eb:Ko B4:=Ac (J:=[(.r,⟨[q0],[(4,.one (.h 0))],[],[],[],[]⟩)]) (ann:=.nil) (ln:=[]) (ek [Ct] [] [] ⟨EE,trivial⟩) Tryz.func246 rfl fun x y=>by kernel_rfl
def NO:Kn:=kn 158 [0] [.one q15] [] [] G.II fun y=>⟨[.one ⟨q0,y⟩],[],[]⟩
theorem U1:Ko NO:=Ac (J:=[(.r,⟨[q0],[(2,.one (.h 0))],[],[],[],[]⟩)]) (ann:=.seq .nil (.seq (.reg [(.n,⟨[q0],[(2,.one (.h 0))],[],[],[],[]⟩)]) .nil)) (ln:=[]) (ek [C4,B4] [] [] ⟨Dr,Eb,trivial⟩) Tryz.func158 rfl fun x y=>by kernel_rfl
def Og:Kn:=kn 79 [0] [.ag [q15,q3,q0,q3]] [] [] G.Jz fun y=>⟨[.one ⟨q0,y⟩],[],[]⟩
theorem WK:Ko Og:=Ac (J:=[(.r,⟨[q0],[(2,.one (.h 0))],[],[],[],[]⟩)]) (ann:=.seq .nil (.seq (.reg [(.n,⟨[q0],[(2,.one (.h 0))],[],[],[],[]⟩)]) .nil)) (ln:=[]) (ek [NO,C4] [] [] ⟨U1,Dr,trivial⟩) Tryz.func79 rfl fun x y=>by kernel_rfl
def OG:Kn:=kn 159 [0,0,0] [.one q23,.one q3,.one q3] [] [] G.JH fun y=>⟨[.one ⟨q0,y⟩],[],[]⟩
theorem W4:Ko OG:=Ac (J:=[(.r,⟨[q0],[(6,.one (.h 0))],[],[],[],[]⟩)]) (ann:=.seq .nil (.seq (.seq (.reg [(.n,⟨[q23,q3,q3,q0],[(0,.one (.h 0)),(1,.one (.h 1)),(2,.one (.h 2)),(17,.one (.h 3))],[],[],[],[]⟩)]) .nil) (.seq .nil (.seq (.seq .nil (.block [] (.loop ⟨[q23,q3,q3,q3,q23,q3,q3],[(0,.one (.h 0)),(1,.one (.h 1)),(2,.one (.h 2)),(7,.one (.h 3)),(18,.one (.h 4)),(19,.one (.h 5)),(20,.one (.h 6))],[],[],[],[]⟩ [(.x 0,⟨[q3,q3],[(1,.one (.h 0)),(7,.one (.h 1))],[],[],[],[]⟩),(.r,⟨[q0],[(6,.one (.h 0))],[],[],[],[]⟩)] (.seq .nil (.seq .nil (.seq (.block [] (.seq .nil (.seq (.seq (.reg [(.n,⟨[q23,q3,q3,q3,q23,q3,q3,q0,q3,q3],[(0,.one (.h 0)),(1,.one (.h 1)),(2,.one (.h 2)),(7,.one (.h 3)),(9,.pl 9 0),(18,.one (.h 4)),(19,.one (.h 5)),(20,.one (.h 6)),(50,.one (.h 7))],[(9,[.h 8,.h 9])],[],[],[]⟩)]) .nil) .nil))) .nil)))))) .nil)))) (ln:=[]) (ek [C4] [] [] ⟨Dr,trivial⟩) Tryz.func159 rfl fun x y=>by kernel_rfl
def Nw:Kn:=kn 309 [0] [.ag [q3,q3,.str]] [] [] G.GC fun y=>⟨[.one ⟨q3,y⟩],[],[]⟩
theorem UW:Ko Nw:=Ac (J:=[(.r,⟨[q3],[(2,.one (.h 0))],[],[],[],[]⟩)]) (ann:=.seq .nil (.seq (.block [] (.seq (.reg [(.n,⟨[q0,q3,q3,.str],[(1,.pl 1 0),(3,.one (.h 0))],[(1,[.h 1,.h 2,.h 3])],[],[],[]⟩)]) (.cond [] .nil (.seq (.reg [(.n,⟨[q0,q3,q3,.str],[(1,.pl 1 0),(17,.one (.h 0))],[(1,[.h 1,.h 2,.h 3])],[],[],[]⟩)]) (.cond [] .nil (.seq (.reg [(.n,⟨[q0],[(31,.one (.h 0))],[],[],[],[]⟩)]) .nil)))))) .nil)) (ln:=[]) (ek [] [] [] trivial) Tryz.func309 rfl fun x y=>by kernel_rfl
end
end Go.Proofs.YtofhefmbioblbaaGreat
set_option maxRecDepth 100000
namespace Go.Proofs.YtofhefmbioblbaaGreat
open Go.V
noncomputable section
def LB:Kn:=kn 316 [0] [.one q31] [] [] G.Jd fun y=>⟨[.one ⟨q3,y.1⟩,.one ⟨q3,y.2.1⟩,.one ⟨q0,y.2.2⟩],[],[]⟩
theorem PG:Ko LB:=Ac (J:=[(.r,⟨[q3,q3,q0],[(2,.one (.h 0)),(3,.one (.h 1)),(4,.one (.h 2))],[],[],[],[]⟩)]) (ann:=.seq .nil (.seq .nil (.seq (.seq .nil (.block [] (.loop ⟨[q3,q3,q31,q3,q3],[(5,.one (.h 0)),(6,.one (.h 1)),(9,.one (.h 2)),(10,.one (.h 3)),(11,.one (.h 4))],[],[],[],[]⟩ [(.x 0,⟨[q3,q3],[(5,.one (.h 0)),(6,.one (.h 1))],[],[],[],[]⟩),(.r,⟨[q3,q3,q0],[(2,.one (.h 0)),(3,.one (.h 1)),(4,.one (.h 2))],[],[],[],[]⟩)] (.seq .nil (.seq .nil (.seq (.block [] (.seq .nil (.seq (.seq (.reg [(.n,⟨[q3,q3,q31,q3,q3,q0,q3,q3,.str],[(5,.one (.h 0)),(6,.one (.h 1)),(8,.pl 8 0),(9,.one (.h 2)),(10,.one (.h 3)),(11,.one (.h 4)),(22,.one (.h 5))],[(8,[.h 6,.h 7,.h 8])],[],[],[]⟩)]) .nil) (.seq .nil (.seq .nil (.seq (.reg [(.n,⟨[q3,q3,q31,q3,q3,q0],[(5,.one (.h 0)),(6,.one (.h 1)),(9,.one (.h 2)),(10,.one (.h 3)),(11,.one (.h 4)),(43,.one (.h 5))],[],[],[],[]⟩)]) .nil)))))) .nil)))))) .nil))) (ln:=[]) (ek [] [] [] trivial) Tryz.func316 rfl fun x y=>by kernel_rfl
def L9:Kn:=kn 315 [0] [.one q31] [] [] G.HM fun y=>⟨[.one ⟨q0,y⟩],[],[]⟩
theorem S8:Ko L9:=Ac (J:=[(.r,⟨[q0],[(2,.one (.h 0))],[],[],[],[]⟩)]) (ann:=.seq .nil (.seq (.seq .nil (.block [] (.loop ⟨[q31,q31,q3,q3],[(0,.one (.h 0)),(9,.one (.h 1)),(10,.one (.h 2)),(11,.one (.h 3))],[],[],[],[]⟩ [(.x 0,⟨[q31],[(0,.one (.h 0))],[],[],[],[]⟩),(.r,⟨[q0],[(2,.one (.h 0))],[],[],[],[]⟩)] (.seq .nil (.seq .nil (.seq (.block [] (.seq .nil (.seq .nil (.seq (.reg [(.n,⟨[q31,q31,q3,q3,q0],[(0,.one (.h 0)),(9,.one (.h 1)),(10,.one (.h 2)),(11,.one (.h 3)),(33,.one (.h 4))],[],[],[],[]⟩)]) .nil)))) .nil)))))) .nil)) (ln:=[]) (ek [Nw,LB] [] [] ⟨UW,PG,trivial⟩) Tryz.func315 rfl fun x y=>by kernel_rfl
def NB:Kn:=kn 248 [0] [.one q31] [] [] G.IT fun y=>⟨[.one ⟨q3,y.1⟩,.one ⟨q3,y.2.1⟩,.one ⟨q0,y.2.2⟩],[],[]⟩
theorem UX:Ko NB:=Ac (J:=[(.r,⟨[q3,q3,q0],[(2,.one (.h 0)),(3,.one (.h 1)),(4,.one (.h 2))],[],[],[],[]⟩)]) (ann:=.nil) (ln:=[]) (ek [L9,LB] [] [] ⟨S8,PG,trivial⟩) Tryz.func248 rfl fun x y=>by kernel_rfl
def Qb:Kn:=kn 160 [0,0] [.one q3,.one q36] [] [] G.Lo fun y=>⟨[.one ⟨q0,y⟩],[],[]⟩
theorem XB:Ko Qb:=Ac (J:=[(.r,⟨[q0],[(4,.one (.h 0))],[],[],[],[]⟩)]) (ann:=.seq .nil (.seq (.seq .nil (.block [] (.loop ⟨[q3,q36,q3,q3],[(0,.one (.h 0)),(10,.one (.h 1)),(11,.one (.h 2)),(12,.one (.h 3))],[],[],[],[]⟩ [(.x 0,⟨[],[],[],[],[],[]⟩),(.r,⟨[q0],[(4,.one (.h 0))],[],[],[],[]⟩)] (.seq .nil (.seq .nil (.seq (.block [] (.seq .nil (.seq .nil (.seq (.seq (.reg [(.n,⟨[q3,q36,q3,q3,q0],[(8,.one (.h 0)),(10,.one (.h 1)),(11,.one (.h 2)),(12,.one (.h 3)),(29,.one (.h 4))],[],[],[],[]⟩)]) .nil) .nil)))) .nil)))))) .nil)) (ln:=[]) (ek [NB] [] [] ⟨UX,trivial⟩) Tryz.func160 rfl fun x y=>by kernel_rfl
def KP:Kn:=kn 81 [0] [.ag [q3,.str,q23,q36]] [] [] G.GT fun y=>⟨[.one ⟨q0,y⟩],[],[]⟩
theorem Rh:Ko KP:=Ac (J:=[(.r,⟨[q0],[(2,.one (.h 0))],[],[],[],[]⟩)]) (ann:=.seq .nil (.seq (.reg [(.n,⟨[q0],[(2,.one (.h 0))],[],[],[],[]⟩)]) .nil)) (ln:=[]) (ek [C4,OG,Qb] [] [] ⟨Dr,W4,XB,trivial⟩) Tryz.func81 rfl fun x y=>by kernel_rfl
def Ba:Kn:=kn 161 [0] [.one q8] [] [] G.Au fun y=>⟨[.one ⟨q7,y⟩],[],[]⟩
theorem Bs:Ko Ba:=Ac (J:=[(.r,⟨[q7],[(2,.one (.vw 110593))],[],[(110593,0)],[],[]⟩)]) (ann:=.seq .nil (.both [(.r,⟨[q7],[(2,.one (.vw 110592))],[],[(110592,0)],[],[]⟩)] .nil .nil .nil .nil .nil)) (ln:=[]) (ek [] [] [] trivial) Tryz.func161 rfl fun x y=>by kernel_rfl
def Iy:Kn:=kn 83 [0] [.one q15] [] [] G.FW fun y=>⟨[.one ⟨q13,y⟩],[],[]⟩
theorem Ml:Ko Iy:=Ac (J:=[(.r,⟨[q13],[(2,.one (.vw 122945))],[],[(122945,0)],[],[]⟩)]) (ann:=.seq .nil (.seq .nil (.seq (.seq .nil (.block [] (.loop ⟨[q13,q15,q3,q3],[(3,.one (.vw 122880)),(7,.one (.h 1)),(8,.one (.h 2)),(9,.one (.h 3))],[],[(122880,0)],[],[]⟩ [(.x 0,⟨[q13],[(3,.one (.vw 122944))],[],[(122944,0)],[],[]⟩)] .nil))) .nil))) (ln:=[]) (ek [Ba] [] [] ⟨Bs,trivial⟩) Tryz.func83 rfl fun x y=>by kernel_rfl
def Ia:Kn:=kn 82 [0] [.ag [q15,q3,q0,q3]] [] [] G.Dl fun y=>⟨[.ag [⟨q13,y.1⟩,⟨q3,y.2.1⟩,⟨q0,y.2.2.1⟩,⟨q3,y.2.2.2⟩]],[],[]⟩
theorem K3:Ko Ia:=Ac (J:=[(.r,⟨[q13,q3,q0,q3],[(2,.pl 2 0)],[(2,[.vw 110592,.h 1,.h 2,.h 3])],[(110592,0)],[],[]⟩)]) (ann:=.nil) (ln:=[]) (ek [Iy] [] [] ⟨Ml,trivial⟩) Tryz.func82 rfl fun x y=>by kernel_rfl
def GG:Kn:=kn 261 [0,0] [.one q11,.one q3] [] [] G.Dv fun y=>⟨[.one ⟨q3,y⟩],[],[]⟩
theorem Lz:Ko GG:=Ac (J:=[(.r,⟨[q3],[(4,.one (.h 0))],[],[],[],[]⟩)]) (ann:=.seq .nil (.seq (.seq .nil (.block [] (.loop ⟨[q11,q3,q3,q3],[(0,.one (.h 0)),(1,.one (.h 1)),(7,.one (.h 2)),(8,.one (.h 3))],[],[],[],[]⟩ [(.x 0,⟨[],[],[],[],[],[]⟩),(.r,⟨[q3],[(4,.one (.h 0))],[],[],[],[]⟩)] .nil))) .nil)) (ln:=[]) (ek [] [] [] trivial) Tryz.func261 rfl fun x y=>by kernel_rfl
def Cv:Kn:=kn 168 [0,0] [.one q11,.one q3] [] [] G.Bg fun y=>⟨[.one ⟨q0,y⟩],[],[]⟩
theorem Dp:Ko Cv:=Ac (J:=[(.r,⟨[q0],[(4,.one (.h 0))],[],[],[],[]⟩)]) (ann:=.nil) (ln:=[]) (ek [GG] [] [] ⟨Lz,trivial⟩) Tryz.func168 rfl fun x y=>by kernel_rfl
end
end Go.Proofs.YtofhefmbioblbaaGreat
set_option maxRecDepth 100000
namespace Go.Proofs.YtofhefmbioblbaaGreat
open Go.V
noncomputable section
def IX:Kn:=kn 347 [0] [.one q1] [] [] G.Hf fun y=>⟨[.one ⟨q0,y⟩],[],[]⟩
theorem Oy:Ko IX:=Ac (J:=[(.r,⟨[q0],[(2,.one (.h 0))],[],[],[],[]⟩)]) (ann:=.nil) (ln:=[]) (ek [] [] [] trivial) Tryz.func347 rfl fun x y=>by kernel_rfl
def J8:Kn:=kn 259 [0,0] [.one q8,.one q3] [] [] G.HN fun y=>⟨[.one ⟨q3,y⟩],[],[]⟩
theorem NX:Ko J8:=Ac (J:=[(.r,⟨[q3],[(4,.one (.h 0))],[],[],[],[]⟩)]) (ann:=.nil) (ln:=[]) (ek [] [] [] trivial) Tryz.func259 rfl fun x y=>by kernel_rfl
def Jn:Kn:=kn 341 [0] [.one q1] [] [] G.H9 fun y=>⟨[.one ⟨q0,y⟩],[],[]⟩
theorem PB:Ko Jn:=Ac (J:=[(.r,⟨[q0],[(2,.one (.h 0))],[],[],[],[]⟩)]) (ann:=.nil) (ln:=[]) (ek [] [] [] trivial) Tryz.func341 rfl fun x y=>by kernel_rfl
def Ka:Kn:=kn 100 [0,0] [.rp q39 0,.one q3] [] [] G.Gh fun y=>⟨[.one ⟨q0,y⟩],[],[]⟩
theorem Qu:Ko Ka:=Ac (J:=[(.r,⟨[q0],[(4,.one (.h 0))],[],[],[],[]⟩)]) (ann:=.nil) (ln:=[]) (ek [] [] [] trivial) Tryz.func100 rfl fun x y=>by kernel_rfl
def Fl:Kn:=kn 171 [0,0] [.rp q39 0,.one q3] [] [] G.Dn fun y=>⟨[.one ⟨q0,y⟩],[],[]⟩
theorem Ig:Ko Fl:=Ac (J:=[(.r,⟨[q0],[(4,.one (.h 0))],[],[],[],[]⟩)]) (ann:=.seq .nil (.seq (.reg [(.n,⟨[q0],[(4,.one (.h 0))],[],[],[],[]⟩)]) .nil)) (ln:=[]) (ek [C4,Ka] [] [] ⟨Dr,Qu,trivial⟩) Tryz.func171 rfl fun x y=>by kernel_rfl
def D7:Kn:=kn 256 [0,0] [.rp q39 0,.one q3] [] [] G.CW fun y=>⟨[.one ⟨q0,y⟩],[],[]⟩
theorem Fv:Ko D7:=Ac (J:=[(.r,⟨[q0],[(4,.one (.h 0))],[],[],[],[]⟩)]) (ann:=.seq .nil (.seq (.reg [(.n,⟨[q0],[(4,.one (.h 0))],[],[],[],[]⟩)]) .nil)) (ln:=[]) (ek [Fl,Cv] [] [] ⟨Ig,Dp,trivial⟩) Tryz.func256 rfl fun x y=>by kernel_rfl
def Cd:Kn:=kn 318 [0,0] [.one q8,.fv 341 []] [] [] G.Bw fun y=>⟨[.one ⟨q3,y⟩],[],[]⟩
theorem Ef:Ko Cd:=Ac (J:=[(.r,⟨[q3],[(4,.one (.h 0))],[],[],[],[]⟩)]) (ann:=.seq .nil (.seq (.seq .nil (.block [] (.loop ⟨[q8,q3,q3],[(0,.one (.h 0)),(1,.fv 341 []),(7,.one (.h 1)),(8,.one (.h 2))],[],[],[],[]⟩ [(.x 0,⟨[],[],[],[],[],[]⟩),(.r,⟨[q3],[(4,.one (.h 0))],[],[],[],[]⟩)] .nil))) .nil)) (ln:=[]) (ek [Jn] [] [] ⟨PB,trivial⟩) Tryz.func318 rfl fun x y=>by kernel_rfl
def BQ:Kn:=kn 257 [0,0] [.one q8,.fv 341 []] [] [] G.AQ fun y=>⟨[.one ⟨q0,y⟩],[],[]⟩
theorem DO:Ko BQ:=Ac (J:=[(.r,⟨[q0],[(4,.one (.h 0))],[],[],[],[]⟩)]) (ann:=.nil) (ln:=[]) (ek [Cd] [] [] ⟨Ef,trivial⟩) Tryz.func257 rfl fun x y=>by kernel_rfl
def K5:Kn:=kn 293 [3,0] [.rp q39 0,.one q3] [] [] G.GZ fun y=>⟨[.ag [⟨q3,y.2.1⟩,⟨q3,y.2.2.1⟩,⟨.str,y.2.2.2⟩],.one ⟨q0,y.1⟩],[],[]⟩
theorem RR:Ko K5:=Ac (J:=[(.r,⟨[q0,q3,q3,.str],[(4,.pl 4 0),(5,.one (.h 0))],[(4,[.h 1,.h 2,.h 3])],[],[],[]⟩)]) (ann:=.seq .nil (.seq (.seq (.reg [(.n,⟨[q39,q3,q0,q3,q3,.str],[(0,.rp 0 0),(1,.one (.h 1)),(4,.pl 4 0),(24,.one (.h 2))],[(4,[.h 3,.h 4,.h 5])],[],[],[]⟩)]) .nil) (.seq .nil (.seq .nil (.seq (.seq (.reg [(.n,⟨[q3,q8,q3,q3,q0,q3,q3,.str],[(1,.one (.h 0)),(4,.pl 4 0),(6,.one (.h 1)),(7,.one (.h 2)),(8,.one (.h 3)),(55,.one (.h 4))],[(4,[.h 5,.h 6,.h 7])],[],[],[]⟩)]) .nil) .nil))))) (ln:=[]) (ek [D7,C4,BQ] [] [] ⟨Fv,Dr,DO,trivial⟩) Tryz.func293 rfl fun x y=>by kernel_rfl
def B2:Kn:=kn 318 [0,0] [.one q8,.fv 347 []] [] [] G.Bn fun y=>⟨[.one ⟨q3,y⟩],[],[]⟩
theorem D1:Ko B2:=Ac (J:=[(.r,⟨[q3],[(4,.one (.h 0))],[],[],[],[]⟩)]) (ann:=.seq .nil (.seq (.seq .nil (.block [] (.loop ⟨[q8,q3,q3],[(0,.one (.h 0)),(1,.fv 347 []),(7,.one (.h 1)),(8,.one (.h 2))],[],[],[],[]⟩ [(.x 0,⟨[],[],[],[],[],[]⟩),(.r,⟨[q3],[(4,.one (.h 0))],[],[],[],[]⟩)] .nil))) .nil)) (ln:=[]) (ek [IX] [] [] ⟨Oy,trivial⟩) Tryz.func318 rfl fun x y=>by kernel_rfl
def BO:Kn:=kn 257 [0,0] [.one q8,.fv 347 []] [] [] G.AO fun y=>⟨[.one ⟨q0,y⟩],[],[]⟩
theorem DF:Ko BO:=Ac (J:=[(.r,⟨[q0],[(4,.one (.h 0))],[],[],[],[]⟩)]) (ann:=.nil) (ln:=[]) (ek [B2] [] [] ⟨D1,trivial⟩) Tryz.func257 rfl fun x y=>by kernel_rfl
end
end Go.Proofs.YtofhefmbioblbaaGreat
set_option maxRecDepth 100000
namespace Go.Proofs.YtofhefmbioblbaaGreat
open Go.V
noncomputable section
def DX:Kn:=kn 349 [0] [.ag [q3,q3,.str],.pl 0 0] [[.v q3,.v q3,.v .str]] [[q3,q3,.str]] G.Hl fun y=>⟨[.one ⟨q0,y.1⟩],[[⟨q3,y.2.1⟩,⟨q3,y.2.2.1⟩,⟨.str,y.2.2.2⟩]],[]⟩
theorem FP:Ko DX:=Ac (J:=[(.r,⟨[q0,q3,q3,.str],[(3,.one (.h 0))],[(10,[.h 1,.h 2,.h 3])],[],[],[]⟩)]) (ann:=.nil) (ln:=[]) (ek [] [] [] trivial) Tryz.func349 rfl fun x y=>by kernel_rfl
def Ay:Kn:=kn 373 [0,0] [.one q33,.fv 349 [(0,0)]] [[.v q3,.v q3,.v .str]] [] G.Am fun y=>⟨[.one ⟨q3,y.1⟩],[[⟨q3,y.2.1⟩,⟨q3,y.2.2.1⟩,⟨.str,y.2.2.2⟩]],[]⟩
theorem A9:Ko Ay:=Ac (J:=[(.r,⟨[q3,q3,q3,.str],[(4,.one (.h 0))],[(20,[.h 1,.h 2,.h 3])],[],[],[]⟩)]) (ann:=.seq .nil (.seq (.seq .nil (.block [] (.loop ⟨[q33,q3,q3,q3,q3,.str],[(0,.one (.h 0)),(1,.fv 349 [(20,0)]),(7,.one (.h 1)),(8,.one (.h 2))],[(20,[.h 3,.h 4,.h 5])],[],[],[]⟩ [(.x 0,⟨[q3,q3,.str],[],[(20,[.h 0,.h 1,.h 2])],[],[],[]⟩),(.r,⟨[q3,q3,q3,.str],[(4,.one (.h 0))],[(20,[.h 1,.h 2,.h 3])],[],[],[]⟩)] .nil))) .nil)) (ln:=[]) (ek [DX] [] [] ⟨FP,trivial⟩) Tryz.func373 rfl fun x y=>by kernel_rfl
def Aw:Kn:=kn 348 [0,0] [.one q33,.fv 349 [(0,0)]] [[.v q3,.v q3,.v .str]] [] G.Ah fun y=>⟨[.one ⟨q0,y.1⟩],[[⟨q3,y.2.1⟩,⟨q3,y.2.2.1⟩,⟨.str,y.2.2.2⟩]],[]⟩
theorem A4:Ko Aw:=Ac (J:=[(.r,⟨[q0,q3,q3,.str],[(4,.one (.h 0))],[(10,[.h 1,.h 2,.h 3])],[],[],[]⟩)]) (ann:=.nil) (ln:=[]) (ek [Ay,DX] [] [] ⟨A9,FP,trivial⟩) Tryz.func348 rfl fun x y=>by kernel_rfl
def JW:Kn:=kn 303 [3,0] [.rp q39 0,.one q3] [] [] G.F6 fun y=>⟨[.one ⟨q28,y.1⟩,.one ⟨q0,y.2⟩],[],[]⟩
theorem Qj:Ko JW:=Ac (J:=[(.r,⟨[q28,q0],[(4,.one (.vw 193602)),(5,.one (.h 1))],[],[(193602,0)],[],[]⟩)]) (ann:=.seq .nil (.seq (.seq (.reg [(.n,⟨[q39,q3,q0],[(0,.rp 0 0),(1,.one (.h 1)),(27,.one (.h 2))],[],[],[],[]⟩)]) .nil) (.seq .nil (.seq .nil (.seq (.seq (.reg [(.n,⟨[q39,q8,q3,q0],[(0,.rp 0 0),(6,.one (.h 1)),(7,.one (.h 2)),(48,.one (.h 3))],[],[],[],[]⟩)]) .nil) (.seq .nil (.seq (.seq .nil (.block [] (.loop ⟨[q39,q8,q3,q28,q3,q3],[(0,.rp 0 0),(6,.one (.h 1)),(7,.one (.h 2)),(8,.one (.vw 193536)),(50,.one (.h 4)),(51,.one (.h 5))],[],[(193536,3)],[],[]⟩ [(.x 0,⟨[q28],[(8,.one (.vw 193601))],[],[(193601,0)],[],[]⟩),(.r,⟨[q0],[(4,.one (.nil)),(5,.one (.h 0))],[],[],[],[]⟩)] (.seq .nil (.seq .nil (.seq (.block [] (.seq .nil (.seq .nil (.seq (.seq (.reg [(.n,⟨[q39,q8,q3,q28,q3,q3,q0,q3,q3,.str],[(0,.rp 0 0),(6,.one (.h 1)),(7,.one (.h 2)),(8,.one (.vw 193600)),(10,.pl 10 0),(50,.one (.h 4)),(51,.one (.h 5)),(82,.one (.h 6))],[(10,[.h 7,.h 8,.h 9])],[(193600,3)],[],[]⟩)]) .nil) .nil)))) .nil)))))) .nil))))))) (ln:=[]) (ek [D7,BO,J8,K5,Aw,DX] [] [] ⟨Fv,DF,NX,RR,A4,FP,trivial⟩) Tryz.func303 rfl fun x y=>by kernel_rfl
def Ye:Kn:=kn 317 [0] [.one .str] [] [] G.Va fun y=>⟨[.one ⟨q5,y⟩],[],[]⟩
theorem Acu:Ko Ye:=Ac (J:=[(.r,⟨[q5],[(2,.one (.vw 123969))],[],[(123969,0)],[],[]⟩)]) (ann:=.seq .nil (.seq .nil (.seq (.block [] (.loop ⟨[.str,q5],[(0,.one (.h 0)),(3,.one (.vw 123904))],[],[(123904,1)],[],[]⟩ [(.x 0,⟨[q5],[(3,.one (.vw 123968))],[],[(123968,0)],[],[]⟩)] .nil)) .nil))) (ln:=[]) (ek [] [] [] trivial) Tryz.func317 rfl fun x y=>by kernel_rfl
def Hm:Kn:=kn 249 [3,0,0] [.rp q39 0,.one .str,.one q3] [] [] G.EC fun y=>⟨[.one ⟨q28,y.1⟩,.one ⟨q6,y.2.1⟩,.one ⟨q0,y.2.2⟩],[],[]⟩
theorem JY:Ko Hm:=Ac (J:=[(.r,⟨[q28,q6,q0],[(6,.one (.vw 184395)),(7,.one (.vw 184396)),(8,.one (.h 2))],[],[(184395,0),(184396,1)],[],[]⟩)]) (ann:=.seq .nil (.seq .nil (.seq (.seq .nil (.cond [(.n,⟨[.str,q28],[(1,.one (.h 0)),(9,.one (.vw 184320))],[],[(184320,1)],[],[]⟩),(.r,⟨[q0],[(6,.one (.nil)),(7,.one (.nil)),(8,.one (.h 0))],[],[],[],[]⟩)] .nil .nil)) (.seq .nil (.seq (.seq .nil (.block [] (.loop ⟨[q28,q28,q6,q5,q3,q3],[(9,.one (.vw 184321)),(12,.one (.vw 184322)),(13,.one (.vw 184323)),(31,.one (.vw 184324)),(32,.one (.h 4)),(33,.one (.h 5))],[],[(184321,0),(184322,1),(184323,2),(184324,3)],[],[]⟩ [(.x 0,⟨[q28,q6],[(12,.one (.vw 184393)),(13,.one (.vw 184394))],[],[(184393,0),(184394,1)],[],[]⟩)] (.seq .nil (.seq .nil (.seq (.block [] (.seq .nil (.seq (.reg [(.n,⟨[q28,q28,q6,q3,.str,q5,q3,q3,q0],[(9,.one (.vw 184385)),(12,.one (.vw 184386)),(13,.one (.vw 184387)),(14,.one (.h 3)),(15,.one (.h 4)),(31,.one (.vw 184388)),(32,.one (.h 6)),(33,.one (.h 7)),(58,.one (.h 8))],[],[(184385,0),(184386,1),(184387,2),(184388,5)],[],[]⟩)]) (.cond [(.n,⟨[q28,q28,q6,q5,q3,q3],[(9,.one (.vw 184389)),(12,.one (.vw 184390)),(13,.one (.vw 184391)),(31,.one (.vw 184392)),(32,.one (.h 4)),(33,.one (.h 5))],[],[(184389,0),(184390,1),(184391,2),(184392,3)],[],[]⟩)] .nil .nil)))) .nil)))))) .nil))))) (ln:=[]) (ek [JW,Ye] [] [] ⟨Qj,Acu,trivial⟩) Tryz.func249 rfl fun x y=>by kernel_rfl
def IW:Kn:=kn 162 [3,0,0] [.rp q39 0,.one .str,.one q3] [] [] G.E2 fun y=>⟨[.one ⟨q3,y⟩],[],[]⟩
theorem Or:Ko IW:=Ac (J:=[(.r,⟨[q3],[(6,.one (.h 0))],[],[],[],[]⟩)]) (ann:=.seq .nil (.seq .nil (.seq .nil (.seq (.seq .nil (.block [] (.loop ⟨[q3,q6,q3,q3],[(10,.one (.h 0)),(21,.one (.vw 136192)),(22,.one (.h 2)),(23,.one (.h 3))],[],[(136192,1)],[],[]⟩ [(.x 0,⟨[q3],[(10,.one (.h 0))],[],[],[],[]⟩)] (.seq .nil (.seq .nil (.seq (.block [] (.seq .nil (.seq .nil (.cond [(.n,⟨[q3,q6,q3,q3],[(10,.one (.h 0)),(21,.one (.vw 136256)),(22,.one (.h 2)),(23,.one (.h 3))],[],[(136256,1)],[],[]⟩)] .nil .nil)))) .nil)))))) .nil)))) (ln:=[]) (ek [Hm] [] [] ⟨JY,trivial⟩) Tryz.func162 rfl fun x y=>by kernel_rfl
def Lx:Kn:=kn 376 [0] [.one q3] [] [] G.Hb fun y=>⟨[.one ⟨q0,y⟩],[],[]⟩
theorem Q0:Ko Lx:=Ac (J:=[(.r,⟨[q0],[(2,.one (.h 0))],[],[],[],[]⟩)]) (ann:=.nil) (ln:=[]) (ek [] [] [] trivial) Tryz.func376 rfl fun x y=>by kernel_rfl
def L0:Kn:=kn 359 [0,0] [.one q3,.one q3] [] [] G.H8 fun y=>⟨[.one ⟨q0,y⟩],[],[]⟩
theorem SO:Ko L0:=Ac (J:=[(.r,⟨[q0],[(4,.one (.h 0))],[],[],[],[]⟩)]) (ann:=.seq .nil (.seq (.reg [(.n,⟨[q0],[(4,.one (.h 0))],[],[],[],[]⟩)]) .nil)) (ln:=[]) (ek [Lx] [] [] ⟨Q0,trivial⟩) Tryz.func359 rfl fun x y=>by kernel_rfl
def Jf:Kn:=kn 360 [0] [.one q3] [] [] G.E4 fun y=>⟨[.one ⟨q0,y⟩],[],[]⟩
theorem OV:Ko Jf:=Ac (J:=[(.r,⟨[q0],[(2,.one (.h 0))],[],[],[],[]⟩)]) (ann:=.nil) (ln:=[]) (ek [] [] [] trivial) Tryz.func360 rfl fun x y=>by kernel_rfl
def Em:Kn:=kn 329 [0,0] [.one q11,.one q3] [] [] G.B3 fun y=>⟨[.one ⟨q3,y.1⟩,.one ⟨q0,y.2⟩],[],[]⟩
theorem Id:Ko Em:=Ac (J:=[(.r,⟨[q3,q0],[(4,.one (.h 0)),(5,.one (.h 1))],[],[],[],[]⟩)]) (ann:=.seq .nil (.seq .nil (.seq .nil (.seq (.block [] (.loop ⟨[q11,q3,q3,q3,q3],[(0,.one (.h 0)),(1,.one (.h 1)),(6,.one (.h 2)),(7,.one (.h 3)),(8,.one (.h 4))],[],[],[],[]⟩ [(.x 0,⟨[q11,q3,q3,q3],[(0,.one (.h 0)),(1,.one (.h 1)),(6,.one (.h 2)),(7,.one (.h 3))],[],[],[],[]⟩)] (.seq .nil (.block [] (.seq .nil (.seq .nil (.cond [(.n,⟨[q11,q3,q3,q3,q3],[(0,.one (.h 0)),(1,.one (.h 1)),(6,.one (.h 2)),(7,.one (.h 3)),(8,.one (.h 4))],[],[],[],[]⟩)] .nil .nil))))))) (.seq (.reg [(.n,⟨[q3,q0],[(4,.one (.h 0)),(5,.one (.h 1))],[],[],[],[]⟩)]) .nil))))) (ln:=[]) (ek [L0,Jf] [] [] ⟨SO,OV,trivial⟩) Tryz.func329 rfl fun x y=>by kernel_rfl
def rho:Go.Shelf.Ren:=⟨fun x=>match x with | 21=>330 | 27=>361 | 28=>362 | 35=>377 | 39=>381 | n=>n,fun x=>match x with | 22=>47 | 3=>3 | 4=>4 | 0=>0 | n=>n,fun n=>n⟩
theorem Aev:Go.Proofs.Lays2.n21 Tryz.prog rho:=AcR mix (by kernel_rfl) (by kernel_rfl) (by kernel_rfl) (by kernel_rfl) (by kernel_rfl) (by kernel_rfl) (by kernel_rfl) (by kernel_rfl) (by kernel_rfl) (by kernel_rfl) (by kernel_rfl) (by kernel_rfl) (by kernel_rfl)
def DQ:Kn:=⟨330,[1,0,1],fun args rows=>match args,rows with
 | [.one ⟨.sl true 3 (.int .i64),x0⟩,.one ⟨.int .i64,x1⟩,.one ⟨.sl true 3 (.int .i64),x2⟩],[]=>some ⟨_,G.EA x0 x1 x2,fun y=>⟨[.one ⟨.sl true 3 (.int .i64),y⟩],[],[]⟩⟩
 | _,_=>none,[]⟩
theorem KD:LT Tryz.prog DQ:=by
 intro args rows a h y hy
 simp only [DQ] at h
 split at h
 ·injection h with h
  subst h
  exact AaA Aev hy
 ·cases h
end
end Go.Proofs.YtofhefmbioblbaaGreat
set_option maxRecDepth 100000
namespace Go.Proofs.YtofhefmbioblbaaGreat
open Go.V
noncomputable section
def JJ:Kn:=kn 266 [1,0] [.one q9,.one q3] [] [] G.ET fun y=>⟨[.one ⟨q9,y⟩],[],[]⟩
theorem Ni:Ko JJ:=Ac (J:=[(.r,⟨[q9],[(4,.one (.vw 122880))],[],[(122880,0)],[],[]⟩)]) (ann:=.nil) (ln:=[]) (ek [Em,DQ] [] [] ⟨Id,KD,trivial⟩) Tryz.func266 rfl fun x y=>by kernel_rfl
def Cn:Kn:=kn 253 [0,0,0] [.pl 0 0,.one q3,.one q8] [[.v q13,.v q7,.v q9,.v q9]] [] G.AW fun y=>⟨[],[[⟨q13,y.1⟩,⟨q7,y.2.1⟩,⟨q9,y.2.2.1⟩,⟨q9,y.2.2.2⟩]],[]⟩
theorem C7:Ko Cn:=Ac (J:=[(.r,⟨[q13,q7,q9,q9],[],[(24,[.vw 125952,.vw 125953,.vw 125954,.vw 125955])],[(125952,0),(125953,1),(125954,2),(125955,3)],[],[]⟩)]) (ann:=.nil) (ln:=[]) (ek [Ba,JJ] [] [] ⟨Bs,Ni,trivial⟩) Tryz.func253 rfl fun x y=>by kernel_rfl
def Ih:Kn:=kn 100 [0,0] [.pl 0 0,.one q3] [[.v q13,.v q7,.v q9,.v q9]] [] G.Eu fun y=>⟨[.one ⟨q0,y.1⟩],[[⟨q13,y.2.1⟩,⟨q7,y.2.2.1⟩,⟨q9,y.2.2.2.1⟩,⟨q9,y.2.2.2.2⟩]],[]⟩
theorem NT:Ko Ih:=Ac (J:=[(.r,⟨[q0,q13,q7,q9,q9],[(4,.one (.h 0))],[(19,[.vw 120832,.vw 120833,.vw 120834,.vw 120835])],[(120832,1),(120833,2),(120834,3),(120835,4)],[],[]⟩)]) (ann:=.nil) (ln:=[]) (ek [] [] [] trivial) Tryz.func100 rfl fun x y=>by kernel_rfl
def DN:Kn:=kn 250 [0] [.pl 0 0] [[.v q13,.v q7,.v q9,.v q9]] [] G.AE fun y=>⟨[.one ⟨q3,y.1⟩,.one ⟨q0,y.2.1⟩],[[⟨q13,y.2.2.1⟩,⟨q7,y.2.2.2.1⟩,⟨q9,y.2.2.2.2.1⟩,⟨q9,y.2.2.2.2.2⟩]],[]⟩
theorem Fj:Ko DN:=Ac (J:=[(.r,⟨[q3,q0,q13,q7,q9,q9],[(2,.one (.h 0)),(3,.one (.h 1))],[(37,[.vw 139336,.vw 139337,.vw 139338,.vw 139339])],[(139336,2),(139337,3),(139338,4),(139339,5)],[],[]⟩)]) (ann:=.seq .nil (.seq (.seq .nil (.block [] (.loop ⟨[q3,q3,q13,q7,q9,q9],[(0,.pl 37 0),(9,.one (.h 0)),(10,.one (.h 1))],[(37,[.vw 139264,.vw 139265,.vw 139266,.vw 139267])],[(139264,2),(139265,3),(139266,4),(139267,5)],[],[]⟩ [(.x 0,⟨[q13,q7,q9,q9],[],[(37,[.vw 139328,.vw 139329,.vw 139330,.vw 139331])],[(139328,0),(139329,1),(139330,2),(139331,3)],[],[]⟩),(.r,⟨[q3,q0,q13,q7,q9,q9],[(2,.one (.h 0)),(3,.one (.h 1))],[(37,[.vw 139332,.vw 139333,.vw 139334,.vw 139335])],[(139332,2),(139333,3),(139334,4),(139335,5)],[],[]⟩)] .nil))) .nil)) (ln:=[]) (ek [Ih,Cn] [] [] ⟨NT,C7,trivial⟩) Tryz.func250 rfl fun x y=>by kernel_rfl
def D3:Kn:=kn 254 [1,0] [.one q7,.one q3] [] [] G.CJ fun y=>⟨[.one ⟨q7,y⟩],[],[]⟩
theorem ER:Ko D3:=Ac (J:=[(.r,⟨[q7],[(4,.one (.vw 113664))],[],[(113664,0)],[],[]⟩)]) (ann:=.nil) (ln:=[]) (ek [] [] [] trivial) Tryz.func254 rfl fun x y=>by kernel_rfl
def Gv:Kn:=kn 251 [0,0] [.pl 0 0,.ag [q3,q3,.str]] [[.v q13,.v q7,.v q9,.v q9]] [] G.Cp fun y=>⟨[],[[⟨q13,y.1⟩,⟨q7,y.2.1⟩,⟨q9,y.2.2.1⟩,⟨q9,y.2.2.2⟩]],[]⟩
theorem KE:Ko Gv:=Ac (J:=[(.r,⟨[q13,q7,q9,q9],[],[(23,[.vw 124928,.vw 124929,.vw 124930,.vw 124931])],[(124928,0),(124929,1),(124930,2),(124931,3)],[],[]⟩)]) (ann:=.nil) (ln:=[]) (ek [D3,Cn] [] [] ⟨ER,C7,trivial⟩) Tryz.func251 rfl fun x y=>by kernel_rfl
def JV:Kn:=kn 252 [0] [.one q3] [] [] G.F4 fun y=>⟨[.one ⟨q7,y⟩],[],[]⟩
theorem Mu:Ko JV:=Ac (J:=[(.r,⟨[q7],[(2,.one (.vw 111616))],[],[(111616,0)],[],[]⟩)]) (ann:=.nil) (ln:=[]) (ek [] [] [] trivial) Tryz.func252 rfl fun x y=>by kernel_rfl
def GB:Kn:=kn 163 [0,0,0] [.pl 0 0,.one .str,.one q3] [[.v q13,.v q7,.v q9,.v q9]] [] G.BU fun y=>⟨[.one ⟨q3,y.1⟩,.one ⟨q0,y.2.1⟩],[[⟨q13,y.2.2.1⟩,⟨q7,y.2.2.2.1⟩,⟨q9,y.2.2.2.2.1⟩,⟨q9,y.2.2.2.2.2⟩]],[]⟩
theorem Ly:Ko GB:=Ac (J:=[(.r,⟨[q3,q0,q13,q7,q9,q9],[(6,.one (.h 0)),(7,.one (.h 1))],[(78,[.vw 181332,.vw 181333,.vw 181334,.vw 181335])],[(181332,2),(181333,3),(181334,4),(181335,5)],[],[]⟩)]) (ann:=.seq .nil (.seq .nil (.seq .nil (.seq (.seq .nil (.block [] (.loop ⟨[q6,q7,q28,q3,q3,q13,q7,q9,q9],[(0,.pl 78 0),(9,.one (.vw 181248)),(11,.one (.vw 181249)),(30,.one (.vw 181250)),(31,.one (.h 3)),(32,.one (.h 4))],[(78,[.vw 181251,.vw 181252,.vw 181253,.vw 181254])],[(181248,0),(181249,1),(181250,2),(181251,5),(181252,6),(181253,7),(181254,8)],[],[]⟩ [(.x 0,⟨[q7,q13,q7,q9,q9],[(0,.pl 78 0),(11,.one (.vw 181323))],[(78,[.vw 181324,.vw 181325,.vw 181326,.vw 181327])],[(181323,0),(181324,1),(181325,2),(181326,3),(181327,4)],[],[]⟩),(.r,⟨[q3,q0,q13,q7,q9,q9],[(6,.one (.h 0)),(7,.one (.h 1))],[(78,[.vw 181328,.vw 181329,.vw 181330,.vw 181331])],[(181328,2),(181329,3),(181330,4),(181331,5)],[],[]⟩)] (.seq .nil (.seq .nil (.seq (.block [] (.seq .nil (.seq (.seq .nil (.cond [(.n,⟨[q6,q7,q28,q3,q3,q3,q3,.str,q13,q7,q9,q9],[(0,.pl 78 0),(9,.one (.vw 181312)),(11,.one (.vw 181313)),(13,.pl 13 0),(30,.one (.vw 181314)),(31,.one (.h 3)),(32,.one (.h 4))],[(13,[.h 5,.h 6,.h 7]),(78,[.vw 181315,.vw 181316,.vw 181317,.vw 181318])],[(181312,0),(181313,1),(181314,2),(181315,8),(181316,9),(181317,10),(181318,11)],[],[]⟩),(.r,⟨[q3,q0,q13,q7,q9,q9],[(6,.one (.h 0)),(7,.one (.h 1))],[(78,[.vw 181319,.vw 181320,.vw 181321,.vw 181322])],[(181319,2),(181320,3),(181321,4),(181322,5)],[],[]⟩)] .nil .nil)) .nil))) .nil)))))) .nil)))) (ln:=[]) (ek [Hm,DN,Gv,JV,D3,Cn] [] [] ⟨JY,Fj,KE,Mu,ER,C7,trivial⟩) Tryz.func163 rfl fun x y=>by kernel_rfl
def Hw:Kn:=kn 84 [0,0,0] [.pl 0 0,.one .str,.one q3] [[.v q13,.v q7,.v q9,.v q9,.v q18,.v q0,.v q3,.v q0]] [] G.CP fun y=>⟨[.one ⟨q3,y.1⟩],[[⟨q13,y.2.1⟩,⟨q7,y.2.2.1⟩,⟨q9,y.2.2.2.1⟩,⟨q9,y.2.2.2.2.1⟩,⟨q18,y.2.2.2.2.2.1⟩,⟨q0,y.2.2.2.2.2.2.1⟩,⟨q3,y.2.2.2.2.2.2.2.1⟩,⟨q0,y.2.2.2.2.2.2.2.2⟩]],[]⟩
theorem L3:Ko Hw:=Ac (J:=[(.r,⟨[q3,q13,q7,q9,q9,q18,q0,q3,q0],[(6,.one (.h 0))],[(46,[.vw 148480,.vw 148481,.vw 148482,.vw 148483,.vw 148484,.h 6,.h 7,.h 8])],[(148480,1),(148481,2),(148482,3),(148483,4),(148484,5)],[],[]⟩)]) (ann:=.nil) (ln:=[]) (ek [IW,GB] [] [] ⟨Or,Ly,trivial⟩) Tryz.func84 rfl fun x y=>by kernel_rfl
def NS:Kn:=kn 86 [0] [.one q23] [] [] G.IL fun y=>⟨[.one ⟨q7,y⟩],[],[]⟩
theorem UV:Ko NS:=Ac (J:=[(.r,⟨[q7],[(2,.one (.vw 127041))],[],[(127041,0)],[],[]⟩)]) (ann:=.seq .nil (.seq .nil (.seq (.seq .nil (.block [] (.loop ⟨[q7,q23,q3,q3],[(3,.one (.vw 126976)),(7,.one (.h 1)),(8,.one (.h 2)),(9,.one (.h 3))],[],[(126976,0)],[],[]⟩ [(.x 0,⟨[q7],[(3,.one (.vw 127040))],[],[(127040,0)],[],[]⟩)] .nil))) .nil))) (ln:=[]) (ek [] [] [] trivial) Tryz.func86 rfl fun x y=>by kernel_rfl
def IA:Kn:=kn 164 [0] [.one q3] [] [] G.Ft fun y=>⟨[.one ⟨q3,y⟩],[],[]⟩
theorem LY:Ko IA:=Ac (J:=[(.r,⟨[q3],[(2,.one (.h 0))],[],[],[],[]⟩)]) (ann:=.nil) (ln:=[]) (ek [] [] [] trivial) Tryz.func164 rfl fun x y=>by kernel_rfl
def Gx:Kn:=kn 255 [0,0] [.pl 0 0,.one q3] [[.v q13,.v q7,.v q9,.v q9]] [] G.Ez fun y=>⟨[.one ⟨q9,y.1⟩,.one ⟨q0,y.2.1⟩],[[⟨q13,y.2.2.1⟩,⟨q7,y.2.2.2.1⟩,⟨q9,y.2.2.2.2.1⟩,⟨q9,y.2.2.2.2.2⟩]],[]⟩
theorem KF:Ko Gx:=Ac (J:=[(.r,⟨[q9,q0,q13,q7,q9,q9],[(4,.one (.vw 129097)),(5,.one (.h 1))],[(27,[.vw 129098,.vw 129099,.vw 129100,.vw 129101])],[(129097,0),(129098,2),(129099,3),(129100,4),(129101,5)],[],[]⟩)]) (ann:=.seq .nil (.seq .nil (.seq (.seq .nil (.block [] (.loop ⟨[q9,q3,q3,q13,q7,q9,q9],[(0,.pl 27 0),(6,.one (.vw 129024)),(10,.one (.h 1)),(11,.one (.h 2))],[(27,[.vw 129025,.vw 129026,.vw 129027,.vw 129028])],[(129024,0),(129025,3),(129026,4),(129027,5),(129028,6)],[],[]⟩ [(.x 0,⟨[q9,q13,q7,q9,q9],[(6,.one (.vw 129088))],[(27,[.vw 129089,.vw 129090,.vw 129091,.vw 129092])],[(129088,0),(129089,1),(129090,2),(129091,3),(129092,4)],[],[]⟩),(.r,⟨[q0,q13,q7,q9,q9],[(4,.one (.nil)),(5,.one (.h 0))],[(27,[.vw 129093,.vw 129094,.vw 129095,.vw 129096])],[(129093,1),(129094,2),(129095,3),(129096,4)],[],[]⟩)] .nil))) .nil))) (ln:=[]) (ek [DN] [] [] ⟨Fj,trivial⟩) Tryz.func255 rfl fun x y=>by kernel_rfl
end
end Go.Proofs.YtofhefmbioblbaaGreat
set_option maxRecDepth 100000
namespace Go.Proofs.YtofhefmbioblbaaGreat
open Go.V
noncomputable section
def FT:Kn:=kn 165 [0,0] [.pl 0 0,.one q8] [[.v q13,.v q7,.v q9,.v q9]] [] G.BE fun y=>⟨[.one ⟨q3,y.1⟩,.one ⟨q0,y.2.1⟩],[[⟨q13,y.2.2.1⟩,⟨q7,y.2.2.2.1⟩,⟨q9,y.2.2.2.2.1⟩,⟨q9,y.2.2.2.2.2⟩]],[]⟩
theorem J5:Ko FT:=Ac (J:=[(.r,⟨[q3,q0,q13,q7,q9,q9],[(4,.one (.h 0)),(5,.one (.h 1))],[(71,[.vw 174154,.vw 174155,.vw 174156,.vw 174157])],[(174154,2),(174155,3),(174156,4),(174157,5)],[],[]⟩)]) (ann:=.seq .nil (.seq .nil (.seq .nil (.seq (.seq .nil (.block [] (.loop ⟨[q8,q9,q3,q3,q13,q7,q9,q9],[(0,.pl 71 0),(1,.one (.h 0)),(6,.one (.vw 174080)),(23,.one (.vw 174080)),(24,.one (.h 2)),(25,.one (.h 3))],[(71,[.vw 174081,.vw 174082,.vw 174083,.vw 174084])],[(174080,1),(174081,4),(174082,5),(174083,6),(174084,7)],[],[]⟩ [(.x 0,⟨[q9,q13,q7,q9,q9],[(6,.one (.vw 174149))],[(71,[.vw 174150,.vw 174151,.vw 174152,.vw 174153])],[(174149,0),(174150,1),(174151,2),(174152,3),(174153,4)],[],[]⟩)] (.seq .nil (.seq .nil (.seq (.block [] (.seq .nil (.seq .nil (.seq .nil (.seq (.seq .nil (.cond [(.n,⟨[q8,q9,q3,q8,q3,q3,q3,q13,q7,q9,q9],[(0,.pl 71 0),(1,.one (.h 0)),(6,.one (.vw 174144)),(9,.one (.h 2)),(10,.one (.h 3)),(11,.one (.h 4)),(23,.one (.vw 174144)),(24,.one (.h 5)),(25,.one (.h 6))],[(71,[.vw 174145,.vw 174146,.vw 174147,.vw 174148])],[(174144,1),(174145,7),(174146,8),(174147,9),(174148,10)],[],[]⟩)] .nil .nil)) .nil))))) .nil)))))) .nil)))) (ln:=[]) (ek [IA,Gx,JV,D3,Cn] [] [] ⟨LY,KF,Mu,ER,C7,trivial⟩) Tryz.func165 rfl fun x y=>by kernel_rfl
def Gt:Kn:=kn 85 [0,0,0] [.pl 0 0,.one q3,.one q8] [[.v q13,.v q7,.v q9,.v q9,.v q18,.v q0,.v q3,.v q0]] [] G.Br fun y=>⟨[],[[⟨q13,y.1⟩,⟨q7,y.2.1⟩,⟨q9,y.2.2.1⟩,⟨q9,y.2.2.2.1⟩,⟨q18,y.2.2.2.2.1⟩,⟨q0,y.2.2.2.2.2.1⟩,⟨q3,y.2.2.2.2.2.2.1⟩,⟨q0,y.2.2.2.2.2.2.2⟩]],[]⟩
theorem KC:Ko Gt:=Ac (J:=[(.r,⟨[q13,q7,q9,q9,q18,q0,q3,q0],[],[(63,[.vw 165888,.vw 165889,.vw 165890,.vw 165891,.vw 165892,.h 5,.h 6,.h 7])],[(165888,0),(165889,1),(165890,2),(165891,3),(165892,4)],[],[]⟩)]) (ann:=.nil) (ln:=[]) (ek [IA,FT] [] [] ⟨LY,J5,trivial⟩) Tryz.func85 rfl fun x y=>by kernel_rfl
def J0:Kn:=kn 258 [0] [.one q1] [] [] G.Mp fun y=>⟨[.one ⟨q0,y⟩],[],[]⟩
theorem QK:Ko J0:=Ac (J:=[(.r,⟨[q0],[(2,.one (.h 0))],[],[],[],[]⟩)]) (ann:=.nil) (ln:=[]) (ek [] [] [] trivial) Tryz.func258 rfl fun x y=>by kernel_rfl
def Ch:Kn:=kn 318 [0,0] [.one q8,.fv 258 []] [] [] G.Cy fun y=>⟨[.one ⟨q3,y⟩],[],[]⟩
theorem En:Ko Ch:=Ac (J:=[(.r,⟨[q3],[(4,.one (.h 0))],[],[],[],[]⟩)]) (ann:=.seq .nil (.seq (.seq .nil (.block [] (.loop ⟨[q8,q3,q3],[(0,.one (.h 0)),(1,.fv 258 []),(7,.one (.h 1)),(8,.one (.h 2))],[],[],[],[]⟩ [(.x 0,⟨[],[],[],[],[],[]⟩),(.r,⟨[q3],[(4,.one (.h 0))],[],[],[],[]⟩)] .nil))) .nil)) (ln:=[]) (ek [J0] [] [] ⟨QK,trivial⟩) Tryz.func318 rfl fun x y=>by kernel_rfl
def BY:Kn:=kn 257 [0,0] [.one q8,.fv 258 []] [] [] G.Cb fun y=>⟨[.one ⟨q0,y⟩],[],[]⟩
theorem DR:Ko BY:=Ac (J:=[(.r,⟨[q0],[(4,.one (.h 0))],[],[],[],[]⟩)]) (ann:=.nil) (ln:=[]) (ek [Ch] [] [] ⟨En,trivial⟩) Tryz.func257 rfl fun x y=>by kernel_rfl
def L2:Kn:=kn 166 [3,0,0] [.rp q39 0,.one q3,.one q1] [] [] G.Kk fun y=>⟨[.one ⟨q9,y.1⟩,.one ⟨q0,y.2⟩],[],[]⟩
theorem SI:Ko L2:=Ac (J:=[(.r,⟨[q9,q0],[(6,.one (.vw 155713)),(7,.one (.h 1))],[],[(155713,0)],[],[]⟩)]) (ann:=.seq .nil (.seq (.seq (.reg [(.n,⟨[q39,q3,q0],[(0,.rp 0 0),(1,.one (.h 1)),(27,.one (.h 2))],[],[],[],[]⟩)]) .nil) (.seq .nil (.seq .nil (.seq .nil (.seq (.seq .nil (.block [] (.loop ⟨[q8,q9,q3],[(8,.one (.h 0)),(9,.one (.vw 155648)),(39,.one (.h 2))],[],[(155648,1)],[],[]⟩ [(.x 0,⟨[q9],[(9,.one (.vw 155712))],[],[(155712,0)],[],[]⟩)] .nil))) .nil)))))) (ln:=[]) (ek [D7,BY,J8] [] [] ⟨Fv,DR,NX,trivial⟩) Tryz.func166 rfl fun x y=>by kernel_rfl
def NP:Kn:=kn 260 [0] [.one q3] [] [] G.LK fun y=>⟨[.one ⟨q0,y⟩],[],[]⟩
theorem UD:Ko NP:=Ac (J:=[(.r,⟨[q0],[(2,.one (.h 0))],[],[],[],[]⟩)]) (ann:=.nil) (ln:=[]) (ek [] [] [] trivial) Tryz.func260 rfl fun x y=>by kernel_rfl
def CO:Kn:=kn 262 [0,0] [.one q11,.fv 260 []] [] [] G.BK fun y=>⟨[.one ⟨q3,y⟩],[],[]⟩
theorem Fk:Ko CO:=Ac (J:=[(.r,⟨[q3],[(4,.one (.h 0))],[],[],[],[]⟩)]) (ann:=.seq .nil (.seq (.seq .nil (.block [] (.loop ⟨[q11,q3,q3],[(0,.one (.h 0)),(1,.fv 260 []),(7,.one (.h 1)),(8,.one (.h 2))],[],[],[],[]⟩ [(.x 0,⟨[],[],[],[],[],[]⟩),(.r,⟨[q3],[(4,.one (.h 0))],[],[],[],[]⟩)] .nil))) .nil)) (ln:=[]) (ek [NP] [] [] ⟨UD,trivial⟩) Tryz.func262 rfl fun x y=>by kernel_rfl
def Cz:Kn:=kn 169 [0,0] [.one q11,.fv 260 []] [] [] G.BB fun y=>⟨[.one ⟨q0,y⟩],[],[]⟩
theorem EG:Ko Cz:=Ac (J:=[(.r,⟨[q0],[(4,.one (.h 0))],[],[],[],[]⟩)]) (ann:=.nil) (ln:=[]) (ek [CO] [] [] ⟨Fk,trivial⟩) Tryz.func169 rfl fun x y=>by kernel_rfl
def IJ:Kn:=kn 167 [0] [.one q11] [] [] G.Dc fun y=>⟨[.one ⟨q0,y⟩],[],[]⟩
theorem LC:Ko IJ:=Ac (J:=[(.r,⟨[q0],[(2,.one (.h 0))],[],[],[],[]⟩)]) (ann:=.nil) (ln:=[]) (ek [Cz] [] [] ⟨EG,trivial⟩) Tryz.func167 rfl fun x y=>by kernel_rfl
def EV:Kn:=kn 170 [0] [.one q3,.pl 0 0] [[.v q40]] [[q40]] G.Mx fun y=>⟨[.one ⟨q0,y.1⟩],[[⟨q40,y.2⟩]],[]⟩
theorem Hg:Ko EV:=Ac (J:=[(.r,⟨[q0,q40],[(3,.one (.h 0))],[(13,[.h 1])],[],[],[]⟩)]) (ann:=.seq .nil (.seq (.reg [(.n,⟨[q0,q40],[(3,.one (.h 0))],[(13,[.h 1])],[],[],[]⟩)]) .nil)) (ln:=[]) (ek [Fl] [] [] ⟨Ig,trivial⟩) Tryz.func170 rfl fun x y=>by kernel_rfl
end
end Go.Proofs.YtofhefmbioblbaaGreat
set_option maxRecDepth 100000
namespace Go.Proofs.YtofhefmbioblbaaGreat
open Go.V
noncomputable section
def Cg:Kn:=kn 262 [2,0] [.one q9,.fv 170 [(0,0)]] [[.v q40]] [] G.CA fun y=>⟨[.one ⟨q3,y.2.1⟩],[[⟨q40,y.2.2⟩]],[((0,0),⟨q9,y.1⟩)]⟩
theorem Eo:Ko Cg:=Ac (J:=[(.r,⟨[q9,q3,q40],[(0,.one (.vw 121922)),(4,.one (.h 1))],[(20,[.h 2])],[(121922,0)],[],[]⟩)]) (ann:=.seq .nil (.seq (.seq .nil (.block [] (.loop ⟨[q9,q3,q3,q40],[(0,.one (.vw 121856)),(1,.fv 170 [(20,0)]),(7,.one (.h 1)),(8,.one (.h 2))],[(20,[.h 3])],[(121856,0)],[],[]⟩ [(.x 0,⟨[q9,q40],[(0,.one (.vw 121920))],[(20,[.h 1])],[(121920,0)],[],[]⟩),(.r,⟨[q9,q3,q40],[(0,.one (.vw 121921)),(4,.one (.h 1))],[(20,[.h 2])],[(121921,0)],[],[]⟩)] .nil))) .nil)) (ln:=[(0,0)]) (ek [EV] [0] [] ⟨Hg,trivial⟩) Tryz.func262 rfl fun x y=>by kernel_rfl
def B0:Kn:=kn 169 [2,0] [.one q9,.fv 170 [(0,0)]] [[.v q40]] [] G.Ca fun y=>⟨[.one ⟨q0,y.2.1⟩],[[⟨q40,y.2.2⟩]],[((0,0),⟨q9,y.1⟩)]⟩
theorem DP:Ko B0:=Ac (J:=[(.r,⟨[q9,q0,q40],[(0,.one (.vw 111616)),(4,.one (.h 1))],[(10,[.h 2])],[(111616,0)],[],[]⟩)]) (ann:=.nil) (ln:=[(0,0)]) (ek [Cg,EV] [0] [] ⟨Eo,Hg,trivial⟩) Tryz.func169 rfl fun x y=>by kernel_rfl
def LX:Kn:=kn 87 [3,0] [.rp q39 0,.one q3] [] [] G.HY fun y=>⟨[.ag [⟨q3,y.2.1⟩,⟨q9,y.2.2.1⟩,⟨q14,y.2.2.2⟩],.one ⟨q0,y.1⟩],[],[]⟩
theorem S4:Ko LX:=Ac (J:=[(.r,⟨[q0,q3,q9,q14],[(4,.pl 4 0),(5,.one (.h 0))],[(4,[.h 1,.vw 196750,.vw 196751])],[(196750,2),(196751,3)],[],[]⟩)]) (ann:=.seq .nil (.seq .nil (.seq (.seq .nil (.block [] (.loop ⟨[q3,q3,q3,q40,q3,q3,q9,q14],[(1,.one (.h 0)),(2,.pl 2 0),(4,.pl 4 0),(6,.pl 6 0),(20,.one (.h 1)),(21,.one (.h 2))],[(2,[.h 3]),(4,[.h 4,.nil,.nil]),(6,[.h 5,.vw 196608,.vw 196609])],[(196608,6),(196609,7)],[],[]⟩ [(.x 0,⟨[q3,q40,q3,q3,q9,q14],[(1,.one (.h 0)),(2,.pl 2 0),(4,.pl 4 0),(6,.pl 6 0)],[(2,[.h 1]),(4,[.h 2,.nil,.nil]),(6,[.h 3,.vw 196672,.vw 196673])],[(196672,4),(196673,5)],[],[]⟩)] .nil))) (.seq .nil (.seq .nil (.seq (.seq (.reg [(.n,⟨[q9,q0,q40,q3,q3,q9,q14],[(2,.pl 2 0),(4,.pl 4 0),(6,.pl 6 0),(8,.one (.vw 196674)),(44,.one (.h 1))],[(2,[.h 2]),(4,[.h 3,.nil,.nil]),(6,[.h 4,.vw 196675,.vw 196676])],[(196674,0),(196675,5),(196676,6)],[],[]⟩)]) .nil) (.seq (.seq .nil (.block [] (.loop ⟨[q9,q3,q3,q40,q3,q3,q9,q14],[(2,.pl 2 0),(4,.pl 4 0),(6,.pl 6 0),(8,.one (.vw 196677)),(46,.one (.vw 196677)),(47,.one (.h 1)),(48,.one (.h 2))],[(2,[.h 3]),(4,[.h 4,.nil,.nil]),(6,[.h 5,.vw 196678,.vw 196679])],[(196677,0),(196678,6),(196679,7)],[],[]⟩ [(.x 2,⟨[q3,q3,q9,q14],[(4,.pl 4 0),(6,.pl 6 0)],[(4,[.h 0,.nil,.nil]),(6,[.h 1,.vw 196748,.vw 196749])],[(196748,2),(196749,3)],[],[]⟩),(.r,⟨[q0,q3],[(4,.pl 4 0),(5,.one (.h 0))],[(4,[.h 1,.nil,.nil])],[],[],[]⟩)] (.seq .nil (.seq .nil (.seq (.block [(.n,⟨[q9,q3,q3,q40,q3,q3,q9,q14],[(2,.pl 2 0),(4,.pl 4 0),(6,.pl 6 0),(8,.one (.vw 196745)),(46,.one (.vw 196745)),(47,.one (.h 1)),(48,.one (.h 2))],[(2,[.h 3]),(4,[.h 4,.nil,.nil]),(6,[.h 5,.vw 196746,.vw 196747])],[(196745,0),(196746,6),(196747,7)],[],[]⟩),(.r,⟨[q0,q3],[(4,.pl 4 0),(5,.one (.h 0))],[(4,[.h 1,.nil,.nil])],[],[],[]⟩)] (.seq .nil (.seq .nil (.seq .nil (.seq (.seq (.reg [(.n,⟨[q9,q3,q3,q9,q3,q3,q0,q40,q3,q3,q9,q14],[(2,.pl 2 0),(4,.pl 4 0),(6,.pl 6 0),(8,.one (.vw 196741)),(10,.one (.h 1)),(11,.one (.h 2)),(12,.one (.vw 196742)),(46,.one (.vw 196741)),(47,.one (.h 4)),(48,.one (.h 5)),(78,.one (.h 6))],[(2,[.h 7]),(4,[.h 8,.nil,.nil]),(6,[.h 9,.vw 196743,.vw 196744])],[(196741,0),(196742,3),(196743,10),(196744,11)],[],[]⟩)]) .nil) .nil))))) .nil)))))) .nil))))))) (ln:=[]) (ek [L2,IJ,Cv,B0,EV] [] [] ⟨SI,LC,Dp,DP,Hg,trivial⟩) Tryz.func87 rfl fun x y=>by kernel_rfl
def Y9:Go.Shelf.Ren:=⟨fun x=>match x with | 14=>263 | 15=>264 | 20=>319 | 21=>320 | 22=>321 | 23=>322 | 24=>323 | 25=>324 | 26=>325 | 27=>326 | 28=>327 | 29=>328 | 46=>354 | 47=>355 | 48=>356 | 49=>357 | 50=>358 | 57=>375 | 6=>172 | n=>n,fun x=>match x with | 0=>0 | 22=>100 | 24=>99 | 25=>214 | 3=>3 | 39=>252 | 4=>4 | 45=>346 | 46=>347 | 5=>5 | 50=>206 | 53=>263 | 55=>332 | 66=>374 | 70=>378 | 76=>391 | 77=>70 | 9=>9 | n=>n,fun n=>n⟩
theorem Adn:Go.Proofs.SlLaysF0.n6 Tryz.prog Y9 where
 mixed:=by kernel_rfl
 f6:=⟨Tryz.f172.name,rfl,Tryz.func172.trans (congrArg some (by kernel_rfl))⟩
 f14:=⟨Tryz.f263.name,rfl,Tryz.func263.trans (congrArg some (by kernel_rfl))⟩
 f15:=Tryz.func264.trans (congrArg some (by kernel_rfl))
 f20:=⟨Tryz.f319.name,rfl,Tryz.func319.trans (congrArg some (by kernel_rfl))⟩
 f21:=⟨Tryz.f320.name,rfl,Tryz.func320.trans (congrArg some (by kernel_rfl))⟩
 f22:=⟨Tryz.f321.name,rfl,Tryz.func321.trans (congrArg some (by kernel_rfl))⟩
 f23:=⟨Tryz.f322.name,rfl,Tryz.func322.trans (congrArg some (by kernel_rfl))⟩
 f24:=⟨Tryz.f323.name,rfl,Tryz.func323.trans (congrArg some (by kernel_rfl))⟩
 f25:=⟨Tryz.f324.name,rfl,Tryz.func324.trans (congrArg some (by kernel_rfl))⟩
 f26:=⟨Tryz.f325.name,rfl,Tryz.func325.trans (congrArg some (by kernel_rfl))⟩
 f27:=⟨Tryz.f326.name,rfl,Tryz.func326.trans (congrArg some (by kernel_rfl))⟩
 f28:=Tryz.func327.trans (congrArg some (by kernel_rfl))
 f29:=Tryz.func328.trans (congrArg some (by kernel_rfl))
 f46:=⟨Tryz.f354.name,rfl,Tryz.func354.trans (congrArg some (by kernel_rfl))⟩
 f47:=Tryz.func355.trans (congrArg some (by kernel_rfl))
 f48:=Tryz.func356.trans (congrArg some (by kernel_rfl))
 f49:=⟨Tryz.f357.name,rfl,Tryz.func357.trans (congrArg some (by kernel_rfl))⟩
 f50:=⟨Tryz.f358.name,rfl,Tryz.func358.trans (congrArg some (by kernel_rfl))⟩
 f57:=⟨Tryz.f375.name,rfl,Tryz.func375.trans (congrArg some (by kernel_rfl))⟩
 t0:=Tryz.underlying0
 a0:=Tryz.isAgg0
 z0:=Tryz.sizeOf0
 v0:=Tryz.zeroValue0
 t3:=Tryz.underlying3
 a3:=Tryz.isAgg3
 z3:=Tryz.sizeOf3
 v3:=Tryz.zeroValue3
 t4:=Tryz.underlying4
 a4:=Tryz.isAgg4
 z4:=Tryz.sizeOf4
 v4:=Tryz.zeroValue4
 t5:=Tryz.underlying5
 a5:=Tryz.isAgg5
 z5:=Tryz.sizeOf5
 v5:=Tryz.zeroValue5
 t9:=Tryz.underlying9
 a9:=Tryz.isAgg9
 z9:=Tryz.sizeOf9
 v9:=Tryz.zeroValue9
 t22:=Tryz.underlying100
 a22:=Tryz.isAgg100
 z22:=Tryz.sizeOf100
 v22:=Tryz.zeroValue100
 t25:=Tryz.underlying214
 a25:=Tryz.isAgg214
 z25:=Tryz.sizeOf214
 v25:=Tryz.zeroValue214
 t39:=Tryz.underlying252
 a39:=Tryz.isAgg252
 z39:=Tryz.sizeOf252
 v39:=Tryz.zeroValue252
 t45:=Tryz.underlying346
 a45:=Tryz.isAgg346
 z45:=Tryz.sizeOf346
 v45:=Tryz.zeroValue346
 t46:=Tryz.underlying347
 a46:=Tryz.isAgg347
 z46:=Tryz.sizeOf347
 v46:=Tryz.zeroValue347
 t50:=Tryz.underlying206
 a50:=Tryz.isAgg206
 z50:=Tryz.sizeOf206
 v50:=Tryz.zeroValue206
 t53:=Tryz.underlying263
 a53:=Tryz.isAgg263
 z53:=Tryz.sizeOf263
 v53:=Tryz.zeroValue263
 t55:=Tryz.underlying332
 a55:=Tryz.isAgg332
 z55:=Tryz.sizeOf332
 v55:=Tryz.zeroValue332
 t66:=Tryz.underlying374
 a66:=Tryz.isAgg374
 z66:=Tryz.sizeOf374
 v66:=Tryz.zeroValue374
 t70:=Tryz.underlying378
 a70:=Tryz.isAgg378
 z70:=Tryz.sizeOf378
 v70:=Tryz.zeroValue378
 t76:=Tryz.underlying391
 a76:=Tryz.isAgg391
 z76:=Tryz.sizeOf391
 v76:=Tryz.zeroValue391
 t77:=Tryz.underlying70
 a77:=Tryz.isAgg70
 z77:=Tryz.sizeOf70
 v77:=Tryz.zeroValue70
set_option maxHeartbeats 1000000 in
theorem Abc (x y:Int×Int) (W:World):Calls Tryz.prog 173 #[.agg #[AD x.1,AD x.2],.agg #[AD y.1,AD y.2]] W fun e w'=>e=.returned (.int .i64 (Go.RowKit.wrap64 (x.1 - y.1)))∧∃ q os',w'=Go.Sort.grow (W.drewN q) os':=by
 unfold AD
 go_enter Tryz.func173,Tryz.ntmps173
 go_wp2
 go_ret
 exact ⟨rfl,0,_,by rw [Go.Sort.alloc_eq_grow,Go.Sort.alloc_eq_grow,Go.Sort.grow_grow]; rfl⟩
def Ar:Kn:=⟨172,[2,0],fun args rows=>match args,rows with
 | [.one ⟨.sl true 99 (.pair (.int .i64) (.int .i64)),x0⟩,.fv 173 []],[]=>some ⟨_,G.Af x0,fun y=>⟨[],[],[((0,0),⟨.sl true 99 (.pair (.int .i64) (.int .i64)),y⟩)]⟩⟩
 | _,_=>none,[]⟩
theorem BA:LT Tryz.prog Ar:=by
 intro args rows a h y hy
 simp only [Ar] at h
 split at h
 ·injection h with h
  subst h
  exact SH Adn Tryz.isAgg99 Tryz.sizeOf99 173 (enters_of Tryz.func173 (by kernel_rfl) rfl) Abc (fun fn h=>by
   have e:=(Tryz.func172).symm.trans h
   injection e with e
   subst e
   exact ⟨rfl,rfl⟩) hy
 ·cases h
def Ei:Kn:=kn 265 [0] [.one q11] [] [] G.BT fun y=>⟨[.one ⟨q9,y⟩],[],[]⟩
theorem GA:Ko Ei:=Ac (J:=[(.r,⟨[q9],[(2,.one (.vw 110593))],[],[(110593,0)],[],[]⟩)]) (ann:=.seq .nil (.both [(.r,⟨[q9],[(2,.one (.vw 110592))],[],[(110592,0)],[],[]⟩)] .nil .nil .nil .nil .nil)) (ln:=[]) (ek [] [] [] trivial) Tryz.func265 rfl fun x y=>by kernel_rfl
def Nr:Kn:=kn 174 [0,0] [.ag [q3,q11,q16],.one q22] [] [] G.Fh fun y=>⟨[.one ⟨q3,y⟩],[],[]⟩
theorem UC:Ko Nr:=Ac (J:=[(.r,⟨[q3],[(4,.one (.h 0))],[],[],[],[]⟩)]) (ann:=.seq .nil (.seq .nil (.seq .nil (.seq (.seq .nil (.block [] (.loop ⟨[q22,q3,q0,q3,q3,q11,q16],[(1,.one (.h 0)),(2,.pl 2 0),(5,.one (.h 1)),(6,.one (.h 2)),(15,.one (.h 3))],[(2,[.h 4,.h 5,.h 6])],[],[],[]⟩ [(.x 0,⟨[q3,q0],[(5,.one (.h 0)),(6,.one (.h 1))],[],[],[],[]⟩)] (.seq .nil (.seq .nil (.seq (.block [] (.seq .nil (.seq .nil (.seq (.seq .nil (.block [] (.loop ⟨[q22,q3,q0,q3,q9,q0,q3,q22,q3,q3,q3,q11,q16],[(1,.one (.h 0)),(2,.pl 2 0),(5,.one (.h 1)),(6,.one (.h 2)),(7,.one (.h 3)),(8,.one (.vw 165952)),(9,.one (.h 5)),(15,.one (.h 6)),(24,.one (.h 7)),(25,.one (.h 8)),(26,.one (.h 9))],[(2,[.h 10,.h 11,.h 12])],[(165952,4)],[],[]⟩ [(.x 2,⟨[q22,q3,q0,q9,q0,q3,q3,q11,q16],[(1,.one (.h 0)),(2,.pl 2 0),(5,.one (.h 1)),(6,.one (.h 2)),(8,.one (.vw 166017)),(9,.one (.h 4)),(15,.one (.h 5))],[(2,[.h 6,.h 7,.h 8])],[(166017,3)],[],[]⟩)] (.seq .nil (.seq .nil (.seq (.block [] (.seq .nil (.seq .nil (.cond [(.n,⟨[q22,q3,q0,q3,q9,q0,q3,q22,q3,q3,q3,q11,q16],[(1,.one (.h 0)),(2,.pl 2 0),(5,.one (.h 1)),(6,.one (.h 2)),(7,.one (.h 3)),(8,.one (.vw 166016)),(9,.one (.h 5)),(15,.one (.h 6)),(24,.one (.h 7)),(25,.one (.h 8)),(26,.one (.h 9))],[(2,[.h 10,.h 11,.h 12])],[(166016,4)],[],[]⟩)] .nil .nil)))) .nil)))))) (.seq (.reg [(.n,⟨[q22,q3,q0,q9,q0,q3,q3,q11,q16],[(1,.one (.h 0)),(2,.pl 2 0),(5,.one (.h 1)),(6,.one (.h 2)),(8,.one (.vw 166018)),(9,.one (.h 4)),(15,.one (.h 5))],[(2,[.h 6,.h 7,.h 8])],[(166018,3)],[],[]⟩)]) (.seq (.reg [(.n,⟨[q22,q3,q0,q3,q0,q3,q11,q16],[(1,.one (.h 0)),(2,.pl 2 0),(5,.one (.h 1)),(6,.one (.h 2)),(15,.one (.h 3)),(54,.one (.h 4))],[(2,[.h 5,.h 6,.h 7])],[],[],[]⟩)]) (.cond [(.n,⟨[q22,q3,q0,q3,q3,q11,q16],[(1,.one (.h 0)),(2,.pl 2 0),(5,.one (.h 1)),(6,.one (.h 2)),(15,.one (.h 3))],[(2,[.h 4,.h 5,.h 6])],[],[],[]⟩)] .nil .nil))))))) .nil)))))) (.seq (.seq .nil (.cond [(.n,⟨[q3],[(5,.one (.h 0))],[],[],[],[]⟩)] .nil .nil)) .nil))))) (ln:=[]) (ek [Ei,IJ] [] [] ⟨GA,LC,trivial⟩) Tryz.func174 rfl fun x y=>by kernel_rfl
def GM:Kn:=kn 267 [0,0,0,0] [.pl 0 0,.one q3,.one q1,.one q11] [[.v q13,.v q7,.v q9,.v q9]] [] G.BR fun y=>⟨[],[[⟨q13,y.1⟩,⟨q7,y.2.1⟩,⟨q9,y.2.2.1⟩,⟨q9,y.2.2.2⟩]],[]⟩
theorem LH:Ko GM:=Ac (J:=[(.r,⟨[q13,q7,q9,q9],[],[(30,[.vw 132165,.vw 132166,.vw 132167,.vw 132168])],[(132165,0),(132166,1),(132167,2),(132168,3)],[],[]⟩)]) (ann:=.seq .nil (.seq (.seq .nil (.block [] (.loop ⟨[q3,q7,q11,q3,q3,q13,q7,q9,q9],[(0,.pl 30 0),(1,.one (.h 0)),(8,.one (.vw 132096)),(13,.one (.h 2)),(14,.one (.h 3)),(15,.one (.h 4))],[(30,[.vw 132097,.vw 132098,.vw 132099,.vw 132100])],[(132096,1),(132097,5),(132098,6),(132099,7),(132100,8)],[],[]⟩ [(.x 0,⟨[q3,q7,q13,q7,q9,q9],[(0,.pl 30 0),(1,.one (.h 0)),(8,.one (.vw 132160))],[(30,[.vw 132161,.vw 132162,.vw 132163,.vw 132164])],[(132160,1),(132161,2),(132162,3),(132163,4),(132164,5)],[],[]⟩)] .nil))) .nil)) (ln:=[]) (ek [JV,D3,Cn] [] [] ⟨Mu,ER,C7,trivial⟩) Tryz.func267 rfl fun x y=>by kernel_rfl
def If:Kn:=kn 268 [0,0] [.pl 0 0,.one q3] [[.v q13,.v q7,.v q9,.v q9]] [] G.Gy fun y=>⟨[],[[⟨q13,y.1⟩,⟨q7,y.2.1⟩,⟨q9,y.2.2.1⟩,⟨q9,y.2.2.2⟩]],[]⟩
theorem NU:Ko If:=Ac (J:=[(.r,⟨[q13,q7,q9,q9],[],[(14,[.vw 115712,.vw 115713,.vw 115714,.vw 115715])],[(115712,0),(115713,1),(115714,2),(115715,3)],[],[]⟩)]) (ann:=.nil) (ln:=[]) (ek [JJ] [] [] ⟨Ni,trivial⟩) Tryz.func268 rfl fun x y=>by kernel_rfl
def I7:Kn:=kn 175 [0,0,0] [.pl 0 0,.ag [q3,q11,q16],.one q22] [[.v q13,.v q7,.v q9,.v q9]] [] G.Bb fun y=>⟨[.one ⟨q3,y.1⟩,.one ⟨q0,y.2.1⟩],[[⟨q13,y.2.2.1⟩,⟨q7,y.2.2.2.1⟩,⟨q9,y.2.2.2.2.1⟩,⟨q9,y.2.2.2.2.2⟩]],[]⟩
theorem OS:Ko I7:=Ac (J:=[(.r,⟨[q3,q0,q13,q7,q9,q9],[(6,.one (.h 0)),(7,.one (.h 1))],[(154,[.vw 259390,.vw 259391,.vw 259392,.vw 259393])],[(259390,2),(259391,3),(259392,4),(259393,5)],[],[]⟩)]) (ann:=.seq .nil (.seq .nil (.seq .nil (.seq (.seq .nil (.block [] (.loop ⟨[q22,q9,q14,q9,q3,q3,q3,q11,q16,q13,q7,q9,q9],[(0,.pl 154 0),(2,.one (.h 0)),(4,.pl 4 0),(8,.one (.vw 259072)),(9,.one (.vw 259073)),(10,.one (.vw 259074)),(35,.one (.h 4)),(36,.one (.h 5))],[(4,[.h 6,.h 7,.h 8]),(154,[.vw 259075,.vw 259076,.vw 259077,.vw 259078])],[(259072,1),(259073,2),(259074,3),(259075,9),(259076,10),(259077,11),(259078,12)],[],[]⟩ [(.x 0,⟨[q22,q9,q14,q9,q3,q11,q16,q13,q7,q9,q9],[(0,.pl 154 0),(2,.one (.h 0)),(4,.pl 4 0),(8,.one (.vw 259136)),(9,.one (.vw 259137)),(10,.one (.vw 259138))],[(4,[.h 4,.h 5,.h 6]),(154,[.vw 259139,.vw 259140,.vw 259141,.vw 259142])],[(259136,1),(259137,2),(259138,3),(259139,7),(259140,8),(259141,9),(259142,10)],[],[]⟩)] .nil))) (.seq (.seq .nil (.block [] (.loop ⟨[q9,q14,q9,q22,q3,q3,q3,q11,q16,q13,q7,q9,q9],[(0,.pl 154 0),(4,.pl 4 0),(8,.one (.vw 259143)),(9,.one (.vw 259144)),(10,.one (.vw 259145)),(49,.one (.h 3)),(50,.one (.h 4)),(51,.one (.h 5))],[(4,[.h 6,.h 7,.h 8]),(154,[.vw 259146,.vw 259147,.vw 259148,.vw 259149])],[(259143,0),(259144,1),(259145,2),(259146,9),(259147,10),(259148,11),(259149,12)],[],[]⟩ [(.x 2,⟨[q9,q14,q9,q3,q11,q16,q13,q7,q9,q9],[(0,.pl 154 0),(4,.pl 4 0),(8,.one (.vw 259207)),(9,.one (.vw 259208)),(10,.one (.vw 259209))],[(4,[.h 3,.h 4,.h 5]),(154,[.vw 259210,.vw 259211,.vw 259212,.vw 259213])],[(259207,0),(259208,1),(259209,2),(259210,6),(259211,7),(259212,8),(259213,9)],[],[]⟩)] .nil))) (.seq .nil (.seq (.seq .nil (.block [] (.loop ⟨[q9,q14,q9,q9,q3,q3,q3,q11,q16,q13,q7,q9,q9],[(0,.pl 154 0),(4,.pl 4 0),(8,.one (.vw 259214)),(9,.one (.vw 259215)),(14,.one (.vw 259216)),(74,.one (.vw 259217)),(75,.one (.h 4)),(76,.one (.h 5))],[(4,[.h 6,.h 7,.h 8]),(154,[.vw 259218,.vw 259219,.vw 259220,.vw 259221])],[(259214,0),(259215,1),(259216,2),(259217,3),(259218,9),(259219,10),(259220,11),(259221,12)],[],[]⟩ [(.x 4,⟨[q9,q9,q3,q11,q16,q13,q7,q9,q9],[(0,.pl 154 0),(4,.pl 4 0),(8,.one (.vw 259298)),(14,.one (.vw 259299))],[(4,[.h 2,.h 3,.h 4]),(154,[.vw 259300,.vw 259301,.vw 259302,.vw 259303])],[(259298,0),(259299,1),(259300,5),(259301,6),(259302,7),(259303,8)],[],[]⟩),(.r,⟨[q3,q0,q13,q7,q9,q9],[(6,.one (.h 0)),(7,.one (.h 1))],[(154,[.vw 259304,.vw 259305,.vw 259306,.vw 259307])],[(259304,2),(259305,3),(259306,4),(259307,5)],[],[]⟩)] (.seq .nil (.seq .nil (.seq (.block [(.n,⟨[q9,q14,q9,q9,q3,q3,q3,q11,q16,q13,q7,q9,q9],[(0,.pl 154 0),(4,.pl 4 0),(8,.one (.vw 259286)),(9,.one (.vw 259287)),(14,.one (.vw 259288)),(74,.one (.vw 259289)),(75,.one (.h 4)),(76,.one (.h 5))],[(4,[.h 6,.h 7,.h 8]),(154,[.vw 259290,.vw 259291,.vw 259292,.vw 259293])],[(259286,0),(259287,1),(259288,2),(259289,3),(259290,9),(259291,10),(259292,11),(259293,12)],[],[]⟩),(.r,⟨[q3,q0,q13,q7,q9,q9],[(6,.one (.h 0)),(7,.one (.h 1))],[(154,[.vw 259294,.vw 259295,.vw 259296,.vw 259297])],[(259294,2),(259295,3),(259296,4),(259297,5)],[],[]⟩)] (.seq .nil (.seq (.seq .nil (.cond [(.n,⟨[q9,q14,q9,q3,q9,q3,q3,q3,q11,q16,q13,q7,q9,q9],[(0,.pl 154 0),(4,.pl 4 0),(8,.one (.vw 259278)),(9,.one (.vw 259279)),(14,.one (.vw 259280)),(16,.one (.h 3)),(74,.one (.vw 259281)),(75,.one (.h 5)),(76,.one (.h 6))],[(4,[.h 7,.h 8,.h 9]),(154,[.vw 259282,.vw 259283,.vw 259284,.vw 259285])],[(259278,0),(259279,1),(259280,2),(259281,4),(259282,10),(259283,11),(259284,12),(259285,13)],[],[]⟩)] .nil .nil)) .nil))) .nil)))))) (.seq .nil (.seq (.seq .nil (.cond [(.n,⟨[q9,q3,q3,q11,q16,q13,q7,q9,q9],[(0,.pl 154 0),(4,.pl 4 0),(14,.one (.vw 259308)),(19,.one (.h 1))],[(4,[.h 2,.h 3,.h 4]),(154,[.vw 259309,.vw 259310,.vw 259311,.vw 259312])],[(259308,0),(259309,5),(259310,6),(259311,7),(259312,8)],[],[]⟩),(.r,⟨[q3,q0,q13,q7,q9,q9],[(6,.one (.h 0)),(7,.one (.h 1))],[(154,[.vw 259313,.vw 259314,.vw 259315,.vw 259316])],[(259313,2),(259314,3),(259315,4),(259316,5)],[],[]⟩)] .nil .nil)) (.seq (.seq .nil (.cond [(.n,⟨[q9,q3,q13,q7,q9,q9],[(0,.pl 154 0),(14,.one (.vw 259317)),(19,.one (.h 1))],[(154,[.vw 259318,.vw 259319,.vw 259320,.vw 259321])],[(259317,0),(259318,2),(259319,3),(259320,4),(259321,5)],[],[]⟩)] .nil .nil)) (.seq (.seq .nil (.block [] (.loop ⟨[q3,q9,q3,q3,q13,q7,q9,q9],[(0,.pl 154 0),(19,.one (.h 0)),(142,.one (.vw 259322)),(143,.one (.h 2)),(144,.one (.h 3))],[(154,[.vw 259323,.vw 259324,.vw 259325,.vw 259326])],[(259322,1),(259323,4),(259324,5),(259325,6),(259326,7)],[],[]⟩ [(.x 6,⟨[q3,q13,q7,q9,q9],[(19,.one (.h 0))],[(154,[.vw 259386,.vw 259387,.vw 259388,.vw 259389])],[(259386,1),(259387,2),(259388,3),(259389,4)],[],[]⟩)] .nil))) .nil))))))))))) (ln:=[]) (ek [Ei,JJ,IJ,DN,GM,If] [] [] ⟨GA,Ni,LC,Fj,LH,NU,trivial⟩) Tryz.func175 rfl fun x y=>by kernel_rfl
def Gu:Kn:=kn 88 [0,0] [.pl 0 0,.ag [q3,q11,q16]] [[.v q13,.v q7,.v q9,.v q9,.v q18,.v q0,.v q3,.v q0]] [] G.Bf fun y=>⟨[.one ⟨q3,y.1⟩],[[⟨q13,y.2.1⟩,⟨q7,y.2.2.1⟩,⟨q9,y.2.2.2.1⟩,⟨q9,y.2.2.2.2.1⟩,⟨q18,y.2.2.2.2.2.1⟩,⟨q0,y.2.2.2.2.2.2.1⟩,⟨q3,y.2.2.2.2.2.2.2.1⟩,⟨q0,y.2.2.2.2.2.2.2.2⟩]],[]⟩
theorem KG:Ko Gu:=Ac (J:=[(.r,⟨[q3,q13,q7,q9,q9,q18,q0,q3,q0],[(4,.one (.h 0))],[(54,[.vw 156677,.vw 156678,.vw 156679,.vw 156680,.vw 156681,.h 6,.h 7,.h 8])],[(156677,1),(156678,2),(156679,3),(156680,4),(156681,5)],[],[]⟩)]) (ann:=.seq .nil (.seq .nil (.seq (.seq .nil (.seq (.reg [(.n,⟨[q0,q3,q11,q16,q13,q7,q9,q9,q18,q0,q3,q0],[(0,.pl 54 0),(3,.pl 3 0),(34,.one (.h 0))],[(3,[.h 1,.h 2,.h 3]),(54,[.vw 156672,.vw 156673,.vw 156674,.vw 156675,.vw 156676,.h 9,.h 10,.h 11])],[(156672,4),(156673,5),(156674,6),(156675,7),(156676,8)],[],[]⟩)]) .nil)) .nil))) (ln:=[]) (ek [Ar,Nr,I7] [] [] ⟨BA,UC,OS,trivial⟩) Tryz.func88 rfl fun x y=>by kernel_rfl
end
end Go.Proofs.YtofhefmbioblbaaGreat
set_option maxRecDepth 100000
namespace Go.Proofs.YtofhefmbioblbaaGreat
open Go.V
noncomputable section
def Nu:Kn:=kn 269 [0,0] [.one q3,.one q3] [] [] G.LJ fun y=>⟨[.one ⟨q0,y⟩],[],[]⟩
theorem UZ:Ko Nu:=Ac (J:=[(.r,⟨[q0],[(4,.one (.h 0))],[],[],[],[]⟩)]) (ann:=.seq .nil (.seq (.reg [(.n,⟨[q0],[(4,.one (.h 0))],[],[],[],[]⟩)]) .nil)) (ln:=[]) (ek [] [] [] trivial) Tryz.func269 rfl fun x y=>by kernel_rfl
def P5:Kn:=kn 270 [0] [.one q3] [] [] G.KT fun y=>⟨[.one ⟨q0,y⟩],[],[]⟩
theorem Xd:Ko P5:=Ac (J:=[(.r,⟨[q0],[(2,.one (.h 0))],[],[],[],[]⟩)]) (ann:=.nil) (ln:=[]) (ek [C4] [] [] ⟨Dr,trivial⟩) Tryz.func270 rfl fun x y=>by kernel_rfl
def MW:Kn:=kn 331 [0,0] [.one q2,.one q8] [] [] G.Kc fun y=>⟨[.one ⟨q2,y⟩],[],[]⟩
theorem QY:Ko MW:=Ac (J:=[(.r,⟨[q2],[(4,.one (.h 0))],[],[],[],[]⟩)]) (ann:=.seq .nil (.seq (.seq .nil (.block [] (.loop ⟨[q2,q8,q3,q3],[(0,.one (.h 0)),(7,.one (.h 1)),(8,.one (.h 2)),(9,.one (.h 3))],[],[],[],[]⟩ [(.x 0,⟨[q2],[(0,.one (.h 0))],[],[],[],[]⟩)] .nil))) .nil)) (ln:=[]) (ek [] [] [] trivial) Tryz.func331 rfl fun x y=>by kernel_rfl
def J7:Kn:=kn 272 [0] [.one q8] [] [] G.H1 fun y=>⟨[.one ⟨q2,y⟩],[],[]⟩
theorem Oc:Ko J7:=Ac (J:=[(.r,⟨[q2],[(2,.one (.h 0))],[],[],[],[]⟩)]) (ann:=.nil) (ln:=[]) (ek [MW] [] [] ⟨QY,trivial⟩) Tryz.func272 rfl fun x y=>by kernel_rfl
def QP:Kn:=kn 271 [0] [.one q2] [] [] G.Q8 fun y=>⟨[.one ⟨q7,y⟩],[],[]⟩
theorem VY:Ko QP:=Ac (J:=[(.r,⟨[q7],[(2,.one (.vw 117760))],[],[(117760,0)],[],[]⟩)]) (ann:=.nil) (ln:=[]) (ek [] [] [] trivial) Tryz.func271 rfl fun x y=>by kernel_rfl
def Mf:Kn:=kn 176 [0] [.ag [q3,q3,q3,q3,q3]] [] [] G.HQ fun y=>⟨[.one ⟨q7,y.1⟩,.one ⟨q0,y.2⟩],[],[]⟩
theorem SQ:Ko Mf:=Ac (J:=[(.r,⟨[q7,q0],[(2,.one (.vw 157696)),(3,.one (.h 1))],[],[(157696,0)],[],[]⟩)]) (ann:=.seq .nil (.seq (.seq (.reg [(.n,⟨[q0,q3,q3,q3,q3,q3],[(1,.pl 1 0),(28,.one (.h 0))],[(1,[.h 1,.h 2,.h 3,.h 4,.h 5])],[],[],[]⟩)]) .nil) .nil)) (ln:=[]) (ek [Nu,C4,P5,JV,D3,J7,QP] [] [] ⟨UZ,Dr,Xd,Mu,ER,Oc,VY,trivial⟩) Tryz.func176 rfl fun x y=>by kernel_rfl
def Lb:Kn:=kn 177 [3,0] [.rp q39 0,.one q8] [] [] G.GW fun y=>⟨[.one ⟨q25,y.1⟩,.one ⟨q0,y.2⟩],[],[]⟩
theorem Q9:Ko Lb:=Ac (J:=[(.r,⟨[q25,q0],[(4,.one (.vw 182403)),(5,.one (.h 1))],[],[(182403,0)],[],[]⟩)]) (ann:=.seq .nil (.seq .nil (.seq (.seq .nil (.block [] (.loop ⟨[q39,q8,q7,q11,q3,q3],[(0,.rp 0 0),(1,.one (.h 1)),(6,.one (.vw 182272)),(20,.one (.h 3)),(21,.one (.h 4)),(22,.one (.h 5))],[],[(182272,2)],[],[]⟩ [(.x 0,⟨[q39,q8,q7],[(0,.rp 0 0),(1,.one (.h 1)),(6,.one (.vw 182336))],[],[(182336,2)],[],[]⟩)] .nil))) (.seq .nil (.seq (.seq .nil (.block [] (.loop ⟨[q39,q25,q11,q3,q3],[(0,.rp 0 0),(9,.one (.vw 182337)),(47,.one (.h 2)),(48,.one (.h 3)),(49,.one (.h 4))],[],[(182337,1)],[],[]⟩ [(.x 2,⟨[q25],[(9,.one (.vw 182402))],[],[(182402,0)],[],[]⟩)] (.seq .nil (.seq .nil (.seq (.block [] (.seq .nil (.seq .nil (.cond [(.n,⟨[q39,q25,q11,q3,q3],[(0,.rp 0 0),(9,.one (.vw 182401)),(47,.one (.h 2)),(48,.one (.h 3)),(49,.one (.h 4))],[],[(182401,1)],[],[]⟩)] .nil .nil)))) .nil)))))) .nil))))) (ln:=[]) (ek [Ba,D3,Cv] [] [] ⟨Bs,ER,Dp,trivial⟩) Tryz.func177 rfl fun x y=>by kernel_rfl
def RI:Kn:=kn 274 [0] [.one q30] [] [] G.Nd fun y=>⟨[.one ⟨q7,y⟩],[],[]⟩
theorem YA:Ko RI:=Ac (J:=[(.r,⟨[q7],[(2,.one (.vw 147586))],[],[(147586,0)],[],[]⟩)]) (ann:=.seq .nil (.seq .nil (.seq (.seq .nil (.block [] (.loop ⟨[q30,q7,q30,q3,q3],[(0,.one (.h 0)),(3,.one (.vw 147456)),(13,.one (.h 2)),(14,.one (.h 3)),(15,.one (.h 4))],[],[(147456,1)],[],[]⟩ [(.x 0,⟨[q30,q7],[(0,.one (.h 0)),(3,.one (.vw 147520))],[],[(147520,1)],[],[]⟩)] .nil))) (.seq .nil (.seq .nil (.seq (.seq .nil (.block [] (.loop ⟨[q7,q2,q30,q3,q3],[(3,.one (.vw 147521)),(6,.one (.h 1)),(29,.one (.h 2)),(30,.one (.h 3)),(31,.one (.h 4))],[],[(147521,0)],[],[]⟩ [(.x 2,⟨[q7,q2],[(3,.one (.vw 147585)),(6,.one (.h 1))],[],[(147585,0)],[],[]⟩)] .nil))) .nil)))))) (ln:=[]) (ek [JV,D3,J7,MW,QP] [] [] ⟨Mu,ER,Oc,QY,VY,trivial⟩) Tryz.func274 rfl fun x y=>by kernel_rfl
def WL:Kn:=kn 213 [0] [.one q30] [] [] G.Vj fun y=>⟨[.one ⟨q25,y⟩],[],[]⟩
theorem Abq:Ko WL:=Ac (J:=[(.r,⟨[q25],[(2,.one (.vw 131137))],[],[(131137,0)],[],[]⟩)]) (ann:=.seq .nil (.seq .nil (.seq (.seq .nil (.block [] (.loop ⟨[q25,q30,q3,q3],[(3,.one (.vw 131072)),(7,.one (.h 1)),(8,.one (.h 2)),(9,.one (.h 3))],[],[(131072,0)],[],[]⟩ [(.x 0,⟨[q25],[(3,.one (.vw 131136))],[],[(131136,0)],[],[]⟩)] .nil))) .nil))) (ln:=[]) (ek [Ba] [] [] ⟨Bs,trivial⟩) Tryz.func213 rfl fun x y=>by kernel_rfl
def WY:Kn:=kn 179 [0] [.one q30] [] [] G.Sf fun y=>⟨[.one ⟨q25,y⟩],[],[]⟩
theorem AbO:Ko WY:=Ac (J:=[(.r,⟨[q25],[(2,.one (.vw 136257))],[],[(136257,0)],[],[]⟩)]) (ann:=.seq .nil (.seq .nil (.seq (.seq .nil (.block [] (.loop ⟨[q30,q25,q30,q3,q3],[(0,.one (.h 0)),(3,.one (.vw 136192)),(7,.one (.h 2)),(8,.one (.h 3)),(9,.one (.h 4))],[],[(136192,1)],[],[]⟩ [(.x 0,⟨[q30,q25],[(0,.one (.h 0)),(3,.one (.vw 136256))],[],[(136256,1)],[],[]⟩)] .nil))) .nil))) (ln:=[]) (ek [Ba,RI,WL] [] [] ⟨Bs,YA,Abq,trivial⟩) Tryz.func179 rfl fun x y=>by kernel_rfl
def J2:Kn:=kn 273 [0,0,0] [.pl 0 0,.one q3,.one q8] [[.v q13,.v q3,.v q0,.v q3]] [] G.Gp fun y=>⟨[.one ⟨q0,y.1⟩],[[⟨q13,y.2.1⟩,⟨q3,y.2.2.1⟩,⟨q0,y.2.2.2.1⟩,⟨q3,y.2.2.2.2⟩]],[]⟩
theorem Qt:Ko J2:=Ac (J:=[(.r,⟨[q0,q13,q3,q0,q3],[(6,.one (.h 0))],[(43,[.vw 145409,.h 2,.h 3,.h 4])],[(145409,1)],[],[]⟩)]) (ann:=.seq .nil (.seq .nil (.seq .nil (.seq .nil (.seq (.seq .nil (.cond [(.n,⟨[q13,q3,q0,q3],[],[(43,[.vw 145408,.h 1,.h 2,.h 3])],[(145408,0)],[],[]⟩)] .nil .nil)) .nil))))) (ln:=[]) (ek [Ba] [] [] ⟨Bs,trivial⟩) Tryz.func273 rfl fun x y=>by kernel_rfl
def Ie:Kn:=kn 178 [0,0] [.pl 0 0,.one q30] [[.v q13,.v q3,.v q0,.v q3]] [] G.Ep fun y=>⟨[.one ⟨q3,y.1⟩],[[⟨q13,y.2.1⟩,⟨q3,y.2.2.1⟩,⟨q0,y.2.2.2.1⟩,⟨q3,y.2.2.2.2⟩]],[]⟩
theorem NV:Ko Ie:=Ac (J:=[(.r,⟨[q3,q13,q3,q0,q3],[(4,.one (.h 0))],[(27,[.vw 129090,.h 2,.h 3,.h 4])],[(129090,1)],[],[]⟩)]) (ann:=.seq .nil (.seq .nil (.seq (.seq .nil (.block [] (.loop ⟨[q30,q3,q3,q13,q3,q0,q3],[(0,.pl 27 0),(12,.one (.h 0)),(13,.one (.h 1)),(14,.one (.h 2))],[(27,[.vw 129024,.h 4,.h 5,.h 6])],[(129024,3)],[],[]⟩ [(.x 0,⟨[q13,q3,q0,q3],[],[(27,[.vw 129088,.h 1,.h 2,.h 3])],[(129088,0)],[],[]⟩),(.r,⟨[q3,q13,q3,q0,q3],[(4,.one (.h 0))],[(27,[.vw 129089,.h 2,.h 3,.h 4])],[(129089,1)],[],[]⟩)] .nil))) .nil))) (ln:=[]) (ek [J2] [] [] ⟨Qt,trivial⟩) Tryz.func178 rfl fun x y=>by kernel_rfl
end
end Go.Proofs.YtofhefmbioblbaaGreat
set_option maxRecDepth 100000
namespace Go.Proofs.YtofhefmbioblbaaGreat
open Go.V
noncomputable section
def FS:Kn:=kn 89 [0,0,0] [.pl 0 0,.ag [q15,q3,q0,q3],.ag [q3,q3,q3,q3,q3]] [[.v q13,.v q7,.v q9,.v q9,.v q18,.v q0,.v q3,.v q0]] [] G.A6 fun y=>⟨[.ag [⟨q13,y.2.1⟩,⟨q3,y.2.2.1⟩,⟨q0,y.2.2.2.1⟩,⟨q3,y.2.2.2.2.1⟩],.one ⟨q3,y.1⟩],[[⟨q13,y.2.2.2.2.2.1⟩,⟨q7,y.2.2.2.2.2.2.1⟩,⟨q9,y.2.2.2.2.2.2.2.1⟩,⟨q9,y.2.2.2.2.2.2.2.2.1⟩,⟨q18,y.2.2.2.2.2.2.2.2.2.1⟩,⟨q0,y.2.2.2.2.2.2.2.2.2.2.1⟩,⟨q3,y.2.2.2.2.2.2.2.2.2.2.2.1⟩,⟨q0,y.2.2.2.2.2.2.2.2.2.2.2.2⟩]],[]⟩
theorem JZ:Ko FS:=Ac (J:=[(.r,⟨[q3,q13,q3,q0,q3,q13,q7,q9,q9,q18,q0,q3,q0],[(6,.pl 6 0),(7,.one (.h 0))],[(6,[.vw 147456,.h 2,.h 3,.h 4]),(45,[.vw 147457,.vw 147458,.vw 147459,.vw 147460,.vw 147461,.h 10,.h 11,.h 12])],[(147456,1),(147457,5),(147458,6),(147459,7),(147460,8),(147461,9)],[],[]⟩)]) (ann:=.nil) (ln:=[]) (ek [Ia,Mf,Lb,WY,Ie] [] [] ⟨K3,SQ,Q9,AbO,NV,trivial⟩) Tryz.func89 rfl fun x y=>by kernel_rfl
def Nk:Kn:=kn 20 [0,0,0] [.ag [q15,q3,q0,q3],.one q3,.ag [q3,.str,q23,q36]] [] [] G.B9 fun y=>⟨[.ag [⟨q13,y.2.1⟩,⟨q3,y.2.2.1⟩,⟨q0,y.2.2.2.1⟩,⟨q3,y.2.2.2.2⟩],.one ⟨q3,y.1⟩],[],[]⟩
theorem UL:Ko Nk:=Ac (J:=[(.r,⟨[q3,q13,q3,q0,q3],[(6,.pl 6 0),(7,.one (.h 0))],[(6,[.vw 207938,.h 2,.h 3,.h 4])],[(207938,1)],[],[]⟩)]) (ann:=.seq .nil (.seq (.block [] (.seq (.reg [(.n,⟨[q3,q0,q15,q3,q0,q3,q3,.str,q23,q36,q3,q0,q3],[(1,.one (.h 0)),(3,.pl 3 0),(5,.pl 5 0),(6,.pl 6 0),(14,.one (.h 1))],[(3,[.h 2,.h 3,.h 4,.h 5]),(5,[.h 6,.h 7,.h 8,.h 9]),(6,[.nil,.h 10,.h 11,.h 12])],[],[],[]⟩)]) .nil)) (.seq .nil (.seq (.seq .nil (.block [] (.loop ⟨[q3,q3,q15,q3,q0,q3,q3,.str,q23,q36,q3,q0,q3,q13,q7,q0,q3,q0],[(1,.one (.h 0)),(3,.pl 3 0),(5,.pl 5 0),(6,.pl 6 0),(8,.pl 52 0),(53,.one (.h 1))],[(3,[.h 2,.h 3,.h 4,.h 5]),(5,[.h 6,.h 7,.h 8,.h 9]),(6,[.nil,.h 10,.h 11,.h 12]),(52,[.vw 207872,.vw 207873,.nil,.nil,.nil,.h 15,.h 16,.h 17])],[(207872,13),(207873,14)],[],[]⟩ [(.x 1,⟨[q3,q15,q3,q0,q3,q3,.str,q23,q36,q3,q0,q3,q13,q7,q0,q3,q0],[(1,.one (.h 0)),(3,.pl 3 0),(5,.pl 5 0),(6,.pl 6 0),(8,.pl 52 0)],[(3,[.h 1,.h 2,.h 3,.h 4]),(5,[.h 5,.h 6,.h 7,.h 8]),(6,[.nil,.h 9,.h 10,.h 11]),(52,[.vw 207936,.vw 207937,.nil,.nil,.nil,.h 14,.h 15,.h 16])],[(207936,12),(207937,13)],[],[]⟩)] .nil))) .nil)))) (ln:=[]) (ek [Og,C4,KP,Ia,Iy,Hw,NS,Gt,LX,Gu,FS] [] [] ⟨WK,Dr,Rh,K3,Ml,L3,UV,KC,S4,KG,JZ,trivial⟩) Tryz.func20 rfl fun x y=>by kernel_rfl
def Qg:Kn:=kn 47 [0,0] [.one q8,.one q8] [] [] G.Lu fun y=>⟨[.one ⟨q0,y⟩],[],[]⟩
theorem Xu:Ko Qg:=Ac (J:=[(.r,⟨[q0],[(4,.one (.h 0))],[],[],[],[]⟩)]) (ann:=.seq .nil (.seq .nil (.seq (.seq .nil (.block [] (.loop ⟨[q8,q8,q3],[(0,.one (.h 0)),(1,.one (.h 1)),(5,.one (.h 2))],[],[],[],[]⟩ [(.x 0,⟨[],[],[],[],[],[]⟩),(.r,⟨[q0],[(4,.one (.h 0))],[],[],[],[]⟩)] .nil))) .nil))) (ln:=[]) (ek [] [] [] trivial) Tryz.func47 rfl fun x y=>by kernel_rfl
def OD:Kn:=kn 90 [0,0] [.one q15,.one q15] [] [] G.Jp fun y=>⟨[.one ⟨q0,y⟩],[],[]⟩
theorem WN:Ko OD:=Ac (J:=[(.r,⟨[q0],[(4,.one (.h 0))],[],[],[],[]⟩)]) (ann:=.seq .nil (.seq .nil (.seq (.seq .nil (.block [] (.loop ⟨[q15,q15,q3],[(0,.one (.h 0)),(1,.one (.h 1)),(5,.one (.h 2))],[],[],[],[]⟩ [(.x 0,⟨[],[],[],[],[],[]⟩),(.r,⟨[q0],[(4,.one (.h 0))],[],[],[],[]⟩)] .nil))) .nil))) (ln:=[]) (ek [Qg] [] [] ⟨Xu,trivial⟩) Tryz.func90 rfl fun x y=>by kernel_rfl
def Q4:Kn:=kn 21 [0,0] [.ag [q15,q3,q0,q3],.ag [q15,q3,q0,q3]] [] [] G.E0 fun y=>⟨[.one ⟨q0,y⟩],[],[]⟩
theorem Yy:Ko Q4:=Ac (J:=[(.r,⟨[q0],[(4,.one (.h 0))],[],[],[],[]⟩)]) (ann:=.nil) (ln:=[]) (ek [OD] [] [] ⟨WN,trivial⟩) Tryz.func21 rfl fun x y=>by kernel_rfl
def TU:Kn:=kn 180 [0,0] [.ag [q3,q3],.ag [q3,q3]] [] [] G.Po fun y=>⟨[.one ⟨q0,y⟩],[],[]⟩
theorem AaO:Ko TU:=Ac (J:=[(.r,⟨[q0],[(4,.one (.h 0))],[],[],[],[]⟩)]) (ann:=.nil) (ln:=[]) (ek [] [] [] trivial) Tryz.func180 rfl fun x y=>by kernel_rfl
def Rl:Kn:=kn 91 [0,0] [.one q23,.one q23] [] [] G.M5 fun y=>⟨[.one ⟨q0,y⟩],[],[]⟩
theorem Zf:Ko Rl:=Ac (J:=[(.r,⟨[q0],[(4,.one (.h 0))],[],[],[],[]⟩)]) (ann:=.seq .nil (.seq .nil (.seq (.seq .nil (.block [] (.loop ⟨[q23,q23,q3],[(0,.one (.h 0)),(1,.one (.h 1)),(5,.one (.h 2))],[],[],[],[]⟩ [(.x 0,⟨[],[],[],[],[],[]⟩),(.r,⟨[q0],[(4,.one (.h 0))],[],[],[],[]⟩)] .nil))) .nil))) (ln:=[]) (ek [TU] [] [] ⟨AaO,trivial⟩) Tryz.func91 rfl fun x y=>by kernel_rfl
def R4:Kn:=kn 111 [0,0] [.ag [q3,q3,.str],.ag [q3,q3,.str]] [] [] G.MN fun y=>⟨[.one ⟨q0,y⟩],[],[]⟩
theorem YG:Ko R4:=Ac (J:=[(.r,⟨[q0],[(4,.one (.h 0))],[],[],[],[]⟩)]) (ann:=.nil) (ln:=[]) (ek [] [] [] trivial) Tryz.func111 rfl fun x y=>by kernel_rfl
def PF:Kn:=kn 37 [0,0] [.one q31,.one q31] [] [] G.KR fun y=>⟨[.one ⟨q0,y⟩],[],[]⟩
theorem Xl:Ko PF:=Ac (J:=[(.r,⟨[q0],[(4,.one (.h 0))],[],[],[],[]⟩)]) (ann:=.seq .nil (.seq .nil (.seq (.seq .nil (.block [] (.loop ⟨[q31,q31,q3],[(0,.one (.h 0)),(1,.one (.h 1)),(5,.one (.h 2))],[],[],[],[]⟩ [(.x 0,⟨[],[],[],[],[],[]⟩),(.r,⟨[q0],[(4,.one (.h 0))],[],[],[],[]⟩)] .nil))) .nil))) (ln:=[]) (ek [R4] [] [] ⟨YG,trivial⟩) Tryz.func37 rfl fun x y=>by kernel_rfl
def Ol:Kn:=kn 181 [0,0] [.ag [q31],.ag [q31]] [] [] G.Jt fun y=>⟨[.one ⟨q0,y⟩],[],[]⟩
theorem W9:Ko Ol:=Ac (J:=[(.r,⟨[q0],[(4,.one (.h 0))],[],[],[],[]⟩)]) (ann:=.nil) (ln:=[]) (ek [PF] [] [] ⟨Xl,trivial⟩) Tryz.func181 rfl fun x y=>by kernel_rfl
def NG:Kn:=kn 92 [0,0] [.one q36,.one q36] [] [] G.IM fun y=>⟨[.one ⟨q0,y⟩],[],[]⟩
theorem UT:Ko NG:=Ac (J:=[(.r,⟨[q0],[(4,.one (.h 0))],[],[],[],[]⟩)]) (ann:=.seq .nil (.seq .nil (.seq (.seq .nil (.block [] (.loop ⟨[q36,q36,q3],[(0,.one (.h 0)),(1,.one (.h 1)),(5,.one (.h 2))],[],[],[],[]⟩ [(.x 0,⟨[],[],[],[],[],[]⟩),(.r,⟨[q0],[(4,.one (.h 0))],[],[],[],[]⟩)] .nil))) .nil))) (ln:=[]) (ek [Ol] [] [] ⟨W9,trivial⟩) Tryz.func92 rfl fun x y=>by kernel_rfl
end
end Go.Proofs.YtofhefmbioblbaaGreat
set_option maxRecDepth 100000
namespace Go.Proofs.YtofhefmbioblbaaGreat
open Go.V
noncomputable section
def NA:Kn:=kn 22 [0,0] [.ag [q3,.str,q23,q36],.ag [q3,.str,q23,q36]] [] [] G.GJ fun y=>⟨[.one ⟨q0,y⟩],[],[]⟩
theorem Uz:Ko NA:=Ac (J:=[(.r,⟨[q0],[(4,.one (.h 0))],[],[],[],[]⟩)]) (ann:=.nil) (ln:=[]) (ek [Rl,NG] [] [] ⟨Zf,UT,trivial⟩) Tryz.func22 rfl fun x y=>by kernel_rfl
def KK:Kn:=kn 48 [2,0] [.one q7,.one q3] [] [] G.G7 fun y=>⟨[.one ⟨q3,y.2⟩],[],[((0,0),⟨q7,y.1⟩)]⟩
theorem QZ:Ko KK:=Ac (J:=[(.r,⟨[q7,q3],[(0,.one (.vw 122945)),(4,.one (.h 1))],[],[(122945,0)],[],[]⟩)]) (ann:=.seq .nil (.seq (.seq .nil (.block [] (.loop ⟨[q7,q3,q3],[(0,.one (.vw 122880)),(1,.one (.h 1)),(5,.one (.h 2))],[],[(122880,0)],[],[]⟩ [(.x 0,⟨[q7,q3],[(0,.one (.vw 122944)),(1,.one (.h 1))],[],[(122944,0)],[],[]⟩)] .nil))) .nil)) (ln:=[(0,0)]) (ek [] [0] [] trivial) Tryz.func48 rfl fun x y=>by kernel_rfl
def Kx:Kn:=kn 93 [2,0] [.one q13,.one q3] [] [] G.Gd fun y=>⟨[.one ⟨q3,y.2⟩],[],[((0,0),⟨q13,y.1⟩)]⟩
theorem QI:Ko Kx:=Ac (J:=[(.r,⟨[q13,q3],[(0,.one (.vw 121921)),(4,.one (.h 1))],[],[(121921,0)],[],[]⟩)]) (ann:=.seq .nil (.seq (.seq .nil (.block [] (.loop ⟨[q13,q3,q3],[(0,.one (.vw 121856)),(1,.one (.h 1)),(5,.one (.h 2))],[],[(121856,0)],[],[]⟩ [(.x 0,⟨[q13,q3],[(0,.one (.vw 121920)),(1,.one (.h 1))],[],[(121920,0)],[],[]⟩)] .nil))) .nil)) (ln:=[(0,0)]) (ek [KK] [0] [] ⟨QZ,trivial⟩) Tryz.func93 rfl fun x y=>by kernel_rfl
def L7:Kn:=kn 23 [2,0] [.ag [q13,q3,q0,q3],.one q3] [] [] G.DL fun y=>⟨[.one ⟨q3,y.2.2.2.2⟩],[],[((0,0),⟨q13,y.1⟩)]⟩
theorem SS:Ko L7:=Ac (J:=[(.r,⟨[q13,q3,q0,q3,q3],[(0,.ag [.vw 112640,.h 1,.h 2,.h 3]),(4,.one (.h 4))],[],[(112640,0)],[],[]⟩)]) (ann:=.nil) (ln:=[(0,0)]) (ek [Kx] [0] [] ⟨QI,trivial⟩) Tryz.func23 rfl fun x y=>by kernel_rfl
def LW:Kn:=kn 94 [2,0] [.one q19,.one q3] [] [] G.HZ fun y=>⟨[.one ⟨q3,y.2⟩],[],[((0,0),⟨q19,y.1⟩)]⟩
theorem Sq:Ko LW:=Ac (J:=[(.r,⟨[q19,q3],[(0,.one (.vw 130113)),(4,.one (.h 1))],[],[(130113,0)],[],[]⟩)]) (ann:=.seq .nil (.seq (.seq .nil (.block [] (.loop ⟨[q19,q3,q3],[(0,.one (.vw 130048)),(1,.one (.h 1)),(5,.one (.h 2))],[],[(130048,0)],[],[]⟩ [(.x 0,⟨[q19,q3],[(0,.one (.vw 130112)),(1,.one (.h 1))],[],[(130112,0)],[],[]⟩)] .nil))) .nil)) (ln:=[(0,0)]) (ek [] [0] [] trivial) Tryz.func94 rfl fun x y=>by kernel_rfl
def O7:Kn:=kn 112 [0] [.one q3] [] [] G.Gm fun y=>⟨[.one ⟨.str,y⟩],[],[]⟩
theorem VC:Ko O7:=Ac (J:=[(.r,⟨[.str],[(2,.one (.h 0))],[],[],[],[]⟩)]) (ann:=.seq .nil (.seq .nil (.seq .nil (.seq (.block [] (.loop ⟨[q3,.str],[(0,.one (.h 0)),(3,.one (.h 1))],[],[],[],[]⟩ [(.x 0,⟨[.str],[(3,.one (.h 0))],[],[],[],[]⟩)] .nil)) .nil)))) (ln:=[]) (ek [] [] [] trivial) Tryz.func112 rfl fun x y=>by kernel_rfl
def KL:Kn:=kn 38 [2,0] [.one q26,.one q3] [] [] G.G9 fun y=>⟨[.one ⟨q3,y.2⟩],[],[((0,0),⟨q26,y.1⟩)]⟩
theorem Rv:Ko KL:=Ac (J:=[(.r,⟨[q26,q3],[(0,.one (.vw 138305)),(4,.one (.h 1))],[],[(138305,0)],[],[]⟩)]) (ann:=.seq .nil (.seq (.seq .nil (.block [] (.loop ⟨[q26,q3,q3],[(0,.one (.vw 138240)),(1,.one (.h 1)),(5,.one (.h 2))],[],[(138240,0)],[],[]⟩ [(.x 0,⟨[q26,q3],[(0,.one (.vw 138304)),(1,.one (.h 1))],[],[(138304,0)],[],[]⟩)] .nil))) .nil)) (ln:=[(0,0)]) (ek [O7] [0] [] ⟨VC,trivial⟩) Tryz.func38 rfl fun x y=>by kernel_rfl
def Jm:Kn:=kn 95 [2,0] [.one q35,.one q3] [] [] G.Fo fun y=>⟨[.one ⟨q3,y.2⟩],[],[((0,0),⟨q35,y.1⟩)]⟩
theorem PA:Ko Jm:=Ac (J:=[(.r,⟨[q35,q3],[(0,.one (.vw 122945)),(4,.one (.h 1))],[],[(122945,0)],[],[]⟩)]) (ann:=.seq .nil (.seq (.seq .nil (.block [] (.loop ⟨[q35,q3,q3],[(0,.one (.vw 122880)),(1,.one (.h 1)),(5,.one (.h 2))],[],[(122880,0)],[],[]⟩ [(.x 0,⟨[q35,q3],[(0,.one (.vw 122944)),(1,.one (.h 1))],[],[(122944,0)],[],[]⟩)] .nil))) .nil)) (ln:=[(0,0)]) (ek [KL] [0] [] ⟨Rv,trivial⟩) Tryz.func95 rfl fun x y=>by kernel_rfl
def Jo:Kn:=kn 24 [2,0] [.ag [q3,.str,q19,q35],.one q3] [] [] G.Ed fun y=>⟨[.one ⟨q3,y.2.2.2.2⟩],[],[((0,2),⟨q19,y.2.2.1⟩),((0,3),⟨q35,y.2.2.2.1⟩)]⟩
theorem Pz:Ko Jo:=Ac (J:=[(.r,⟨[q3,.str,q19,q35,q3],[(0,.ag [.h 0,.h 1,.vw 116736,.vw 116737]),(4,.one (.h 4))],[],[(116736,2),(116737,3)],[],[]⟩)]) (ann:=.nil) (ln:=[(0,2),(0,3)]) (ek [LW,Jm] [0] [] ⟨Sq,PA,trivial⟩) Tryz.func24 rfl fun x y=>by kernel_rfl
def NM:Kn:=kn 49 [0,0] [.one q8,.one q3] [] [] G.IO fun y=>⟨[.one ⟨q3,y⟩],[],[]⟩
theorem UM:Ko NM:=Ac (J:=[(.r,⟨[q3],[(4,.one (.h 0))],[],[],[],[]⟩)]) (ann:=.seq .nil (.seq (.seq .nil (.block [] (.loop ⟨[q8,q3,q3],[(0,.one (.h 0)),(1,.one (.h 1)),(5,.one (.h 2))],[],[],[],[]⟩ [(.x 0,⟨[q3],[(1,.one (.h 0))],[],[],[],[]⟩),(.r,⟨[q3],[(4,.one (.h 0))],[],[],[],[]⟩)] .nil))) .nil)) (ln:=[]) (ek [] [] [] trivial) Tryz.func49 rfl fun x y=>by kernel_rfl
def L6:Kn:=kn 96 [0,0] [.one q15,.one q3] [] [] G.H4 fun y=>⟨[.one ⟨q3,y⟩],[],[]⟩
theorem Tw:Ko L6:=Ac (J:=[(.r,⟨[q3],[(4,.one (.h 0))],[],[],[],[]⟩)]) (ann:=.seq .nil (.seq (.seq .nil (.block [] (.loop ⟨[q15,q3,q3],[(0,.one (.h 0)),(1,.one (.h 1)),(5,.one (.h 2))],[],[],[],[]⟩ [(.x 0,⟨[q3],[(1,.one (.h 0))],[],[],[],[]⟩),(.r,⟨[q3],[(4,.one (.h 0))],[],[],[],[]⟩)] .nil))) .nil)) (ln:=[]) (ek [NM] [] [] ⟨UM,trivial⟩) Tryz.func96 rfl fun x y=>by kernel_rfl
def OR:Kn:=kn 25 [0,0] [.ag [q15,q3,q0,q3],.one q3] [] [] G.Gk fun y=>⟨[.one ⟨q3,y⟩],[],[]⟩
theorem Vv:Ko OR:=Ac (J:=[(.r,⟨[q3],[(4,.one (.h 0))],[],[],[],[]⟩)]) (ann:=.nil) (ln:=[]) (ek [L6] [] [] ⟨Tw,trivial⟩) Tryz.func25 rfl fun x y=>by kernel_rfl
end
end Go.Proofs.YtofhefmbioblbaaGreat
set_option maxRecDepth 100000
namespace Go.Proofs.YtofhefmbioblbaaGreat
open Go.V
noncomputable section
def MP:Kn:=kn 3 [0,0,0] [.ag [q15,q3,q0,q3],.one q3,.ag [q3,.str,q24,q37]] [] [] G.Ec fun y=>⟨[.one ⟨q0,y⟩],[],[]⟩
theorem MA:Ko MP:=Ac (J:=[(.r,⟨[q0],[(6,.one (.h 0))],[],[],[],[]⟩)]) (ann:=.seq .nil (.seq .nil (.seq .nil (.seq .nil (.seq .nil (.seq .nil (.seq .nil (.seq .nil (.seq .nil (.seq .nil (.seq (.seq (.reg [(.n,⟨[q3,q3,q3,q0,q15,q3,q0,q3,q3,.str,q24,q37,q13,q3,q0,q3,q13,q3,q0,q3,q3,.str,q19,q35,q13,q3,q0,q3],[(1,.one (.h 0)),(3,.pl 3 0),(5,.pl 5 0),(8,.pl 8 0),(9,.one (.h 1)),(10,.pl 10 0),(11,.pl 11 0),(12,.pl 12 0),(13,.one (.h 2)),(57,.one (.h 3))],[(3,[.h 4,.h 5,.h 6,.h 7]),(5,[.h 8,.h 9,.h 10,.h 11]),(8,[.vw 229376,.h 13,.h 14,.h 15]),(10,[.vw 229377,.h 17,.h 18,.h 19]),(11,[.h 20,.h 21,.vw 229378,.vw 229379]),(12,[.vw 229380,.h 25,.h 26,.h 27])],[(229376,12),(229377,16),(229378,22),(229379,23),(229380,24)],[],[]⟩)]) .nil) (.seq .nil (.seq .nil (.seq .nil (.seq .nil (.seq .nil (.seq (.seq (.reg [(.n,⟨[q3,q3,q0,q15,q3,q0,q3,q3,.str,q24,q37,q13,q3,q0,q3,q13,q3,q0,q3],[(1,.one (.h 0)),(3,.pl 3 0),(5,.pl 5 0),(8,.pl 8 0),(9,.one (.h 1)),(12,.pl 12 0),(86,.one (.h 2))],[(3,[.h 3,.h 4,.h 5,.h 6]),(5,[.h 7,.h 8,.h 9,.h 10]),(8,[.vw 229381,.h 12,.h 13,.h 14]),(12,[.vw 229382,.h 16,.h 17,.h 18])],[(229381,11),(229382,15)],[],[]⟩)]) .nil) (.seq .nil (.seq .nil (.seq .nil (.seq .nil (.seq .nil (.seq .nil (.seq .nil (.seq (.seq (.reg [(.n,⟨[q3,q0,q13,q3,q0,q3],[(12,.pl 12 0),(15,.one (.h 0)),(115,.one (.h 1))],[(12,[.vw 229383,.h 3,.h 4,.h 5])],[(229383,2)],[],[]⟩)]) .nil) .nil))))))))))))))))))))))))) (ln:=[]) (ek [Rf,Nj,Rc,NE,Nl,Nk,Q4,NA,L7,Jo,OR] [] [] ⟨Zk,UH,Y8,U2,UU,UL,Yy,Uz,SS,Pz,Vv,trivial⟩) Tryz.func3 rfl fun x y=>by kernel_rfl
end
end Go.Proofs.YtofhefmbioblbaaGreat