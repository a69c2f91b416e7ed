import Derived.Test.YtofhefmbioblbaaGreatQNpA
import Derived.Test.YtofhefmbioblbaaGreatQNpB
import Derived.Test.YtofhefmbioblbaaGreatQNpC
import Derived.Test.YtofhefmbioblbaaGreatQNpF
set_option linter.unusedVariables false
set_option linter.unusedSimpArgs false
set_option maxRecDepth 100000
namespace Go.V.G
open Go.V
theorem Agy {r:List Rn} (h:r.length<=1099511627776):Az r=some r:=by
 unfold Az cK;have hr:Aa (List.length ([]:List Rn)+List.length r) 16=true:=JW (by simpa using h) O;cases r with
 | nil=>simp [GW,Aa]
 | cons a x=>simp only [GW,List.isEmpty_cons,AoO,Apa,AoC,hr,AoU,Ao6]
theorem Aas {cs:List (List Prt)} {i:Nat} (h:i < cs.length) (n:Int):chn n (cs.drop i)=((AK cs[i] && decide (src cs[i]=n)) && chn (tgt cs[i]) (cs.drop (i+1))):=by
 rw [Aph h];rfl
theorem Z5 {cs:List (List Prt)} (hn:cs.length<=1099511627776) (hs:∀c∈cs,Sm 1099511627776 c) (n:Int):NR n cs=some (chn n cs):=by
 unfold NR;refine Ok.eq (Ok.bind (Q:=λr=>match r with | .inl _=>chn n cs=true | .inr b=>b=chn n cs) ?_ (by
  rintro (y | b) hr
  .exact Ok.mk hr.symm
  .exact Ok.mk hr))
 refine Ok.loop (λy=>y.2.1=cs/\y.2.2.1=(cs.length:Int)/\∃i:Nat,y.2.2.2=(i:Int)/\i<=cs.length/\chn n cs=chn y.1 (cs.drop i)) (λy=>((cs.length:Int) - y.2.2.2).toNat) ⟨rfl,rfl,0,rfl,ApP _,rfl⟩ ?_;rintro ⟨m,cs',l,i'⟩ ⟨e1,e2,i,e3,hi,hk⟩;dsimp only at e1 e2 e3 hk;subst e1 e2 e3;unfold RI gX wI;dsimp only;refine Ok.ite (λhc=>?_) λhc=>?_
 .have hlt:i < cs'.length:=by grind
  have hge:cs'[Int.toNat (i:Int)]?=some cs'[i]:=by simp [hlt]
  refine Ok.yes Z (Ok.bind_eq hge (Ok.bind_eq (V5 (hs _ (AoR hlt)) O) ?_));rw [Aas hlt]at hk;unfold ZN;cases hg:AK cs'[i]with
  | false=>
   rw [hg]at hk;refine Ok.bind_eq (r:=(0,cs',(cs'.length:Int),(i:Int),true)) Z (Ok.yes rfl (Ok.mk ?_))
   grind
  | true=>
   rw [hg]at hk;refine Ok.bind_eq (r:=(tgt cs'[i],cs',(cs'.length:Int),(i:Int),decide (¬ src cs'[i]=m))) Z ?_;dsimp only;refine Ok.ite (λhb=>Ok.mk ?_) λhb=>Ok.mk ⟨⟨rfl,rfl,i+1,Ao hn hlt,O,?_⟩,?_⟩
   .grind
   .grind
   .rw [Ao hn hlt];grind
 .have:i=cs'.length:=by
   grind
  subst this;refine Ok.mk ?_;dsimp only;rw [hk,Ap3];rfl
theorem TF {t:List UInt8} {r:List Rn} {cs:List (List Prt)} (h:HB t r cs) (f:Int):IP f t r cs=some (F6 f t r cs):=by
 unfold IP F6 wI;refine Ok.eq (Ok.bind (Q:=λb=>b=_) ?_ (λb hb=>Ok.mk hb));refine Ok.bind_eq (AE _ _ _) (Ok.ite (λq1=>?_) λq1=>Ok.mk ?_)
 .have q1':0<=f/\f<=60:=by grind
  rw [show decide (0<=f/\f<=60)=true from q1,AoT];refine Ok.ite (λq2=>Ok.bind_eq (QA h.hr _ _) (Ok.ite (λq3=>?_) λq3=>Ok.mk ?_)) λq2=>Ok.mk ?_
  .rw [show decide ((t.length:Int)<=120)=true from q2,q3,AoT,AoT];rw [w64 (O:-9223372036854775808<=60 - f) O];refine Ok.ite (λq4=>Ok.bind_eq (Z5 h.hn h.hc _) (Ok.mk ?_)) λq4=>Ok.mk ?_
   .grind
   grind
  .grind
  grind
 grind
theorem T0 {t:List UInt8} {r:List Rn} {cs:List (List Prt)} (h:HB t r cs) (f:Int):ID f t r cs=some (F6 f t r cs):=by
 have hn:=h.hn;unfold ID wI;refine Ok.eq (Ok.bind (Q:=λv=>v=(!(decide (0<=f/\f<=60) && (decide ((t.length:Int)<=120) && (AN r (t.length:Int) f && decide ((cs.length:Int)<=60 - f)))),f,t,r,cs)) ?_ ?_)
 .refine Ok.bind_eq (Cm _ _ _) (Ok.ite (λq1=>Ok.mk ?_) λq1=>Ok.ite (λq2=>Ok.mk ?_) λq2=>Ok.bind_eq (Qu h.hr _ _) (Ok.ite (λq3=>Ok.mk ?_) λq3=>Ok.mk ?_))
  .grind
  .grind
  .grind
  .have g1:0<=f/\f<=60:=by grind
   have g2:(t.length:Int)<=120:=by
    grind
   have g3:AN r (t.length:Int) f=true:=by grind
   rw [w64 (O:-9223372036854775808<=60 - f) O,g3];simp only [g1,and_self,decide_true,g2,AoT]
   congr 1
   grind
 rintro _ rfl;dsimp only;have split:F6 f t r cs=((decide (0<=f/\f<=60) && (decide ((t.length:Int)<=120) && (AN r (t.length:Int) f && decide ((cs.length:Int)<=60 - f)))) && chn (t.length:Int) cs):=by
  unfold F6;grind
 rw [split];refine Ok.ite (λhb=>Ok.mk ?_) λhb=>?_
 .grind
 have hb':(decide (0<=f/\f<=60) && (decide ((t.length:Int)<=120) && (AN r (t.length:Int) f && decide ((cs.length:Int)<=60 - f))))=true:=by grind
 rw [hb',AoT];have ht:(t.length:Int)<=120:=by grind
 refine Ok.bind (Q:=λr=>match r with | .inl _=>chn (t.length:Int) cs=true | .inr b=>b=chn (t.length:Int) cs) ?_ (by
  rintro (y | b) hr
  .exact Ok.mk hr.symm
  .exact Ok.mk hr)
 refine Ok.loop (λy=>y.2.1=cs/\y.2.2.1=(cs.length:Int)/\∃i:Nat,y.2.2.2=(i:Int)/\i<=cs.length/\chn (t.length:Int) cs=chn y.1 (cs.drop i)) (λy=>((cs.length:Int) - y.2.2.2).toNat) ⟨rfl,rfl,0,rfl,ApP _,rfl⟩ ?_;rintro ⟨m,cs',l,i'⟩ ⟨e1,e2,i,e3,hi,hk⟩;dsimp only at e1 e2 e3 hk;subst e1 e2 e3;unfold Mx gX wI;dsimp only;refine Ok.ite (λhc=>?_) λhc=>?_
 .have hlt:i < cs'.length:=by grind
  have hge:cs'[Int.toNat (i:Int)]?=some cs'[i]:=by simp [hlt]
  have sm:=h.hc _ (AoR hlt);refine Ok.yes Z (Ok.bind_eq hge ?_);rw [Aas hlt]at hk;cases hg:AK cs'[i]with
  | false=>
   rw [hg]at hk;refine Ok.bind_eq (r:=(cs',(cs'.length:Int),(i:Int),true,cs'[i])) (by rw [Nv sm O,hg];rfl) (Ok.yes rfl (Ok.mk ?_))
   grind
  | true=>
   rw [hg]at hk;have ss:=A9 (Aq hg).1;have g2:=(Aq hg).2;refine Ok.bind_eq (r:=(cs',(cs'.length:Int),(i:Int),decide (¬ src cs'[i]=m),cs'[i])) (by rw [Nv sm O,hg,AoC,AoH Z,Ts sm O ss O];rfl) ?_;dsimp only;refine Ok.ite (λhb=>Ok.mk ?_) λhb=>Ok.bind_eq (Ab3 sm O ss O) (Ok.mk ⟨⟨rfl,rfl,i+1,Ao hn hlt,O,?_⟩,?_⟩)
   .grind
   .grind
   .rw [Ao hn hlt];grind
 .have:i=cs'.length:=by
   grind
  subst this;refine Ok.mk ?_;dsimp only;rw [hk,Ap3];rfl
theorem AaN:Mv=HV:=rfl
theorem Aew {c:List Prt} (hg:AK c=true) {t:List UInt8} (ht:(t.length:Int)=src c):IO t c=some (apply t c,true):=by
 have hs:=A9 (Aq hg).1;have sm:=CG hg;have sle:=(Aq hg).2.1;have ha:=Ut hg ht;unfold O1 at ha;rw [AoG]at ha;obtain ⟨z,hz,he⟩:=ha;obtain rfl:z=apply t c:=ApT he;unfold IO;rw [Nv sm O,hg,AoC,AoH Z,Ts sm O hs O,AoC,AoC,AoH (by simp [ht]),AaN];rw [hz];rfl
theorem Zs {t:List UInt8} {cs:List (List Prt)} {i:Nat} (h:i < cs.length):txt t (cs.take (i+1))=apply (txt t (cs.take i)) cs[i]:=by
 unfold txt;rw [AoL h,AqE];rfl
theorem R0 {n:Int} {cs:List (List Prt)} (h:chn n cs=true) {i:Nat} (hi:i < cs.length):AK cs[i]=true/\src cs[i]=Du n (cs.take i)/\Du n (cs.take (i+1))=tgt cs[i]:=by
 have h2:=(Dg h i).2;rw [Aph hi]at h2;obtain ⟨k1,k2,k3⟩:=E0 h2;refine⟨k1,k2,?_⟩;rw [AoL hi,OB];rfl
theorem Acn {t:List UInt8} {cs:List (List Prt)} (hn:cs.length<=1099511627776) (hc:chn (t.length:Int) cs=true):Ab D4 (t,cs,(cs.length:Int),0)=some (txt t cs):=by
 have:=Af D4 (λi=>(txt t (cs.take i),cs,(cs.length:Int),((i:Nat):Int))) cs.length (txt t cs) (by
  intro i hi;have hlt:((i:Nat):Int) < (cs.length:Int):=O
  obtain ⟨k1,k2,k3⟩:=R0 hc hi;have hl:=Sf (Dg hc i).1;unfold D4 gX wI;simp only [hlt,decide_true,AoU,show(0:Int)<=((i:Nat):Int) from by omega,AoE,AoF hi,AoC,Ut k1 (by rw [hl,k2]),Ao hn hi,Zs hi]) (by simp [D4,gX,wI])
 assumption
theorem Acj {t:List UInt8} {cs:List (List Prt)} (hn:cs.length<=1099511627776) (hc:chn (t.length:Int) cs=true):Ab Hm (t,cs,(cs.length:Int),0)=some (txt t cs):=by
 have:=Af Hm (λi=>(txt t (cs.take i),cs,(cs.length:Int),((i:Nat):Int))) cs.length (txt t cs) (by
  intro i hi;have hlt:((i:Nat):Int) < (cs.length:Int):=O
  obtain ⟨k1,k2,k3⟩:=R0 hc hi;have hl:=Sf (Dg hc i).1;unfold Hm gX wI;simp only [hlt,decide_true,AoU,show(0:Int)<=((i:Nat):Int) from by omega,AoE,AoF hi,AoC,Aew k1 (by rw [hl,k2]),Ao hn hi,Zs hi]) (by simp [Hm,gX,wI])
 assumption
section
variable {f:Int} {t:List UInt8} {r:List Rn} {cs:List (List Prt)}
theorem R7 (g:GH f t r cs) {x:Int} (h1:f<=x) (h2:x<=f+cs.length):Ek f t r cs x=some (txt t (cs.take (x - f).toNat)):=by
 have:=g.hf;have:=g.hn;have w:IntKind.wrap .i64 (x - f)=x - f:=w64 O O;have hl:=Acn (cs:=cs.take (x - f).toNat) (by grind) (Dg g.hc _).1;unfold Ek sX wI
 grind
theorem Xm (g:GH f t r cs) {x:Int} (h1:f<=x) (h2:x<=f+cs.length):K7 f t r cs x=some (txt t (cs.take (x - f).toNat)):=by
 have:=g.hf;have:=g.hn;have w:IntKind.wrap .i64 (x - f)=x - f:=w64 O O;have hl:=Acj (cs:=cs.take (x - f).toNat) (by grind) (Dg g.hc _).1;unfold K7 sX wI
 grind
theorem AcV (g:GH f t r cs) (k:Nat):(((txt t (cs.take k)).length:Nat):Int)=Du (t.length:Int) (cs.take k)/\0<=Du (t.length:Int) (cs.take k)/\Du (t.length:Int) (cs.take k)<=120:=
 ⟨Sf (Dg g.hc k).1,WQ (Dg g.hc k).1 O g.ht⟩
theorem Aa6 {rev:Int} {l:List Rn} {cs:List (List Prt)} {i:Nat} (h:i < cs.length):blm rev l (cs.take (i+1))=OA (blm rev l (cs.take i)) cs[i] (rev+i):=by
 rw [AoL h,Vr,AoQ,AqD (Nat.le_of_lt h)];rfl
theorem TV (g:GH f t r cs) (k:Nat):AN (blm (f+1) r (cs.take k)) (Du (t.length:Int) (cs.take k)) (f+(cs.take k).length)=true:=by
 have:=g.hf;have:=g.hn;have hl:(cs.take k).length<=cs.length:=by grind
 have:=Abk (rev:=f+1) (Dg g.hc k).1 (by rw [(O:f+1 - 1=f)];exact g.hr) O O
 grind
theorem Aen (g:GH f t r cs) {x:Int} (h1:f<=x) (h2:x<=f+cs.length):GY f t r cs x=some (blm (f+1) r (cs.take (x - f).toNat)):=by
 have hb:=g.hb;have:=g.hf;have:=g.hn;have w:IntKind.wrap .i64 (x - f)=x - f:=w64 O O;generalize hds:cs.take (x - f).toNat=ds;have hdl:ds.length<=cs.length:=by grind
 have main:=Af DH (λi=>(blm (f+1) r (ds.take i),ds,(ds.length:Int),((i:Nat):Int),f,t,r,cs)) ds.length (blm (f+1) r ds) (by
  intro i hi;have hlt:((i:Nat):Int) < (ds.length:Int):=O
  have hdc:chn (t.length:Int) ds=true:=by rw [<- hds];exact(Dg g.hc _).1
  obtain ⟨k1,k2,k3⟩:=R0 hdc hi;have hgr:AN (blm (f+1) r (ds.take i)) (Du (t.length:Int) (ds.take i)) (f+(ds.take i).length)=true:=by
   have:=TV g (min i (x - f).toNat)
   grind
  obtain ⟨_,_,h6⟩:=goodRuns_iff.1 hgr;have w1:IntKind.wrap .i64 (f+((i:Nat):Int))=f+i:=w64 O O;have w2:IntKind.wrap .i64 (f+((i:Nat):Int)+1)=f+1+i:=by rw [w64 O O];omega
  unfold DH gX wI;simp only [hlt,decide_true,AoU,show(0:Int)<=((i:Nat):Int) from by omega,AoE,AoF hi,AoC,w1,w2,WC k1 h6.pos (by rw [h6.sum,k2]),Ao (O:ds.length<=1099511627776) hi,Aa6 hi]) (by simp [DH,gX,wI])
 have e:Ab DH (r,ds,(ds.length:Int),0,f,t,r,cs)=some (blm (f+1) r ds):=by assumption
 unfold GY sX wI;rw [Agy hb.hr,AoC]
 grind
theorem AeY (g:GH f t r cs) {x:Int} (h1:f<=x) (h2:x<=f+cs.length):LT f t r cs x=some (blm (f+1) r (cs.take (x - f).toNat)):=by
 have hb:=g.hb;have:=g.hf;have:=g.hn;have w:IntKind.wrap .i64 (x - f)=x - f:=w64 O O;have hr:Aa (List.length ([]:List Rn)+List.length r) 16=true:=JW (by have:=hb.hr;grind) O;generalize hds:cs.take (x - f).toNat=ds;have hdl:ds.length<=cs.length:=by grind
 have main:=Af GC (λi=>(blm (f+1) r (ds.take i),ds,(ds.length:Int),((i:Nat):Int),f,t,r,cs)) ds.length (blm (f+1) r ds) (by
  intro i hi;have hlt:((i:Nat):Int) < (ds.length:Int):=O
  have hdc:chn (t.length:Int) ds=true:=by rw [<- hds];exact(Dg g.hc _).1
  obtain ⟨k1,k2,k3⟩:=R0 hdc hi;have hgr:AN (blm (f+1) r (ds.take i)) (Du (t.length:Int) (ds.take i)) (f+(ds.take i).length)=true:=by
   have:=TV g (min i (x - f).toNat)
   grind
  obtain ⟨_,_,h6⟩:=goodRuns_iff.1 hgr;have w1:IntKind.wrap .i64 (f+((i:Nat):Int))=f+i:=w64 O O;have w2:IntKind.wrap .i64 (f+((i:Nat):Int)+1)=f+1+i:=by rw [w64 O O];omega
  unfold GC gX wI;simp only [hlt,decide_true,AoU,show(0:Int)<=((i:Nat):Int) from by omega,AoE,AoF hi,AoC,w1,w2,AbG k1 h6.pos (by rw [h6.sum,k2]),Ao (O:ds.length<=1099511627776) hi,Aa6 hi]) (by simp [GC,gX,wI])
 have e:Ab GC (r,ds,(ds.length:Int),0,f,t,r,cs)=some (blm (f+1) r ds):=by assumption
 unfold LT cK sX wI
 grind
end
end Go.V.G
set_option maxRecDepth 100000
namespace Go.V.G
open Go.V
def Aiz (xs:List (Int×Int)):Prop:=xs.length<=maxLen
def UF (xs:List (Int×Int)):Nat:=xs.length
def WX (xs:List (Int×(Int×List UInt8))):Prop:=xs.length<=maxLen/\∀x∈xs,x.2.2.length<=maxLen
def Age (x:Int×(Int×List UInt8)):Nat:=x.2.2.length
def O8 (xs:List (Int×(Int×List UInt8))):Nat:=xs.length+Ez Age xs
def Ack (xs:List (List (Int×(Int×List UInt8)))):Prop:=xs.length<=maxLen/\∀x∈xs,WX x
def Q3 (xs:List (List (Int×(Int×List UInt8)))):Nat:=xs.length+Ez O8 xs
end Go.V.G
set_option maxRecDepth 100000
namespace Go.V.G
open Go.V
theorem n2:((2:Nat):Int)=2:=rfl
theorem n3:((3:Nat):Int)=3:=rfl
abbrev Hst:=Int×(List UInt8×(List (Int×Int)×List (List (Int×(Int×List UInt8)))))
def XX (h:Hst):Nat:=h.2.1.length+UF h.2.2.1+Q3 h.2.2.2
end Go.V.G
set_option maxRecDepth 100000
namespace Go.V.G
open Go.V
structure FitP (c:List Prt):Prop where
 l:WX c
 i:∀p∈c,I64 p.1/\I64 p.2.1
structure FitH (t:List UInt8) (r:List Rn) (cs:List (List Prt)):Prop where
 ht:t.length<=maxLen
 hr:Aiz r
 hc:Ack cs
 hi:∀c∈cs,∀p∈c,I64 p.1/\I64 p.2.1
theorem Agt:∀c:List Prt,O8 c=c.length+B8 c
 | []=>rfl
 | p::c=>by
  have ih:=Agt c;simp only [O8,Ez,Age,B8,AoV]at ih ⊢;omega
theorem Adp {α:Type} {w:α->Nat} {B:Nat}:∀{xs:List α},(∀x∈xs,w x<=B)->Ez w xs<=xs.length * B
 | [],_=>by simp [Ez]
 | x::xs,h=>by
  have ih:=Adp (xs:=xs) λy hy=>h y (by simp [hy])
  have:=h x Z;simp only [Ez,AoV,Nat.succ_mul];omega
theorem Al5 {c:List Prt} (h:AK c=true):O8 c<=480:=by
 have:=CG h;have:=this.len;have:=(CG h).put;rw [Agt];omega
theorem AkE {cs:List (List Prt)} (h:∀c∈cs,AK c=true) (hn:cs.length<=1000):Q3 cs<=1000000:=by
 have:=Adp (w:=O8) (B:=480) λc hc=>Al5 (h c hc)
 unfold Q3;omega
theorem Af9 {l:List Rn} {n m:Int} (h:AN l n m=true):UF l<=120:=by
 obtain ⟨h1,_,h6⟩:=goodRuns_iff.1 h;have:=GI h6.pos;rw [h6.sum]at this;unfold UF;omega
theorem GH.w {f:Int} {t:List UInt8} {r:List Rn} {cs:List (List Prt)} (g:GH f t r cs):XX (f,t,r,cs)<=2000000:=by
 have:=g.ht;have:=g.hn;have:=g.hf;have h1:=AkE (WR g.hc) O;have h2:=Af9 g.hr;unfold XX;dsimp only;omega
end Go.V.G
set_option maxRecDepth 100000
namespace Go.V.G
open Go.V
abbrev E9 (a:List Prt) (cs:List (List Prt)):List Prt:=cs.foldl (λa c=>AQ a c) a
theorem AeO {a:List Prt} {cs:List (List Prt)} {i:Nat} (h:i < cs.length):E9 a (cs.take (i+1))=AQ (E9 a (cs.take i)) cs[i]:=by
 unfold E9;rw [AoL h,AqE];rfl
theorem Ajd {a:List Prt} {cs:List (List Prt)} (ha:AK a=true) (hc:chn (tgt a) cs=true) {i:Nat} (hi:i < cs.length) :
  AK (E9 a (cs.take i))=true/\AK cs[i]=true/\tgt (E9 a (cs.take i))=src cs[i]:=by
 obtain ⟨k1,k2,k3⟩:=R0 hc hi;obtain ⟨r1,r2,r3⟩:=NX ha (Dg hc i).1
 grind
theorem Abx {a:List Prt} {cs:List (List Prt)} (hn:cs.length<=1099511627776) (ha:AK a=true) (hc:chn (tgt a) cs=true):Ab Gv (a,cs,(cs.length:Int),0)=some (E9 a cs):=by
 have:=Af Gv (λi=>(E9 a (cs.take i),cs,(cs.length:Int),((i:Nat):Int))) cs.length (E9 a cs) (by
  intro i hi;have hlt:((i:Nat):Int) < (cs.length:Int):=O
  obtain ⟨k1,k2,k3⟩:=Ajd ha hc hi;unfold Gv gX wI;simp only [hlt,decide_true,AoU,show(0:Int)<=((i:Nat):Int) from by omega,AoE,AoF hi,AoC,AaZ k1 k2 k3,Ao hn hi,AeO hi]) (by simp [Gv,gX,wI])
 grind
theorem Yt {c:List Prt} {cs:List (List Prt)} (hn:cs.length<=1000000) (ha:AK c=true) (hc:chn (tgt c) cs=true):LX (c::cs)=some (E9 c cs):=by
 obtain ⟨r1,_⟩:=NX ha hc;have hr:Aa (List.length ([]:List Prt)+List.length (E9 c cs)) 32=true:=JW (by have:=(CG r1).len;grind) O;have hl:=Abx O ha hc;unfold LX cK gX sX
 grind
section
variable {f:Int} {t:List UInt8} {r:List Rn} {cs:List (List Prt)}
def seg (cs:List (List Prt)) (a b:Int):List (List Prt):=(cs.drop a.toNat).take (b.toNat - a.toNat)
def LN (t:List UInt8) (cs:List (List Prt)) (a:Int):Int:=Du (t.length:Int) (cs.take a.toNat)
def B3 (f:Int) (t:List UInt8) (cs:List (List Prt)) (a b:Int):List Prt:=btw (LN t cs (a - f)) (seg cs (a - f) (b - f))
theorem Sd (g:GH f t r cs) (a b:Int):chn (LN t cs a) (seg cs a b)=true:=(Dg (Dg g.hc a.toNat).2 _).1
theorem AcN (g:GH f t r cs) {a b:Int} (h0:0<=a) (h1:a<=b):Du (LN t cs a) (seg cs a b)=LN t cs b:=by
 unfold LN seg;rw [<- OB,<- List.take_add]
 grind
theorem Aaf (g:GH f t r cs) (a:Int):0<=LN t cs a/\LN t cs a<=120:=WQ (Dg g.hc _).1 O g.ht
theorem JH (g:GH f t r cs) {a b:Int} (h0:f<=a) (h1:a<=b):AK (B3 f t cs a b)=true/\src (B3 f t cs a b)=LN t cs (a - f)/\tgt (B3 f t cs a b)=LN t cs (b - f):=by
 obtain ⟨k1,k2⟩:=Aaf g (a - f);obtain ⟨r1,r2,r3⟩:=Y0 (Sd g (a - f) (b - f)) k1 k2;exact⟨r1,r2,by rw [B3,r3,AcN g O O]⟩
theorem Afw (n:Int):Vu n=some (idc n):=by
 unfold Vu idc
 grind
theorem Za (g:GH f t r cs) {a b:Int} (h0:f<=a) (h1:a<=b) (h2:b<=f+cs.length):Fc f t r cs a b=some (B3 f t cs a b):=by
 have:=g.hf;have:=g.hn;have w1:IntKind.wrap .i64 (a - f)=a - f:=w64 O O;have w2:IntKind.wrap .i64 (b - f)=b - f:=w64 O O;unfold Fc sX wI;by_cases hab:a=b
 .subst hab;rw [AoJ Z,R7 g h0 h2,AoC,(AcV g _).1,Afw,AoC];have e:seg cs (a - f) (a - f)=[]:=by simp [seg]
  rw [B3,e];rfl
 .have hlt:(a - f).toNat < cs.length:=O
  obtain ⟨c,ds,hds⟩:∃c ds,seg cs (a - f) (b - f)=c::ds:=by
   have:(seg cs (a - f) (b - f)).length≠0:=by unfold seg;grind
   cases hsg:seg cs (a - f) (b - f)with
   | nil=>grind
   | cons c ds=>simp
  have hch:=Sd g (a - f) (b - f);have hb:B3 f t cs a b=E9 c ds:=by unfold B3;rw [hds]at hch ⊢;exact TG hch
  have hln:ds.length<=1000000:=by
   have h9:(seg cs (a - f) (b - f)).length<=cs.length:=by unfold seg;grind
   grind
  rw [hds]at hch;obtain ⟨k1,k2,k3⟩:=E0 hch;have hc:=Yt hln k1 k3;rw [AoH (by grind),w1,w2,hb];rw [show(List.drop (a - f).toNat cs).take ((b - f).toNat - (a - f).toNat)=c::ds from hds,hc]
  grind
end
end Go.V.G
set_option maxRecDepth 100000
namespace Go.V.G
open Go.V
def Byt (l:List Int):Prop:=∀x∈l,0<=x/\x<=255
theorem Byt.append {a b:List Int} (h:Byt a) (k:Byt b):Byt (a++b):=λx hx=>(AoK.1 hx).elim (h x) (k x)
theorem Acu (s:List UInt8):Byt (AA s):=λx hx=>by
 obtain ⟨b,_,rfl⟩:=Ao0.1 hx;have:=b.toNat_lt;omega
def Oy (l:List Rn):List Int:=l.flatMap λr=>[IntKind.wrap .u8 r.1,IntKind.wrap .u8 r.2]
theorem TK:∀l:List Rn,(Oy l).length=2 * l.length
 | []=>rfl
 | r::l=>by
  have:=TK l;simp only [Oy,Ap9,AoM,AoV,Apd]at this ⊢;omega
theorem Agp {l:List Rn} {i:Nat} (h:i < l.length):Oy (l.take (i+1))=Oy (l.take i)++[IntKind.wrap .u8 l[i].1,IntKind.wrap .u8 l[i].2]:=by
 unfold Oy;rw [AoL h,ApY];simp
theorem VZ {l:List Rn} (hl:l.length<=1000000):K6 l=some (Oy l):=by
 unfold K6;have:=Af Fu (λi=>(Oy (l.take i),l,(l.length:Int),((i:Nat):Int))) l.length (Oy l) (by
  intro i hi;have hlt:((i:Nat):Int) < (l.length:Int):=O
  have hr:∀x y:Int,Aa (List.length (Oy (l.take i))+List.length ([x,y]:List Int)) 1=true:=λx y=>JW (by rw [TK,AoQ];simp;omega) O
  unfold Fu cK gX wI;simp only [hlt,decide_true,AoU,show(0:Int)<=((i:Nat):Int) from by omega,AoE,AoF hi,AoC,hr,Ao (O:l.length<=1099511627776) hi,Agp hi]) (by simp [Fu,cK,gX,wI])
 have e:Ab Fu ([],l,(l.length:Int),0)=some (Oy l):=by assumption
 rw [e];rfl
def TN (h x:Int):Int:=IntKind.wrap .u32 ((IntKind.wrap .u32 (((BitVec.ofInt (IntKind.bits .u32) h ^^^ BitVec.ofInt (IntKind.bits .u32) (IntKind.wrap .u32 x)).toNat:Int))) * 16777619)
theorem AkG (h x:Int):0<=TN h x/\TN h x < 4294967296:=by unfold TN;rw [IntKind.wrap_u32];omega
theorem AjM {h x:Int} (h0:0<=h) (h1:h < 4294967296) (x0:0<=x) (x1:x<=255) :
  Int.tmod (IntKind.wrap .u64 ((IntKind.wrap .u64 (((BitVec.ofInt (IntKind.bits .u64) h ^^^ BitVec.ofInt (IntKind.bits .u64) (IntKind.wrap .u64 x)).toNat:Int))) * 16777619)) 4294967296=TN h x:=by
 unfold TN;obtain ⟨a,rfl⟩:=AoX h0;obtain ⟨b,rfl⟩:=AoX x0;have hx:=Nat.xor_lt_two_pow (n:=32) (O:a < 2 ^ 32) (O:b < 2 ^ 32);rw [Zn (n:=(b:Int)) O O,IntKind.wrap_u32 (b:Int),show(b:Int) % 4294967296=(b:Int) by omega];have e64:((BitVec.ofInt (IntKind.bits .u64) (a:Int) ^^^ BitVec.ofInt (IntKind.bits .u64) (b:Int)).toNat)=a ^^^ b:=by
  rw [BitVec.toNat_xor,BitVec.ofInt_natCast,BitVec.ofInt_natCast,BitVec.toNat_ofNat,BitVec.toNat_ofNat,show IntKind.bits .u64=64 from rfl,Aqv O,Aqv O]
 have e32:((BitVec.ofInt (IntKind.bits .u32) (a:Int) ^^^ BitVec.ofInt (IntKind.bits .u32) (b:Int)).toNat)=a ^^^ b:=by
  rw [BitVec.toNat_xor,BitVec.ofInt_natCast,BitVec.ofInt_natCast,BitVec.toNat_ofNat,BitVec.toNat_ofNat,show IntKind.bits .u32=32 from rfl,Aqv O,Aqv O]
 rw [e64,e32];generalize a ^^^ b=m at hx;rw [Zn (n:=(m:Int)) O O,IntKind.wrap_u32 (m:Int),show(m:Int) % 4294967296=(m:Int) by omega,Zn O O,IntKind.wrap_u32,Int.tmod_eq_emod_of_nonneg O]
def dig (h:Int) (b:List Int):Int:=b.foldl TN h
theorem ZR {b:List Int} {h:Int} {i:Nat} (hi:i < b.length):dig h (b.take (i+1))=TN (dig h (b.take i)) b[i]:=by
 unfold dig;rw [AoL hi,AqE];rfl
theorem ZI:∀(b:List Int) {h:Int},0<=h/\h < 4294967296->0<=dig h b/\dig h b < 4294967296
 | [],_,h=>h
 | x::b,h,_=>ZI b (AkG h x)
theorem Tp {b:List Int} (hl:b.length<=1099511627776) (h:Int):MS h b=some (dig h b):=by
 unfold MS;have:=Af Is (λi=>(dig h (b.take i),b,(b.length:Int),((i:Nat):Int))) b.length (dig h b) (by
  intro i hi;have hlt:((i:Nat):Int) < (b.length:Int):=O
  unfold Is gX wI;simp only [hlt,decide_true,AoU,show(0:Int)<=((i:Nat):Int) from by omega,AoE,AoF hi,AoC,Ao hl hi,ZR hi];rfl) (by simp [Is,gX,wI])
 have e:Ab Is (h,b,(b.length:Int),0)=some (dig h b):=by assumption
 rw [e];rfl
theorem QC {b:List Int} (hl:b.length<=1099511627776):J6 b=some (dig 2166136261 b):=by
 unfold J6;rw [Tp hl];rfl
theorem QE {b:List Int} (hl:b.length<=1099511627776) (hb:Byt b):JN b=some (dig 2166136261 b):=by
 unfold JN;have:=Af Gx (λi=>(dig 2166136261 (b.take i),b,(b.length:Int),((i:Nat):Int))) b.length (dig 2166136261 b) (by
  intro i hi;have hlt:((i:Nat):Int) < (b.length:Int):=O
  have hd:=ZI (b.take i) (h:=2166136261) O;have hx:=hb _ (AoR hi);unfold Gx cK gX wI;simp only [hlt,decide_true,AoU,show(0:Int)<=((i:Nat):Int) from by omega,AoE,AoF hi,AoC,show decide (¬ (4294967296:Int)=0)=true from rfl,Ao hl hi,ZR hi,AjM hd.1 hd.2 hx.1 hx.2]) (by simp [Gx,cK,gX,wI])
 have e:Ab Gx (2166136261,b,(b.length:Int),0)=some (dig 2166136261 b):=by assumption
 have hd:=ZI b (h:=2166136261) O;rw [e,AoC,IntKind.wrap_u32]
 grind
def Iz (d:Int):List Int:=[IntKind.wrap .u8 (Int.fdiv d (2 ^ (min (Int.toNat 24) (IntKind.bits .u32)))),IntKind.wrap .u8 (Int.fdiv d (2 ^ (min (Int.toNat 16) (IntKind.bits .u32)))),IntKind.wrap .u8 (Int.fdiv d (2 ^ (min (Int.toNat 8) (IntKind.bits .u32)))),IntKind.wrap .u8 d]
theorem X9 (d:Int):Vg d=some (Iz d):=rfl
theorem AgM {c:List Prt} (h:AK c=true):(enc c).length<=720:=by
 have:=(CG h).len;have:=(CG h).put;rw [WH];omega
theorem AcQ {c:List Prt} (hg:AK c=true):Byt (enc c):=λx hx=>by
 obtain ⟨p,hp,h⟩:=Aqj.1 hx;obtain ⟨q1,q2⟩:=JL hg hp;have hk:=AiR p;simp only [Gk,AoK,AoY,Aqy,or_false]at h;rcases h with(rfl | rfl) | h
 .omega
 .omega
 .exact Acu _ x h
section
variable {f:Int} {t:List UInt8} {r:List Rn} {cs:List (List Prt)}
theorem ZE (g:GH f t r cs) {a b:Int} (h1:f<=a) (h2:a<=b) (h3:b<=f+cs.length):(txt t (cs.take (a - f).toNat)).length<=120/\(blm (f+1) r (cs.take (a - f).toNat)).length<=120:=by
 have ht:=AcV g (a - f).toNat;have hb:=Af9 (TV g (a - f).toNat);unfold UF at hb;omega
end
end Go.V.G
set_option maxRecDepth 100000
namespace Go.V.G
open Go.V
def OC (d:List Int):List Int:=d++List.replicate (124 - d.length) 0
theorem KA {d:List Int} (h:d.length<=124):(OC d).length=124:=by unfold OC;simp;omega
theorem XD {d:List Int} (h:d.length<=124):Gh d 124=some (OC d):=by
 unfold Gh OC cK cZ wI;rw [w64 O O,iy O,(O:Int.toNat ((124:Int) - (d.length:Int))=124 - d.length),AoJ (by simp only [Aa,decide_eq_true_eq,ApC];omega)]
theorem Wb {d:List Int} (h:U8s d):U8s (OC d):=λv hv=>by
 unfold OC at hv;rcases AoK.1 hv with hv | hv
 .exact h v hv
 .rw [(List.mem_replicate.1 hv).2];omega
theorem AdM (d:Int):U8s (Iz d):=λv hv=>by
 simp only [Iz,AoY,Aqy,or_false]at hv;rcases hv with rfl | rfl | rfl | rfl <;> exact Wc _
def sgn (d:List Int):List Int:=d++Iz (dig 2166136261 d)
theorem Akg (d:List Int):(sgn d).length=d.length+4:=by unfold sgn Iz;simp
def TQ (f hd ev r t:Int):List Int:=[83,84,82,49,f,hd,ev,0,0,r,0,t]
def PC (f hd ev r t:Int):List Int:=sgn (OC (TQ f hd ev r t))
structure SupOk (f hd ev:Int) (r t:Nat):Prop where
 f:0<=f/\f<=hd
 h:hd<=60
 e:1<=ev/\ev<=30
 r:33<=r/\r<=159
 t:33<=t/\t<=159
theorem AiY (f hd ev r t:Int):(PC f hd ev r t).length=128:=by unfold PC;rw [Akg,KA (by simp [TQ])]
theorem Adc {f hd ev:Int} {r t:Nat} (h:SupOk f hd ev r t):U8s (TQ f hd ev r t):=λv hv=>by
 have h1:=h.f;have h2:=h.h;have h3:=h.e;have h4:=h.r;have h5:=h.t;simp only [TQ,AoY,Aqy,or_false]at hv;rcases hv with rfl | rfl | rfl | rfl | rfl | rfl | rfl | rfl | rfl | rfl | rfl | rfl <;> omega
theorem Aj0 {f hd ev:Int} {r t:Nat} (h:SupOk f hd ev r t):U8s (PC f hd ev r t):=λv hv=>by
 unfold PC sgn at hv;rcases AoK.1 hv with hv | hv
 .exact Wb (Adc h) v hv
 .exact AdM _ v hv
theorem Aff {f hd ev:Int} {r t:Nat} (h:SupOk f hd ev r t):FJ f hd ev (r:Int) (t:Int)=some (PC f hd ev r t,true):=by
 have h1:=h.f;have h2:=h.h;have h3:=h.e;have h4:=h.r;have h5:=h.t;unfold FJ In Lu cK;rw [iy h1.1,iy h1.2,decide_eq_true h2,AoC,AoC,AoH Z,AE,decide_eq_true h3,AoC,AoH Z,AE,decide_eq_true O,AoC,AoC,AoH Z,
  AE,decide_eq_true O,AoC,AoC,AoC]
 dsimp only;rw [AoH Z,Ahn O,Ahn O,AoC,AoC,wub (r:=f) O O,wub (r:=hd) O O,wub (r:=ev) O O,
  AoJ (by simp [Aa]),AoJ (by simp [Aa]),XD Z,AoC,QC (by rw [KA Z];omega),AoC,X9,AoC,AoJ (by
   simp only [Aa,decide_eq_true_eq];rw [KA Z];simp [Iz])]
 rfl
theorem Afg {f hd ev:Int} {r t:Nat} (h:SupOk f hd ev r t):L7 f hd ev (r:Int) (t:Int)=some (PC f hd ev r t):=by
 have h1:=h.f;have h2:=h.h;have h3:=h.e;have h4:=h.r;have h5:=h.t;unfold L7 cK cZ wI wB;simp only [wub (r:=f) O O,wub (r:=hd) O O,wub (r:=ev) O O,wub (r:=(r:Int)) O O,wub (r:=(t:Int)) O O,w8d (m:=r) O,w8d (m:=t) O];have e:IntKind.wrap .i64 (124 - (List.length [83,84,82,49,f,hd,ev,0,0,(r:Int),0,(t:Int)]:Int))=112:=by
  simp only [AoV,Apd];rw [w64 O O];rfl
 rw [e,iy AoA,iy AoA,iy O,AoJ (by simp [Aa])];have ep:[83,84,82,49,f,hd,ev,0,0,(r:Int),0,(t:Int)]++List.replicate (Int.toNat 112) 0=OC (TQ f hd ev r t):=rfl;rw [ep,QE (by rw [KA (by simp [TQ])];omega) (Wb (Adc h)),AoC,iy O,iy O,iy O,AoJ (by
  simp only [Aa,decide_eq_true_eq];rw [KA (by simp [TQ])];simp)]
 rfl
end Go.V.G
set_option maxRecDepth 100000
namespace Go.V.G
open Go.V
abbrev Wr:=Int×List Int
section
variable {b:Bls} {x y z d:List Int}
structure GrOk (n:Nat) (g:List Wr):Prop where
 len:g.length<=2100
 at_:∀w∈g,0<=w.1/\w.1 < (n:Int)
 hd:∀w∈g,w.2.length=128
 u8:∀w∈g,U8s w.2
end
end Go.V.G
set_option maxRecDepth 100000
namespace Go.V.G
open Go.V
def hdA (g:List Wr) (k:Nat):List Int:=[76,79,71,49,(g.length:Int)]++(g.take k).flatMap λw=>Fx w.1
theorem O3 (g:List Wr) (k:Nat):(hdA g k).length<=5+2 * k:=by
 unfold hdA;have:((g.take k).flatMap λw=>Fx w.1).length=2 * (g.take k).length:=by
  generalize g.take k=l
  induction l with
  | nil=>rfl
  | cons a l ih=>rw [Ap9,AoM,ih];simp [Fx];omega
 grind
def dat (g:List Wr) (k:Nat):List Int:=(g.take k).flatMap (·.2)
theorem TJ {g:List Wr} {k:Nat} {w:Wr} (h:g[k]?=some w):dat g (k+1)=dat g k++w.2:=by
 unfold dat;rw [Bq h,ApY];simp
theorem Aay {g:List Wr} {k:Nat} {w:Wr} (h:g[k]?=some w):hdA g (k+1)=hdA g k++Fx w.1:=by
 unfold hdA;rw [Bq h,ApY,AoN];simp
def hdH (g:List Wr):List Int:=OC (hdA g g.length)
def VU (g:List Wr):List Int:=hdH g++Iz (dig (dig 2166136261 (hdH g)) (dat g g.length))
theorem Ama (n:Int):U8s (Fx n):=λv hv=>by
 simp only [Fx,AoY,Aqy,or_false]at hv;rcases hv with rfl | rfl <;> exact Wc _
theorem Agg {g:List Wr} (h:g.length<=30):U8s (hdH g):=Wb λv hv=>by
 rcases AoK.1 hv with hv | hv
 .grind
 .obtain ⟨w,_,hw⟩:=Aqj.1 hv;exact Ama _ v hw
theorem Mh {g:List Wr} (h:g.length<=30):(hdH g).length=124:=KA (by have:=O3 g g.length;omega)
theorem Ah9 {g:List Wr} (h:g.length<=30):(VU g).length=128:=by unfold VU Iz;rw [AoM,Mh h];rfl
theorem AjX {g:List Wr} (h:g.length<=30):U8s (VU g):=λv hv=>by
 rcases AoK.1 hv with hv | hv
 .exact Agg h v hv
 .exact AdM _ v hv
theorem AdJ (h:Int) (a b:List Int):dig (dig h a) b=dig h (a++b):=by unfold dig;simp
def nul:Wr:=(0,[])
def gw (g:List Wr) (k:Nat):Wr:=g[k]?.getD nul
theorem FX {g:List Wr} {k:Nat} (h:k < g.length):g[k]?=some (gw g k):=by unfold gw;grind
theorem WM {n:Nat} {g:List Wr} (h:GrOk n g):∀k,k<=g.length->(dat g k).length=128 * k
 | 0,_=>rfl
 | k+1,hk=>by
  have hg:=FX (g:=g) (k:=k) O;have:=h.hd _ (Api hg);rw [TJ hg,AoM,WM h k O,this];omega
theorem AlG {n:Nat} {g:List Wr} (h:GrOk n g) (k:Nat):U8s (dat g k):=λv hv=>by
 obtain ⟨w,hw,hv⟩:=Aqj.1 hv;exact h.u8 w (ApL hw) v hv
section
variable {n:Nat} {g:List Wr}
theorem AhU (hl:g.length<=30) (d:Int):Aa ((hdH g).length+(Iz d).length) 1=true:=by
 rw [Mh hl,show(Iz d).length=4 from rfl];rfl
theorem Abw (h:GrOk n g) (hn:n<=160) (hl:g.length<=30):Ql g=some (VU g):=by
 unfold Ql cK wB;have h1:=Af Ie (λk=>(g,hdA g k,g,(g.length:Int),((k:Nat):Int))) g.length (g,hdA g g.length) (λk hk=>by
   have hg:=FX hk;have ha:=h.at_ _ (Api hg);have hal:=O3 g k;have hr:Aa ((hdA g k).length+(Fx (gw g k).1).length) 1=true:=by
    rw [show(Fx (gw g k).1).length=2 from rfl];simp only [Aa,decide_eq_true_eq];omega
   unfold Ie cK gX wI;dsimp only;rw [iy O,iy O,AoE,hg,AoC,Akh O,AoC,AoJ hr,Ah O,Aay hg]) (by
   unfold Ie cK gX wI;simp)
 have e0:hdA g 0=[76,79,71,49,IntKind.wrap .u8 (g.length:Int)]:=by unfold hdA;rw [wub O O];rfl
 rw [<- e0,show Ab Ie (g,hdA g 0,g,(g.length:Int),0)=_ from h1,AoC];dsimp only;rw [XD (by have:=O3 g g.length;omega),AoC,show OC (hdA g g.length)=hdH g from rfl,QC (by rw [Mh hl];omega),AoC];have h2:=Af Iv (λk=>(hdH g,dig (dig 2166136261 (hdH g)) (dat g k),g,(g.length:Int),((k:Nat):Int))) g.length (hdH g,dig (dig 2166136261 (hdH g)) (dat g g.length)) (λk hk=>by
   have hg:=FX hk;have hd:=h.hd _ (Api hg);unfold Iv gX wI;dsimp only;rw [iy O,iy O,AoE,hg,AoC,Tp O,AoC,Ah O,TJ hg,AdJ]) (by
   unfold Iv gX wI;simp)
 have e1:dig (dig 2166136261 (hdH g)) (dat g 0)=dig 2166136261 (hdH g):=by
  generalize dig 2166136261 (hdH g)=q;rfl
 have h3:Ab Iv (hdH g,dig (dig 2166136261 (hdH g)) (dat g 0),g,(g.length:Int),0)=some (hdH g,dig (dig 2166136261 (hdH g)) (dat g g.length)):=h2;rw [e1]at h3;rw [h3,AoC];rw [X9,AoC,AoJ (AhU hl _)];rfl
theorem Aci (h:GrOk n g) (hn:n<=160) (hl:g.length<=30):LH g=some (VU g):=by
 have hal':=O3 g g.length;unfold LH cK cZ wI wB;have h1:=Af Gw (λk=>(g,hdA g k,g,(g.length:Int),((k:Nat):Int))) g.length (g,hdA g g.length) (λk hk=>by
   have hg:=FX hk;have ha:=h.at_ _ (Api hg);have hal:=O3 g k;have hr:Aa ((hdA g k).length+(Fx (gw g k).1).length) 1=true:=by
    rw [show(Fx (gw g k).1).length=2 from rfl];simp only [Aa,decide_eq_true_eq];omega
   unfold Gw cK gX wI wB;dsimp only;rw [iy O,iy O,AoE,hg,AoC,iy O,Aos O,show([IntKind.wrap .u8 ((gw g k).1 / 256),IntKind.wrap .u8 (gw g k).1]:List Int)=Fx (gw g k).1 from rfl,
    AoJ hr,Ah O,Aay hg]) (by
   unfold Gw cK gX wI wB;simp)
 have e0:hdA g 0=[76,79,71,49,IntKind.wrap .u8 (g.length:Int)]:=by unfold hdA;rw [wub O O];rfl
 rw [<- e0,show Ab Gw (g,hdA g 0,g,(g.length:Int),0)=_ from h1,AoC];have ew:IntKind.wrap .i64 (124 - (((hdA g g.length).length:Nat):Int))=((124 - (hdA g g.length).length:Nat):Int):=by rw [w64 O O];omega
 rw [ew,iy O,AoE,show hdA g g.length++List.replicate (124 - (hdA g g.length).length) 0=hdH g from rfl,AoJ (by simp only [Aa,decide_eq_true_eq,ApC];omega),
  AoJ (by simp only [Aa,decide_eq_true_eq,Apd];rw [Mh hl];omega),Ao6]
 have h2:=Af GF (λk=>(hdH g,hdH g++dat g k,g,(g.length:Int),((k:Nat):Int))) g.length (hdH g,hdH g++dat g g.length) (λk hk=>by
   have hg:=FX hk;have hd:=h.hd _ (Api hg);have hdl:=WM h k O;have hhl:=Mh hl;unfold GF cK gX wI;dsimp only;rw [iy O,iy O,AoE,hg,AoC,AoJ (by simp only [Aa,decide_eq_true_eq,AoM];omega),Ah O,TJ hg,AoN]) (by
   unfold GF cK gX wI;simp)
 have e1:hdH g++dat g 0=hdH g:=by unfold dat;simp
 rw [e1]at h2;have hdl:=WM h g.length (Ao4 _);have hhl:=Mh hl;rw [show Ab GF (hdH g,hdH g,g,(g.length:Int),0)=_ from h2,AoC];rw [QE (by grind) (λv hv=>by
   rcases AoK.1 hv with hv | hv
   .exact Agg hl v hv
   .exact AlG h _ v hv),AoC,iy O,iy O,iy O,AoJ (by simp only [Aa,decide_eq_true_eq];grind),<- AdJ]
 rfl
theorem w3 {k:Nat} (h:k<=1048576):IntKind.wrap .i64 (3+(k:Int))=((3+k:Nat):Int):=by rw [w64 O O];omega
end
end Go.V.G
set_option maxRecDepth 100000
namespace Go.V.G
open Go.V
theorem X4:∀(l:List Int) (k:Nat),k < l.length->(l.flatMap Fx)[2 * k]?=some (IntKind.wrap .u8 (gb l k / 256))/\(l.flatMap Fx)[2 * k+1]?=some (IntKind.wrap .u8 (gb l k))
 | [],k,h=>by simp at h
 | a::l,0,_=>⟨rfl,rfl⟩
 | a::l,k+1,h=>by
  have ih:=X4 l k (by simpa using h)
  assumption
theorem Xy {kind:Int} {l:List Int} (hl:l.length=32) (hv:V2 l):B2 (DW (pgb kind l))=l:=by
 have key:∀k,k < 32->num (DW (pgb kind l)) (1+2 * k)=gb l k:=λk hk=>by
  obtain ⟨h1,h2⟩:=X4 l k O;have e:∀j,j < 64->gb (DW (pgb kind l)) (1+j)=((l.flatMap Fx)[j]?).getD 0:=λj hj=>by
   unfold DW pgb gb
   grind
  have hvv:=hv _ (Api (Ai (O:k < l.length)));unfold num;rw [(O:1+2 * k+1=1+(2 * k+1)),e (2 * k) O,e (2 * k+1) O,h1,h2,Apo,Apo,IntKind.wrap_u8,IntKind.wrap_u8];omega
 unfold B2;rw [show(List.range 32).map (λk=>num (DW (pgb kind l)) (1+2 * k))=(List.range 32).map (gb l) from Aps λk hk=>key k (Aqw.1 hk)];exact AeG hl
theorem XK (kind:Int) (l:List Int):gb (DW (pgb kind l)) 0=kind:=rfl
theorem XH {kind:Int} {l:List Int} (hl:l.length=32):rz (DW (pgb kind l)) 65=true:=AkZ 65 (Adu kind hl).symm
structure Lf (b:Bls) (x y top:List Int) (root:Int) (k:Nat):Prop where
 lv:liv b x y (gb top k)=true
 kd:gb (blk b (gb top k).toNat) 0=81
 rz:rz (blk b (gb top k).toNat) 65=true
 nz:nz (B2 (blk b (gb top k).toNat))=true
 vs:Oc b x (B2 (blk b (gb top k).toNat))=false
 un:∀j,j < k->gb top j≠gb top k
 rt:root≠0/\liv b x y root=true/\gb (blk b root.toNat) 0=80
theorem M0 {b:Bls} {x y top:List Int} {root:Int} (h:tre b x y root=some top) {k:Nat} (hk:k < 32) (h0:gb top k≠0):Lf b x y top root k:=by
 have htl:=HK h;unfold tre at h;split at h
 .obtain rfl:=ApT h;exact absurd (AgV k) h0
 .rename_i hr;split at h
  .rename_i hc;obtain rfl:=ApT h;simp only [AoI]at hc;obtain ⟨c1,c2,c3⟩:=hc;have:=all_range.1 c3 k hk;unfold stG at this;rw [decide_eq_false h0,ApR]at this;simp only [AoI,Ao7]at this;obtain ⟨p1,p2,p3,p4⟩:=this;unfold pgB at p1 c1;simp only [AoI,decide_eq_true_eq]at p1 c1;refine⟨p1.1,p1.2.1,p1.2.2,p2,p4,λj hj he=>?_,hr,c1.1,c1.2.1⟩;have hm:gb (JS b root) j∈(JS b root).take k:=by
    have:((JS b root).take k)[j]?=some (gb (JS b root) j):=by rw [Apf hj,Ai O]
    grind
   grind
  .cases h
theorem Z4 {b:Bls} {x y top:List Int} {root:Int} (h:tre b x y root=some top) (h0:root≠0):liv b x y root=true/\gb (blk b root.toNat) 0=80:=by
 unfold tre at h;rw [AoH h0]at h;split at h
 .rename_i hc;simp only [AoI]at hc;have:=hc.1;unfold pgB at this
  grind
 .cases h
theorem Pa (top:List Int) (l:List Kv):∀k v,v∈OH top l k->∃j,j < k/\v=gb top j/\gb top j≠0/\oth l j=true
 | 0,v,h=>by cases h
 | k+1,v,h=>by
  simp only [OH]at h;split at h
  .rename_i ho;unfold goS at h;split at h
   .obtain ⟨j,h1,h2⟩:=Pa top l k v h;grind
   .rename_i hn;rcases AoK.1 h with h | h
    .obtain ⟨j,h1,h2⟩:=Pa top l k v h;grind
    grind
  .obtain ⟨j,h1,h2⟩:=Pa top l k v h;grind
theorem Zd {b:Bls} {x y:List Int} {m:Nat} (h1:33<=m) (h2:m < b.length) (h3:bit x m=true) (h4:(m:Int)∉y):liv b x y (m:Int)=true:=by
 unfold liv
 grind
theorem AlC {b b':Bls} {x x':List Int} {v:Int} (hb:b'.length=b.length) (hl:b.length<=160) (hx:∀i,i < 160->bit x i=true->bit x' i=true) (h:isb b x v=true):isb b' x' v=true:=by
 unfold isb at h ⊢
 grind
theorem Ake {b:Bls} {x y:List Int} {v:Int} (h:liv b x y v=true):isb b x v=true:=by
 unfold liv at h;unfold isb
 grind
theorem bad_no {b:Bls} {x l:List Int}:Oc b x l=false↔∀v∈l,v=0\/isb b x v=true:=by
 unfold Oc
 grind
theorem Aj3 {b:Bls} {x y top:List Int} {l:List Kv} {root:Int} (ht:tre b x y root=some top) (hl:∀s∈l,s.2=0\/liv b x y s.2=true) {k:Nat} (hk:k < 32):∀v∈av b top l k,v=0\/isb b x v=true:=by
 have h0:∀v∈lfv b (gb top k),v=0\/isb b x v=true:=by
  unfold lfv;split
  .intro v hv;exact .inl (List.eq_of_mem_replicate hv)
  .rename_i hn;exact bad_no.1 (M0 ht hk hn).vs
 unfold av;have key:∀(l:List Kv) (w:List Int),(∀v∈w,v=0\/isb b x v=true)->(∀s∈l,s.2=0\/liv b x y s.2=true)->∀v∈l.foldl (upd k) w,v=0\/isb b x v=true:=by
  intro l
  induction l with
  | nil=>simp
  | cons s l ih=>
   intro w h hs;rw [ApU];refine ih _ ?_ λs' h'=>hs s' (by simp [h'])
   unfold upd;split
   .intro v hv;rcases ApA hv with hv | rfl
    .exact h v hv
    .exact(hs s Z).imp id Ake
   .exact h
 grind
structure Tn (b:Bls) (x y z top:List Int) (l:List Kv) (root at_:Int) (b':Bls) (x' y' z':List Int):Prop where
 gs:GS b' x' y' z'
 bu:∀c∈b',U8s c
 bl:b'.length=b.length
 ux:U8s x'
 tr:∃nx,tre b' x' y' at_=some nx/\∀k,k < 32->lfv b' (gb nx k)=av b top l k
 ot:∀i,i < 160->bit x i=true->blk b' i=blk b i
theorem Sk.tn {b b':Bls} {x y z top x' y' z':List Int} {l:List Kv} {root at_:Int} (g:GS b x y z) (hu:∀c∈b,U8s c) (ht:tre b x y root=some top) (hs:Afb b x y l=true) (s:Sk b x y z top l root at_ b' x' y' z'):Tn b x y z top l root at_ b' x' y' z':=by
 obtain ⟨hl64,hk,hlv,_⟩:=Akw hs;have hb:=g.hb;have htl:=HK ht;have htv:=Aln hu ht;obtain ⟨hyr,hyl⟩:=g.ylen;obtain ⟨yr',yl',ym'⟩:=s.yl hyr O;have hw:=s.wk;obtain ⟨nx,b1,x1,z1,q1,tv,hq1,_,hnn,hend⟩:=s.ex;have hnl:=tv.nl;have hnv:=AmU hb.2 htv htl tv;have hyb:∀v∈y,∃m:Nat,v=((m:Nat):Int)/\(33<=m/\m < b.length)/\bit x m=true:=λv hv=>by
  obtain ⟨i,hi,rfl⟩:=Ao3 hv;have:=(Ht g.hy).2 i hi
  grind
 have hgone:∀v∈y',∃m:Nat,v=((m:Nat):Int)/\(33<=m/\m < b.length)/\bit x m=true:=λv hv=>by
  rcases (ym' v).1 hv with hv | hv
  .grind
  .rcases AoK.1 hv with hv | hv
   .obtain ⟨j,hj,rfl,hn,_⟩:=Pa _ _ _ _ hv;obtain ⟨m,e,h1,h2,h3,_⟩:=Cy (M0 ht hj hn).lv
    grind
   .unfold rtL at hv;split at hv
    .cases hv
    .rename_i hr;rw [AoZ]at hv;subst hv;obtain ⟨m,e,h1,h2,h3,_⟩:=Cy (Z4 ht hr).1
     grind
 have hup:(∀i,i < 160->bit x1 i=true->bit x' i=true)/\(∀i,i < 160->bit x1 i=true->blk b' i=blk b1 i)/\(∀c∈b',U8s c)/\(∀v∈z',v∈z1\/∃m:Nat,v=((m:Nat):Int)/\(33<=m/\m < b.length)/\bit x' m=true)/\(∀i,b.length<=i->i < 160->bit x' i=bit x1 i):=by
  rcases hend with⟨_,_,rfl,rfl,rfl⟩ | ⟨_,m,_,hm,hbm,rfl,rfl,rfl,_,_⟩
  .exact⟨λi _ h=>h,λi _ _=>rfl,tv.bu,λv hv=>.inl hv,λi _ _=>rfl⟩
  .have hx1:=tv.wk.hx;have hb1:=tv.wk.hb;have hz1:=tv.wk.hz;have hbit:∀i,i < 160->bit (setB x1 m) i=(decide (i=m) || bit x1 i):=λi hi=>SJ tv.wk.hu O O
   obtain ⟨_,_,z3,z4,z5⟩:=NT (z:=z1) O tv.wk.hr ((m:Nat):Int);obtain ⟨_,_,_,_,y5⟩:=NT (z:=pt z1 ((m:Nat):Int)) O z4 ((m:Nat):Int);refine⟨λi hi h=>by grind,λi hi h=>?_,λc hc=>?_,λv hv=>?_,λi h1 h2=>by grind⟩
   .have him:m≠i:=by grind
    rw [Ma him,Ma him]
   .rcases ApA hc with hc | rfl
    .rcases ApA hc with hc | rfl
     .exact tv.bu c hc
     .exact ZF
    .exact AfU O
   grind
 obtain ⟨up1,up2,up3,up4,up5⟩:=hup;have hx':∀i,i < 160->bit x i=true->bit x' i=true:=λi hi h=>up1 i hi (tv.ot i hi h).2
 have hblk:∀i,i < 160->bit x i=true->blk b' i=blk b i:=λi hi h=>by
  have:=tv.ot i hi h
  grind
 have hbl:b'.length=b.length:=hw.hb;have hfree:∀m:Nat,bit x m=false->((m:Nat):Int)∉y':=λm hm hh=>by
  grind
 have hgs:GS b' x' y' z':=by
  refine⟨O,hw.hx,hw.hk,λi hi=>?_,?_,?_⟩
  .rw [hbl];have hg:=g.hbits i hi;unfold bG at hg ⊢;by_cases h33:i < 33
   .grind
   .by_cases hin:b.length<=i
    .rw [up5 i hin hi,tv.hi i hin hi];omega
    grind
  .rw [hbl];refine OJ yr' λv hv=>?_
   grind
  .rw [hbl];refine OJ hw.hr λv hv=>?_
   have hnew:∀m:Nat,(33<=m/\m < b.length)->bit x' m=true->33<=((m:Nat):Int)/\((m:Nat):Int)<=(b.length:Int) - 1/\bit x' (((m:Nat):Int)).toNat=true:=λm hm h=>⟨O,O,by simp_all⟩
   rcases up4 v hv with hv | ⟨m,rfl,hm,h⟩
   .rcases tv.zm v hv with hv | ⟨m,rfl,hm,h⟩
    .obtain ⟨i,hi,rfl⟩:=Ao3 hv;have:=(Ht g.hz).2 i hi
     grind
    grind
   grind
 refine⟨hgs,up3,hbl,hw.hu,?_,hblk⟩;have hleaf:∀k,k < 32->lfv b' (gb nx k)=av b top l k:=λk hk32=>by
  cases ho:oth l k with
  | false=>
   rw [YD ho,tv.st k hk32 (.inr ho)];unfold lfv;split
   .rfl
   .rename_i hn;have lf:=M0 ht hk32 hn;obtain ⟨m,e,h1,h2,h3,_⟩:=Cy lf.lv;rw [e,AoE,hblk m O h3]
  | true=>
   cases hz:nz (av b top l k)with
   | false=>
    rw [tv.dz k hk32 ho hz];unfold lfv;rw [AoJ rfl];have hal:=JE b top l k;have hall:∀v∈av b top l k,v=0:=λv hv=>by
     unfold nz at hz
     grind
    refine(List.eq_replicate_iff.2 ⟨hal,hall⟩).symm
   | true=>
    obtain ⟨m,e,hm,_,h3,h4⟩:=tv.dn k hk32 ho hz;unfold lfv;rw [e,AoH O,AoE,up2 m O h3,h4,Xy (JE b top l k) (Am9 hu (λs hs=>AkY hb.2 (hlv s hs)) k)]
 have hst:∀k,k < 32->stG b' x' y' nx k=true:=λk hk32=>by
  unfold stG;by_cases h0:gb nx k=0
  .grind
  rw [decide_eq_false h0,ApR];have hlk:=hleaf k hk32;have hpn:B2 (blk b' (gb nx k).toNat)=av b top l k:=by
   rw [<- hlk];unfold lfv;grind
  rw [hpn];have hbad:Oc b' x' (av b top l k)=false:=bad_no.2 λv hv=>(Aj3 ht hlv hk32 v hv).imp id (AlC hbl hb.2 hx')
  rw [hbad];have hne:∀j,j < k->gb nx j≠gb nx k->True:=λ_ _ _=>trivial
  have hun:(∀j,j < k->gb nx j≠gb nx k)->((nx.take k).any λv=>decide (v=gb nx k))=false:=λh=>by
   rw [Ap8];intro v hv;obtain ⟨j,hj,rfl⟩:=Ao3 hv;rw [AoQ]at hj;rw [List.getElem_take];have:=h j O;unfold gb at this;rw [AoF O,Apo]at this;unfold gb
   grind
  have hwhat:∀j,j < 32->gb nx j≠0->(∃m:Nat,gb nx j=((m:Nat):Int)/\bit x m=false)\/(gb nx j=gb top j/\gb top j≠0/\oth l j=false):=λj hj hjn=>by
   cases ho:oth l j with
   | false=>
    have:=tv.st j hj (.inr ho)
    grind
   | true=>
    cases hz:nz (av b top l j)with
    | false=>exact absurd (tv.dz j hj ho hz) hjn
    | true=>obtain ⟨m,e,_,hx0,_,_⟩:=tv.dn j hj ho hz;grind
  cases ho:oth l k with
  | true=>
   cases hz:nz (av b top l k)with
   | false=>exact absurd (tv.dz k hk32 ho hz) h0
   | true=>
    obtain ⟨m,e,hm,hx0,h3,h4⟩:=tv.dn k hk32 ho hz;have hb4:blk b' m=DW (pgb 81 (av b top l k)):=by grind
    have hp:pgB b' x' y' (gb nx k) 81=true:=by
     unfold pgB;rw [e,AoE,hb4,Zd O O (up1 m O h3) (hfree m hx0),decide_eq_true (XK 81 _),XH (JE b top l k)];rfl
    have hd:=hun λj hj he=>by
     have hj0:gb nx j≠0:=O
     rcases hwhat j O hj0 with⟨m2,e2,hx2⟩ | ⟨e2,hn2,_⟩
     .cases hoj:oth l j with
      | false=>
       have:=tv.st j O (.inr hoj);rw [this]at hj0;obtain ⟨m3,e3,_,_,h3x,_⟩:=Cy (M0 ht O hj0).lv;rw [this,e3]at e2;obtain rfl:m3=m2:=O
       grind
      | true=>
       cases hzj:nz (av b top l j)with
       | false=>grind
       | true=>exact tv.ds j k hj hk32 hoj ho hzj hz he
     .obtain ⟨m3,e3,_,_,h3x,_⟩:=Cy (M0 ht (O:j < 32) hn2).lv;rw [e2,e3,e]at he;obtain rfl:m3=m:=O
      grind
    grind
  | false=>
   have e:=tv.st k hk32 (.inr ho);have hn:gb top k≠0:=O
   have lf:=M0 ht hk32 hn;obtain ⟨m,em,h1,h2,h3,h4⟩:=Cy lf.lv;have hz:nz (av b top l k)=true:=by rw [YD ho];unfold lfv;rw [AoH hn];exact lf.nz
   have hny:((m:Nat):Int)∉y':=λhh=>by
    rcases (ym' _).1 hh with hh | hh
    .exact h4 hh
    .rcases AoK.1 hh with hh | hh
     .obtain ⟨j,hj,ej,hnj,hoj⟩:=Pa _ _ _ _ hh;have hjk:j≠k:=by grind
      rcases Nat.lt_or_gt_of_ne hjk with hl | hl
      .exact lf.un j hl O
      .exact(M0 ht hj hnj).un k hl O
     .unfold rtL at hh;split at hh
      .cases hh
      .rw [AoZ]at hh;have hk80:=lf.rt.2.2;have hk81:=lf.kd
       grind
   have hbe:=hblk m O h3;have hp:pgB b' x' y' (gb nx k) 81=true:=by
    have hkd:=lf.kd;have hrz:=lf.rz;rw [em,AoE]at hkd hrz;unfold pgB;rw [e,em,AoE,hbe,Zd h1 O (hx' m O h3) hny,decide_eq_true hkd,hrz];rfl
   have hd:=hun λj hj he=>by
    have hj0:gb nx j≠0:=O
    rcases hwhat j O hj0 with⟨m2,e2,hx2⟩ | ⟨e2,hn2,_⟩
    .rw [e2,e,em]at he;obtain rfl:m2=m:=O
     grind
    .exact lf.un j hj O
   grind
 rcases hend with⟨hz,rfl,rfl,rfl,rfl⟩ | ⟨hz,m,rfl,hm,hbm,rfl,rfl,rfl,_,_⟩
 .refine⟨zer,by rfl,λk hk32=>?_⟩;have hall:∀v∈nx,v=0:=λv hv=>by
   unfold nz at hz
   grind
  have:nx=zer:=List.eq_replicate_iff.2 ⟨hnl,hall⟩
  grind
 .have hb1:=tv.wk.hb;have hbk:blk ((b1.set m IE).set m (DW (pgb 80 nx))) m=DW (pgb 80 nx):=VJ (by grind);have htop:JS ((b1.set m IE).set m (DW (pgb 80 nx))) ((m:Nat):Int)=nx:=by
   unfold JS;rw [AoE,hbk,Xy hnl hnv]
  have hx0:bit x m=false:=by
   cases h:bit x m with
   | false=>rfl
   | true=>have:=(tv.ot m O h).2;grind
  have hx1:=tv.wk.hx;have hbit:bit (setB x1 m) m=true:=by rw [SJ tv.wk.hu O O];simp
  refine⟨nx,?_,hleaf⟩;unfold tre;rw [AoH O,htop];have hp:pgB ((b1.set m IE).set m (DW (pgb 80 nx))) (setB x1 m) y' ((m:Nat):Int) 80=true:=by
   unfold pgB;rw [AoE,hbk,Zd O O hbit (hfree m hx0),decide_eq_true (XK 80 _),XH hnl];rfl
  grind
end Go.V.G
set_option maxRecDepth 100000
namespace Go.V.G
open Go.V
theorem Yx {b:Bls} {x y z hv:List Int} {near:Int} {t:List UInt8} (g:RS b x y) (h:JB b x y near=some hv) (ht:t.length<=120):Gm (b,(x,(y,z))) t near=some ((zs (shs b hv (CT 3 t))+1:Nat):Int):=by
 have e2:=Acl (z:=z) (near:=near) g ht;rw [h]at e2;unfold Gm;rw [e2,AoC];dsimp only;generalize hsh:shs b hv (CT 3 t)=sh;have hl:sh.length<=3:=by rw [<- hsh,H8];exact Gf 3 t
 have hfl:(flg sh).length=sh.length:=Ao9 _;have h1:=Af CF (λk=>(((zs (sh.take k)+1:Nat):Int),flg sh,(((flg sh).length:Nat):Int),((k:Nat):Int))) sh.length ((zs (sh.take sh.length)+1:Nat):Int) (λk hk=>by
  have hg:=Ai hk;have hf:(flg sh)[0+Int.toNat ((k:Nat):Int)]?=some (decide (¬ gb sh k=0)):=by rw [AoS,AoE];unfold flg;rw [Apl,hg];rfl
  have hz:=Aks hg;have hle:=AmK (l:=sh) k;have hle2:zs sh<=sh.length:=List.countP_le_length;unfold CF cK cZ wI;dsimp only;rw [iy O,iy O,iy O,hf,AoC,hz];by_cases h0:gb sh k=0
  .rw [AoJ (by simp [h0]),AoC,AoJ h0];dsimp only;rw [Ah O,Ah O]
  .rw [AoH (by simp [h0]),AoC,AoH h0];dsimp only;rw [Ah O]) (by
  unfold CF cK cZ wI;dsimp only;rw [ino O])
 rw [Apy]at h1;have h2:Ab CF (((zs (sh.take 0)+1:Nat):Int),flg sh,(((flg sh).length:Nat):Int),0)=_:=h1;rw [show zs (sh.take 0)=0 from rfl]at h2;rw [show Ab CF (1,flg sh,(((flg sh).length:Nat):Int),0)=_ from h2,AoC]
end Go.V.G
set_option maxRecDepth 100000
namespace Go.V.G
open Go.V
theorem Ajr {b:Bls} (hb:b.length<=160) (hk:∀c∈b,c.length=128):Bd b:=⟨O,λc hc=>by have:=hk c hc;omega⟩
section
variable {b b':Bls} {x y z:List Int} {wr lf f hd ev:Int} {rt tx:Nat}
end
section
variable {b:Bls} {wr lf ev f:Int} {on:Bool} {t:List UInt8} {r:List Rn} {cs:List (List Prt)}
def okM (b:Bls) (wr lf ev f:Int) (t:List UInt8) (r:List Rn) (cs:List (List Prt)):Prop:=gd b wr lf=true/\wr<=999999900/\(1<=ev/\ev<=30)/\F6 f t r cs=true/\cs.length=0
end
end Go.V.G
set_option maxRecDepth 100000
namespace Go.V.G
open Go.V
theorem Lp {b:Bls} {wr lf:Int} (h:gd b wr lf=true):(40<=b.length/\b.length<=160)/\∀c∈b,c.length=128:=by
 unfold gd at h;simp only [AoI,decide_eq_true_eq,Apb,beq_iff_eq]at h;exact⟨h.1,h.2.1⟩
section
variable {b:Bls} {wr lf ev f:Int} {t:List UInt8} {r:List Rn} {cs:List (List Prt)}
end
end Go.V.G
set_option maxRecDepth 100000
namespace Go.V.G
open Go.V
theorem I7 {σ τ ρ:Type} (L:σ->Option (σ⊕(τ⊕ρ))) (st:Nat->σ) (p:Nat->Bool) (e:ρ) (z:τ) (n:Nat)
  (step:∀i,i < n->L (st i)=some (if p i=true then .inl (st (i+1))else .inr (.inr e))) (last:L (st n)=some (.inr (.inl z))) :
  Ab L (st 0)=some (if(List.range n).all p=true then .inl z else .inr e):=by
 rcases BV L st p (λ_=>e) z n step last with⟨ha,hlp⟩ | ⟨k,hk,hp,_,hlp⟩
 .grind
 grind
def gG (n:Nat) (g:List Wr) (i:Nat):Bool:=decide ((gw g i).1=0\/(gw g i).1=1\/33<=(gw g i).1/\(gw g i).1<=(n:Int) - 1) && (decide ((gw g i).2.length=128) && (decide (i=0) || decide ((gw g (i - 1)).1 < (gw g i).1)))
def grB (n:Nat) (g:List Wr):Bool:=decide (1<=g.length/\g.length<=30) && (List.range g.length).all (gG n g)
theorem Aj9 {n:Nat} (hn:n<=1048576) (a:Int):UI a (n:Int)=some (decide (a=0\/a=1\/33<=a/\a<=(n:Int) - 1)):=by
 unfold UI wI;rw [w64 O O,Cm]
 grind
theorem Ae7 {n:Nat} {g:List Wr} (hn:n<=1048576) (hg:g.length<=1048576):ND g (n:Int)=some (grB n g):=by
 unfold ND grB;rw [Cm,AoC];by_cases hl:1<=g.length/\g.length<=30
 .rw [decide_eq_true (show(1:Int)<=(g.length:Int)/\(g.length:Int)<=30 by omega),decide_eq_true hl];have h:=I7 Jt (λi=>(g,(n:Int),g,(g.length:Int),((i:Nat):Int))) (gG n g) false () g.length (λi hi=>by
   unfold Jt gG gX wI;dsimp only;rw [iy O,iy O,AoE,FX hi,AoC,Aj9 hn,AoC];have hix:=Ah (i:=i) O;by_cases h1:(gw g i).1=0\/(gw g i).1=1\/33<=(gw g i).1/\(gw g i).1<=(n:Int) - 1
   .rw [decide_eq_true h1];by_cases h2:(gw g i).2.length=128
    .rw [ino (O:¬ ¬ (((gw g i).2.length:Nat):Int)=128),decide_eq_true h2];by_cases h3:i=0
     .grind
     .rw [iy (show(0:Int) < ((i:Nat):Int) by omega),im1 O O,iy O,AoE,FX O,decide_eq_false h3]
      grind
    grind
   grind) (by
   unfold Jt gX wI;simp)
  grind
 grind
def gI (g:List Wr) (i:Nat):Bool:=decide (0<=(gw g i).1/\(gw g i).1 < 160/\¬ (1 < (gw g i).1/\(gw g i).1 < 33)) && ((decide (i=0) || decide ((gw g (i - 1)).1 < (gw g i).1)) && decide ((gw g i).2.length=128))
theorem AaC {g:List Wr} (hg:g.length<=1048576):NM g=some ((List.range g.length).all (gI g) && decide (1<=g.length/\g.length<=30)):=by
 unfold NM;have h:=I7 HC (λi=>(g,g,(g.length:Int),((i:Nat):Int))) (gI g) false g g.length (λi hi=>by
  unfold HC gI gX wI;dsimp only;rw [iy O,iy O,AoE,FX hi,AoC];by_cases h1:(gw g i).1 < 0
  .grind
  .rw [ino h1];by_cases h2:(160:Int)<=(gw g i).1
   .grind
   .rw [ino h2];have key:(if decide ((0:Int) < ((i:Nat):Int))=true then
      (if decide ((0:Int)<=IntKind.wrap .i64 (((i:Nat):Int) - 1))=true then
       Option.bind (g[Int.toNat (IntKind.wrap .i64 (((i:Nat):Int) - 1))]?) λr2=>
        if decide ((gw g i).1<=r2.1)=true then some (g,g,(g.length:Int),((i:Nat):Int),true)else some (g,g,(g.length:Int),((i:Nat):Int),decide (¬ (((gw g i).2.length:Nat):Int)=128))
      else none)else some (g,g,(g.length:Int),((i:Nat):Int),decide (¬ (((gw g i).2.length:Nat):Int)=128))) =
      some (g,g,(g.length:Int),((i:Nat):Int),!((decide (i=0) || decide ((gw g (i - 1)).1 < (gw g i).1)) && decide ((gw g i).2.length=128))):=by
     have e:decide (¬ (((gw g i).2.length:Nat):Int)=128) = !decide ((gw g i).2.length=128):=by
      grind
     by_cases h3:i=0
     .grind
     .rw [iy (show(0:Int) < ((i:Nat):Int) by omega),im1 O O,iy O,AoE,FX O,AoC,decide_eq_false h3,e]
      grind
    have fin:decide (0<=(gw g i).1/\(gw g i).1 < 160/\¬ (1 < (gw g i).1/\(gw g i).1 < 33)) = !(decide (1 < (gw g i).1) && decide ((gw g i).1 < 33)):=by
     grind
    rw [fin];by_cases h3:1 < (gw g i).1
    .rw [iy h3,decide_eq_true h3];by_cases h4:(gw g i).1 < 33
     .grind
     .rw [ino h4,decide_eq_false h4,key,AoC];dsimp only;rw [Ah O]
      grind
    .rw [ino h3,decide_eq_false h3,key,AoC];dsimp only;rw [Ah O]
     grind) (by
  unfold HC gX wI;simp)
 rw [show Ab HC (g,g,(g.length:Int),0)=_ from h];have e:decide ((1:Int)<=(g.length:Int)/\(g.length:Int)<=30)=decide (1<=g.length/\g.length<=30):=decide_eq_decide.2 O;cases (List.range g.length).all (gI g)with
 | true=>rw [AoJ rfl,AoC];dsimp only;rw [AE,e];rfl
 | false=>rfl
theorem AmR {g:List Wr} {w:Wr} (h:w∈g):∃i,i < g.length/\gw g i=w:=by
 obtain ⟨i,hi,rfl⟩:=Ao3 h;exact⟨i,hi,by have:=FX hi;grind⟩
theorem Agc {n:Nat} {g:List Wr} (hn:40<=n) (h:grB n g=true) (hu:∀w∈g,U8s w.2):GrOk n g/\1<=g.length/\g.length<=30:=by
 simp only [grB,AoI,decide_eq_true_eq]at h;obtain ⟨h1,h2⟩:=h;have h3:=all_range.1 h2;have at_:∀w∈g,(0<=w.1/\w.1 < (n:Int))/\w.2.length=128:=λw hw=>by
  obtain ⟨i,hi,rfl⟩:=AmR hw;have:=h3 i hi;simp only [gG,AoI,decide_eq_true_eq]at this;omega
 exact⟨⟨O,λw hw=>(at_ w hw).1,λw hw=>(at_ w hw).2,hu⟩,h1⟩
theorem Ww {bl:Bls} {wr lf:Int} (on:Bool) {g:List Wr} (hd:gd bl wr lf=true) (hg:g.length<=1048576):KO bl wr on lf g=some (grB bl.length g):=by
 obtain ⟨hb,-⟩:=Lp hd;unfold KO gX wI;rw [Kj O,hd,AoC,AoJ rfl,AaC hg,AoC];by_cases hl:1<=g.length/\g.length<=30
 .cases hi:(List.range g.length).all (gI g)with
  | false=>
   rw [Bool.false_and];have:grB bl.length g=false:=by
    rw [Bool.eq_false_iff];intro h;simp only [grB,AoI,decide_eq_true_eq]at h;have h3:=all_range.1 h.2;have:(List.range g.length).all (gI g)=true:=all_range.2 λi hi=>by
     have:=h3 i hi;simp only [gG,AoI,decide_eq_true_eq]at this;simp only [gI,AoI,decide_eq_true_eq]
     grind
    grind
   grind
  | true=>
   have h3:=all_range.1 hi;have h4:∀i,i < g.length->(0<=(gw g i).1/\(gw g i).1 < 160/\¬ (1 < (gw g i).1/\(gw g i).1 < 33))/\(i=0\/(gw g (i - 1)).1 < (gw g i).1)/\(gw g i).2.length=128:=λi hi=>by
    have:=h3 i hi;simp only [gI,AoI,Aqc,decide_eq_true_eq]at this;omega
   rw [AoT,decide_eq_true hl,AoJ rfl,im1 O O,iy O,AoE,FX O,AoC];unfold P6 wI;rw [AE,w64 O O];have up:∀d i,i+d < g.length->(gw g i).1<=(gw g (i+d)).1:=by
    intro d
    induction d with
    | zero=>simp
    | succ d ih=>
     grind
   have e:grB bl.length g=decide (0<=(gw g (g.length - 1)).1/\(gw g (g.length - 1)).1<=(bl.length:Int) - 1):=by
    unfold grB;rw [decide_eq_true hl,AoT];have h0:=h4 (g.length - 1) O;by_cases hlast:(gw g (g.length - 1)).1<=(bl.length:Int) - 1
    .rw [decide_eq_true (show 0<=(gw g (g.length - 1)).1/\(gw g (g.length - 1)).1<=(bl.length:Int) - 1 from⟨h0.1.1,hlast⟩)];refine all_range.2 λi hi=>?_
     have h5:=h4 i hi;have h6:=up (g.length - 1 - i) i O;rw [(O:i+(g.length - 1 - i)=g.length - 1)]at h6;simp only [gG,AoI,Aqc,decide_eq_true_eq];omega
    .rw [decide_eq_false (λh=>hlast h.2),Bool.eq_false_iff];intro h;have:=all_range.1 h (g.length - 1) O;simp only [gG,AoI,decide_eq_true_eq]at this;omega
   rw [e];rfl
 .have:grB bl.length g=false:=by unfold grB;grind
  grind
def wGr (bl:Bls):List Wr:=(List.range (gb (blk bl 2) 4).toNat).map λk=>(num (blk bl 2) (5+2 * k),blk bl (3+k))
theorem Ac3 (bl:Bls):(wGr bl).length=(gb (blk bl 2) 4).toNat:=by simp [wGr]
theorem Ahq {bl:Bls} (hu:∀c∈bl,U8s c):∀w∈wGr bl,U8s w.2:=λw hw=>by
 simp only [wGr,Ao0]at hw;obtain ⟨k,_,rfl⟩:=hw;intro v hv;by_cases h:3+k < bl.length
 .exact hu _ (BG h) v hv
 .simp only [blk]at hv
  grind
def wts (bl:Bls):List Wr:=if(decide (1<=gb (blk bl 2) 4/\gb (blk bl 2) 4<=30) && (grB bl.length (wGr bl) && (VU (wGr bl) == blk bl 2)))=true then wGr bl else []
theorem PN {α:Type} (f:Nat->α) (k:Nat):(List.range (k+1)).map f=(List.range k).map f++[f k]:=by rw [Aqb,Ape];rfl
theorem Hx {bl:Bls} {wr lf:Int} (on:Bool) (hd:gd bl wr lf=true) (hu:∀c∈bl,U8s c):K5 bl wr on lf=some (wts bl):=by
 obtain ⟨hb,hk⟩:=Lp hd;have u2:=hu _ (BG (O:2 < bl.length));have l2:=hk _ (BG (O:2 < bl.length));have h4:=Ec u2 4;unfold K5 wts gX;rw [show bl[Int.toNat 2]?=some (blk bl 2) from Bj O,AoC,show(blk bl 2)[Int.toNat 4]?=some (gb (blk bl 2) 4) from Ai O,AoC,Cm,w64 O O,AoC];by_cases hn:1<=gb (blk bl 2) 4/\gb (blk bl 2) 4<=30
 .rw [decide_eq_true hn];obtain ⟨n,hn'⟩:=AoX h4.1;have hwl:=Ac3 bl;rw [hn',AoE]at hwl;have h:=Af Fq (λk=>(blk bl 2,(n:Int),(List.range k).map (λk=>(num (blk bl 2) (5+2 * k),blk bl (3+k))),((k:Nat):Int),bl,wr,on,lf)) n (blk bl 2,wGr bl,bl,wr,on,lf) (λk hk'=>by
   have e1:IntKind.wrap .i64 (5+(IntKind.wrap .i64 (2 * ((k:Nat):Int))))=((5+2 * k:Nat):Int):=by rw [w64 (n:=2 * ((k:Nat):Int)) O O,w64 O O];omega
   have e2:IntKind.wrap .i64 (6+(IntKind.wrap .i64 (2 * ((k:Nat):Int))))=((5+2 * k+1:Nat):Int):=by rw [w64 (n:=2 * ((k:Nat):Int)) O O,w64 O O];omega
   have e3:IntKind.wrap .i64 (3+((k:Nat):Int))=((3+k:Nat):Int):=by rw [w64 O O];omega
   have l3:=hk _ (BG (O:3+k < bl.length));have q1:=Ec u2 (5+2 * k);have q2:=Ec u2 (5+2 * k+1);unfold Fq cK gX wI;dsimp only;rw [iy O,e1,e2,e3,iy O,AoE,Ai O,AoC,iy O,AoE,Ai O,AoC,iy O,AoE,Bj O,AoC,
    AoJ (by simp only [Aa,decide_eq_true_eq,Apd];omega),AoJ (by simp only [Aa,decide_eq_true_eq,Ao9,List.length_range,AoP];omega),Ah O,Un q1 q2,PN]
   rfl) (by
   unfold Fq cK gX wI;unfold wGr
   grind)
  rw [hn',show Ab Fq (blk bl 2,(n:Int),[],0,bl,wr,on,lf)=_ from h];simp only [Apv,AoO,Apa,AoC,AoT];rw [Ae7 O O,AoC];cases hg:grB bl.length (wGr bl)with
  | false=>rfl
  | true=>
   obtain ⟨g1,g2,g3⟩:=Agc O hg (Ahq hu);rw [Aci g1 O g3];simp only [Apv,AoO,Apa,AoC,AoT];rw [T8 (AjX g3) u2]
   grind
 grind
theorem Mz {bl:Bls} {wr lf:Int} (on:Bool) (hd:gd bl wr lf=true) (hu:∀c∈bl,U8s c):HR bl wr on lf=some (wts bl):=by
 obtain ⟨hb,hk⟩:=Lp hd;have u2:=hu _ (BG (O:2 < bl.length));have l2:=hk _ (BG (O:2 < bl.length));have h4:=Ec u2 4;unfold HR wts gX;rw [show bl[Int.toNat 2]?=some (blk bl 2) from Bj O,AoC,show(blk bl 2)[Int.toNat 4]?=some (gb (blk bl 2) 4) from Ai O,AoC,AE,w64 O O,AoC];by_cases hn:1<=gb (blk bl 2) 4/\gb (blk bl 2) 4<=30
 .rw [decide_eq_true hn];obtain ⟨n,hn'⟩:=AoX h4.1;have hwl:=Ac3 bl;have h:=Af D5 (λk=>(blk bl 2,(List.range k).map (λk=>(num (blk bl 2) (5+2 * k),blk bl (3+k))),(n:Int),((k:Nat):Int),bl,wr,on,lf)) n (blk bl 2,wGr bl,bl,wr,on,lf) (λk hk'=>by
   have e1:IntKind.wrap .i64 (5+(IntKind.wrap .i64 (2 * ((k:Nat):Int))))=((5+2 * k:Nat):Int):=by rw [w64 (n:=2 * ((k:Nat):Int)) O O,w64 O O];omega
   have e3:IntKind.wrap .i64 (3+((k:Nat):Int))=((3+k:Nat):Int):=by rw [w64 O O];omega
   unfold D5 cK gX wI;dsimp only;rw [iy O,e1,e3,GL u2 O O,AoC,iy O,AoE,Bj O,AoC,
    AoJ (by simp only [Aa,decide_eq_true_eq,Ao9,List.length_range,AoP];omega),Ah O,PN]) (by
   unfold D5 cK gX wI;unfold wGr
   grind)
  rw [hn',show Ab D5 (blk bl 2,[],(n:Int),0,bl,wr,on,lf)=_ from h];simp only [Apv,AoO,Apa,AoC,AoT];rw [Ww on hd O,AoC];cases hg:grB bl.length (wGr bl)with
  | false=>rfl
  | true=>
   obtain ⟨g1,g2,g3⟩:=Agc O hg (Ahq hu);rw [Abw g1 O g3];simp only [Apv,AoO,Apa,AoC,AoT];rw [Xv (by rw [Ah9 g3];omega),AoC]
   grind
 grind
end Go.V.G
set_option maxRecDepth 100000
namespace Go.V.G
open Go.V
def OE (f h e r t:Int):Bool:=decide ((0<=f/\f<=h)/\h<=60) && (decide (1<=e/\e<=30) && (decide (33<=r/\r<=159) && decide (33<=t/\t<=159)))
theorem AdD {f h e r t:Int} (g:OE f h e r t=true):∃(m n:Nat),r=(m:Int)/\t=(n:Int)/\SupOk f h e m n:=by
 simp only [OE,AoI,decide_eq_true_eq]at g;obtain ⟨g1,g2,g3,g4⟩:=g;obtain ⟨m,hm⟩:=AoX (O:0<=r);obtain ⟨n,hn⟩:=AoX (O:0<=t);exact⟨m,n,hm,hn,⟨g1.1,g1.2,g2,O,O⟩⟩
theorem ZX (f h e r t:Int):Nu f h e r t=some (OE f h e r t):=by
 unfold Nu Q8 OE;simp only [Cm,AoC];by_cases h1:0<=f/\f<=h <;> by_cases h2:h<=60 <;> by_cases h3:1<=e/\e<=30 <;> by_cases h4:33<=r/\r<=159 <;> simp [h1,h2,h3,h4]
theorem Ab2 (f h:Int):In f h=some (decide ((0<=f/\f<=h)/\h<=60)):=by
 unfold In;by_cases h1:0<=f <;> by_cases h2:f<=h <;> simp [h1,h2]
theorem AiE {f h e r t:Int} (g:OE f h e r t=false):FJ f h e r t=some ([],false):=by
 unfold FJ Lu cK;unfold OE at g;simp only [Ab2,AE,AoC];by_cases h1:(0<=f/\f<=h)/\h<=60
 .rw [decide_eq_true h1]at g ⊢;by_cases h3:1<=e/\e<=30
  .rw [decide_eq_true h3]at g ⊢;by_cases h4:33<=r/\r<=159
   .rw [decide_eq_true h4]at g ⊢;simp only [AoT]at g;rw [g];rfl
   .rw [decide_eq_false h4];rfl
  .rw [decide_eq_false h3];rfl
 .rw [decide_eq_false h1];rfl
abbrev Sup:=Int×(Int×(Int×(Int×Int)))
def WL (c:List Int):Bool:=decide (c.length=128) && (OE (gb c 4) (gb c 5) (gb c 6) (num c 8) (num c 10) && (PC (gb c 4) (gb c 5) (gb c 6) (num c 8) (num c 10) == c))
def Ol (c:List Int):Bool×Sup:=if WL c=true then(true,gb c 4,gb c 5,gb c 6,num c 8,num c 10)else(false,0,0,0,0,0)
theorem JI {c:List Int} (hu:U8s c):NY c=some (Ol c):=by
 unfold NY Ol WL gX wI;by_cases hl:c.length=128
 .have u:=Ec hu;rw [ino O,iy O,show c[Int.toNat 4]?=some (gb c 4) from Ai O,AoC,iy O,show c[Int.toNat 5]?=some (gb c 5) from Ai O,AoC,iy O,show c[Int.toNat 6]?=some (gb c 6) from Ai O,AoC,
   iy O,show c[Int.toNat 8]?=some (gb c 8) from Ai O,AoC,iy O,show c[Int.toNat 9]?=some (gb c 9) from Ai O,AoC,iy O,show c[Int.toNat 10]?=some (gb c 10) from Ai O,AoC,iy O,show c[Int.toNat 11]?=some (gb c 11) from Ai O,AoC,
   Un (u 8) (u 9),Un (u 10) (u 11),w64 (n:=gb c 4) (by have:=u 4;omega) (by have:=u 4;omega),w64 (n:=gb c 5) (by have:=u 5;omega) (by have:=u 5;omega),w64 (n:=gb c 6) (by have:=u 6;omega) (by have:=u 6;omega),ZX,AoC,decide_eq_true hl,AoT,
   show gb c 8 * 256+gb c 9=num c 8 from rfl,show gb c 10 * 256+gb c 11=num c 10 from rfl]
  cases hg:OE (gb c 4) (gb c 5) (gb c 6) (num c 8) (num c 10)with
  | false=>rfl
  | true=>
   obtain ⟨m,n,hm,hn,hs⟩:=AdD hg;rw [hm,hn,Afg hs];simp only [Apv,AoO,Apa,AoC,AoT];rw [T8 (Aj0 hs) hu];cases (PC (gb c 4) (gb c 5) (gb c 6) (m:Int) (n:Int) == c) <;> rfl
 .rw [iy O,decide_eq_false hl];rfl
theorem RN {c:List Int} (hu:U8s c):NG c=some (Ol c):=by
 unfold NG Ol WL gX;by_cases hl:c.length=128
 .have u:=Ec hu;rw [ino O,iy O,show c[Int.toNat 4]?=some (gb c 4) from Ai O,AoC,iy O,show c[Int.toNat 5]?=some (gb c 5) from Ai O,AoC,iy O,show c[Int.toNat 6]?=some (gb c 6) from Ai O,AoC,
   show CL c 8=some (num c 8) from GL (i:=8) hu O O,AoC,show CL c 10=some (num c 10) from GL (i:=10) hu O O,AoC,
   w64 (n:=gb c 4) (by have:=u 4;omega) (by have:=u 4;omega),w64 (n:=gb c 5) (by have:=u 5;omega) (by have:=u 5;omega),w64 (n:=gb c 6) (by have:=u 6;omega) (by have:=u 6;omega),decide_eq_true hl,AoT]
  cases hg:OE (gb c 4) (gb c 5) (gb c 6) (num c 8) (num c 10)with
  | false=>rw [AiE hg];rfl
  | true=>
   obtain ⟨m,n,hm,hn,hs⟩:=AdD hg;rw [hm,hn,Aff hs];simp only [Apv,AoO,Apa,AoC,AoT];rw [Xv (by rw [AiY];omega),AoC];cases (PC (gb c 4) (gb c 5) (gb c 6) (m:Int) (n:Int) == c) <;> rfl
 .rw [iy O,decide_eq_false hl];rfl
def opB (bl:Bls):List Int:=(blk bl 1).take 20
def opG (bl:Bls):Bool:=gsp bl (opB bl) [] [] && rz (blk bl 1) 20
def opD (bl:Bls):Bool×(Bls×List Int):=if opG bl=true then(true,bl,opB bl)else(false,[],[])
theorem SH {bl:Bls} (h1:bl.length<=160) (h2:40<=bl.length):SB bl (opB bl) [] []:=by
 exact⟨O,Z,Z⟩
theorem Wg {bl:Bls} {wr lf:Int} (on:Bool) (hd:gd bl wr lf=true) (hu:∀c∈bl,U8s c):K4 bl wr on lf=some (opD bl):=by
 obtain ⟨hb,hk⟩:=Lp hd;have l1:=hk _ (BG (O:1 < bl.length));unfold K4 opD opG gX sX;rw [Kj O,hd,AoC,AoH Z,iy O,show bl[Int.toNat 1]?=some (blk bl 1) from Bj O,AoC,Qm (Ajr O hk),AoC,iy O,iy O,iy O,iy O,
  show(List.drop (Int.toNat 0) (blk bl 1)).take (Int.toNat 20 - Int.toNat 0)=opB bl from rfl,RH (by unfold opB;rw [AoQ];omega),AoC,VY (SH O O),AoC]
 cases hg:gsp bl (opB bl) [] []with
 | false=>rfl
 | true=>
  simp only [Apv,AoO,Apa,AoC,AoT];rw [iy O,iy O,iy O,iy O];have hcf:∀{l:List Int},l.length<=1048576->Bg l=some (l.any λv=>decide (¬ v=0)):=λ{l} hl=>by
   unfold Bg BX;obtain ⟨r,hr,h⟩:=Ku Bh (λv=>decide (¬ v=0)) l (λk hk=>by
    unfold Bh LC gX wI;dsimp only;rw [iy O,iy O,AoE,Ai hk,AoC,AoC,Ah O];by_cases hz:gb l k=0 <;> simp [hz]) (by
    unfold Bh gX wI;dsimp only;rw [ino O])
   rw [hr,AoC];rcases h with⟨rfl,h⟩ | ⟨k,rfl,h⟩
   .rw [h];rfl
   .rw [h];dsimp only;rw [AoC,decide_eq_true O]
  rw [AoE,show Int.toNat 20=20 from rfl,Ao5 (show(List.drop 20 (blk bl 1)).length<=(blk bl 1).length - 20 by rw [Apr];omega),hcf (by rw [Apr];omega),AoC,OP];cases rz (blk bl 1) 20 <;> rfl
theorem H1 {bl:Bls} {wr lf:Int} (on:Bool) (hd:gd bl wr lf=true) (hu:∀c∈bl,U8s c):KX bl wr on lf=some (opD bl):=by
 obtain ⟨hb,hk⟩:=Lp hd;have l1:=hk _ (BG (O:1 < bl.length));have e1:bl[0+Int.toNat 1]?=some (blk bl 1):=Bj O;unfold KX opD opG cK cZ sX;rw [I4 O,hd,AoC,AoH Z,AkW (Ajr O hk),AoC];dsimp only;rw [iy O,iy O,e1,AoC,AoC,iy O,iy O,iy O,iy O,AoC,
  AoJ (by simp only [Aa,decide_eq_true_eq,AoQ,Apd];omega),iy O,iy O,AoC,AoC,iy O,iy O,iy O,iy O,AoC,
  Ao6,show((blk bl 1).drop (Int.toNat 0)).take (Int.toNat 20 - Int.toNat 0)=opB bl from rfl,AoE,show Int.toNat 20=20 from rfl,Ao5 (show(List.drop 20 (blk bl 1)).length<=(blk bl 1).length - 20 by rw [Apr];omega)]
 have hdl:(List.drop 20 (blk bl 1)).length=108:=by rw [Apr,l1]
 have h:=Uj FQ (λk=>(bl,((0+Int.toNat 1:Nat):Int),((20:Nat):Int),(((blk bl 1).length - 20:Nat):Int),(((List.drop 20 (blk bl 1)).length:Nat):Int),((k:Nat):Int),opB bl)) (List.drop 20 (blk bl 1)) (λv=>decide (¬ v=0)) false (bl,opB bl) (λk hk'=>by
  have e3:(blk bl 1)[20+k]?=some (gb (List.drop 20 (blk bl 1)) k):=by
   have:=Ai hk';rw [Apu]at this;exact this
  unfold FQ cK cZ wI;dsimp only;rw [iy O,iy O,show Int.toNat ((0+Int.toNat 1:Nat):Int)=0+Int.toNat 1 from rfl,e1,AoC,iy (by rw [AoQ,show Int.toNat ((20:Nat):Int)=20 from rfl,AoE];omega),AoC,show Int.toNat ((20:Nat):Int)=20 from rfl,AoE k,e3,AoC,Ah O];by_cases hz:gb (List.drop 20 (blk bl 1)) k=0 <;> simp [hz]) (by
  unfold FQ cK cZ wI;dsimp only;rw [ino O])
 rw [show Ab FQ (bl,((0+Int.toNat 1:Nat):Int),((20:Nat):Int),(((blk bl 1).length - 20:Nat):Int),(((List.drop 20 (blk bl 1)).length:Nat):Int),0,opB bl)=_ from h,OP];cases hz:rz (blk bl 1) 20 with
 | false=>simp
 | true=>
  simp only [Apv,AoO,Apa,AoC,Ap4];rw [OU (SH O O),AoC];cases gsp bl (opB bl) [] [] <;> rfl
end Go.V.G
set_option maxRecDepth 100000
namespace Go.V.G
open Go.V
def rcC (b:Bls) (x y:List Int) (a:Int) (ch:List Int):Bool:=
 liv b x y a && (!decide (a∈ch) && (!decide (ch.length=9) && (decide (gb (blk b a.toNat) 0=82) && (!decide (124 < gb (blk b a.toNat) 3) && ((decide (num (blk b a.toNat) 1=0) || !decide (gb (blk b a.toNat) 3 < 124)) &&
  ((!decide (gb (blk b a.toNat) 3=0) || decide (ch.length=0)) && rz (blk b a.toNat) (4+(gb (blk b a.toNat) 3).toNat)))))))
def rcO (b:Bls) (a:Int):List Int:=((blk b a.toNat).drop 4).take (gb (blk b a.toNat) 3).toNat
def rcN (b:Bls) (x y:List Int):Nat->Int->List Int->List Int->Option (List Int×List Int)
 | 0,_,_,_=>none
 | f+1,a,d,ch=>if rcC b x y a ch=true then(if num (blk b a.toNat) 1=0 then some (d++rcO b a,ch++[a])else rcN b x y f (num (blk b a.toNat) 1) (d++rcO b a) (ch++[a]))else none
def rcd (b:Bls) (x y:List Int) (a:Int):Option (List Int×List Int):=rcN b x y 10 a [] []
def rcA (o:Option (List Int×List Int)):List Int×(List Int×Bool):=match o with
 | some p=>(p.1,p.2,true)
 | none=>([],[],false)
theorem AcO {b:Bls} {x y z:List Int} (g:RS b x y) {a:Int} (ch:List Int) (hl:liv b x y a=true):∃m n:Nat,a=(m:Int)/\(33<=m/\m < b.length)/\gb (blk b m) 3=(n:Int)/\n<=255:=by
 obtain ⟨m,rfl,h1,h2,_⟩:=Cy hl;have:=g.u8 h2 3;obtain ⟨n,hn⟩:=AoX this.1
 grind
theorem AfC {b:Bls} {x y z:List Int} (g:RS b x y) (a:Int) {d ch:List Int} (hd:d.length<=10000) (hc:ch.length<=9) :
  E5 ((b,x,y,z),a,d,ch)=some (if rcC b x y a ch=true then(if num (blk b a.toNat) 1=0 then .inr (d++rcO b a,ch++[a],true)else .inl ((b,x,y,z),num (blk b a.toNat) 1,d++rcO b a,ch++[a]))else .inr ([],[],false)):=by
 unfold E5 cK gX sX wI;dsimp only;rw [L3 g,AoC];cases hl:liv b x y a with
 | false=>unfold rcC;rw [hl];rfl
 | true=>
  obtain ⟨m,n,rfl,hm,hn,hn2⟩:=AcO (z:=z) g ch hl;have hlen:=g.len hm.2;have hu:=g.hu _ (BG hm.2);have hb:=Bj hm.2;unfold rcC rcO;rw [hl,AoE];rw [GO O,AoC];by_cases hin:(m:Int)∈ch
  .grind
  .rw [decide_eq_false hin];by_cases h9:ch.length=9
   .grind
   .rw [decide_eq_false (O:¬ (ch.length:Int)=9),decide_eq_false h9];have hnum:=GL hu (i:=1) O O;have hnum':CL (blk b m) 1=some (num (blk b m) 1):=hnum;have g3:(blk b m)[Int.toNat 3]?=some (n:Int):=by rw [<- hn];exact Ai O
    have g0:(blk b m)[Int.toNat 0]?=some (gb (blk b m) 0):=Ai O;have w5:IntKind.wrap .i64 (n:Int)=(n:Int):=w64 O O;have w4:IntKind.wrap .i64 (4+(n:Int))=((4+n:Nat):Int):=by rw [w64 O O];omega
    rw [hn];simp only [AoC,Apv,AoO,Apa,AoT,Aqx];rw [iy (show(0:Int)<=(m:Int) by omega),AoE,hb,AoC,hnum',AoC,iy O,g3,AoC,iy O,g0,AoC,w5,w4,AoE,AoE];by_cases h82:gb (blk b m) 0=82
    .rw [ino (by simp [h82]),decide_eq_true h82];by_cases h124:(124:Int) < (n:Int)
     .grind
     .rw [ino h124,decide_eq_false h124];have htk:List.take (128 - (4+n)) (List.drop (4+n) (blk b m))=(blk b m).drop (4+n):=Ao5 (by grind);have hcf:=AeV (l:=(blk b m).drop (4+n)) (by grind);rw [OP]at hcf;have hsub:4+n - Int.toNat 4=n:=O
      have ht:(List.drop (Int.toNat 4) (blk b m)).take (4+n - Int.toNat 4)=((blk b m).drop 4).take n:=by simp
      have htl:(((blk b m).drop 4).take n).length=n:=by grind
      have hroom:Aa (d.length+(((blk b m).drop 4).take n).length) 1=true:=by rw [htl];simp only [Aa,decide_eq_true_eq];omega
      have hroom2:Aa (ch.length+([(m:Int)]:List Int).length) 8=true:=by simp only [Aa,decide_eq_true_eq,AoP];omega
      grind
    grind
theorem AfB {b:Bls} {x y z:List Int} (h:SB b x y z) (g:RS b x y) {a:Int} (ha:¬ a=0) {d ch:List Int} (hd:d.length<=10000) (hc:ch.length<=9) :
  IF (a,d,ch,b,x,y,z)=some (if rcC b x y a ch=true then .inl (num (blk b a.toNat) 1,d++rcO b a,ch++[a],b,x,y,z)else .inr (.inr false)):=by
 unfold IF cK gX sX wI;dsimp only;rw [iy ha,Nq g,AoC];cases hl:liv b x y a with
 | false=>unfold rcC;rw [hl];rfl
 | true=>
  obtain ⟨m,n,rfl,hm,hn,hn2⟩:=AcO (z:=z) g ch hl;have hlen:=g.len hm.2;have hu:=g.hu _ (BG hm.2);have hb:=Bj hm.2;unfold rcC rcO;rw [hl,AoE];rw [HF O,AoC];by_cases hin:(m:Int)∈ch
  .grind
  .rw [decide_eq_false hin];by_cases h9:ch.length=9
   .grind
   .rw [decide_eq_false (O:¬ (ch.length:Int)=9),decide_eq_false h9];have g3:(blk b m)[Int.toNat 3]?=some (n:Int):=by rw [<- hn];exact Ai O
    have g0:(blk b m)[Int.toNat 0]?=some (gb (blk b m) 0):=Ai O;have g1:(blk b m)[Int.toNat 1]?=some (gb (blk b m) 1):=Ai O;have g2:(blk b m)[Int.toNat 2]?=some (gb (blk b m) 2):=Ai O;have u1:=Ec hu 1;have u2:=Ec hu 2;have w1:IntKind.wrap .i64 (IntKind.wrap .i64 (IntKind.wrap .i64 (gb (blk b m) 1) * 256)+IntKind.wrap .i64 (gb (blk b m) 2))=num (blk b m) 1:=by
     rw [w64 (n:=gb (blk b m) 1) O O,w64 (n:=gb (blk b m) 1 * 256) O O,w64 (n:=gb (blk b m) 2) O O,w64 O O];rfl
    have w5:IntKind.wrap .i64 (n:Int)=(n:Int):=w64 O O;have w4:IntKind.wrap .i64 (4+(n:Int))=((4+n:Nat):Int):=by rw [w64 O O];omega
    rw [hn];simp only [AoC,Apv,AoO,Apa,AoT,Aqx];rw [iy (show(0:Int)<=(m:Int) by omega),AoE,hb,AoC,iy O,g1,AoC,iy O,g2,AoC,iy O,g3,AoC,iy O,g0,AoC,w1,w5,w4,AoE];by_cases h82:gb (blk b m) 0=82
    .rw [ino (by simp [h82]),decide_eq_true h82];by_cases h124:(124:Int) < (n:Int)
     .grind
     .rw [ino h124,decide_eq_false h124];have hcf:=RY (c:=blk b m) (n:=4+n) O O;have hsub:4+n - Int.toNat 4=n:=O
      have ht:(List.drop (Int.toNat 4) (blk b m)).take (4+n - Int.toNat 4)=((blk b m).drop 4).take n:=by simp
      have htl:(((blk b m).drop 4).take n).length=n:=by grind
      have hroom:Aa (d.length+(((blk b m).drop 4).take n).length) 1=true:=by rw [htl];simp only [Aa,decide_eq_true_eq];omega
      have hroom2:Aa (ch.length+([(m:Int)]:List Int).length) 8=true:=by simp only [Aa,decide_eq_true_eq,AoP];omega
      grind
    grind
theorem VR {b:Bls} {x y:List Int} {a:Int} {ch:List Int} (h:rcC b x y a ch=true):(rcO b a).length<=124:=by
 unfold rcC at h;unfold rcO
 grind
theorem Ana {b:Bls} {x y:List Int} {a:Int} {ch:List Int} (h:rcC b x y a ch=true):¬ a=0:=by
 unfold rcC at h;rw [AoI]at h;obtain ⟨m,rfl,h1,_⟩:=Cy h.1;omega
theorem AcY {b:Bls} {x y:List Int} {a:Int} {ch:List Int} (h:rcC b x y a ch=true):¬ ch.length=9:=by
 unfold rcC at h
 grind
theorem XV {b:Bls} {x y z:List Int} (g:RS b x y):∀(f:Nat) (a:Int) (d ch:List Int),d.length<=124 * ch.length->ch.length+f=10->ch.length<=9->
  Ab E5 ((b,x,y,z),a,d,ch)=some (rcA (rcN b x y f a d ch))
 | 0,a,d,ch,hd,hf,hc=>by omega
 | f+1,a,d,ch,hd,hf,hc=>by
  rw [Ay,AfC g a O hc];unfold rcN;by_cases h:rcC b x y a ch=true
  .rw [AoJ h,AoJ h];have h9:=AcY h;have h1:=VR h;by_cases h0:num (blk b a.toNat) 1=0
   .rw [AoJ h0,AoJ h0];rfl
   .rw [AoH h0,AoH h0];exact XV g f _ _ _ (by grind) (by grind) (by grind)
  .rw [AoH h,AoH h];rfl
theorem Acv {b:Bls} {x y z:List Int} (g:RS b x y) (a:Int):FH (b,x,y,z) a=some (rcA (rcd b x y a)):=by
 unfold FH rcd;rw [XV (z:=z) g 10 a [] [] Z rfl Z];rfl
theorem Xk {b:Bls} {x y z:List Int} (h:SB b x y z) (g:RS b x y):∀(f:Nat) (a:Int) (d ch:List Int),d.length<=124 * ch.length->ch.length+f=10->ch.length<=9->¬ a=0->
  Ab IF (a,d,ch,b,x,y,z)=some (match rcN b x y f a d ch with | some p=>.inl p | none=>.inr false)
 | 0,a,d,ch,hd,hf,hc,ha=>by omega
 | f+1,a,d,ch,hd,hf,hc,ha=>by
  rw [Ay,AfB h g ha O hc];unfold rcN;by_cases hC:rcC b x y a ch=true
  .rw [AoJ hC,AoJ hC];have h9:=AcY hC;have h1:=VR hC;by_cases h0:num (blk b a.toNat) 1=0
   .rw [AoJ h0,h0];dsimp only;rw [Ay];rfl
   .rw [AoH h0];exact Xk h g f _ _ _ (by grind) (by grind) (by grind) h0
  grind
theorem AgP {b:Bls} {x y:List Int}:∀(f:Nat) (a:Int) (d ch:List Int) {p:List Int×List Int},rcN b x y f a d ch=some p->ch.length < p.2.length
 | 0,_,_,_,p,h=>by cases h
 | f+1,a,d,ch,p,h=>by
  unfold rcN at h;split at h
  .split at h
   .grind
   .have:=AgP f _ _ _ h
    grind
  .cases h
theorem Ab1 {b:Bls} {x y z:List Int} (h:SB b x y z) (g:RS b x y) (a:Int):Mc b x y z a=some (rcA (rcd b x y a)):=by
 unfold Mc;by_cases ha:a=0
 .subst ha;rw [Ay];rfl
 .rw [Xk h g 10 a [] [] Z rfl Z ha];unfold rcd;cases e:rcN b x y 10 a [] []with
  | none=>rfl
  | some p=>
   have:=AgP _ _ _ _ e;simp only [AoC];rw [decide_eq_true (show(0:Int) < (p.2.length:Int) by omega)];rfl
end Go.V.G
set_option maxRecDepth 100000
namespace Go.V.G
open Go.V
def vl (b:Bls) (top:List Int) (k:Nat):Int:=gb (lfv b (gb top (k / 32))) (k % 32)
theorem Rf {b:Bls} {top:List Int} (ht:top.length=32) (root:Int) {k:Nat} (hk:k < 1024):DE root top (top.map (lfv b)) (k:Int)=some (vl b top k):=by
 obtain ⟨e1,e2⟩:=V6 (n:=(k:Int)) O;obtain ⟨e3,_⟩:=VT (n:=(k:Int)) O;rw [AoE]at e1 e2 e3;unfold DE cK gX wI;rw [iy O,e1,iy O,AoE,Apl,Ai O,Apz,AoC,iy O,e3,iy O,AoE,Ai (by rw [WJ];omega),AoC];rfl
def ksT (b:Bls) (top:List Int) (n:Nat):List Kv:=((List.range n).filter λk=>decide (¬ vl b top k=0)).map λk=>(((k:Nat):Int),vl b top k)
theorem Si (b:Bls) (top:List Int) (n:Nat):(ksT b top n).length<=n:=by
 unfold ksT;rw [Ao9];exact Ao2 (ApO _ _) Z
theorem PU (b:Bls) (top:List Int) (n:Nat):ksT b top (n+1)=ksT b top n++(if vl b top n=0 then []else [((n:Int),vl b top n)]):=by
 unfold ksT;rw [Aqb,ApV,Ape];by_cases h:vl b top n=0 <;> simp [h]
theorem Aer {b:Bls} {top:List Int} (ht:top.length=32) (root:Int):K3 root top (top.map (lfv b))=some (ksT b top 1024):=by
 unfold K3;have h:=Af Fo (λk=>(ksT b top k,((k:Nat):Int),root,top,top.map (lfv b))) 1024 (ksT b top 1024) (λk hk=>by
  have hl:=Si b top k;unfold Fo cK wI;dsimp only;rw [iy O,Rf ht root hk,AoC,PU];by_cases hz:vl b top k=0
  .rw [ino (by simp [hz]),AoC,AoJ hz,AoW,Ah O]
  .rw [iy hz,AoJ (by simp only [Aa,decide_eq_true_eq,AoP];omega),AoC,AoH hz,Ah O]) (by
  unfold Fo cK wI;dsimp only;rw [ino O])
 rw [show Ab Fo ([],0,root,top,top.map (lfv b))=_ from h];rfl
def kL (b:Bls) (top:List Int) (k m:Nat):List Kv:=((List.range m).filter λi=>decide (¬ gb (lfs b (gb top k)) i=0)).map λi=>(((32 * k+i:Nat):Int),gb (lfs b (gb top k)) i)
theorem Wl (b:Bls) (top:List Int) (k m:Nat):kL b top k (m+1)=kL b top k m++(if gb (lfs b (gb top k)) m=0 then []else [(((32 * k+m:Nat):Int),gb (lfs b (gb top k)) m)]):=by
 unfold kL;rw [Aqb,ApV,Ape];by_cases h:gb (lfs b (gb top k)) m=0 <;> simp [h]
theorem AgN (b:Bls) (top:List Int) (k m:Nat):(kL b top k m).length<=m:=by
 unfold kL;rw [Ao9];exact Ao2 (ApO _ _) Z
theorem AcB (b:Bls) (a:Int):(lfs b a).length<=32:=by
 unfold lfs;split
 .simp
 .rw [F4];exact Ao4 _
def kS (b:Bls) (top:List Int) (n:Nat):List Kv:=(List.range n).flatMap λk=>kL b top k (lfs b (gb top k)).length
theorem Wj (b:Bls) (top:List Int) (n:Nat):kS b top (n+1)=kS b top n++kL b top n (lfs b (gb top n)).length:=by
 unfold kS;rw [Aqb,ApY];simp
theorem AfK (b:Bls) (top:List Int):∀n,(kS b top n).length<=32 * n
 | 0=>by simp [kS]
 | n+1=>by
  rw [Wj,AoM];have h1:=AfK b top n;have h2:=AgN b top n (lfs b (gb top n)).length;have h3:=AcB b (gb top n);omega
theorem AlN {b:Bls} {top:List Int} {k i:Nat} (hi:i < 32):vl b top (32 * k+i)=gb (lfs b (gb top k)) i:=by
 unfold vl;rw [show(32 * k+i) / 32=k by omega,show(32 * k+i) % 32=i by omega];unfold lfv lfs;split
 .unfold gb zer;rw [List.getElem?_replicate_of_lt hi];simp
 .rfl
theorem Xj (b:Bls) (top:List Int) (n:Nat):∀m,m<=32->ksT b top (32 * n+m)=ksT b top (32 * n)++kL b top n m
 | 0,_=>by simp [kL]
 | m+1,h=>by
  rw [(O:32 * n+(m+1)=32 * n+m+1),PU,Xj b top n m O,Wl,AoN,AlN O]
theorem AjE (b:Bls) (top:List Int) (k:Nat):kL b top k 32=kL b top k (lfs b (gb top k)).length:=by
 by_cases h:gb top k=0
 .have e:lfs b (gb top k)=[]:=by unfold lfs;rw [AoJ h]
  have:∀m,kL b top k m=[]:=by
   intro m
   induction m with
   | zero=>rfl
   | succ m ih=>rw [Wl,ih,e];simp [gb]
  rw [this,this]
 .have e:(lfs b (gb top k)).length=32:=by unfold lfs;rw [AoH h,F4]
  rw [e]
theorem Agz (b:Bls) (top:List Int):∀n,kS b top n=ksT b top (32 * n)
 | 0=>rfl
 | n+1=>by rw [Wj,Agz b top n,(O:32 * (n+1)=32 * n+32),Xj b top n 32 O,AjE]
theorem Agj {b:Bls} {x y z top:List Int} {root:Int} (h:SB b x y z) (hg:gsp b x y z=true) (hu:∀c∈b,U8s c) (ht:tre b x y root=some top):PH b x y z root=some (ksT b top 1024,true):=by
 have hl:=HK ht;have gs:=Po hg;unfold PH;rw [IM h hu,hg,ht,AoC];simp only [Option.isSome_some,Bool.and_self,Apv,AoO,Apa];rw [N4 (gs.rs h hu),ht,AoC];dsimp only [trS];have h2:=Af It (λk=>(kS b top k,top.map (lfs b),((32:Nat):Int),((k:Nat):Int))) 32 (kS b top 32) (λk hk=>by
  have hgk:(top.map (lfs b))[k]?=some (lfs b (gb top k)):=by rw [Apl,Ai O];rfl
  have hll:=AcB b (gb top k);have h1:=Af Ix (λi=>(kS b top k++kL b top k i,((k:Nat):Int),top.map (lfs b),((32:Nat):Int),((k:Nat):Int),((0+Int.toNat ((k:Nat):Int):Nat):Int),(((lfs b (gb top k)).length:Nat):Int),((i:Nat):Int))) (lfs b (gb top k)).length (kS b top (k+1),top.map (lfs b),((32:Nat):Int),((k:Nat):Int)) (λi hi=>by
   have hkl:=AgN b top k i;have hks:=AfK b top k;have ew:IntKind.wrap .i64 ((IntKind.wrap .i64 (32 * ((k:Nat):Int)))+((i:Nat):Int))=((32 * k+i:Nat):Int):=by rw [w64 (n:=32 * ((k:Nat):Int)) O O,w64 O O];omega
   unfold Ix cK cZ wI;dsimp only;rw [iy O,iy O,AoE,AoE,AoS,hgk,AoC,iy O,AoC,AoE,AoS,Ai hi,AoC,ew,Wl];by_cases hz:gb (lfs b (gb top k)) i=0
   .rw [ino (by simp [hz]),AoC,AoJ hz,AoW];dsimp only;rw [Ah O,AoE]
   .rw [iy hz,AoJ (by simp only [Aa,decide_eq_true_eq,AoP,AoM];omega),AoC,AoH hz];dsimp only;rw [Ah O,AoE,AoN]) (by
   unfold Ix cK cZ wI;dsimp only;rw [ino O,Wj])
  have e0:kS b top k++kL b top k 0=kS b top k:=by simp [kL]
  rw [e0]at h1;unfold It cK cZ wI;dsimp only;rw [iy O,iy O,iy (by rw [Ao9];omega),AoE,AoS,hgk,AoC,AoC];rw [show Ab Ix (kS b top k,((k:Nat):Int),top.map (lfs b),((32:Nat):Int),((k:Nat):Int),((k:Nat):Int),(((lfs b (gb top k)).length:Nat):Int),0)=some (kS b top (k+1),top.map (lfs b),((32:Nat):Int),((k:Nat):Int)) by
   rw [AoE,AoS]at h1;exact h1,AoC]
  dsimp only;rw [Ah O]) (by
  unfold It cK cZ wI;dsimp only;rw [ino O])
 rw [Ao9,hl,show Ab It ([],top.map (lfs b),((32:Nat):Int),0)=_ from h2,AoC,Agz]
theorem AhP {l:List Kv} (hl:l.length<=1048576) (key:Int) (a1 a2 a3 a4 a5:Int) (b:Bls) (x y z:List Int) (f:Int) (t:List UInt8) (r:List (Int×Int)) (cs:List (List Prt)) (rc:List Int) :
  D7 a1 a2 a3 a4 a5 b x y z l f t r cs rc key=some (((l.find? λp=>decide (p.1=key)).map (·.2)).getD 0):=by
 unfold D7;rcases BV ED (λi=>(key,l,(l.length:Int),((i:Nat):Int))) (λi=>!decide ((sg l i).1=key)) (λi=>(sg l i).2) () l.length (λi hi=>by
  unfold ED gX wI;dsimp only;rw [iy O,iy O,AoE,HX hi,AoC,Ah O];by_cases h:(sg l i).1=key <;> simp [h]) (by
  unfold ED gX wI;dsimp only;rw [ino O])with⟨ha,h⟩ | ⟨k,hk,hp,ha,h⟩
 .rw [show Ab ED (key,l,(l.length:Int),0)=_ from h];have:l.find? (λp=>decide (p.1=key))=none:=by
   rw [List.find?_eq_none];intro p hp;obtain ⟨i,hi,rfl⟩:=Ao3 hp;have h1:=ha i hi;have h2:=HX hi;rw [AoF hi]at h2;injection h2 with h2
   rw [h2];simpa using h1
  rw [this];rfl
 .rw [show Ab ED (key,l,(l.length:Int),0)=_ from h];have:l.find? (λp=>decide (p.1=key))=some (sg l k):=by
   rw [List.find?_eq_some_iff_getElem];have h2:=HX hk;rw [AoF hk]at h2;injection h2 with h2
   refine⟨by simpa using hp,k,hk,h2,λj hj=>?_⟩;have h3:=HX (O:j < l.length);rw [AoF (O:j < l.length)]at h3;injection h3 with h3
   rw [h3];exact ha j hj
  rw [this];rfl
theorem Abp (b:Bls) (top:List Int) (key:Nat):∀n,((ksT b top n).find? λp=>decide (p.1=(key:Int)))=if key < n/\¬ vl b top key=0 then some ((key:Int),vl b top key)else none
 | 0=>by simp [ksT]
 | n+1=>by
  rw [PU,List.find?_append,Abp b top key n];by_cases hn:key=n
  .subst hn;rw [AoH O];by_cases hz:vl b top key=0
   .rw [AoJ hz,AoH (λq=>q.2 hz)];rfl
   .rw [AoH hz,AoJ ⟨O,hz⟩];simp
  .have hne:¬ ((n:Nat):Int)=(key:Int):=O
   have e:List.find? (λp:Kv=>decide (p.1=(key:Int))) (if vl b top n=0 then []else [(((n:Nat):Int),vl b top n)])=none:=by
    split
    .rfl
    .rw [List.find?_cons];simp [hne]
   rw [e,Option.or_none];by_cases hk:key < n/\¬ vl b top key=0
   .rw [AoJ hk,AoJ ⟨O,hk.2⟩]
   .rw [AoH hk,AoH (λq=>hk ⟨O,q.2⟩)]
theorem AlK (b:Bls) (top:List Int) {key:Nat} (hk:key < 1024):(((ksT b top 1024).find? λp=>decide (p.1=(key:Int))).map (·.2)).getD 0=vl b top key:=by
 rw [Abp];by_cases h:vl b top key=0
 .rw [AoH (λq=>q.2 h),h];rfl
 .rw [AoJ ⟨hk,h⟩];rfl
end Go.V.G
set_option maxRecDepth 100000
namespace Go.V.G
open Go.V
def skn (f k n:Nat):List (Int×Int):=((List.range n).filter λi=>decide (f<=i * 2 ^ k)).map λi=>((k:Int),((i:Nat):Int))
def stk (f h:Nat):Nat->List (Int×Int)
 | 0=>[]
 | k+1=>stk f h k++skn f k (h / 2 ^ k)
def sts (f h:Nat):List (Int×Int):=stk f h 6
theorem I6 (f k n:Nat):skn f k (n+1)=skn f k n++(if f<=n * 2 ^ k then [((k:Int),(n:Int))]else []):=by
 unfold skn;rw [Aqb,ApV,Ape]
 grind
theorem WK (f k n:Nat):(skn f k n).length<=n:=by
 unfold skn
 grind
theorem So (f h:Nat):∀k,(stk f h k).length<=k * h
 | 0=>by simp [stk]
 | k+1=>by
  unfold stk;rw [AoM,Nat.succ_mul];have h1:=So f h k;have h2:=WK f k (h / 2 ^ k);have h3:=Aqn h (2 ^ k);omega
theorem P2 (f k:Nat):∀n,n<=(f+2 ^ k - 1) / 2 ^ k->skn f k n=[]
 | 0,_=>rfl
 | n+1,hn=>by
  rw [I6,P2 f k n O,AoH,AoW];have hp:0 < 2 ^ k:=Aqk Z;have:=(Nat.le_div_iff_mul_le hp).1 hn
  grind
theorem AjU {f k n:Nat} (hn:(f+2 ^ k - 1) / 2 ^ k<=n):f<=n * 2 ^ k:=by
 have hp:0 < 2 ^ k:=Aqk Z;have:¬ n+1<=(f+2 ^ k - 1) / 2 ^ k:=O
 rw [Nat.le_div_iff_mul_le hp,Nat.succ_mul]at this;omega
theorem YN:∀{k:Nat},k < 6->(2:Int) ^ (min (Int.toNat (k:Int)) (IntKind.bits .i64))=((2 ^ k:Nat):Int)/\2 ^ k<=32/\(2:Int) ^ (min (Int.toNat (IntKind.wrap .u64 (k:Int))) (IntKind.bits .i64))=((2 ^ k:Nat):Int)/\IntKind.wrap .u64 (k:Int)=(k:Int)
 | 0,_=>by decide
 | 1,_=>by decide
 | 2,_=>by decide
 | 3,_=>by decide
 | 4,_=>by decide
 | 5,_=>by decide
 | k+6,h=>by omega
theorem NC {k i:Nat} (hk:k < 6) (hi:i<=1000):IntKind.wrap .i64 ((i:Int) * (2:Int) ^ (min (Int.toNat (k:Int)) (IntKind.bits .i64)))=((i * 2 ^ k:Nat):Int):=by
 obtain ⟨h1,h2,_⟩:=YN hk;rw [h1,<- Int.natCast_mul];have:i * 2 ^ k<=1000 * 32:=Nat.mul_le_mul hi h2;rw [w64 O O]
theorem lt_dv {h k i:Nat}:(i+1) * 2 ^ k<=h↔i < h / 2 ^ k:=by
 have hp:0 < 2 ^ k:=Aqk Z;rw [<- Nat.le_div_iff_mul_le hp];omega
theorem LS {f h:Nat} (hh:h<=60):KH (f:Int) (h:Int)=some (sts f h):=by
 unfold KH;have h2:=Af L9 (λk=>((f:Int),(h:Int),stk f h k,((k:Nat):Int))) 6 (sts f h) (λk hk=>by
  obtain ⟨p1,p2,p3,p4⟩:=YN hk;have hdl:=Aqn h (2 ^ k);have hsk:=So f h k;have hkh:k * h<=6 * 60:=Nat.mul_le_mul O hh;have h1:=Af Jp (λi=>((f:Int),(h:Int),stk f h k++skn f k i,((k:Nat):Int),((i:Nat):Int))) (h / 2 ^ k) ((f:Int),(h:Int),stk f h (k+1),((k:Nat):Int)) (λi hi=>by
   have hl:=WK f k i;have hm:=(lt_dv (h:=h) (k:=k) (i:=i)).2 hi;unfold Jp cK cZ wI;dsimp only;rw [p4,iy O,Ah O,NC hk O,iy O,iy O,NC hk O];by_cases hz:f<=i * 2 ^ k
   .rw [iy O,AoJ (by simp only [Aa,decide_eq_true_eq,AoP,AoM];omega),AoC,I6,AoJ hz,AoN];rw [Ah O]
   .rw [ino O,AoC,I6,AoH hz,AoW];rw [Ah O]) (by
   have hm:¬ (h / 2 ^ k+1) * 2 ^ k<=h:=λq=>Nat.lt_irrefl _ (lt_dv.1 q)
   unfold Jp cK cZ wI;dsimp only;rw [p4,iy O,Ah O,NC hk O,ino O];rfl)
  have e0:stk f h k++skn f k 0=stk f h k:=by simp [skn]
  rw [e0]at h1;unfold L9 wI;dsimp only;rw [iy O,show Ab Jp ((f:Int),(h:Int),stk f h k,((k:Nat):Int),0)=_ from h1,AoC];rw [Ah O]) (by
  rfl)
 rw [show Ab L9 ((f:Int),(h:Int),[],0)=_ from h2];rfl
theorem OM {f h:Nat} (hf:f<=h) (hh:h<=60):If (f:Int) (h:Int)=some (sts f h):=by
 unfold If;have h2:=Af H3 (λk=>((f:Int),(h:Int),stk f h k,((k:Nat):Int))) 6 (sts f h) (λk hk=>by
  obtain ⟨p1,p2,p3,p4⟩:=YN hk;have hp:0 < 2 ^ k:=Aqk Z;have hdl:=Aqn h (2 ^ k);have hsk:=So f h k;have hkh:k * h<=6 * 60:=Nat.mul_le_mul O hh;have he0:(f+2 ^ k - 1) / 2 ^ k<=f+2 ^ k - 1:=Aqn _ _;have h1:=Af H0 (λj=>((f:Int),(h:Int),stk f h k++skn f k ((f+2 ^ k - 1) / 2 ^ k+j),((k:Nat):Int),(((f+2 ^ k - 1) / 2 ^ k+j:Nat):Int),((k:Nat):Int))) (h / 2 ^ k - (f+2 ^ k - 1) / 2 ^ k) ((f:Int),(h:Int),stk f h (k+1),((k:Nat):Int)) (λj hj=>by
   have hl:=WK f k ((f+2 ^ k - 1) / 2 ^ k+j);have hm:=(lt_dv (h:=h) (k:=k) (i:=(f+2 ^ k - 1) / 2 ^ k+j)).2 O;unfold H0 cK cZ wI;dsimp only;rw [iy O,Ah O,NC hk O,iy O,AoJ (by simp only [Aa,decide_eq_true_eq,AoP,AoM];omega),<- Nat.add_assoc,I6,AoJ (AjU O),AoN]) (by
   have hm:¬ ((f+2 ^ k - 1) / 2 ^ k+(h / 2 ^ k - (f+2 ^ k - 1) / 2 ^ k)+1) * 2 ^ k<=h:=λq=>by have:=lt_dv.1 q;omega
   have es:skn f k ((f+2 ^ k - 1) / 2 ^ k+(h / 2 ^ k - (f+2 ^ k - 1) / 2 ^ k))=skn f k (h / 2 ^ k):=by
    by_cases hq:(f+2 ^ k - 1) / 2 ^ k<=h / 2 ^ k
    .grind
    .rw [P2 f k _ O,P2 f k _ O]
   unfold H0 cK cZ wI;dsimp only;rw [iy O,Ah O,NC hk O,ino O,es];rfl)
  rw [Aqf,P2 f k _ (Ao4 _),AoW]at h1;have e1:IntKind.wrap .i64 (1 * ((2 ^ k:Nat):Int))=((2 ^ k:Nat):Int):=by rw [Int.one_mul,w64 O O]
  have e2:IntKind.wrap .i64 ((f:Int)+((2 ^ k:Nat):Int))=((f+2 ^ k:Nat):Int):=by rw [w64 O O];omega
  have e3:IntKind.wrap .i64 (((f+2 ^ k:Nat):Int) - 1)=((f+2 ^ k - 1:Nat):Int):=by rw [w64 O O];omega
  unfold H3 cZ wI;dsimp only;rw [iy O,iy O,iy O,p1,e1,e2,e3,Aqi _ O,<- Int.natCast_ediv,h1,AoC];rw [Ah O]) (by
  rfl)
 rw [show Ab H3 ((f:Int),(h:Int),[],0)=_ from h2];rfl
def ky (s:Int×Int):Nat:=64 * s.1.toNat+s.2.toNat
structure St8 (f h:Nat) (s:Int×Int) (k i:Nat):Prop where
 e:s=((k:Int),(i:Int))
 hk:k < 6
 lo:f<=i * 2 ^ k
 hi:(i+1) * 2 ^ k<=h
theorem skn_mem {f k n:Nat} {s:Int×Int}:s∈skn f k n↔∃i,i < n/\f<=i * 2 ^ k/\s=((k:Int),((i:Nat):Int)):=by
 unfold skn
 grind
theorem AdE {f h:Nat} {s:Int×Int}:∀{n:Nat},s∈stk f h n↔∃k i,k < n/\i < h / 2 ^ k/\f<=i * 2 ^ k/\s=(((k:Nat):Int),((i:Nat):Int))
 | 0=>by simp [stk]
 | n+1=>by
  unfold stk;rw [AoK,AdE,skn_mem]
  grind
theorem sts_mem {f h:Nat} {s:Int×Int}:s∈sts f h↔∃k i,St8 f h s k i:=by
 unfold sts;rw [AdE];constructor
 .rintro ⟨k,i,h1,h2,h3,h4⟩;exact⟨k,i,h4,h1,h3,lt_dv.2 h2⟩
 .rintro ⟨k,i,h⟩;exact⟨k,i,h.hk,lt_dv.1 h.hi,h.lo,h.e⟩
theorem St8.lt {f h k i:Nat} {s:Int×Int} (g:St8 f h s k i) (hh:h<=60):i < 60/\ky s=64 * k+i/\64 * k+i < 384:=by
 have h1:=lt_dv.1 g.hi;have h2:=Aqn h (2 ^ k);have h3:=g.hk;refine⟨O,?_,O⟩;unfold ky;rw [g.e];simp
theorem Qd (a b c:Int):BA a b c=some (decide (b<=a) && decide (a<=c)):=by
 unfold BA
 grind
theorem JO {k i:Nat} (hk:k < 6) (hi:i < 64):FW (k:Int) (i:Int)=some ((64 * k+i:Nat):Int):=by
 unfold FW wI;rw [Qd,AoC,decide_eq_true (show(0:Int)<=(k:Int) by omega),decide_eq_true (show(k:Int)<=5 by omega),Qd,AoC,decide_eq_true (show(0:Int)<=(i:Int) by omega),decide_eq_true (show(i:Int)<=63 by omega)];simp only [Bool.and_self,Apv,AoO,Apa,AoC];rw [w64 (n:=64 * (k:Int)) O O,w64 O O]
 congr 1
theorem UP {k i:Nat} (hk:k < 6) (hi:i < 64):Mm (k:Int) (i:Int)=some ((64 * k+i:Nat):Int):=by
 unfold Mm wI;rw [AE,AoC,decide_eq_true (show(0:Int)<=(k:Int)/\(k:Int)<=5 by omega),AE,AoC,decide_eq_true (show(0:Int)<=(i:Int)/\(i:Int)<=63 by omega)];simp only [Apv,AoO,Apa,AoC];rw [w64 (n:=64 * (k:Int)) O O,w64 O O]
 congr 1
theorem XW {k i:Nat} (hk:k < 6) (hi:i < 64):El (k:Int) (i:Int)=some ((i * 2 ^ k:Nat):Int):=by
 unfold El cZ wI;rw [iy O,NC hk O]
theorem Akf {k i:Nat} (hk:k < 6) (hi:i < 64):HE (k:Int) (i:Int)=some (((i+1) * 2 ^ k:Nat):Int):=by
 unfold HE cZ wI;rw [iy O,Ah O,NC hk O]
def ckn (f e n:Nat):List Nat:=((List.range n).map (f+1 + ·)).filter λr=>decide (r % e=0)
theorem M4 (f e n:Nat):ckn f e (n+1)=ckn f e n++(if(f+1+n) % e=0 then [f+1+n]else []):=by
 unfold ckn;rw [Aqb,Ape,ApV];by_cases h:(f+1+n) % e=0 <;> simp [h]
theorem Pf (f e n:Nat):(ckn f e n).length<=n:=by
 unfold ckn
 grind
def cks (f h e:Nat):List Nat:=ckn f e (h - f)
theorem cks_mem {f h e r:Nat}:r∈cks f h e↔f < r/\r<=h/\r % e=0:=by
 unfold cks ckn;simp only [Aqe,Ao0,Aqw,decide_eq_true_eq];constructor
 .omega
 .rintro ⟨h1,h2,h3⟩;exact⟨⟨r - (f+1),O,O⟩,h3⟩
theorem UB {a e:Nat}:Int.tmod (a:Int) (e:Int)=((a % e:Nat):Int):=by
 rfl
theorem Tz {f h e:Nat} (hf:f<=h) (hh:h<=60) (he:0 < e) (he2:e<=30):MA (f:Int) (h:Int) (e:Int)=some ((cks f h e).map λr=>((r:Nat):Int)):=by
 unfold MA wI;have h2:=Af Im (λn=>((h:Int),(e:Int),(ckn f e n).map (λr=>((r:Nat):Int)),((f+1+n:Nat):Int))) (h - f) ((cks f h e).map λr=>((r:Nat):Int)) (λn hn=>by
  have hl:=Pf f e n;unfold Im cK wI;dsimp only;rw [iy O,iy O,UB,M4];by_cases hz:(f+1+n) % e=0
  .rw [iy O,AoJ (by simp only [Aa,decide_eq_true_eq,AoP,Ao9];omega),AoC,AoJ hz,Ape];rw [Ah O];rfl
  .rw [ino O,AoC,AoH hz,AoW];rw [Ah O];rfl) (by
  unfold Im cK wI;dsimp only;rw [ino O];rfl)
 rw [Ah O,show Ab Im ((h:Int),(e:Int),[],((f+1:Nat):Int))=_ from h2];rfl
end Go.V.G
set_option maxRecDepth 100000
namespace Go.V.G
open Go.V
theorem AkN:Ris ([]:List Int):=by rw [ris_iff];exact List.Pairwise.nil
noncomputable abbrev srt (l:List Int):List Int:=pts [] l
theorem J1 {l:List Int} (h:l.length<=1000000):Ris (srt l)/\(srt l).length<=l.length/\∀v,v∈srt l↔v∈l:=by
 obtain ⟨h1,h2,h3⟩:=AgZ AkN (l:=l) (by simp only [Apd];omega);refine⟨h1,by simpa using h2,λv=>by rw [h3 v];simp⟩
theorem Fm {l:List Int} (h:l.length<=1000000) (v:Int):CY (srt l) v=some (srt (l++[v]))/\E1 (srt l) v=some (srt (l++[v])):=by
 obtain ⟨h1,h2,h3⟩:=J1 h;obtain ⟨p1,p2,_⟩:=NT (z:=srt l) O h1 v;have e:srt (l++[v])=pt (srt l) v:=Ajn [] l v;rw [e];exact⟨p1,p2⟩
theorem Um {l:List Int} {i:Nat} {v:Int} (h:l[i]?=some v):(l.take (i+1)).filter (λv=>decide (¬ v=0))=(l.take i).filter (λv=>decide (¬ v=0))++(if v=0 then []else [v]):=by
 rw [Bq h,ApV];by_cases h0:v=0 <;> simp [h0]
def pgl (top:List Int) (root:Int):List Int:=(top++[root]).filter (λv=>decide (¬ v=0))
theorem AcS {top:List Int} {root:Int} (h:top.length=32):(pgl top root).length<=33:=by
 unfold pgl;have:=ApO (λv=>decide (¬ v=0)) (top++[root]);rw [AoM,AoP,h]at this;omega
theorem Aid {b:Bls} {x y z top:List Int} {root:Int} (h:SB b x y z) (hu:∀c∈b,U8s c) (hg:gsp b x y z=true) (ht:tre b x y root=some top):N8 b x y z root=some (srt (pgl top root),true):=by
 have htl:=HK ht;unfold N8 pgl cK;rw [IM h hu,hg,ht,AoC,AoH Z,N4 ((Po hg).rs h hu),ht,AoC];unfold trS;dsimp only;rw [AoJ (Adg O _)];generalize hL:top++[root]=L;have hLl:L.length=33:=by rw [<- hL];simp [htl]
 have hl:=Af Hw (λi=>(srt ((L.take i).filter (λv=>decide (¬ v=0))),L,(L.length:Int),((i:Nat):Int))) L.length (srt ((L.take L.length).filter (λv=>decide (¬ v=0)))) (λi hi=>by
  have hgi:=Ai hi;have hfl:=ApO (λv=>decide (¬ v=0)) (L.take i);rw [AoQ]at hfl;have hput:=(Fm (l:=(L.take i).filter (λv=>decide (¬ v=0))) O (gb L i)).1;unfold Hw cK cZ wI;dsimp only;rw [iy O,iy O,iy O,AoS,AoE,hgi,AoC,Um hgi];by_cases h0:gb L i=0
  .rw [ino (not_not_intro h0),AoC,AoJ h0,AoW];dsimp only;rw [Ah O]
  .rw [iy h0,hput,AoC,AoC,AoH h0];dsimp only;rw [Ah O]) (by
  unfold Hw cK cZ wI;dsimp only;rw [ino O])
 rw [show Ab Hw ([],L,(L.length:Int),0)=_ from hl,Apy];rfl
theorem Aic {top:List Int} (htl:top.length=32) (root:Int) (v:List (List Int)):Ka root top v=some (srt (pgl top root)):=by
 unfold Ka pgl cK;rw [LF O,AoC,AoJ (Adg O _)];generalize hL:top++[root]=L;have hLl:L.length=33:=by rw [<- hL];simp [htl]
 have hl:=Af ER (λi=>(srt ((L.take i).filter (λv=>decide (¬ v=0))),L,(L.length:Int),((i:Nat):Int))) L.length (srt ((L.take L.length).filter (λv=>decide (¬ v=0)))) (λi hi=>by
  have hgi:=Ai hi;have hfl:=ApO (λv=>decide (¬ v=0)) (L.take i);rw [AoQ]at hfl;have hput:=(Fm (l:=(L.take i).filter (λv=>decide (¬ v=0))) O (gb L i)).2;unfold ER cK cZ wI;dsimp only;rw [iy O,iy O,iy O,AoS,AoE,hgi,AoC,Um hgi];by_cases h0:gb L i=0
  .rw [ino (not_not_intro h0),AoC,AoJ h0,AoW];dsimp only;rw [Ah O]
  .rw [iy h0,hput,AoC,AoC,AoH h0];dsimp only;rw [Ah O]) (by
  unfold ER cK cZ wI;dsimp only;rw [ino O])
 rw [show Ab ER ([],L,(L.length:Int),0)=_ from hl,Apy];rfl
def kyI (s:Int×Int):Int:=(ky s:Int)
def ckI (r:Nat):Int:=((384+r:Nat):Int)
def J5 (f h e:Nat):List Int:=(sts f h).map kyI++((cks f h e).map ckI++[448])
noncomputable def wnt (f h e:Nat):List Int:=srt (J5 f h e)
theorem Fr {f h:Nat} (hh:h<=60):(sts f h).length<=360:=by
 have:=So f h 6;unfold sts;omega
theorem KF {f h e:Nat} (hh:h<=60):(cks f h e).length<=60:=by
 have:=Pf f e (h - f);unfold cks;omega
theorem Afo {f h e:Nat} (hh:h<=60):(J5 f h e).length<=421:=by
 have h1:=Fr (f:=f) hh;have h2:=KF (f:=f) (e:=e) hh;unfold J5;simp only [AoM,Ao9,AoP];omega
theorem MW {f h:Nat} {i:Nat} (hi:i < (sts f h).length):∃k j,St8 f h (sts f h)[i] k j:=sts_mem.1 (AoR hi)
theorem Acp {f h e:Nat} (hf:f<=h) (hh:h<=60) (he:0 < e) (he2:e<=30):KY (f:Int) (h:Int) (e:Int)=some (wnt f h e):=by
 have hsl:=Fr (f:=f) hh;unfold KY wI;rw [LS hh,AoC];have h1:=Af FR (λi=>((f:Int),(h:Int),(e:Int),srt (((sts f h).map kyI).take i),sts f h,(((sts f h).length:Nat):Int),((i:Nat):Int))) (sts f h).length ((f:Int),(h:Int),(e:Int),srt ((sts f h).map kyI)) (λi hi=>by
  obtain ⟨k,j,g⟩:=MW hi;obtain ⟨l1,l2,l3⟩:=g.lt hh;have hk:=g.hk;have hget:(sts f h)[i]?=some ((sts f h)[i]):=AoF hi;have hml:((sts f h).map kyI)[i]?=some (((64 * k+j:Nat):Nat):Int):=by rw [Apl,hget];show some (kyI _)=_;unfold kyI;rw [l2]
  have hput:=(Fm (l:=((sts f h).map kyI).take i) (by rw [AoQ,Ao9];omega) ((64 * k+j:Nat):Int)).1;unfold FR cK cZ wI;dsimp only;rw [iy O,iy O,iy O,AoS,AoE,hget,AoC,AoC];simp only [g.e];rw [JO hk O,AoC,hput,AoC,Ah O,Bq hml]) (by
  unfold FR cK cZ wI;dsimp only;rw [ino O,Ao5 Z])
 rw [show Ab FR ((f:Int),(h:Int),(e:Int),[],sts f h,(((sts f h).length:Nat):Int),0)=_ from h1,AoC];dsimp only;have h2:=Af Fp (λn=>((h:Int),(e:Int),srt ((sts f h).map kyI++(ckn f e n).map ckI),((f+1+n:Nat):Int))) (h - f) (srt ((sts f h).map kyI++(cks f h e).map ckI)) (λn hn=>by
  have hl:=Pf f e n;unfold Fp cK wI;dsimp only;rw [iy O,iy O,UB,M4];by_cases hz:(f+1+n) % e=0
  .have hput:=(Fm (l:=(sts f h).map kyI++(ckn f e n).map ckI) (by rw [AoM,Ao9,Ao9];omega) (ckI (f+1+n))).1;have ew:IntKind.wrap .i64 (384+((f+1+n:Nat):Int))=ckI (f+1+n):=by rw [w64 O O];unfold ckI;omega
   rw [iy O,ew,hput,AoC,AoC,AoJ hz,Ape,<- AoN];dsimp only;rw [Ah O];rfl
  .rw [ino O,AoC,AoH hz,AoW];dsimp only;rw [Ah O];rfl) (by
  unfold Fp cK wI;dsimp only;rw [ino O];rfl)
 have e0:(sts f h).map kyI++(ckn f e 0).map ckI=(sts f h).map kyI:=by simp [ckn]
 rw [e0]at h2;have hcl:=KF (f:=f) (e:=e) hh;rw [Ah O,show Ab Fp ((h:Int),(e:Int),srt ((sts f h).map kyI),((f+1:Nat):Int))=_ from h2,AoC,
  (Fm (l:=(sts f h).map kyI++(cks f h e).map ckI) (by rw [AoM,Ao9,Ao9];omega) 448).1,AoN]
 rfl
theorem Ag0 {f h e:Nat} (hh:h<=60):Ris (wnt f h e)/\(wnt f h e).length<=421/\∀v,v∈wnt f h e↔v∈J5 f h e:=by
 have hl:=Afo (f:=f) (e:=e) hh;obtain ⟨h1,h2,h3⟩:=J1 (l:=J5 f h e) O;exact⟨h1,by unfold wnt;omega,h3⟩
theorem Adl (b:Bls) (top:List Int):∀n,((ksT b top n).map (·.1)).Pairwise (· < ·)/\∀v∈(ksT b top n).map (·.1),v < ((n:Nat):Int)
 | 0=>by simp [ksT]
 | n+1=>by
  obtain ⟨h1,h2⟩:=Adl b top n;rw [PU,Ape];by_cases hz:vl b top n=0
  .rw [AoJ hz];refine⟨by simpa using h1,λv hv=>?_⟩;have:=h2 v (by simpa using hv);omega
  .rw [AoH hz];refine⟨?_,λv hv=>?_⟩
   .rw [Aqp];refine⟨h1,Z,λa ha c hc=>?_⟩;simp only [Apk,AqC,AoZ]at hc;rw [hc];exact h2 a ha
   .rcases AoK.1 hv with hv | hv
    .have:=h2 v hv;omega
    .simp only [Apk,AqC,AoZ]at hv;omega
theorem ksT_mem {b:Bls} {top:List Int} {n:Nat} {v:Int}:v∈(ksT b top n).map (·.1)↔∃k:Nat,k < n/\¬ vl b top k=0/\v=(k:Int):=by
 unfold ksT;simp only [ApF,Ao0,Aqe,Aqw,decide_eq_true_eq,Function.comp];constructor
 .rintro ⟨k,⟨h1,h2⟩,rfl⟩;exact⟨k,h1,h2,rfl⟩
 .rintro ⟨k,h1,h2,rfl⟩;exact⟨k,⟨h1,h2⟩,rfl⟩
noncomputable def kok (b:Bls) (top:List Int) (f h e:Nat):Bool:=decide ((ksT b top 1024).map (·.1)=wnt f h e)
theorem Adx {b:Bls} {top:List Int} {f h e:Nat} (hh:h<=60):kok b top f h e=true↔(∀k:Nat,k < 1024->¬ vl b top k=0->((k:Nat):Int)∈J5 f h e)/\∀k:Nat,k < 1024->((k:Nat):Int)∈J5 f h e->¬ vl b top k=0:=by
 obtain ⟨w1,_,w3⟩:=Ag0 (f:=f) (e:=e) hh;unfold kok;rw [decide_eq_true_eq];constructor
 .intro q;refine⟨λk hk hv=>?_,λk hk hm=>?_⟩
  .rw [<- w3,<- q];exact ksT_mem.2 ⟨k,hk,hv,rfl⟩
  .rw [<- w3,<- q]at hm;obtain ⟨k',h1,h2,h3⟩:=ksT_mem.1 hm;have:k'=k:=O
   rw [<- this];exact h2
 .rintro ⟨q1,q2⟩;refine WI (ris_iff.2 (Adl b top 1024).1) w1 λv=>?_
  rw [w3,ksT_mem];constructor
  .rintro ⟨k,h1,h2,rfl⟩;exact q1 k h1 h2
  .intro hm;have hb:∃k:Nat,k < 1024/\v=((k:Nat):Int):=by
    unfold J5 at hm;rcases AoK.1 hm with hm | hm
    .obtain ⟨s,hs,rfl⟩:=Ao0.1 hm;obtain ⟨k,j,g⟩:=sts_mem.1 hs;obtain ⟨l1,l2,l3⟩:=g.lt hh;exact⟨ky s,O,rfl⟩
    .rcases AoK.1 hm with hm | hm
     .obtain ⟨r,hr,rfl⟩:=Ao0.1 hm;have:=cks_mem.1 hr;exact⟨384+r,O,rfl⟩
     .exact⟨448,O,by simpa using hm⟩
   obtain ⟨k,hk,rfl⟩:=hb;exact⟨k,hk,q2 k hk hm,rfl⟩
end Go.V.G
set_option maxRecDepth 100000
namespace Go.V.G
open Go.V
theorem Ait {σ α:Type} {f:σ->α->Option σ} {xs:List α} {x y:σ} (h:∀l:List α,l.Perm xs->l.foldlM f x=some y):PK f xs x=some y:=by
 have hx:∃y,∀l:List α,l.Perm xs->l.foldlM f x=some y:=⟨y,h⟩
 unfold PK;rw [dif_pos hx];have h1:=hx.choose_spec xs (List.Perm.refl _);rw [h xs (List.Perm.refl _)]at h1;exact h1.symm
def ndb (l:List Int):Bool:=decide l.Nodup
theorem P0 {l:List Int} {v:Int}:(l++[v]).Nodup↔l.Nodup/\v∉l:=by
 grind
theorem AaO (l:List Int) (v:Int):ndb (l++[v])=(ndb l && !decide (v∈l)):=by
 unfold ndb
 grind
def bd (fn:Bool) (l:List Int):Bool:=!(fn && ndb l)
theorem AdH (fn:Bool) (l:List Int) (v:Int):bd fn (l++[v])=if bd fn l=true then true else decide (v∈l):=by
 unfold bd;rw [AaO]
 grind
structure Led (C P bl:List Int):Prop where
 mem:∀v,v∈bl↔v∈C\/v∈P
 nd:bl.Nodup↔C.Nodup/\∀v∈P,v∉C
theorem Led.nil:Led [] [] []:=⟨Z,Z⟩
theorem Led.claim {C P bl:List Int} (h:Led C P bl) (v:Int):Led (C++[v]) P (bl++[v]):=by
 refine⟨λw=>?_,?_⟩
 .simp only [AoK,AoZ,h.mem w]
  grind
 .rw [P0,P0,h.nd,h.mem]
  grind
theorem Led.claims {P:List Int}:∀{l C bl:List Int},Led C P bl->Led (C++l) P (bl++l)
 | [],C,bl,h=>by simpa using h
 | v::l,C,bl,h=>by
  have:=Led.claims (l:=l) (h.claim v)
  grind
theorem Led.piece {C P bl:List Int} (h:Led C P bl) (v:Int):Led C (P++[v]) (if v∈P then bl else bl++[v]):=by
 by_cases hv:v∈P
 .rw [AoJ hv];refine⟨λw=>?_,?_⟩
  .rw [h.mem w,AoK,AoZ]
   grind
  .rw [h.nd]
   grind
 .rw [AoH hv];refine⟨λw=>?_,?_⟩
  .rw [AoK,h.mem w,AoK,AoZ]
   grind
  .rw [P0,h.nd,h.mem]
   grind
def bpn (P bl l:List Int):Nat->List Int
 | 0=>bl
 | i+1=>if gb l i∈P++l.take i then bpn P bl l i else bpn P bl l i++[gb l i]
theorem AcX {C P bl l:List Int} (h:Led C P bl):∀n,n<=l.length->Led C (P++l.take n) (bpn P bl l n)
 | 0,_=>by simpa [bpn] using h
 | n+1,hn=>by
  have h1:=(AcX (l:=l) h n O).piece (gb l n);rw [Bq (Ai (O:n < l.length)),<- AoN];exact h1
theorem WS (P bl l:List Int):∀n,(bpn P bl l n).length<=bl.length+n
 | 0=>by simp [bpn]
 | n+1=>by
  have:=WS P bl l n;unfold bpn
  grind
theorem Ajb (m:List (Int×Int)) (k v w:Int):C3 (DM m k v) w=if w=k then v else C3 m w:=by
 induction m with
 | nil=>
  unfold DM C3 C3;omega
 | cons p m ih=>
  unfold DM;by_cases h:p.1=k
  .rw [AoJ h];unfold C3;omega
  .rw [AoH h];unfold C3;omega
theorem WY (m:List (Int×Int)) (k v:Int):∀w,w∈(DM m k v).map (·.1)↔w∈m.map (·.1)\/w=k:=by
 induction m with
 | nil=>intro w;simp [DM]
 | cons p m ih=>
  unfold DM
  grind
theorem AjI (m:List (Int×Int)) (k v:Int) (h:(m.map (·.1)).Nodup):((DM m k v).map (·.1)).Nodup:=by
 induction m with
 | nil=>simp [DM]
 | cons p m ih=>
  rw [Apk,ApB]at h;unfold DM;by_cases hk:p.1=k
  .grind
  .rw [AoH hk,Apk,ApB];refine⟨λq=>?_,ih h.2⟩;rcases (WY m k v p.1).1 q with q | q
   .exact h.1 q
   .exact hk q
theorem ZV {m:List (Int×Int)} (h:(m.map (·.1)).Nodup):∀p∈m,C3 m p.1=p.2:=by
 induction m with
 | nil=>simp
 | cons q m ih=>
  unfold C3
  grind
def std (P:List Int):List (Int×Int):=P.foldl (λm k=>DM m k (C3 m k+1)) []
theorem PX (P:List Int) (v:Int):std (P++[v])=DM (std P) v (C3 (std P) v+1):=by unfold std;simp
theorem Aia {p:List Int->Prop} (h0:p []) (h1:∀l v,p l->p (l++[v])) (l:List Int):p l:=by
 have:∀n,∀l:List Int,l.length=n->p l:=by
  intro n
  induction n with
  | zero=>grind
  | succ n ih=>
   intro l hl;have e:=List.dropLast_concat_getLast (l:=l) (by grind)
   grind
 grind
theorem Aao (P:List Int):(∀v,C3 (std P) v=(P.count v:Int))/\((std P).map (·.1)).Nodup/\∀v,v∈(std P).map (·.1)↔v∈P:=by
 refine Aia (p:=λP=>(∀v,C3 (std P) v=(P.count v:Int))/\((std P).map (·.1)).Nodup/\∀v,v∈(std P).map (·.1)↔v∈P) ?_ ?_ P
 .refine⟨λv=>by rfl,by simp [std],by simp [std]⟩
 .rintro P k ⟨h1,h2,h3⟩;refine⟨λv=>?_,?_,λv=>?_⟩
  .rw [PX,Ajb,h1,h1,List.count_append]
   grind
  .rw [PX];exact AjI _ _ _ h2
  .rw [PX,WY,h3,AoK,AoZ]
theorem std_zero {P:List Int} {v:Int}:C3 (std P) v=0↔v∉P:=by
 rw [(Aao P).1 v]
 grind
theorem Qa {l bl:List Int} (hl:bl.length+l.length<=100000) (fn:Bool) (ks rs:List Int) (d:Bls) (m:List (Int×Int)) :
  BO l ks bl rs (bd fn bl) d m=some (l,ks,bl++l,rs,bd fn (bl++l),d,m):=by
 unfold BO;have h:=Af Dj (λi=>(l,(l.length:Int),((i:Nat):Int),ks,bl++l.take i,rs,bd fn (bl++l.take i),d,m)) l.length (l,ks,bl++l,rs,bd fn (bl++l),d,m) (λi hi=>by
  have hg:=Ai hi;unfold Dj cK cZ wI;dsimp only;rw [iy O,iy O,iy O,AoS,AoE,hg,AoC,Bq hg,<- AoN,AdH];have hr:Aa ((bl++l.take i).length+([gb l i]:List Int).length) 8=true:=by simp only [Aa,decide_eq_true_eq,AoP,AoM,AoQ];omega
  by_cases hb:bd fn (bl++l.take i)=true
  .rw [AoJ hb,AoC,AoJ hb,AoJ hr,Ah O]
  .rw [AoH hb,GO (by grind),AoC,AoC,AoH hb,AoJ hr,Ah O]) (by
  unfold Dj cK cZ wI;simp)
 grind
theorem Acc {l bl:List Int} (hl:bl.length+l.length<=100000) (fn:Bool) (ks rs:List Int) (d:Bls) (m:List (Int×Int)) :
  EI l ks bl rs (bd fn bl) d m=some (ks,bl++l,rs,bd fn (bl++l),d,m):=by
 unfold EI;have h:=Af DQ (λi=>(l,(l.length:Int),((i:Nat):Int),ks,bl++l.take i,rs,bd fn (bl++l.take i),d,m)) l.length (ks,bl++l,rs,bd fn (bl++l),d,m) (λi hi=>by
  have hg:=Ai hi;unfold DQ cK gX wI;dsimp only;rw [iy O,iy O,AoE,hg,AoC,Bq hg,<- AoN,AdH];have hr:Aa ((bl++l.take i).length+([gb l i]:List Int).length) 8=true:=by simp only [Aa,decide_eq_true_eq,AoP,AoM,AoQ];omega
  by_cases hb:bd fn (bl++l.take i)=true
  .rw [AoJ hb,AoC,AoJ hb,AoJ hr,Ah O]
  .rw [AoH hb,GO (by grind),AoC,AoC,AoH hb,AoJ hr,Ah O]) (by
  unfold DQ cK gX wI;simp)
 grind
theorem Uu {b:Bls} {x y z:List Int} (g:RS b x y) (root:Int):JV (b,x,y,z) root=some (tin b x y root):=by
 unfold JV tin cK;rw [Tt g,AoC];cases hp:ptx b x y root with
 | none=>rfl
 | some l=>
  obtain ⟨⟨hall,hnd,hlen⟩,_⟩:=Hz hp;dsimp only;rw [AoH Z];have hL:=Af EN (λk=>(root,cat b (l.take k),l.take k,l.map (CQ b),(l.length:Int),((k:Nat):Int))) l.length (root,cat b l,l) (λk hk=>by
   have hpk:=hall _ (AoR hk);have h1:=UH (b:=b) (x:=x) (y:=y) (l:=l.take k) λv hv=>hall v (ApL hv)
   have h2:=Ad6 b hpk;rw [AoQ]at h1;have hg:(l.map (CQ b))[k]?=some (CQ b l[k]):=by grind
   unfold EN cK cZ wI;dsimp only;rw [iy O,iy O,iy (by grind),AoS,AoE,hg,AoC,AoC,AoC,
    show(CQ b l[k]).2.2=Er b l[k] from rfl,show(CQ b l[k]).1=l[k] from rfl,iy O,AoJ (by simp only [Aa,decide_eq_true_eq,AoP,AoQ];omega),Ah O,Z7 b hk,AoL hk]) (by
   unfold EN cK cZ wI;simp)
  have hL':Ab EN (root,([]:List UInt8),[],l.map (CQ b),(l.length:Int),0)=_:=hL;rw [Ao9,hL',AoC];rw [AoJ (by simp only [Aa,decide_eq_true_eq,AoP];omega)]
theorem Aa5 {b:Bls} {x y z:List Int} (g:RS b x y) {root:Int} (hp:ptx b x y root=none) (ks bl rs:List Int) (w:Bool) (d:Bls) (a1:Int) (a2:Bool) (a3 a4 a5 a6 a7 a8:Int) (m:List (Int×Int)) :
  Bu root ks bl rs w d a1 a2 a3 a4 a5 a6 a7 a8 b x y z m=some ([],ks,bl,rs,true,d,a1,a2,a3,a4,a5,a6,a7,a8,b,x,y,z,m):=by
 unfold Bu sX wI;rw [Uu g,AoC];unfold tin;rw [hp];rfl
theorem AaS {b:Bls} {x y z:List Int} (g:RS b x y) {root:Int} {l:List Int} (hp:ptx b x y root=some l) {P bl:List Int} (hbl:bl.length<=90000) (hP:P.length<=90000) (fn:Bool) (ks rs:List Int) (d:Bls) (a1:Int) (a2:Bool) (a3 a4 a5 a6 a7 a8:Int) :
  Bu root ks bl rs (bd fn bl) d a1 a2 a3 a4 a5 a6 a7 a8 b x y z (std P) =
   some (cat b l,ks,bpn P (bl++[root]) l l.length,rs,bd fn (bpn P (bl++[root]) l l.length),d,a1,a2,a3,a4,a5,a6,a7,a8,b,x,y,z,std (P++l)):=by
 obtain ⟨⟨hall,hnd,hlen⟩,_⟩:=Hz hp;have hw:IntKind.wrap .i64 (((((l++[root]).length:Nat):Int)) - 1)=(l.length:Int):=by rw [AoM,AoP,w64 O O];omega
 have hle:(l++[root]).length=l.length+1:=by simp
 have e1:(List.drop l.length (l++[root])).take (l.length+1 - l.length)=[root]:=by
  simp
 have e2:(List.drop (Int.toNat 0) (l++[root])).take (l.length - Int.toNat 0)=l:=by
  simp
 unfold Bu sX wI;rw [Uu g,AoC];unfold tin;rw [hp];dsimp only;rw [AoC];dsimp only;rw [AoH Z,hw,hle,iy O,iy O,iy O,iy O,AoE,AoE,e1,Acc (by grind),AoC];dsimp only;rw [iy O,iy O,iy O,iy O,e2];have h:=Af Ca (λi=>(cat b l,l,(l.length:Int),((i:Nat):Int),ks,bpn P (bl++[root]) l i,rs,bd fn (bpn P (bl++[root]) l i),d,a1,a2,a3,a4,a5,a6,a7,a8,b,x,y,z,std (P++l.take i))) l.length
   (cat b l,ks,bpn P (bl++[root]) l l.length,rs,bd fn (bpn P (bl++[root]) l l.length),d,a1,a2,a3,a4,a5,a6,a7,a8,b,x,y,z,std (P++l)) (λi hi=>by
  have hg:=Ai hi;have hbn:=WS P (bl++[root]) l i;rw [AoM,AoP]at hbn;have hc:IntKind.wrap .i64 (C3 (std (P++l.take i)) (gb l i)+1)=C3 (std (P++l.take i)) (gb l i)+1:=by
   rw [(Aao _).1];have:=List.count_le_length (l:=P++l.take i) (a:=gb l i);rw [AoM,AoQ]at this;rw [w64 O O]
  have hst:std (P++l.take (i+1))=DM (std (P++l.take i)) (gb l i) (C3 (std (P++l.take i)) (gb l i)+1):=by rw [Bq hg,<- AoN,PX]
  unfold Ca gX wI;dsimp only;rw [iy O,iy O,AoE,hg,AoC,hst];by_cases hz:gb l i∈P++l.take i
  .rw [ino (λq=>std_zero.1 q hz),AoC];dsimp only;have e:bpn P (bl++[root]) l (i+1)=bpn P (bl++[root]) l i:=by show(if _ then _ else _)=_;grind
   rw [e,hc,Ah O]
  .rw [iy (std_zero.2 hz),Qa (by grind),AoC];dsimp only;rw [AoC];dsimp only;have e:bpn P (bl++[root]) l (i+1)=bpn P (bl++[root]) l i++[gb l i]:=by show(if _ then _ else _)=_;grind
   rw [e,hc,Ah O]) (by
  unfold Ca gX wI;simp)
 rw [AqA,AoW]at h;rw [show Ab Ca (cat b l,l,(l.length:Int),0,ks,bl++[root],rs,bd fn (bl++[root]),d,a1,a2,a3,a4,a5,a6,a7,a8,b,x,y,z,std P)=_ from h];rfl
def rkd (b:Bls) (x y top:List Int) (k:Nat):List Int:=(rcA (rcd b x y (vl b top k))).1
def rkc (b:Bls) (x y top:List Int) (k:Nat):List Int:=(rcA (rcd b x y (vl b top k))).2.1
def rko (b:Bls) (x y top:List Int) (k:Nat):Bool:=(rcA (rcd b x y (vl b top k))).2.2
theorem Adk {b:Bls} {x y:List Int}:∀(f:Nat) (a:Int) (d ch:List Int) {p:List Int×List Int},rcN b x y f a d ch=some p->p.2.length<=ch.length+f/\p.1.length<=d.length+124 * f
 | 0,_,_,_,p,h=>by cases h
 | f+1,a,d,ch,p,h=>by
  unfold rcN at h;split at h
  .rename_i hc;have ho:=VR hc;split at h
   .grind
   .have:=Adk f _ _ _ h
    grind
  .cases h
theorem Ij (b:Bls) (x y top:List Int) (k:Nat):(rkc b x y top k).length<=10/\(rkd b x y top k).length<=1240:=by
 unfold rkc rkd rcA;split
 .rename_i p hp;have:=Adk _ _ _ _ hp;omega
 .simp
theorem X7 {b:Bls} {x y z top:List Int} (g:RS b x y) (ht:top.length=32) {bl ks:List Int} (hbl:bl.length<=90000) (hks:ks.length<=90000) {k:Nat} (hk:k < 1024) (fn:Bool) (rs:List Int) (d:Bls) (a1:Int) (a2:Bool) (a3 a4 a5 a6 a7 a8 rt:Int) (m:List (Int×Int)) :
  BC (k:Int) ks bl rs (bd fn bl) d a1 a2 a3 a4 a5 a6 a7 a8 b x y z rt top (top.map (lfv b)) m =
   some (rkd b x y top k,ks++[(k:Int)],bl++rkc b x y top k,rs,bd (fn && rko b x y top k) (bl++rkc b x y top k),d,a1,a2,a3,a4,a5,a6,a7,a8,b,x,y,z,rt,top,top.map (lfv b),m):=by
 have hl:=(Ij b x y top k).1;unfold BC cK;rw [AoJ (by simp only [Aa,decide_eq_true_eq,AoP];omega),Rf ht rt hk,AoC,Acv g,AoC];have hb:(if bd fn bl=true then true else !(rko b x y top k))=bd (fn && rko b x y top k) bl:=by
  unfold bd
  grind
 unfold rkd rkc rko at *;generalize rcA (rcd b x y (vl b top k))=q at *;obtain ⟨q1,q2,q3⟩:=q;dsimp only at *;have hc:=Qa (l:=q2) (bl:=bl) O (fn && q3) (ks++[(k:Int)]) rs d m
 grind
end Go.V.G
set_option maxRecDepth 100000
namespace Go.V.G
open Go.V
def okb (fn:Bool) (l:List Int):Bool:=fn && ndb l
theorem ZQ (fn:Bool) (l:List Int) (v:Int):okb fn (l++[v])=if v∈l then false else okb fn l:=by
 unfold okb;rw [AaO];by_cases h:v∈l <;> simp [h]
def mny (n:Nat) (P:List Int):List Int:=(List.range n).map λk=>(P.count ((k:Nat):Int):Int)
theorem KC (n:Nat) (P:List Int):(mny n P).length=n:=by simp [mny]
theorem Re {n k:Nat} (P:List Int) (h:k < n):(mny n P)[k]?=some (P.count (k:Int):Int):=by
 unfold mny;rw [Apl,List.getElem?_range h];rfl
theorem Aim {n k:Nat} (P:List Int) (h:k < n):mny n (P++[(k:Int)])=(mny n P).set k ((P.count (k:Int):Int)+1):=by
 refine Apq λi=>?_
 rw [List.getElem?_set,KC];by_cases hi:i < n
 .rw [Re _ hi,Re _ hi,List.count_append];by_cases hk:k=i
  .subst hk;rw [AoJ rfl,AoJ h];simp
  .rw [AoH hk];have:¬ (k:Int)=((i:Nat):Int):=O
   simp [List.count_cons,this]
 .rw [App (by rw [KC];omega),App (by rw [KC];omega)];by_cases hk:k=i
  .rw [AoJ hk,AoH O]
  .rw [AoH hk]
theorem VL {l C:List Int} (hl:C.length+l.length<=100000) (fn:Bool) (b:Bls) (x y z rs m:List Int) :
  B4 l b x y z rs (srt C) m (okb fn C)=some (l,b,x,y,z,rs,srt (C++l),m,okb fn (C++l)):=by
 unfold B4;have h:=Af B9 (λi=>(l,(l.length:Int),((i:Nat):Int),b,x,y,z,rs,srt (C++l.take i),m,okb fn (C++l.take i))) l.length (l,b,x,y,z,rs,srt (C++l),m,okb fn (C++l)) (λi hi=>by
  have hg:=Ai hi;have hcl:(C++l.take i).length<=1000000:=by rw [AoM,AoQ];omega
  obtain ⟨o1,o2,o3⟩:=J1 hcl;unfold B9 cK cZ wI;dsimp only;rw [iy O,iy O,iy O,AoS,AoE,hg,AoC,Bq hg,<- AoN,ZQ,HF O,AoC];by_cases hb:gb l i∈C++l.take i
  .rw [AoJ hb,decide_eq_true ((o3 _).2 hb),AoJ rfl,AoC];dsimp only;rw [(Fm hcl _).1,AoC,Ah O]
  .rw [AoH hb,decide_eq_false (λq=>hb ((o3 _).1 q)),AoH Z,AoC];dsimp only;rw [(Fm hcl _).1,AoC,Ah O]) (by
  unfold B9 cK cZ wI;dsimp only;rw [ino O,Apy])
 rw [AqA,AoW]at h;rw [show Ab B9 (l,(l.length:Int),0,b,x,y,z,rs,srt C,m,okb fn C)=_ from h];rfl
theorem AbY {l C:List Int} (hl:C.length+l.length<=100000) (fn:Bool) (b:Bls) (x y z rs m:List Int) :
  D9 l b x y z rs (srt C) m (okb fn C)=some (b,x,y,z,rs,srt (C++l),m,okb fn (C++l)):=by
 unfold D9;have h:=Af Cz (λi=>(l,(l.length:Int),((i:Nat):Int),b,x,y,z,rs,srt (C++l.take i),m,okb fn (C++l.take i))) l.length (b,x,y,z,rs,srt (C++l),m,okb fn (C++l)) (λi hi=>by
  have hg:=Ai hi;have hcl:(C++l.take i).length<=1000000:=by rw [AoM,AoQ];omega
  obtain ⟨o1,o2,o3⟩:=J1 hcl;unfold Cz gX wI;dsimp only;rw [iy O,iy O,AoE,hg,AoC,Bq hg,<- AoN,ZQ,HF O,AoC];by_cases hb:gb l i∈C++l.take i
  .rw [AoJ hb,decide_eq_true ((o3 _).2 hb),AoJ rfl,AoC];dsimp only;rw [(Fm hcl _).1,AoC,Ah O]
  .rw [AoH hb,decide_eq_false (λq=>hb ((o3 _).1 q)),AoH Z,AoC];dsimp only;rw [(Fm hcl _).1,AoC,Ah O]) (by
  unfold Cz gX wI;dsimp only;rw [ino O,Apy])
 rw [AqA,AoW]at h;rw [show Ab Cz (l,(l.length:Int),0,b,x,y,z,rs,srt C,m,okb fn C)=_ from h];rfl
theorem Abr {b:Bls} {x y z:List Int} (g:RS b x y) {root:Int} (hp:ptx b x y root=none) (rs c m:List Int) (w:Bool) :
  BL root b x y z rs c m w=some ([],b,x,y,z,rs,c,m,false):=by
 unfold BL sX wI;rw [SZ g,AoC];unfold tin;rw [hp];rfl
theorem AaU {b:Bls} {x y z:List Int} (g:RS b x y) {root:Int} {l:List Int} (hp:ptx b x y root=some l) {P C:List Int} (hC:C.length<=90000) (hP:P.length<=90000) (fn:Bool) (rs:List Int) :
  BL root b x y z rs (srt C) (mny b.length P) (okb fn C)=some (cat b l,b,x,y,z,rs,srt (C++[root]),mny b.length (P++l),okb fn (C++[root])):=by
 obtain ⟨⟨hall,hnd,hlen⟩,_⟩:=Hz hp;have hw:IntKind.wrap .i64 (((((l++[root]).length:Nat):Int)) - 1)=(l.length:Int):=by rw [AoM,AoP,w64 O O];omega
 have hle:(l++[root]).length=l.length+1:=by simp
 have e1:(List.drop l.length (l++[root])).take (l.length+1 - l.length)=[root]:=by
  rw [List.drop_left,(O:l.length+1 - l.length=1)];rfl
 have e2:(List.drop (Int.toNat 0) (l++[root])).take (l.length - Int.toNat 0)=l:=by
  rw [show Int.toNat 0=0 from rfl,ApN,Nat.sub_zero,List.take_left]
 unfold BL sX wI;rw [SZ g,AoC];unfold tin;rw [hp];dsimp only;rw [AoC];dsimp only;rw [AoH Z,hw,hle,iy O,iy O,iy O,iy O,AoE,AoE,e1,AbY (by rw [AoP];omega),AoC];dsimp only;rw [iy O,iy O,iy O,iy O,e2];have h:=Af CJ (λi=>(cat b l,l,(l.length:Int),((i:Nat):Int),b,x,y,z,rs,srt (C++[root]),mny b.length (P++l.take i),okb fn (C++[root]))) l.length
   (cat b l,b,x,y,z,rs,srt (C++[root]),mny b.length (P++l),okb fn (C++[root])) (λi hi=>by
  have hg:=Ai hi;have hmem:gb l i∈l:=by
   have:=AoR hi;rw [AoF hi]at hg;injection hg with hg;rw [<- hg];exact this
  obtain ⟨m,hm1,hm2,hm3,_⟩:=Mj (hall _ hmem);have hml:=KC b.length (P++l.take i);have hc:=List.count_le_length (l:=P++l.take i) (a:=(m:Int));rw [AoM,AoQ]at hc;unfold CJ cK cZ gX wI;dsimp only;rw [iy O,iy O,AoE,hg,AoC,hm1,iy O,iy O,AoE,AoS,Re _ hm3,AoC,iy O,iy O,AoC,AoC,w64 (n:=(((P++l.take i).count (m:Int):Nat):Int)+1) O O,
   Bq hg,<- AoN,hm1,Aim _ hm3,Ah O]) (by
  unfold CJ cK cZ gX wI;dsimp only;rw [ino O,Apy])
 rw [AqA,AoW]at h;rw [show Ab CJ (cat b l,l,(l.length:Int),0,b,x,y,z,rs,srt (C++[root]),mny b.length P,okb fn (C++[root]))=_ from h];rfl
theorem Q9 {b:Bls} {x y z top:List Int} (h:SB b x y z) (g:RS b x y) {C:List Int} (hC:C.length<=90000) {k:Nat} (fn:Bool) (rs m:List Int) :
  Cj (vl b top k) b x y z rs (srt C) m (okb fn C) =
   some (rkd b x y top k,b,x,y,z,rs,srt (C++rkc b x y top k),m,okb (fn && rko b x y top k) (C++rkc b x y top k)):=by
 have hl:=(Ij b x y top k).1;unfold Cj;rw [Ab1 h g,AoC];have hb:(if okb fn C=true then rko b x y top k else false)=okb (fn && rko b x y top k) C:=by
  unfold okb;cases fn <;> cases ndb C <;> cases rko b x y top k <;> rfl
 unfold rkd rkc rko at *;generalize rcA (rcd b x y (vl b top k))=q at *;obtain ⟨q1,q2,q3⟩:=q;dsimp only at *;have hc:=VL (l:=q2) (C:=C) O (fn && q3) b x y z rs m;rw [<- hb]at hc;by_cases hw:okb fn C=true
 .rw [AoJ hw,AoC];dsimp only;rw [AoJ hw]at hc;rw [hc];rfl
 .rw [AoH hw,AoC];dsimp only;rw [AoH hw]at hc;rw [hc];rfl
end Go.V.G
set_option maxRecDepth 100000
namespace Go.V.G
open Go.V
theorem WG {a b c:List Prt} (ha:AK a=true) (hb:AK b=true) (hc:AK c=true) (h1:tgt a=src b) (h2:tgt b=src c):AQ (AQ a b) c=AQ a (AQ b c):=by
 obtain ⟨b1,b2,b3,b4⟩:=DU hb hc h2;obtain ⟨a1,a2,a3,a4⟩:=DU ha hb h1;obtain ⟨p1,p2,_⟩:=DU ha b1 O;obtain ⟨r1,r2,_⟩:=DU a1 hc O;refine Om (Aq r1).1 (Aq p1).1 ?_;rw [p2,r2,a2,b2];exact AeW _ _ _ (Mq hb hc h2).1 (Mq ha hb h1).1
theorem XG:∀{cs:List (List Prt)} {a d:List Prt},AK a=true->AK d=true->tgt a=src d->chn (tgt d) cs=true->E9 (AQ a d) cs=AQ a (E9 d cs)
 | [],_,_,_,_,_,_=>rfl
 | c::cs,a,d,ha,hd,ht,hc=>by
  obtain ⟨k1,k2,k3⟩:=E0 hc;obtain ⟨q1,q2,q3,q4⟩:=DU hd k1 k2.symm;show E9 (AQ (AQ a d) c) cs=AQ a (E9 (AQ d c) cs);rw [WG ha hd k1 ht k2.symm];exact XG ha q1 O (by grind)
theorem Akk {n:Int} {xs ys:List (List Prt)} (h:chn n (xs++ys)=true) (h0:0<=n) (h1:n<=120) (hy:ys≠[]):btw n (xs++ys)=AQ (btw n xs) (btw (Du n xs) ys):=by
 rw [Pv,AoI]at h;obtain ⟨b1,b2,b3⟩:=Y0 h.1 h0 h1;cases ys with
 | nil=>grind
 | cons c cs=>
  obtain ⟨k1,k2,k3⟩:=E0 h.2;rw [TG h.2];have e:btw n (xs++c::cs)=E9 (AQ (btw n xs) c) cs:=by unfold btw;simp
  rw [e];exact XG b1 k1 O k3
section
variable {f:Int} {t:List UInt8} {r:List Rn} {cs:List (List Prt)}
theorem Aco (g:GH f t r cs) {a b c:Int} (h0:f<=a) (h1:a<=b) (h2:b < c) (h3:c<=f+cs.length):B3 f t cs a c=AQ (B3 f t cs a b) (B3 f t cs b c):=by
 obtain ⟨k1,k2⟩:=Aaf g (a - f);have es:seg cs (a - f) (c - f)=seg cs (a - f) (b - f)++seg cs (b - f) (c - f):=by
  unfold seg;have:cs.drop (b - f).toNat=(cs.drop (a - f).toNat).drop ((b - f).toNat - (a - f).toNat):=by rw [Aqz];grind
  rw [this,<- List.take_add]
  grind
 have hne:seg cs (b - f) (c - f)≠[]:=by
  intro q;have:=congrArg List.length q;unfold seg at this
  grind
 have hc:=Sd g (a - f) (c - f);rw [es]at hc;unfold B3;rw [es,Akk hc k1 k2 hne,AcN g O O]
theorem Tj (g:GH f t r cs) {a:Int} (h0:f<=a) (h1:a < f+cs.length):cs[(a - f).toNat]?=some (B3 f t cs a (a+1)):=by
 have hl:(a - f).toNat < cs.length:=O
 have es:seg cs (a - f) (a+1 - f)=[cs[(a - f).toNat]]:=by
  unfold seg;rw [show(a+1 - f).toNat - (a - f).toNat=1 by omega,Aph hl];rfl
 have hc:=Sd g (a - f) (a+1 - f);rw [es]at hc;unfold B3;rw [es,TG hc,AoF hl];rfl
end
def frS (s:Int×Int):Nat:=s.2.toNat * 2 ^ s.1.toNat
def toS (s:Int×Int):Nat:=(s.2.toNat+1) * 2 ^ s.1.toNat
def bt (f:Int) (t:List UInt8) (cs:List (List Prt)) (s:Int×Int):List Prt:=B3 f t cs (frS s:Int) (toS s:Int)
theorem St8.ft {f h k i:Nat} {s:Int×Int} (g:St8 f h s k i):frS s=i * 2 ^ k/\toS s=(i+1) * 2 ^ k/\f<=frS s/\frS s < toS s/\toS s<=h:=by
 have h1:=g.lo;have h2:=g.hi;have e1:frS s=i * 2 ^ k:=by unfold frS;rw [g.e];simp
 have e2:toS s=(i+1) * 2 ^ k:=by unfold toS;rw [g.e];simp
 grind
theorem ZO (f k:Nat):∀n,(skn f k n).Pairwise (λa c=>ky a < ky c)/\∀s∈skn f k n,64 * k<=ky s/\ky s < 64 * k+n
 | 0=>by simp [skn]
 | n+1=>by
  obtain ⟨h1,h2⟩:=ZO f k n;rw [I6];by_cases h:f<=n * 2 ^ k
  .rw [AoJ h];have e:ky ((k:Int),((n:Nat):Int))=64 * k+n:=by rfl
   grind
  grind
theorem Abj {f h:Nat} (hh:h<=60):∀k,(stk f h k).Pairwise (λa c=>ky a < ky c)/\∀s∈stk f h k,ky s < 64 * k
 | 0=>by simp [stk]
 | k+1=>by
  obtain ⟨h1,h2⟩:=Abj (f:=f) hh k;obtain ⟨g1,g2⟩:=ZO f k (h / 2 ^ k);have hd:=Aqn h (2 ^ k);unfold stk
  grind
theorem T5 {f h:Nat} (hh:h<=60):(sts f h).Pairwise (λa c=>ky a < ky c):=(Abj hh 6).1
theorem UE {f h:Nat} (hh:h<=60) {i:Nat} (hi:i < (sts f h).length) {s:Int×Int} (hs:s∈sts f h) (hk:ky s < ky (sts f h)[i]):s∈(sts f h).take i:=by
 obtain ⟨j,hj,rfl⟩:=Ao3 hs;have hp:=T5 (f:=f) hh;rw [List.pairwise_iff_getElem]at hp;have:j < i:=by
  grind
 rw [List.mem_take_iff_getElem]
 grind
def R4 (B:Int×Int->List Prt) (A:List (List Prt)) (L:List (Int×Int)):List (List Prt):=L.foldl (λA s=>A.set (ky s) (B s)) A
theorem Zy (B:Int×Int->List Prt):∀(L:List (Int×Int)) (A:List (List Prt)),(R4 B A L).length=A.length
 | [],A=>rfl
 | s::L,A=>by
  show(R4 B (A.set (ky s) (B s)) L).length=_;rw [Zy B L,List.length_set]
theorem Aav (B:Int×Int->List Prt):∀(L:List (Int×Int)) (A:List (List Prt)) (k:Nat),(∀s∈L,ky s≠k)->(R4 B A L)[k]?=A[k]?
 | [],A,k,_=>rfl
 | s::L,A,k,h=>by
  show(R4 B (A.set (ky s) (B s)) L)[k]?=_;rw [Aav B L _ k (λc hc=>h c (by simp [hc])),List.getElem?_set_ne (h s Z)]
theorem Sq (B:Int×Int->List Prt):∀(L:List (Int×Int)) (A:List (List Prt)),L.Pairwise (λa c=>ky a < ky c)->∀s∈L,ky s < A.length->(R4 B A L)[ky s]?=some (B s)
 | [],A,_,s,hs,_=>by cases hs
 | c::L,A,hp,s,hs,hl=>by
  rw [List.pairwise_cons]at hp;show(R4 B (A.set (ky c) (B c)) L)[ky s]?=_;rcases AoY.1 hs with rfl | hs
  .rw [Aav B L _ (ky s) (λd hd=>by grind),Ap7 hl]
  .exact Sq B L _ hp.2 s hs (by grind)
def Hl (f:Int) (t:List UInt8) (cs:List (List Prt)) (L:List (Int×Int)):List (List Prt):=R4 (bt f t cs) (List.replicate 384 []) L
theorem Aho (f:Int) (t:List UInt8) (cs:List (List Prt)) (L:List (Int×Int)) (s:Int×Int):Hl f t cs (L++[s])=(Hl f t cs L).set (ky s) (bt f t cs s):=by
 unfold Hl R4;simp
theorem Y3 (f:Int) (t:List UInt8) (cs:List (List Prt)) (L:List (Int×Int)):(Hl f t cs L).length=384:=by unfold Hl;rw [Zy,ApC]
theorem AbV {f:Nat} {t:List UInt8} {r:List Rn} {cs:List (List Prt)} (g:GH (f:Int) t r cs) {h:Nat} (hf:h=f+cs.length) (hh:h<=60) :
  PY (f:Int) t r cs=some (Hl (f:Int) t cs (sts f h)):=by
 have hsl:=Fr (f:=f) hh;unfold PY R8 cK cZ wI;rw [iy O,iy O,AoJ AoA,AoC,w64 O O,show(f:Int)+(cs.length:Int)=(h:Int) by omega,LS hh,AoC];have hL:=Af IA (λi=>(Hl (f:Int) t cs ((sts f h).take i),sts f h,(((sts f h).length:Nat):Int),((i:Nat):Int),(f:Int),t,r,cs)) (sts f h).length (Hl (f:Int) t cs (sts f h)) (λi hi=>by
  obtain ⟨k,j,g8⟩:=MW hi;obtain ⟨l1,l2,l3⟩:=g8.lt hh;obtain ⟨f1,f2,f3,f4,f5⟩:=g8.ft;have hk:=g8.hk;have hget:(sts f h)[i]?=some ((sts f h)[i]):=AoF hi;have hal:=Y3 (f:Int) t cs ((sts f h).take i);unfold IA cK cZ gX wI;dsimp only;rw [iy O,iy O,iy O,AoS,AoE,hget,AoC,AoC,AoL hi,Aho,l2];have ebt:bt (f:Int) t cs (sts f h)[i]=B3 (f:Int) t cs ((j * 2 ^ k:Nat):Int) (((j+1) * 2 ^ k:Nat):Int):=by unfold bt;rw [f1,f2]
  rw [ebt];have hlo:=g8.lo;have hhi:=g8.hi;simp only [g8.e,AoS];by_cases h0:k=0
  .subst h0;rw [Nat.pow_zero,Nat.mul_one]at hlo hhi;rw [Nat.pow_zero,Nat.mul_one,Nat.mul_one];have h1:=Tj g (a:=(j:Int)) O O;rw [iy O,w64 O O,iy O,h1,AoC,iy O,iy O,AoE,AoF (O:j < (Hl (f:Int) t cs ((sts f h).take i)).length),AoC,AoC,AoC];dsimp only;rw [Ah O,Nat.mul_zero,AoS,show(((j+1:Nat)):Int)=(j:Int)+1 by omega]
  .obtain ⟨k',rfl⟩:∃k',k=k' + 1:=⟨k - 1,O⟩
   have hpk:2 ^ (k' + 1)=2 * 2 ^ k':=O
   have hp:0 < 2 ^ k':=Aqk Z;have m1:j * 2 ^ (k' + 1)=(2 * j) * 2 ^ k':=by grind
   have m2:(j+1) * 2 ^ (k' + 1)=(2 * j+1+1) * 2 ^ k':=by grind
   have m3:(2 * j+1) * 2 ^ k'=(2 * j) * 2 ^ k' + 2 ^ k':=Nat.succ_mul _ _;have m4:(2 * j+1+1) * 2 ^ k'=(2 * j+1) * 2 ^ k' + 2 ^ k':=Nat.succ_mul _ _;rw [m1]at hlo;rw [m2]at hhi;have ga:St8 f h (((k':Nat):Int),((2 * j:Nat):Int)) k' (2 * j):=⟨rfl,O,hlo,O⟩
   have gb':St8 f h (((k':Nat):Int),((2 * j+1:Nat):Int)) k' (2 * j+1):=⟨rfl,O,O,hhi⟩
   obtain ⟨a1,a2,a3⟩:=ga.lt hh;obtain ⟨b1,b2,b3⟩:=gb'.lt hh;obtain ⟨fa1,fa2,_⟩:=ga.ft;obtain ⟨fb1,fb2,_⟩:=gb'.ft;generalize hU:2 * j * 2 ^ k'=U at *;generalize hV:(2 * j+1) * 2 ^ k'=V at *;generalize hW:(2 * j+1+1) * 2 ^ k'=W at *;have pw:=(T5 (f:=f) hh).sublist (List.take_sublist i _);have ia:=Sq (bt (f:Int) t cs) _ (List.replicate 384 []) pw _ (UE hh hi (sts_mem.2 ⟨_,_,ga⟩) O) (by grind);have ib:=Sq (bt (f:Int) t cs) _ (List.replicate 384 []) pw _ (UE hh hi (sts_mem.2 ⟨_,_,gb'⟩) O) (by grind);rw [a2]at ia;rw [b2]at ib;have wk:IntKind.wrap .i64 (((k' + 1:Nat):Int) - 1)=((k':Nat):Int):=by rw [w64 O O];omega
   have wa:IntKind.wrap .i64 (IntKind.wrap .i64 (64 * ((k':Nat):Int))+IntKind.wrap .i64 (2 * (j:Int)))=((64 * k' + 2 * j:Nat):Int):=by
    rw [w64 (n:=64 * ((k':Nat):Int)) O O,w64 (n:=2 * (j:Int)) O O,w64 O O];omega
   have ga1:=JH g (a:=(U:Int)) (b:=(V:Int)) O O;have gb1:=JH g (a:=(V:Int)) (b:=(W:Int)) O O;have hcmp:=ZJ ga1.1 gb1.1 O;have eA:bt (f:Int) t cs (((k':Nat):Int),((2 * j:Nat):Int))=B3 (f:Int) t cs (U:Int) (V:Int):=by unfold bt;rw [fa1,fa2]
   have eB:bt (f:Int) t cs (((k':Nat):Int),((2 * j+1:Nat):Int))=B3 (f:Int) t cs (V:Int) (W:Int):=by unfold bt;rw [fb1,fb2]
   rw [eA]at ia;rw [eB]at ib;rw [ino O,JO hk O,AoC,wk,wa,iy (show(0:Int)<=((64 * k' + 2 * j:Nat):Int) by omega),iy (show((64 * k' + 2 * j:Nat):Int) < (((Hl (f:Int) t cs ((sts f h).take i)).length:Nat):Int) by omega),AoE,show(Hl (f:Int) t cs ((sts f h).take i))[64 * k' + 2 * j]?=_ from ia,AoC,Ah O,iy O,iy O,AoE,
    show(Hl (f:Int) t cs ((sts f h).take i))[64 * k' + 2 * j+1]?=_ from ib,AoC,hcmp,AoC,iy O,iy O,AoE,AoF (O:64 * (k' + 1)+j < (Hl (f:Int) t cs ((sts f h).take i)).length),AoC,AoC,AoC]
   dsimp only;rw [Ah O,m1,m2,Aco g (a:=(U:Int)) (b:=(V:Int)) (c:=(W:Int)) O O O O]) (by
  unfold IA cK cZ gX wI;simp)
 rw [show Ab IA (List.replicate (Int.toNat 384) ([]:List Prt),sts f h,(((sts f h).length:Nat):Int),0,(f:Int),t,r,cs)=_ from hL];rfl
theorem Aj5 {f:Int} {t:List UInt8} {cs:List (List Prt)} {f' h:Nat} (hh:h<=60) {s:Int×Int} (hs:s∈sts f' h):(Hl f t cs (sts f' h))[ky s]?=some (bt f t cs s):=by
 obtain ⟨k,j,g⟩:=sts_mem.1 hs;obtain ⟨l1,l2,l3⟩:=g.lt hh;exact Sq _ _ _ (T5 hh) s hs (by grind)
end Go.V.G
set_option maxRecDepth 100000
namespace Go.V.G
open Go.V
structure HD (t:List UInt8) (r:List Rn) (cs:List (List Prt)):Prop where
 ht:t.length<=130
 hr:r.length<=30
 hn:cs.length<=60
 hc:∀c∈cs,Sm 2000 c
theorem HD.hb {t:List UInt8} {r:List Rn} {cs:List (List Prt)} (h:HD t r cs):HB t r cs:=
 ⟨by have:=h.ht;omega,by have:=h.hr;omega,by have:=h.hn;omega,λc hc=>(h.hc c hc).mono O⟩
end Go.V.G
set_option maxRecDepth 100000
namespace Go.V.G
open Go.V
theorem W8 {l:List Rn} {i:Nat} (h:i < l.length):AF (l.take (i+1))=AF (l.take i)+l[i].2:=by
 rw [AoL h,EV];simp [AF]
theorem RD {l:List Rn} (hp:Pos l) (i:Nat):0<=AF (l.take i)/\AF (l.take i)<=AF l:=by
 have h2:AF l=AF (l.take i)+AF (l.drop i):=by rw [<- EV,Apm]
 have h3:=C4 (l:=l.drop i) λq hq=>hp q (Ap2 hq)
 have h4:=C4 (l:=l.take i) λq hq=>hp q (ApL hq)
 omega
end Go.V.G
set_option maxRecDepth 100000
namespace Go.V.G
open Go.V
def CV:Nat->List Int->Option (List Prt)
 | 0,x=>if x=[]then some []else none
 | n+1,x=>match x with
  | []=>some []
  | [_]=>none
  | k::m::r=>
   if k=1 then(CV n r).map ((m,0,[]) :: ·)
   else if k=2 then(CV n r).map ((0,m,[]) :: ·)
   else if k=3/\m<=(r.length:Int)then(CV n (r.drop m.toNat)).map ((0,0,AL (r.take m.toNat)) :: ·)
   else none
theorem Pq:∀n,CV n []=some []
 | 0=>rfl
 | _+1=>rfl
theorem SK:∀(n:Nat) (x:List Int) (c:List Prt),Byt x->CV n x=some c->c.length<=x.length/\B8 c<=x.length/\∀p∈c,(0<=p.1/\p.1<=255)/\(0<=p.2.1/\p.2.1<=255)
 | 0,x,c,hb,h=>by
  unfold CV at h;split at h
  .injection h with h;subst h;simp [B8]
  .cases h
 | n+1,[],c,hb,h=>by
  rw [Pq]at h;injection h with h;subst h;simp [B8]
 | n+1,[a],c,hb,h=>by simp [CV]at h
 | n+1,k::m::r,c,hb,h=>by
  have hm:=hb m Z;have hr:Byt r:=λv hv=>hb v (by simp [hv])
  simp only [CV]at h;split at h
  .obtain ⟨c',h1,rfl⟩:=Apx.1 h;obtain ⟨q1,q2,q3⟩:=SK n r c' hr h1;refine⟨by simp only [AoV];omega,by simp only [B8,AoV,Apd]at q2 ⊢;omega,λp hp=>?_⟩;rcases AoY.1 hp with rfl | hp
   .exact⟨hm,AoB⟩
   .exact q3 p hp
  .split at h
   .obtain ⟨c',h1,rfl⟩:=Apx.1 h;obtain ⟨q1,q2,q3⟩:=SK n r c' hr h1;refine⟨by simp only [AoV];omega,by simp only [B8,AoV,Apd]at q2 ⊢;omega,λp hp=>?_⟩;rcases AoY.1 hp with rfl | hp
    .exact⟨AoB,hm⟩
    .exact q3 p hp
   .split at h
    .rename_i h3;obtain ⟨c',h1,rfl⟩:=Apx.1 h;obtain ⟨q1,q2,q3⟩:=SK n _ c' (λv hv=>hr v (Ap2 hv)) h1;rw [Apr]at q1 q2;have ht:(AL (r.take m.toNat)).length=m.toNat:=by unfold AL;rw [Ao9,AoQ];omega
     refine⟨by simp only [AoV];omega,by simp only [B8,AoV,ht]at q2 ⊢;omega,λp hp=>?_⟩;rcases AoY.1 hp with rfl | hp
     .exact⟨AoB,AoB⟩
     .exact q3 p hp
    .cases h
theorem AdB {n:Nat} {x:List Int} {c:List Prt} (hb:Byt x) (h:CV n x=some c):Sm x.length c:=by
 obtain ⟨q1,q2,q3⟩:=SK n x c hb h;exact⟨q1,q2,λp hp=>by obtain ⟨⟨a,b⟩,c,d⟩:=q3 p hp;exact⟨by unfold I64;omega,by unfold I64;omega⟩⟩
theorem AcR {l:List Prt} (h:l.length<=1099511627776) (x:Prt):Aa (List.length l+List.length [x]) 32=true:=by simp [Aa];omega
theorem QZ:∀(n:Nat) (rest:List Int) (acc:List Prt),rest.length<=n->Byt rest->n<=1000000000->n+acc.length<=1099511627776->
  Ab AG (rest,acc)=some (match CV n rest with | some c=>.inl (acc++c) | none=>.inr false)
 | n,[],acc,_,_,_,_=>by
  rw [Ay,Pq];unfold AG cK gX sX;simp
 | 0,a::r,acc,h,_,_,_=>by simp at h
 | n+1,[a],acc,_,_,_,_=>by
  rw [Ay];unfold AG cK gX sX;simp [CV]
 | n+1,k::m::r,acc,h,hb,hn,ha=>by
  have hm:=hb m Z;have hr:Byt r:=λv hv=>hb v (by simp [hv])
  simp only [AoV]at h;have hl2:¬ ((List.length (k::m::r):Int)) < 2:=by simp;omega
  have hl0:(0:Int) < ((List.length (k::m::r):Int)):=by simp;omega
  have hl3:(2:Int)<=((List.length (k::m::r):Int)):=by simp;omega
  have g0:(k::m::r)[Int.toNat 0]?=some k:=rfl;have g1:(k::m::r)[Int.toNat 1]?=some m:=rfl;have w:IntKind.wrap .i64 m=m:=w64 O O;have room:=AcR (O:acc.length<=1099511627776);have ih:=λp=>QZ n r (acc++[p]) O hr O (by simp only [AoM,AoV,Apd];omega)
  rw [Ay];by_cases k1:k=1
  .subst k1;have hs:AG (1::m::r,acc)=some (.inl (r,acc++[(m,0,[])])):=by
    unfold AG cK gX sX;dsimp only;rw [Sj];simp only [hl0,hl2,hl3,g0,g1,decide_true,decide_false,AoU,AoO,Apa,AoC,ApI,show(0:Int)<=1 from by omega,show(0:Int)<=2 from by omega,w,room]
   rw [hs];dsimp only;rw [ih,CV];simp only [AoU];cases CV n r with
   | none=>rfl
   | some c=>simp
  .by_cases k2:k=2
   .subst k2;have hs:AG (2::m::r,acc)=some (.inl (r,acc++[(0,m,[])])):=by
     unfold AG cK gX sX;dsimp only;rw [Sj];simp only [hl0,hl2,hl3,g0,g1,decide_true,decide_false,AoU,AoO,Apa,AoC,ApI,show(0:Int)<=1 from by omega,show(0:Int)<=2 from by omega,(O:¬ (2:Int)=1),w,room]
    rw [hs];dsimp only;rw [ih,CV];simp only [(O:¬ (2:Int)=1),AoU,Apa];cases CV n r with
    | none=>rfl
    | some c=>simp
   .by_cases k3:k=3/\m<=(r.length:Int)
    .obtain ⟨rfl,k4⟩:=k3;have tk:(List.drop (Int.toNat 0) r).take (Int.toNat m - Int.toNat 0)=r.take m.toNat:=rfl;have dr:(List.drop (Int.toNat m) r).take (Int.toNat (List.length r:Int) - Int.toNat m)=r.drop m.toNat:=Ao5 (by rw [Apr];omega);have hs:AG (3::m::r,acc)=some (.inl (r.drop m.toNat,acc++[(0,0,AL (r.take m.toNat))])):=by
      unfold AG cK gX sX;dsimp only;rw [Sj];simp only [hl0,hl2,hl3,g0,g1,decide_true,decide_false,AoU,AoO,Apa,AoC,ApI,show(0:Int)<=1 from by omega,show(0:Int)<=2 from by omega,(O:¬ (3:Int)=1),(O:¬ (3:Int)=2),w,k4,hm.1,tk,dr,room]
     rw [hs];dsimp only;rw [QZ n (r.drop m.toNat) _ (by rw [Apr];omega) (λv hv=>hr v (Ap2 hv)) O (by simp only [AoM,AoV,Apd];omega),CV];simp only [k4,AoU,Apa,and_self,(O:¬ (3:Int)=1),(O:¬ (3:Int)=2)];cases CV n (r.drop m.toNat)with
     | none=>rfl
     | some c=>simp
    .have hs:AG (k::m::r,acc)=some (.inr (.inr false)):=by
      unfold AG cK gX sX;dsimp only;rw [Sj];by_cases k3':k=3
      .subst k3';have:¬ m<=(r.length:Int):=λh=>k3 ⟨rfl,h⟩
       simp only [hl0,hl2,hl3,g0,g1,decide_true,decide_false,AoU,AoO,Apa,AoC,ApI,show(0:Int)<=1 from by omega,show(0:Int)<=2 from by omega,(O:¬ (3:Int)=1),(O:¬ (3:Int)=2),w,this]
      .simp only [hl0,hl2,hl3,g0,g1,k1,k2,k3',decide_true,decide_false,AoU,AoO,Apa,AoC,ApI,show(0:Int)<=1 from by omega,show(0:Int)<=2 from by omega,w]
     rw [hs,CV];simp only [k1,k2,k3,Apa]
def B1 (x:List Int):List Prt×Bool:=match CV x.length x with
 | some c=>if AK c=true then(c,true)else([],false)
 | none=>([],false)
theorem T6 (x:List Int):Sm 240 (B1 x).1:=by
 unfold B1;split
 .split
  .rename_i h;exact CG h
  .exact Sm.nil _
 .exact Sm.nil _
theorem Ac6 {x:List Int} (hb:Byt x) (hl:x.length<=1000000000):Fs x=some (B1 x):=by
 unfold Fs B1;rw [QZ x.length x [] (Ao4 _) hb hl Aoz];cases hd:CV x.length x with
 | none=>rfl
 | some c=>
  simp only [AoC,Ao6];rw [Rb (AdB hb hd) O,AoC];cases hg:AK c <;> simp
theorem Xa {b:List Int} (hb:Byt b) (hl:b.length<=1000000000):∀(n:Nat) (pos:Nat) (acc:List Prt),pos<=b.length->b.length - pos<=n->acc.length<=500->
  Ab Bv (b,acc,(pos:Int))=some (match CV n (b.drop pos)with | some c=>if acc.length+c.length<=500 then .inl (acc++c)else .inr false | none=>.inr false)
 | n,pos,acc,hp,hn,ha=>by
  by_cases he:pos=b.length
  .subst he;rw [Ay,Ap3,Pq];unfold Bv cK gX sX wI;simp [ha]
  have hlt:pos < b.length:=O
  obtain ⟨n,rfl⟩:∃n',n=n' + 1:=⟨n - 1,O⟩
  have c0:(pos:Int) < (b.length:Int):=O
  have w1:IntKind.wrap .i64 ((pos:Int)+1)=((pos+1:Nat):Int):=by rw [w64 O O];omega
  by_cases he2:pos+1=b.length
  .have hd:b.drop pos=[b[pos]]:=by rw [Aph hlt,he2,Ap3]
   have c1:(b.length:Int)<=((pos+1:Nat):Int):=O
   rw [Ay,hd];unfold Bv cK gX sX wI;simp only [w1,c0,c1,decide_true,AoU,CV]
  have hlt2:pos+1 < b.length:=O
  have hd:b.drop pos=b[pos]::b[pos+1]::b.drop (pos+2):=by rw [Aph hlt,Aph hlt2]
  have c1:¬ (b.length:Int)<=((pos+1:Nat):Int):=O
  have g1:b[Int.toNat ((pos+1:Nat):Int)]?=some b[pos+1]:=by rw [AoE];exact AoF hlt2
  have g0:b[Int.toNat (pos:Int)]?=some b[pos]:=by rw [AoE];exact AoF hlt
  have hm:=hb _ (AoR hlt2);have w:IntKind.wrap .i64 b[pos+1]=b[pos+1]:=w64 O O;have room:=AcR (O:acc.length<=1099511627776);have p0:(0:Int)<=(pos:Int):=O
  have p1:(0:Int)<=((pos+1:Nat):Int):=O
  have w2:IntKind.wrap .i64 ((pos:Int)+2)=((pos+2:Nat):Int):=by rw [w64 O O];omega
  have al:∀p:Prt,(List.length (acc++[p]):Int)=(acc.length:Int)+1:=λp=>by simp
  have nx:∀(p:Prt) (q:Nat),q<=b.length->b.length - q<=n->(if decide ((500:Int) < (List.length (acc++[p]):Int))=true then(some (.inr (.inr false)):Option ((List Int×(List Prt×Int))⊕(List Prt⊕Bool)))else some (.inl (b,acc++[p],(q:Int))))=Bv (b,acc,(pos:Int))->
    Ab Bv (b,acc,(pos:Int))=some (match (CV n (b.drop q)).map (p :: ·)with | some c=>if acc.length+c.length<=500 then .inl (acc++c)else .inr false | none=>.inr false):=by
   intro p q hq hqn hs;rw [Ay,<- hs];by_cases h5:acc.length+1<=500
   .have h5':¬ (500:Int) < (List.length (acc++[p]):Int):=by rw [al];omega
    rw [AoH (by simpa using h5')];dsimp only;rw [Xa hb hl n q (acc++[p]) hq hqn Aoz];cases CV n (b.drop q)with
    | none=>rfl
    | some c=>
     simp only [Apz,AoM,AoV,Apd,AoN,Apj,Ao6,AoS,Nat.add_assoc,Nat.add_comm 1]
   .have h5':(500:Int) < (List.length (acc++[p]):Int):=by rw [al];omega
    rw [AoJ (by simpa using h5')];cases CV n (b.drop q)with
    | none=>rfl
    | some c=>
     have:¬ acc.length+(p::c).length<=500:=by simp only [AoV];omega
     simp only [Apz,this,Apa]
  rw [hd,CV];by_cases k1:b[pos]=1
  .simp only [k1,AoU];refine nx _ (pos+2) O O ?_;unfold Bv cK gX sX wI;simp only [w1,w2,w,c0,c1,g0,g1,p0,p1,k1,decide_true,decide_false,AoU,AoO,Apa,AoC,room]
  .by_cases k2:b[pos]=2
   .simp only [k2,(O:¬ (2:Int)=1),AoU,Apa];refine nx _ (pos+2) O O ?_;unfold Bv cK gX sX wI;simp only [w1,w2,w,c0,c1,g0,g1,p0,p1,k2,decide_true,decide_false,AoU,AoO,Apa,AoC,room,(O:¬ (2:Int)=1)]
   .by_cases k3:b[pos]=3
    .have w3:IntKind.wrap .i64 ((IntKind.wrap .i64 ((b.length:Int) - (pos:Int))) - 2)=((b.length - (pos+2):Nat):Int):=by rw [w64 (n:=(b.length:Int) - (pos:Int)) O O,w64 O O];omega
     have hdl:(b.drop (pos+2)).length=b.length - (pos+2):=Apr;by_cases k4:b[pos+1]<=((b.length - (pos+2):Nat):Int)
     .obtain ⟨m,hme⟩:=AoX hm.1;have k4':b[pos+1]<=(((b.drop (pos+2)).length:Nat):Int):=by rw [hdl];exact k4
      simp only [k3,k4',(O:¬ (3:Int)=1),(O:¬ (3:Int)=2),and_self,AoU,Apa,Aqz];have hq:pos+2+b[pos+1].toNat<=b.length:=O
      refine nx _ (pos+2+b[pos+1].toNat) hq O ?_;have w4:IntKind.wrap .i64 (((pos+2:Nat):Int)+b[pos+1])=((pos+2+b[pos+1].toNat:Nat):Int):=by rw [w64 O O];omega
      have w5:IntKind.wrap .i64 ((pos:Int)+b[pos+1])=((pos+b[pos+1].toNat:Nat):Int):=by rw [w64 O O];omega
      have w6:IntKind.wrap .i64 (((pos+b[pos+1].toNat:Nat):Int)+2)=((pos+2+b[pos+1].toNat:Nat):Int):=by rw [w64 O O];omega
      have k5:¬ ((b.length - (pos+2):Nat):Int) < b[pos+1]:=O
      have i1:(0:Int)<=((pos+2:Nat):Int):=O
      have i2:((pos+2:Nat):Int)<=((pos+2+b[pos+1].toNat:Nat):Int):=O
      have i3:((pos+2+b[pos+1].toNat:Nat):Int)<=(b.length:Int):=O
      have tk:(List.drop (Int.toNat ((pos+2:Nat):Int)) b).take (Int.toNat ((pos+2+b[pos+1].toNat:Nat):Int) - Int.toNat ((pos+2:Nat):Int))=(b.drop (pos+2)).take b[pos+1].toNat:=by
       rw [AoE,AoE];congr 1;omega
      unfold Bv cK gX sX wI;simp only [w1,w2,w,w3,w4,w5,w6,c0,c1,g0,g1,p0,p1,k3,k5,i1,i2,i3,tk,decide_true,decide_false,AoU,AoO,Apa,AoC,ApI,room,(O:¬ (3:Int)=1),(O:¬ (3:Int)=2)]
     .have k4':¬ b[pos+1]<=(((b.drop (pos+2)).length:Nat):Int):=by rw [hdl];exact k4
      have k5:((b.length - (pos+2):Nat):Int) < b[pos+1]:=O
      simp only [k3,k4',(O:¬ (3:Int)=1),(O:¬ (3:Int)=2),and_false,Apa];rw [Ay];unfold Bv cK gX sX wI;simp only [w1,w2,w,w3,c0,c1,g0,g1,p0,p1,k3,k5,decide_true,decide_false,AoU,AoO,Apa,AoC,(O:¬ (3:Int)=1),(O:¬ (3:Int)=2)]
    .simp only [k1,k2,k3,false_and,Apa];rw [Ay];unfold Bv cK gX sX wI;simp only [w1,w2,w,c0,c1,g0,g1,p0,p1,k1,k2,k3,decide_true,decide_false,AoU,AoO,Apa,AoC]
theorem Aj4 {x:List Int} (hb:Byt x) (hl:x.length<=1000000000):Jv x=some (B1 x):=by
 unfold Jv B1;have:=Xa hb hl x.length 0 [] (ApP _) Z Z;rw [ApN]at this;rw [show Ab Bv (x,[],0)=_ from this];cases hd:CV x.length x with
 | none=>rfl
 | some c=>
  simp only [Apd,AoS,Ao6];by_cases h5:c.length<=500
  .rw [AoJ h5];simp only [AoC];rw [Nv (AdB hb hd) O,AoC];cases hg:AK c <;> simp
  .rw [AoH h5];have hg:¬ AK c=true:=λh=>by have:=(CG h).len;omega
   simp only [AoC,AoH hg]
end Go.V.G
set_option maxRecDepth 100000
namespace Go.V.G
open Go.V
theorem PI {l:List Rn} (h:AN l (AF l) 60=true):Pos l/\AF l<=120:=by
 obtain ⟨⟨q1,_⟩,_,q4⟩:=goodRuns_iff.1 h;exact⟨q4.pos,q1.2⟩
theorem Xw {l:List Rn} (hl:l.length<=1000000000):∀(n i:Nat),i+n=l.length->(∀q∈l.take i,1<=q.2)->AF (l.take i)<=240->
  Ab Cs (l,AF (l.take i),l,(l.length:Int),(i:Int))=some (.inl (l,AF l))\/(Ab Cs (l,AF (l.take i),l,(l.length:Int),(i:Int))=some (.inr false)/\AN l (AF l) 60=false)
 | 0,i,hi,hp,hs=>by
  left;obtain rfl:i=l.length:=O
  rw [Ay];unfold Cs gX wI;simp
 | n+1,i,hi,hp,hs=>by
  have hlt:i < l.length:=O
  have h0:0<=AF (l.take i):=C4 hp;have e1:=W8 hlt;have c0:(i:Int) < (l.length:Int):=O
  have hge:l[Int.toNat (i:Int)]?=some l[i]:=by simp
  have p0:(0:Int)<=(i:Int):=O
  have bad:(¬ (1<=l[i].2/\l[i].2<=120)\/120 < AF (l.take i))->AN l (AF l) 60=false:=by
   intro h;cases hg:AN l (AF l) 60 with
   | false=>rfl
   | true=>
    obtain ⟨g1,g2⟩:=PI hg;have h1:=g1 _ (AoR hlt);have h2:=KG g1 _ (AoR hlt);have h3:=RD g1 i;omega
  by_cases h1:1<=l[i].2/\l[i].2<=120
  .by_cases h2:120 < AF (l.take i)
   .right;refine⟨?_,bad (.inr h2)⟩;rw [Ay];unfold Cs gX wI;simp only [c0,p0,hge,decide_true,AoU,AoC,AE,h1,and_self,h2,Apv,AoO,Apa]
   .have w:IntKind.wrap .i64 (AF (l.take i)+l[i].2)=AF (l.take (i+1)):=by rw [w64 O O,e1]
    have hs':Cs (l,AF (l.take i),l,(l.length:Int),(i:Int))=some (.inl (l,AF (l.take (i+1)),l,(l.length:Int),((i+1:Nat):Int))):=by
     unfold Cs gX wI;simp only [c0,p0,hge,decide_true,decide_false,AoU,AoC,AE,h1,and_self,h2,Apv,AoO,Apa,w,Ao (O:l.length<=1099511627776) hlt]
    rw [Ay,hs'];exact Xw hl n (i+1) O (λq hq=>by
     rw [AoL hlt]at hq
     grind) O
  .right;refine⟨?_,bad (.inl h1)⟩;rw [Ay];unfold Cs gX wI;simp only [c0,p0,hge,decide_true,AoU,AoC,AE,h1,decide_false,Aqx]
theorem Yr {l:List Rn} (hl:l.length<=1000000000):JF l=some (AN l (AF l) 60):=by
 unfold JF;rcases Xw hl l.length 0 O Z (by simp [AF])with h | ⟨h,h2⟩
 .rw [show Ab Cs (l,0,l,(l.length:Int),0)=_ from h,AoC];dsimp only;rw [QA O];rfl
 .rw [show Ab Cs (l,0,l,(l.length:Int),0)=_ from h,AoC,h2]
theorem Y9 {l:List Rn} (hl:l.length<=1000000000):∀(n i:Nat),i+n=l.length->(∀q∈l.take i,1<=q.2)->AF (l.take i)<=120->
  (Ab D8 (AF (l.take i),l,(l.length:Int),(i:Int))=some (.inl (AF l))/\0<=AF l)\/(Ab D8 (AF (l.take i),l,(l.length:Int),(i:Int))=some (.inr (-1))/\AN l (AF l) 60=false)
 | 0,i,hi,hp,hs=>by
  left;obtain rfl:i=l.length:=O
  have h0:0<=AF (l.take l.length):=C4 hp;rw [Apy]at h0 ⊢;refine⟨?_,h0⟩;rw [Ay];unfold D8 gX wI;simp
 | n+1,i,hi,hp,hs=>by
  have hlt:i < l.length:=O
  have h0:0<=AF (l.take i):=C4 hp;have e1:=W8 hlt;have c0:(i:Int) < (l.length:Int):=O
  have hge:l[Int.toNat (i:Int)]?=some l[i]:=by simp
  have p0:(0:Int)<=(i:Int):=O
  have w0:IntKind.wrap .i64 (120 - AF (l.take i))=120 - AF (l.take i):=w64 O O;by_cases h1:1<=l[i].2/\l[i].2<=120 - AF (l.take i)
  .have w:IntKind.wrap .i64 (AF (l.take i)+l[i].2)=AF (l.take (i+1)):=by rw [w64 O O,e1]
   have hs':D8 (AF (l.take i),l,(l.length:Int),(i:Int))=some (.inl (AF (l.take (i+1)),l,(l.length:Int),((i+1:Nat):Int))):=by
    unfold D8 gX wI;simp only [c0,p0,hge,decide_true,AoU,AoC,Cm,w0,h1,and_self,Apv,AoO,Apa,w,Ao (O:l.length<=1099511627776) hlt]
   rw [Ay,hs'];exact Y9 hl n (i+1) O (λq hq=>by
    rw [AoL hlt]at hq
    grind) O
  .right;refine⟨?_,?_⟩
   .rw [Ay];unfold D8 gX wI;simp only [c0,p0,hge,decide_true,AoU,AoC,Cm,w0,h1,decide_false,Aqx]
   .cases hg:AN l (AF l) 60 with
    | false=>rfl
    | true=>
     obtain ⟨g1,g2⟩:=PI hg;have h1:=g1 _ (AoR hlt);have h3:=RD g1 (i+1);omega
theorem AbW {l:List Rn} (hl:l.length<=1000000000):PF l=some (AN l (AF l) 60):=by
 unfold PF VS;rcases Y9 hl l.length 0 O Z (by simp [AF])with⟨h,h2⟩ | ⟨h,h2⟩
 .rw [show Ab D8 (0,l,(l.length:Int),0)=_ from h];simp only [AoC,h2,decide_true,AoU];rw [Qu O];rfl
 .rw [show Ab D8 (0,l,(l.length:Int),0)=_ from h,h2];rfl
theorem O6:∀(xs:List Int),(Cf xs).length=xs.length / 2
 | []=>rfl
 | [a]=>by simp [Cf]
 | a::b::xs=>by
  have:=O6 xs;simp only [Cf,AoV];omega
theorem Ag3:∀(xs:List Int) (i:Nat) (h:2 * i+1 < xs.length),(Cf xs)[i]?=some (xs[2 * i],xs[2 * i+1])
 | [],i,h=>by simp at h
 | [a],i,h=>by simp at h
 | a::b::xs,0,h=>rfl
 | a::b::xs,i+1,h=>by
  simp only [AoV]at h;have:=Ag3 xs i O
  assumption
def rdR (x:List Int):List Rn×Bool:=if x.length % 2=0/\AN (Cf x) (AF (Cf x)) 60=true then(Cf x,true)else([],false)
theorem AmP {x:List Int} (hb:Byt x) (hl:x.length<=1048576):HO x=some (rdR x):=by
 unfold HO rdR;rw [AoJ ⟨hl,hb⟩];by_cases h:x.length % 2=0
 .rw [AoJ h,Yr (by rw [O6];omega),AoC]
  grind
 grind
theorem AmW {x:List Int} (hb:Byt x) (hl:x.length<=1048576):LV x=some (rdR x):=by
 unfold LV cK;have hm:Int.tmod (x.length:Int) 2=((x.length % 2:Nat):Int):=by rfl
 rw [hm];by_cases h:x.length % 2=0
 .by_cases h2:240 < x.length
  .have hg:¬ AN (Cf x) (AF (Cf x)) 60=true:=λhg=>by
    obtain ⟨g1,g2⟩:=PI hg;have:=GI g1;rw [O6]at this;omega
   have hr:rdR x=([],false):=AoH (λq=>hg q.2)
   grind
  .have h3:¬ (240:Int) < (x.length:Int):=O
   have hloop:=Af Gy (λi=>(x,(Cf x).take i,((2 * i:Nat):Int))) (x.length / 2) (Cf x) (λi hi=>by
    have c0:((2 * i:Nat):Int) < (x.length:Int):=O
    have i1:2 * i < x.length:=O
    have i2:2 * i+1 < x.length:=O
    have g0:x[Int.toNat ((2 * i:Nat):Int)]?=some x[2 * i]:=by grind
    have w1:IntKind.wrap .i64 (((2 * i:Nat):Int)+1)=((2 * i+1:Nat):Int):=by rw [w64 O O];omega
    have w2:IntKind.wrap .i64 (((2 * i:Nat):Int)+2)=((2 * (i+1):Nat):Int):=by rw [w64 O O];omega
    have g1:x[Int.toNat ((2 * i+1:Nat):Int)]?=some x[2 * i+1]:=by grind
    have b0:=hb _ (AoR i1);have b1:=hb _ (AoR i2);have w3:IntKind.wrap .i64 x[2 * i]=x[2 * i]:=w64 O O;have w4:IntKind.wrap .i64 x[2 * i+1]=x[2 * i+1]:=w64 O O;have hpl:i < (Cf x).length:=by rw [O6];exact hi
    have hpg:=Ag3 x i i2;have ht:(Cf x).take (i+1)=(Cf x).take i++[(x[2 * i],x[2 * i+1])]:=by
     rw [List.take_add_one,hpg];rfl
    unfold Gy cK gX wI;simp only [c0,w1,w2,w3,w4,g0,g1,decide_true,AoU,AoC,show(0:Int)<=((2 * i:Nat):Int) from by omega,show(0:Int)<=((2 * i+1:Nat):Int) from by omega,ht,
     show Aa (List.length ((Cf x).take i)+List.length ([(x[2 * i],x[2 * i+1])]:List (Int×Int))) 16=true from JW (by grind) O]) (by
    have c0:¬ ((2 * (x.length / 2):Nat):Int) < (x.length:Int):=O
    unfold Gy cK gX wI;simp only [c0,decide_false,AoO,Apa];rw [Ao5 (by rw [O6];omega)])
   have hl0:Ab Gy (x,[],0)=some (Cf x):=by grind
   simp only [h,h3,(O:¬ (2:Int)=0),not_false_eq_true,decide_true,decide_false,AoU,AoO,Apa,AoC,hl0,(O:¬ (((0:Nat):Int))=1)];rw [AbW (by rw [O6];omega),AoC];unfold rdR
   grind
 .have h1:x.length % 2=1:=O
  have hr:rdR x=([],false):=AoH (λq=>h q.1)
  grind
theorem Ac4 (x:List Int):(rdR x).1.length<=120:=by
 unfold rdR;split
 .rename_i h;obtain ⟨g1,g2⟩:=PI h.2;have:=GI g1
  grind
 .simp
def be (x:List Int):Int:=x.foldl (λa b=>a * 256+b) 0
end Go.V.G
set_option maxRecDepth 100000
namespace Go.V.G
open Go.V
theorem whl {σ τ:Type} (L:σ->Option (σ⊕τ)) (st:Nat->σ) (fin:Nat->τ) (ok:Nat->Bool) (n:Nat)
  (step:∀j,j < n->ok j=true->L (st j)=some (.inl (st (j+1)))) (stop:∀j,j<=n->(j=n\/ok j=false)->L (st j)=some (.inr (fin j))) :
  ∃j,j<=n/\(j=n\/ok j=false)/\Ab L (st 0)=some (fin j):=by
 have:∀d,d<=n->∃j,j<=n/\(j=n\/ok j=false)/\Ab L (st (n - d))=some (fin j):=by
  intro d
  induction d with
  | zero=>intro _;exact⟨n,Ao4 _,.inl rfl,by rw [Ay,Nat.sub_zero,stop n (Ao4 _) (.inl rfl)]⟩
  | succ d ih=>
   intro hd;by_cases h:ok (n - (d+1))=true
   .obtain ⟨j,h1,h2,h3⟩:=ih O;refine⟨j,h1,h2,?_⟩;rw [Ay,step _ O h]
    grind
   .have h':ok (n - (d+1))=false:=by simpa using h
    exact⟨n - (d+1),O,.inr h',by rw [Ay,stop _ O (.inr h')]⟩
 have h:=this n (Ao4 _)
 grind
theorem AlI {b:Bls} (hu:∀c∈b,U8s c) (a:Int):∀v∈rcO b a,0<=v/\v<=255:=by
 intro v hv;have hv:=Ap2 (ApL hv);by_cases h:a.toNat < b.length
 .exact hu _ (BG h) v hv
 .unfold blk at hv
  grind
theorem AgT {b:Bls} {x y:List Int} (hu:∀c∈b,U8s c):∀(f:Nat) (a:Int) (d ch:List Int) {p:List Int×List Int},(∀v∈d,0<=v/\v<=255)->rcN b x y f a d ch=some p->∀v∈p.1,0<=v/\v<=255
 | 0,_,_,_,p,_,h=>by cases h
 | f+1,a,d,ch,p,hd,h=>by
  have hd':∀v∈d++rcO b a,0<=v/\v<=255:=λv hv=>by
   rcases AoK.1 hv with hv | hv
   .exact hd v hv
   .exact AlI hu a v hv
  unfold rcN at h;split at h
  .split at h
   .grind
   .exact AgT hu f _ _ _ hd' h
  .cases h
theorem Mn {b:Bls} {x y:List Int} (g:RS b x y) (top:List Int) (k:Nat):Byt (rkd b x y top k):=by
 intro v hv;unfold rkd rcA at hv;split at hv
 .rename_i p hp;exact AgT g.hu _ _ _ _ Z hp v hv
 .cases hv
theorem AeD {b:Bls} {top:List Int} (a1 a2 a3 a4 a5:Int) (b':Bls) (x y z:List Int) (f:Int) (t:List UInt8) (r:List (Int×Int)) (cs:List (List Prt)) (rc:List Int) {k:Nat} (hk:k < 1024) :
  D7 a1 a2 a3 a4 a5 b' x y z (ksT b top 1024) f t r cs rc (k:Int)=some (vl b top k):=by
 have:=Si b top 1024;rw [AhP O,AlK b top hk]
theorem AhY {i:Nat} (hi:i < 64):FW 0 (i:Int)=some (i:Int):=by
 have:=JO (k:=0) (i:=i) O hi
 grind
def tpc (b:Bls) (x y:List Int) (a:Int):List Int:=(ptx b x y a).getD []
def tcl (b:Bls) (x y:List Int) (a:Int):List Int:=if(ptx b x y a).isSome=true then [a]else []
def tok (b:Bls) (x y:List Int) (a:Int):Bool:=(ptx b x y a).isSome
def ttx (b:Bls) (x y:List Int) (a:Int):List UInt8:=(tin b x y a).1
def btx (b:Bls) (x y:List Int) (P bl:List Int) (a:Int):List Int:=match ptx b x y a with
 | some l=>bpn P (bl++[a]) l l.length
 | none=>bl
theorem Vw (b:Bls) (x y:List Int) (a:Int):(tpc b x y a).length<=3/\(tcl b x y a).length<=1/\(ttx b x y a).length<=120:=by
 unfold tpc tcl ttx tin;cases h:ptx b x y a with
 | none=>simp
 | some l=>
  obtain ⟨⟨hall,_,hlen⟩,_⟩:=Hz h;have:=UH hall;simp;omega
theorem All {b:Bls} {x y z:List Int} (g:RS b x y) (a:Int) {P C:List Int} (hC:C.length<=90000) (hP:P.length<=90000) (fn:Bool) (rs:List Int) :
  BL a b x y z rs (srt C) (mny b.length P) (okb fn C)=some (ttx b x y a,b,x,y,z,rs,srt (C++tcl b x y a),mny b.length (P++tpc b x y a),okb (fn && tok b x y a) (C++tcl b x y a)):=by
 unfold ttx tcl tpc tok tin;cases h:ptx b x y a with
 | none=>
  rw [Abr g h];simp [okb]
 | some l=>
  rw [AaU g h hC hP];simp
theorem AlA {b:Bls} {x y z:List Int} (g:RS b x y) (a:Int) {P bl:List Int} (hbl:bl.length<=90000) (hP:P.length<=90000) (fn:Bool) (ks rs:List Int) (d:Bls) (a1:Int) (a2:Bool) (a3 a4 a5 a6 a7 a8:Int) :
  Bu a ks bl rs (bd fn bl) d a1 a2 a3 a4 a5 a6 a7 a8 b x y z (std P) =
   some (ttx b x y a,ks,btx b x y P bl a,rs,bd (fn && tok b x y a) (btx b x y P bl a),d,a1,a2,a3,a4,a5,a6,a7,a8,b,x,y,z,std (P++tpc b x y a)):=by
 unfold ttx tpc tok btx tin;cases h:ptx b x y a with
 | none=>
  rw [Aa5 g h];simp [bd]
 | some l=>
  rw [AaS g h hbl hP];simp
theorem Adw {b:Bls} {x y C P bl:List Int} (h:Led C P bl) (a:Int):Led (C++tcl b x y a) (P++tpc b x y a) (btx b x y P bl a):=by
 unfold tcl tpc btx;cases hp:ptx b x y a with
 | none=>simpa using h
 | some l=>
  have:=AcX (l:=l) (h.claim a) l.length (Ao4 _)
  grind
theorem Adb (b:Bls) (x y P bl:List Int) (a:Int):(btx b x y P bl a).length<=bl.length+4:=by
 unfold btx;split
 .rename_i l hp;obtain ⟨⟨_,_,hlen⟩,_⟩:=Hz hp;have:=WS P (bl++[a]) l l.length
  grind
 .omega
section
variable {F H E R T:Int} {b:Bls} {x y z top:List Int}
theorem Anh {ks:List Kv} {w:List Int} (hl:ks.length=w.length) (hk:ks.length<=100000) (pg:List Int) :
  Ab G9 (ks,pg,w,(ks.length:Int),0,0,0,0,0,0,0,[],F,H,E,R,T,b,x,y,z)=some (if ks.map (·.1)=w then .inl (ks,pg,0,0,0,0,0,0,[],F,H,E,R,T,b,x,y,z)else .inr (false,0,0,0,0,0,0,[])):=by
 have h:=I7 G9 (λi=>(ks,pg,w,(ks.length:Int),((i:Nat):Int),0,0,0,0,0,0,[],F,H,E,R,T,b,x,y,z)) (λi=>decide ((sg ks i).1=gb w i)) (false,0,0,0,0,0,0,[]) (ks,pg,0,0,0,0,0,0,[],F,H,E,R,T,b,x,y,z) ks.length (λi hi=>by
  unfold G9 cK cZ wI;dsimp only;rw [iy O,iy O,iy O,AoS,AoE,HX hi,AoC,AoC,iy O,iy O,Ai O,AoC];by_cases hq:(sg ks i).1=gb w i
  .rw [ino (not_not_intro hq),decide_eq_true hq,AoJ rfl,Ah O]
  grind) (by
  unfold G9 cK cZ wI;simp)
 have e:((List.range ks.length).all λi=>decide ((sg ks i).1=gb w i))=decide (ks.map (·.1)=w):=by
  rw [Aqq,all_range,decide_eq_true_eq];constructor
  .intro q;refine Apq λi=>?_
   by_cases hi:i < ks.length
   .have:=q i hi;simp only [decide_eq_true_eq]at this;rw [Apl,HX hi,Ai O,<- this];rfl
   grind
  .rintro q i hi;have h1:(ks.map (·.1))[i]?=w[i]?:=by rw [q]
   rw [Apl,HX hi,Ai O]at h1
   grind
 grind
def lod (b:Bls) (x y top:List Int) (f j:Nat):List (List Int):=(List.range j).map λi=>rkd b x y top (f+i)
def CB (b:Bls) (x y top:List Int) (f j:Nat):List Int:=(List.range j).flatMap λi=>rkc b x y top (f+i)
def loo (b:Bls) (x y top:List Int) (f j:Nat):Bool:=(List.range j).all λi=>rko b x y top (f+i) && (B1 (rkd b x y top (f+i))).2
theorem Ajo (b:Bls) (x y top:List Int) (f j:Nat):lod b x y top f (j+1)=lod b x y top f j++[rkd b x y top (f+j)]:=by unfold lod;rw [PN]
theorem TT (b:Bls) (x y top:List Int) (f j:Nat):CB b x y top f (j+1)=CB b x y top f j++rkc b x y top (f+j):=by unfold CB;rw [Aqb,ApY];simp
theorem Zo (b:Bls) (x y top:List Int) (f j:Nat):loo b x y top f (j+1)=(loo b x y top f j && (rko b x y top (f+j) && (B1 (rkd b x y top (f+j))).2)):=by unfold loo;grind
theorem Wf (b:Bls) (x y top:List Int) (f:Nat):∀j,(CB b x y top f j).length<=10 * j
 | 0=>by simp [CB]
 | j+1=>by
  have h1:=Wf b x y top f j;have h2:=(Ij b x y top (f+j)).1;rw [TT,AoM];omega
def chC (l:List (List Int)):List (List Prt):=l.map λc=>(B1 c).1
theorem AiC (l:List (List Int)) (c:List Int):chC (l++[c])=chC l++[(B1 c).1]:=by unfold chC;simp
theorem AmV (h:SB b x y z) (g:RS b x y) {f hd:Nat} (hf:f<=hd) (hh:hd<=60) {C rs m:List Int} (hC:C.length<=80000) (fn:Bool) (t:List UInt8) (r:List Rn) :
  ∃j,j<=hd - f/\(j=hd - f\/okb (fn && loo b x y top f j) (C++CB b x y top f j)=false)/\
   Ab G5 ((f:Int),0,0,0,0,0,0,[],(f:Int),(hd:Int),E,R,T,b,x,y,z,(f:Int),(hd:Int),E,R,T,b,x,y,z,ksT b top 1024,0,[],(f:Int),t,r,[],b,x,y,z,rs,srt C,m,okb fn C) =
    some (0,0,0,0,0,0,[],(f:Int),(hd:Int),E,R,T,b,x,y,z,(f:Int),(hd:Int),E,R,T,b,x,y,z,ksT b top 1024,0,[],(f:Int),t,r,chC (lod b x y top f j),b,x,y,z,rs,srt (C++CB b x y top f j),m,okb (fn && loo b x y top f j) (C++CB b x y top f j)):=by
 have hw:=whl G5 (λj=>(((f+j:Nat):Int),0,0,0,0,0,0,[],(f:Int),(hd:Int),E,R,T,b,x,y,z,(f:Int),(hd:Int),E,R,T,b,x,y,z,ksT b top 1024,0,[],(f:Int),t,r,chC (lod b x y top f j),b,x,y,z,rs,srt (C++CB b x y top f j),m,okb (fn && loo b x y top f j) (C++CB b x y top f j)))
  (λj=>(0,0,0,0,0,0,[],(f:Int),(hd:Int),E,R,T,b,x,y,z,(f:Int),(hd:Int),E,R,T,b,x,y,z,ksT b top 1024,0,[],(f:Int),t,r,chC (lod b x y top f j),b,x,y,z,rs,srt (C++CB b x y top f j),m,okb (fn && loo b x y top f j) (C++CB b x y top f j)))
  (λj=>okb (fn && loo b x y top f j) (C++CB b x y top f j)) (hd - f) (λj hj hok=>by
   have hll:=Wf b x y top f j;have hk:=Ij b x y top (f+j);have hr:=Q9 (z:=z) (top:=top) h g (C:=C++CB b x y top f j) (by grind) (k:=f+j) (fn && loo b x y top f j) rs m;have hcl:(chC (lod b x y top f j)).length=j:=by unfold chC lod;simp
   unfold G5 cK wI;dsimp only;rw [iy O,AoC];rw [hok]at hr ⊢;rw [AoJ rfl,AhY O,AoC,AeD _ _ _ _ _ _ _ _ _ _ _ _ _ _ O,AoC,hr,AoC];rw [Aj4 (Mn g top (f+j)) O,AoC,TT,Zo,Ajo,AiC,<- AoN];have hb:(if okb (fn && loo b x y top f j && rko b x y top (f+j)) (C++CB b x y top f j++rkc b x y top (f+j))=true then(B1 (rkd b x y top (f+j))).2 else false)=okb (fn && (loo b x y top f j && (rko b x y top (f+j) && (B1 (rkd b x y top (f+j))).2))) (C++CB b x y top f j++rkc b x y top (f+j)):=by
    unfold okb
    grind
   have hro:Aa ((chC (lod b x y top f j)).length+([(B1 (rkd b x y top (f+j))).1]:List (List Prt)).length) 24=true:=by simp only [Aa,decide_eq_true_eq,AoP];omega
   rw [<- hb];by_cases hq:okb (fn && loo b x y top f j && rko b x y top (f+j)) (C++CB b x y top f j++rkc b x y top (f+j))=true
   .rw [AoJ hq,AoJ hq,AoC];rw [AoJ hro,Ah O];rfl
   .rw [AoH hq,AoH hq,AoC];rw [AoJ hro,Ah O];rfl) (λj hj hok=>by
   unfold G5 cK wI
   grind)
 obtain ⟨j,h1,h2,h3⟩:=hw;refine⟨j,h1,h2,?_⟩;have e0:lod b x y top f 0=[]:=rfl;have e1:CB b x y top f 0=[]:=rfl;have e2:loo b x y top f 0=true:=rfl;rw [e0,e1,e2,AoW,Ap4]at h3;exact h3
end
end Go.V.G
set_option maxRecDepth 100000
namespace Go.V.G
open Go.V
def upk (L:List (Int×Int)):List (Int×Int):=L.filter λs=>decide (0 < s.1)
def upc (b:Bls) (x y top:List Int) (L:List (Int×Int)):List Int:=(upk L).flatMap λs=>rkc b x y top (ky s)
def upo (b:Bls) (x y top:List Int) (L:List (Int×Int)):Bool:=(upk L).all λs=>rko b x y top (ky s)
theorem Aax (L:List (Int×Int)) (s:Int×Int):upk (L++[s])=upk L++(if 0 < s.1 then [s]else []):=by
 unfold upk
 grind
theorem AiV (b:Bls) (x y top:List Int) (L:List (Int×Int)) (s:Int×Int):upc b x y top (L++[s])=upc b x y top L++(if 0 < s.1 then rkc b x y top (ky s)else []):=by
 unfold upc;rw [Aax,ApY]
 grind
theorem AiA (b:Bls) (x y top:List Int) (L:List (Int×Int)) (s:Int×Int):upo b x y top (L++[s])=(upo b x y top L && (if 0 < s.1 then rko b x y top (ky s)else true)):=by
 unfold upo;rw [Aax,List.all_append]
 grind
theorem Ac0 (b:Bls) (x y top:List Int) (L:List (Int×Int)):(upc b x y top L).length<=10 * L.length:=by
 unfold upc;have h1:(upk L).length<=L.length:=ApO _ _;have h2:∀M:List (Int×Int),(M.flatMap λs=>rkc b x y top (ky s)).length<=10 * M.length:=by
  intro M
  induction M with
  | nil=>simp
  | cons s M ih=>
   have:=(Ij b x y top (ky s)).1
   grind
 grind
def upe (b:Bls) (x y top:List Int) (f:Int) (t:List UInt8) (cs:List (List Prt)) (s:Int×Int):Bool:=!decide (0 < s.1) || (AL (rkd b x y top (ky s)) == AL (enc (bt f t cs s)))
def ckc (b:Bls) (x y top:List Int) (l:List Nat):List Int:=l.flatMap λr=>tcl b x y (vl b top (384+r))
def ckp (b:Bls) (x y top:List Int) (l:List Nat):List Int:=l.flatMap λr=>tpc b x y (vl b top (384+r))
def cko (b:Bls) (x y top:List Int) (l:List Nat):Bool:=l.all λr=>tok b x y (vl b top (384+r))
def cke (b:Bls) (x y top:List Int) (f:Nat) (t:List UInt8) (cs:List (List Prt)) (r:Nat):Bool:=ttx b x y (vl b top (384+r)) == txt t (cs.take (r - f))
theorem Sr (b:Bls) (x y top:List Int):∀l:List Nat,(ckc b x y top l).length<=l.length/\(ckp b x y top l).length<=3 * l.length
 | []=>by simp [ckc,ckp]
 | r::l=>by
  have h1:=Sr b x y top l;have h2:=Vw b x y (vl b top (384+r));unfold ckc ckp at *
  grind
def pcn (P:List Int) (n:Nat):List Int:=((List.range n).filter λk=>decide (0 < P.count ((k:Nat):Int))).map λk=>((k:Nat):Int)
theorem Ajj (P:List Int) (n:Nat):pcn P (n+1)=pcn P n++(if 0 < P.count (n:Int)then [(n:Int)]else []):=by
 unfold pcn;rw [Aqb,ApV,Ape]
 grind
theorem Al3 (P:List Int) (n:Nat):∀v∈pcn P n,v < (n:Int):=by
 intro v hv;unfold pcn at hv
 grind
theorem AjP (P:List Int) (n:Nat):(pcn P n).length<=n:=by
 unfold pcn
 grind
def stB (b:Bls) (x C P:List Int) (k:Nat):Bool:=(decide (P.count (k:Int)=0) || (!decide ((k:Int)∈C) && decide (gb (blk b k) 1=(P.count (k:Int):Int)))) && (decide (k < 33) || (bit x k == decide ((k:Int)∈C\/0 < P.count (k:Int))))
section
variable {E R T:Int} {b:Bls} {x y z top:List Int}
theorem AmM (h:SB b x y z) (g:RS b x y) {f hd:Nat} {t:List UInt8} {r:List Rn} {cs:List (List Prt)} (gh:GH (f:Int) t r cs) (hf:hd=f+cs.length) (hh:hd<=60) {C rs m:List Int} (hC:C.length<=80000) (fn:Bool) :
  (((sts f hd).all (upe b x y top (f:Int) t cs)=true/\
    Ab FM (Hl (f:Int) t cs (sts f hd),sts f hd,(((sts f hd).length:Nat):Int),0,0,0,0,0,0,0,[],(f:Int),(hd:Int),E,R,T,b,x,y,z,(f:Int),(hd:Int),E,R,T,b,x,y,z,ksT b top 1024,0,[],(f:Int),t,r,cs,b,x,y,z,rs,srt C,m,okb fn C) =
     some (.inl (0,0,0,0,0,0,[],(f:Int),(hd:Int),E,R,T,b,x,y,z,(f:Int),(hd:Int),E,R,T,b,x,y,z,ksT b top 1024,0,[],(f:Int),t,r,cs,b,x,y,z,rs,srt (C++upc b x y top (sts f hd)),m,okb (fn && upo b x y top (sts f hd)) (C++upc b x y top (sts f hd)))))\/
   ((sts f hd).all (upe b x y top (f:Int) t cs)=false/\
    Ab FM (Hl (f:Int) t cs (sts f hd),sts f hd,(((sts f hd).length:Nat):Int),0,0,0,0,0,0,0,[],(f:Int),(hd:Int),E,R,T,b,x,y,z,(f:Int),(hd:Int),E,R,T,b,x,y,z,ksT b top 1024,0,[],(f:Int),t,r,cs,b,x,y,z,rs,srt C,m,okb fn C) =
     some (.inr (false,0,0,0,0,0,0,[])))):=by
 have hsl:=Fr (f:=f) hh;have hal:=Y3 (f:Int) t cs (sts f hd);have hL:=BV FM (λi=>(Hl (f:Int) t cs (sts f hd),sts f hd,(((sts f hd).length:Nat):Int),((i:Nat):Int),0,0,0,0,0,0,[],(f:Int),(hd:Int),E,R,T,b,x,y,z,(f:Int),(hd:Int),E,R,T,b,x,y,z,ksT b top 1024,0,[],(f:Int),t,r,cs,b,x,y,z,rs,srt (C++upc b x y top ((sts f hd).take i)),m,okb (fn && upo b x y top ((sts f hd).take i)) (C++upc b x y top ((sts f hd).take i))))
  (λi=>upe b x y top (f:Int) t cs (((sts f hd)[i]?).getD (0,0))) (λ_=>(false,0,0,0,0,0,0,[])) (0,0,0,0,0,0,[],(f:Int),(hd:Int),E,R,T,b,x,y,z,(f:Int),(hd:Int),E,R,T,b,x,y,z,ksT b top 1024,0,[],(f:Int),t,r,cs,b,x,y,z,rs,srt (C++upc b x y top (sts f hd)),m,okb (fn && upo b x y top (sts f hd)) (C++upc b x y top (sts f hd))) (sts f hd).length (λi hi=>by
    obtain ⟨k,j,g8⟩:=MW hi;obtain ⟨l1,l2,l3⟩:=g8.lt hh;have hk:=g8.hk;have hget:(sts f hd)[i]?=some ((sts f hd)[i]):=AoF hi;have hul:=Ac0 b x y top ((sts f hd).take i);rw [AoQ]at hul;have hal2:=Aj5 (f:=(f:Int)) (t:=t) (cs:=cs) hh (AoR hi);obtain ⟨f1,f2,f3,f4,f5⟩:=g8.ft;have hbt:AK (bt (f:Int) t cs (sts f hd)[i])=true:=(JH gh (a:=(frS (sts f hd)[i]:Int)) (b:=(toS (sts f hd)[i]:Int)) O O).1;have hrec:=Q9 (z:=z) (top:=top) h g (C:=C++upc b x y top ((sts f hd).take i)) (by grind) (k:=ky (sts f hd)[i]) (fn && upo b x y top ((sts f hd).take i)) rs m;unfold FM cK cZ wI;dsimp only;rw [iy O,iy O,iy O,AoS,AoE,hget,AoC,AoC,AoL hi,AiV,AiA,Apo];unfold upe;by_cases h0:0 < (sts f hd)[i].1
    .have e1:FW (sts f hd)[i].1 (sts f hd)[i].2=some (ky (sts f hd)[i]:Int):=by rw [l2];simp only [g8.e];exact JO hk O
     rw [iy h0,e1,AoC,AeD _ _ _ _ _ _ _ _ _ _ _ _ _ _ O,AoC,hrec,AoC];dsimp only;rw [AoC,iy O,iy O,AoS,AoE,hal2,AoC,AeC (CG hbt) O hbt,AoC,AoC,AoJ h0,AoJ h0,decide_eq_true h0,Apv,ApR,AoN,Aqu];dsimp only;cases hq:(AL (rkd b x y top (ky (sts f hd)[i])) == AL (enc (bt (f:Int) t cs (sts f hd)[i])))with
     | true=>rw [AoH Z,AoJ rfl,Ah O]
     | false=>rfl
    .rw [ino h0,AoC,AoH h0,AoH h0,decide_eq_false h0,AoW,Ap4];dsimp only;rw [AoH Z,AoJ Z,Ah O]) (by
    unfold FM cK cZ wI;simp)
 have e0:upc b x y top ((sts f hd).take 0)=[]:=rfl;have e1:upo b x y top ((sts f hd).take 0)=true:=rfl;rw [e0,e1,AoW,Ap4]at hL;rcases hL with⟨ha,hl⟩ | ⟨k,hk,hp,_,hl⟩
 .refine .inl ⟨?_,hl⟩;rw [Apb];intro s hs;obtain ⟨i,hi,rfl⟩:=Ao3 hs
  grind
 grind
theorem And (g:RS b x y) {f hd e:Nat} {t:List UInt8} {r:List Rn} {cs:List (List Prt)} (gh:GH (f:Int) t r cs) (hf:hd=f+cs.length) (hh:hd<=60) (he:0 < e) {C P rs:List Int} (hC:C.length<=80000) (hP:P.length<=80000) (fn:Bool) :
  ((cks f hd e).all (cke b x y top f t cs)=true/\
    Ab FO (((f+1:Nat):Int),0,0,0,0,0,0,[],(f:Int),(hd:Int),(e:Int),R,T,b,x,y,z,(f:Int),(hd:Int),(e:Int),R,T,b,x,y,z,ksT b top 1024,0,[],(f:Int),t,r,cs,b,x,y,z,rs,srt C,mny b.length P,okb fn C) =
     some (.inl (0,0,0,0,0,0,[],b,x,y,z,(f:Int),(hd:Int),(e:Int),R,T,b,x,y,z,ksT b top 1024,0,[],(f:Int),t,r,cs,b,x,y,z,rs,srt (C++ckc b x y top (cks f hd e)),mny b.length (P++ckp b x y top (cks f hd e)),okb (fn && cko b x y top (cks f hd e)) (C++ckc b x y top (cks f hd e)))))\/
   ((cks f hd e).all (cke b x y top f t cs)=false/\
    Ab FO (((f+1:Nat):Int),0,0,0,0,0,0,[],(f:Int),(hd:Int),(e:Int),R,T,b,x,y,z,(f:Int),(hd:Int),(e:Int),R,T,b,x,y,z,ksT b top 1024,0,[],(f:Int),t,r,cs,b,x,y,z,rs,srt C,mny b.length P,okb fn C) =
     some (.inr (false,0,0,0,0,0,0,[]))):=by
 have hL:=BV FO (λn=>(((f+1+n:Nat):Int),0,0,0,0,0,0,[],(f:Int),(hd:Int),(e:Int),R,T,b,x,y,z,(f:Int),(hd:Int),(e:Int),R,T,b,x,y,z,ksT b top 1024,0,[],(f:Int),t,r,cs,b,x,y,z,rs,srt (C++ckc b x y top (ckn f e n)),mny b.length (P++ckp b x y top (ckn f e n)),okb (fn && cko b x y top (ckn f e n)) (C++ckc b x y top (ckn f e n))))
  (λn=>!decide ((f+1+n) % e=0) || cke b x y top f t cs (f+1+n)) (λ_=>(false,0,0,0,0,0,0,[])) (0,0,0,0,0,0,[],b,x,y,z,(f:Int),(hd:Int),(e:Int),R,T,b,x,y,z,ksT b top 1024,0,[],(f:Int),t,r,cs,b,x,y,z,rs,srt (C++ckc b x y top (cks f hd e)),mny b.length (P++ckp b x y top (cks f hd e)),okb (fn && cko b x y top (cks f hd e)) (C++ckc b x y top (cks f hd e))) (hd - f) (λn hn=>by
    have hnl:=Pf f e n;have hcl:=Sr b x y top (ckn f e n);have htx:=Xm gh (x:=((f+1+n:Nat):Int)) O O;rw [show(((f+1+n:Nat):Int) - (f:Int)).toNat=f+1+n - f by omega]at htx;have ew:IntKind.wrap .i64 (384+((f+1+n:Nat):Int))=((384+(f+1+n):Nat):Int):=by rw [w64 O O];omega
    have hrt:=All (z:=z) g (vl b top (384+(f+1+n))) (P:=P++ckp b x y top (ckn f e n)) (C:=C++ckc b x y top (ckn f e n)) (by grind) (by grind) (fn && cko b x y top (ckn f e n)) rs;unfold FO cK wI;dsimp only;rw [iy O,iy O,UB,M4];by_cases hz:(f+1+n) % e=0
    .have a1:ckc b x y top (ckn f e n++[f+1+n])=ckc b x y top (ckn f e n)++tcl b x y (vl b top (384+(f+1+n))):=by unfold ckc;simp
     have a2:ckp b x y top (ckn f e n++[f+1+n])=ckp b x y top (ckn f e n)++tpc b x y (vl b top (384+(f+1+n))):=by unfold ckp;simp
     have a3:cko b x y top (ckn f e n++[f+1+n])=(cko b x y top (ckn f e n) && tok b x y (vl b top (384+(f+1+n)))):=by unfold cko;simp
     rw [iy O,ew,AeD _ _ _ _ _ _ _ _ _ _ _ _ _ _ O,AoC,hrt,AoC];rw [htx,AoC,AoC,AoJ hz,a1,a2,a3,decide_eq_true hz,Apv,ApR,AoN,AoN,Aqu];unfold cke;cases hq:(ttx b x y (vl b top (384+(f+1+n))) == txt t (cs.take (f+1+n - f)))with
     | true=>rw [AoH Z,AoJ rfl,Ah O];rfl
     | false=>rfl
    .rw [ino O,AoC,AoH hz,AoW,decide_eq_false hz];rw [AoH Z,AoJ Z,Ah O];rfl) (by
    unfold FO cK wI;dsimp only;rw [ino O];rfl)
 have e0:ckc b x y top (ckn f e 0)=[]:=rfl;have e1:cko b x y top (ckn f e 0)=true:=rfl;have e2:ckp b x y top (ckn f e 0)=[]:=rfl;rw [e0,e1,e2,AoW,AoW,Ap4]at hL;rcases hL with⟨ha,hl⟩ | ⟨k,hk,hp,_,hl⟩
 .refine .inl ⟨?_,hl⟩;rw [Apb];intro q hq;obtain ⟨q1,q2,q3⟩:=cks_mem.1 hq;have:=ha (q - (f+1)) O
  grind
 .refine .inr ⟨?_,hl⟩;cases hq:(cks f hd e).all (cke b x y top f t cs)with
  | false=>rfl
  | true=>
    simp only [Bool.or_eq_false_iff,Bool.not_eq_false',decide_eq_true_eq]at hp;have:=Apb.1 hq _ (cks_mem.2 (⟨O,O,hp.1⟩:f < f+1+k/\f+1+k<=hd/\(f+1+k) % e=0))
    grind
theorem Am7 (g:RS b x y) {f hd e:Nat} {t:List UInt8} {r:List Rn} {cs:List (List Prt)} {ks:List Kv} {C P rs:List Int} (hC:C.length<=80000) (hP:P.length<=80000) (ok:Bool) :
  ((List.range b.length).all (stB b x C P)=true/\
    Ab Fy (mny b.length P,(b.length:Int),0,0,0,0,0,0,0,[],b,x,y,z,(f:Int),(hd:Int),(e:Int),R,T,b,x,y,z,ks,0,[],(f:Int),t,r,cs,b,x,y,z,rs,srt C,ok) =
     some (.inl (0,0,0,0,0,0,[],(f:Int),(hd:Int),(e:Int),R,T,b,x,y,z,ks,0,[],(f:Int),t,r,cs,b,x,y,z,rs,srt (C++pcn P b.length),mny b.length P,ok)))\/
   ((List.range b.length).all (stB b x C P)=false/\
    Ab Fy (mny b.length P,(b.length:Int),0,0,0,0,0,0,0,[],b,x,y,z,(f:Int),(hd:Int),(e:Int),R,T,b,x,y,z,ks,0,[],(f:Int),t,r,cs,b,x,y,z,rs,srt C,ok) =
     some (.inr (false,0,0,0,0,0,0,[]))):=by
 have hbl:=g.hn;have hxl:=g.hx;have hml:=KC b.length P;have hL:=BV Fy (λk=>(mny b.length P,(b.length:Int),((k:Nat):Int),0,0,0,0,0,0,[],b,x,y,z,(f:Int),(hd:Int),(e:Int),R,T,b,x,y,z,ks,0,[],(f:Int),t,r,cs,b,x,y,z,rs,srt (C++pcn P k),ok))
  (stB b x C P) (λ_=>(false,0,0,0,0,0,0,[])) (0,0,0,0,0,0,[],(f:Int),(hd:Int),(e:Int),R,T,b,x,y,z,ks,0,[],(f:Int),t,r,cs,b,x,y,z,rs,srt (C++pcn P b.length),mny b.length P,ok) b.length (λk hk=>by
    have hpl:=AjP P k;have hc1:=List.count_le_length (l:=P) (a:=((k:Nat):Int));obtain ⟨o1,o2,o3⟩:=J1 (l:=C++pcn P k) (by grind);have hm1:((k:Nat):Int)∈srt (C++pcn P k)↔((k:Nat):Int)∈C:=by
     rw [o3,AoK];exact⟨λq=>q.elim id λq=>by have:=Al3 P k _ q;omega,.inl⟩
    have hlen:=g.len hk;have hu:=g.u8 hk 1;have hus:=Ls (bits:=x) (k:=k) O O;have hst:stB b x C P k=((decide (P.count ((k:Nat):Int)=0) || (!decide (((k:Nat):Int)∈C) && decide (gb (blk b k) 1=(P.count ((k:Nat):Int):Int)))) && (decide (k < 33) || (bit x k == decide (((k:Nat):Int)∈C\/0 < P.count ((k:Nat):Int))))):=rfl;rw [hst];unfold Fy cK cZ gX wI;dsimp only;rw [iy O,iy O,iy O,AoS,AoE,Re P hk,AoC,Ajj];by_cases h0:0 < P.count ((k:Nat):Int)
    .rw [iy O,HF (by grind),AoC,decide_eq_false (O:¬ P.count ((k:Nat):Int)=0),AoJ h0];by_cases hin:((k:Nat):Int)∈C
     .grind
     .rw [decide_eq_false (λq=>hin (hm1.1 q)),AoH Z,iy O,Bj hk,AoC,iy O,show Int.toNat 1=1 from rfl,Ai O,AoC,AoC,w64 (n:=gb (blk b k) 1) O O,decide_eq_false hin];dsimp only;by_cases hb:gb (blk b k) 1=(P.count ((k:Nat):Int):Int)
      .obtain ⟨p1,p2,p3⟩:=J1 (l:=C++pcn P k++[((k:Nat):Int)]) (by grind);rw [decide_eq_false (not_not_intro hb),AoH Z,iy O,(Fm (l:=C++pcn P k) (by grind) _).1,AoC,AoC,decide_eq_true hb];dsimp only;rw [<- AoN];by_cases h33:k < 33
       .rw [ino O,AoC,decide_eq_true h33];dsimp only;rw [AoH Z,Ah O];rfl
       .have hm2:((k:Nat):Int)∈srt (C++pcn P k++[((k:Nat):Int)]):=(p3 _).2 Z;rw [iy O,hus,AoC,HF (by grind),AoC,AoC,decide_eq_false h33,decide_eq_true hm2,decide_eq_true (.inr h0:((k:Nat):Int)∈C\/0 < P.count ((k:Nat):Int))];cases bit x k with
        | true=>rw [AoH Z,Ah O];rfl
        | false=>rfl
      grind
    .rw [ino O,AoC,decide_eq_true (O:P.count ((k:Nat):Int)=0),AoH h0,AoW];dsimp only;rw [AoH Z,ino O,AoC];dsimp only;by_cases h33:k < 33
     .rw [ino O,AoC,decide_eq_true h33];rw [AoH Z,Ah O];rfl
     .rw [iy O,hus,AoC,HF (by grind),AoC,AoC,decide_eq_false h33];by_cases hin:((k:Nat):Int)∈C
      .rw [decide_eq_true (hm1.2 hin),decide_eq_true (.inl hin:((k:Nat):Int)∈C\/0 < P.count ((k:Nat):Int))];cases bit x k with
       | true=>rw [AoH Z,Ah O];rfl
       | false=>rfl
      .rw [decide_eq_false (λq=>hin (hm1.1 q)),decide_eq_false (λq=>q.elim hin h0:¬ (((k:Nat):Int)∈C\/0 < P.count ((k:Nat):Int)))];cases bit x k with
       | true=>rfl
       | false=>rw [AoH Z,Ah O];rfl) (by
    unfold Fy cK cZ gX wI;simp)
 have e0:pcn P 0=[]:=rfl
 grind
end
end Go.V.G
set_option maxRecDepth 100000
namespace Go.V.G
open Go.V
section defs
variable (b:Bls) (x top:List Int) (R T:Int) (f h e:Nat)
noncomputable def aC1:List Int:=srt (pgl top R)
noncomputable def aC2:List Int:=aC1 top R++tcl b x [] T
def aP2:List Int:=tpc b x [] T
noncomputable def aC3:List Int:=aC2 b x top R T++rkc b x [] top 448
noncomputable def aC4:List Int:=aC3 b x top R T++CB b x [] top f (h - f)
noncomputable def aC5:List Int:=aC4 b x top R T f h++upc b x [] top (sts f h)
noncomputable def aC6:List Int:=aC5 b x top R T f h++ckc b x [] top (cks f h e)
def aP6:List Int:=aP2 b x T++ckp b x [] top (cks f h e)
def af3:Bool:=(tok b x [] T && rko b x [] top 448) && (rdR (rkd b x [] top 448)).2
def af4:Bool:=af3 b x top T && loo b x [] top f (h - f)
def af5:Bool:=af4 b x top T f h && upo b x [] top (sts f h)
def af6:Bool:=af5 b x top T f h && cko b x [] top (cks f h e)
def aT:List UInt8:=ttx b x [] T
def aR:List Rn:=(rdR (rkd b x [] top 448)).1
def aL:List (List Prt):=chC (lod b x [] top f (h - f))
noncomputable def aG:Bool:=F6 (f:Int) (aT b x T) (aR b x top) (aL b x top f h)
def aU:Bool:=(sts f h).all (upe b x [] top (f:Int) (aT b x T) (aL b x top f h))
def aK:Bool:=(cks f h e).all (cke b x [] top f (aT b x T) (aL b x top f h))
noncomputable def aS:Bool:=(List.range b.length).all (stB b x (aC6 b x top R T f h e) (aP6 b x top T f h e))
noncomputable def sC:Bool:=kok b top f h e && (okb (af4 b x top T f h) (aC4 b x top R T f h) && (aG b x top T f h && (aU b x top T f h && (aK b x top T f h e && (aS b x top R T f h e && okb (af6 b x top T f h e) (aC6 b x top R T f h e))))))
end defs
theorem Ag8 {b:Bls} {x top:List Int} {R T:Int} {f h e:Nat} (ht:top.length=32) (hh:h<=60):(aC1 top R).length<=33/\(aC2 b x top R T).length<=34/\(aC3 b x top R T).length<=44/\(aC4 b x top R T f h).length<=644/\(aC5 b x top R T f h).length<=4244/\(aC6 b x top R T f h e).length<=4304/\(aP2 b x T).length<=3/\(aP6 b x top T f h e).length<=183:=by
 have h1:=AcS (root:=R) ht;have h2:=(J1 (l:=pgl top R) O).2.1;have h3:=Vw b x [] T;have h4:=(Ij b x [] top 448).1;have h5:=Wf b x [] top f (h - f);have h6:=Ac0 b x [] top (sts f h);have h7:=Fr (f:=f) hh;have h8:=Sr b x [] top (cks f h e);have h9:=KF (f:=f) (e:=e) hh;unfold aC6 aC5 aC4 aC3 aC2 aC1 aP6 aP2;simp only [AoM];omega
theorem AhF {fn c:Bool} {l:List Int}:(if okb fn l=true then c else false)=okb (fn && c) l:=by
 unfold okb
 grind
theorem ZH {b:Bls} {x y top:List Int} {f j:Nat}:∀{n:Nat},j<=n->loo b x y top f n=true->loo b x y top f j=true
 | 0,h,q=>by grind
 | n+1,h,q=>by
  by_cases hj:j=n+1
  .grind
  .rw [Zo,AoI]at q;exact ZH O q.1
theorem Add {b:Bls} {x y top:List Int} {f j:Nat}:∀{n:Nat},j<=n->∃r,CB b x y top f n=CB b x y top f j++r
 | 0,h=>⟨[],by grind⟩
 | n+1,h=>by
  by_cases hj:j=n+1
  .simp_all
  .obtain ⟨r,hr⟩:=Add (b:=b) (x:=x) (y:=y) (top:=top) (f:=f) (j:=j) (n:=n) O;exact⟨r++rkc b x y top (f+n),by rw [TT,hr,AoN]⟩
theorem AhN {b:Bls} {x top:List Int} {R T:Int} {f h j:Nat} (q:okb (af3 b x top T && loo b x [] top f j) (aC3 b x top R T++CB b x [] top f j)=false) (hj:j<=h - f):okb (af4 b x top T f h) (aC4 b x top R T f h)=false:=by
 cases hh:okb (af4 b x top T f h) (aC4 b x top R T f h)with
 | false=>rfl
 | true=>
  exfalso;unfold okb af4 aC4 ndb at *;simp only [AoI,decide_eq_true_eq]at hh;obtain ⟨⟨h1,h2⟩,h3⟩:=hh;obtain ⟨r,hr⟩:=Add (b:=b) (x:=x) (y:=[]) (top:=top) (f:=f) hj;rw [hr,<- AoN,Apc]at h3;rw [h1,ZH hj h2,decide_eq_true h3.1]at q;cases q
theorem Ahw {bl:Bls} {wr lf:Int} (on:Bool) {f h e:Nat} {R T:Int} {top:List Int} (hn:bl.length<=1048576) (hd:gd bl wr lf=true) (hu:∀c∈bl,U8s c) (hw:wts bl=[])
  (hs:Ol (blk bl 0)=(true,(f:Int),(h:Int),(e:Int),R,T)) (ho:opG bl=true) (ht:tre bl (opB bl) [] R=some top) (hf:f<=h) (hh:h<=60) (he:0 < e) (he2:e<=30) :
  ∃q,DK bl wr on lf=some q/\q.1=sC bl (opB bl) top R T f h e/\(sC bl (opB bl) top R T f h e=true->
   q=(true,(f:Int),(h:Int),(e:Int),R,T,bl,opB bl,[],[],ksT bl top 1024,(f:Int),aT bl (opB bl) T,aR bl (opB bl) top,aL bl (opB bl) top f h,srt (aC6 bl (opB bl) top R T f h e++pcn (aP6 bl (opB bl) top T f h e) bl.length))):=by
 obtain ⟨hb,hk⟩:=Lp hd;have sb:=SH (bl:=bl) O O;have hog:gsp bl (opB bl) [] []=true:=by unfold opG at ho;grind
 have g:=(Po hog).rs sb hu;have htl:=HK ht;obtain ⟨l1,l2,l3,l4,l5,l6,l7,l8⟩:=Ag8 (b:=bl) (x:=opB bl) (top:=top) (R:=R) (T:=T) (f:=f) (h:=h) (e:=e) htl hh;have hkl:=Si bl top 1024;obtain ⟨w1,w2,w3⟩:=Ag0 (f:=f) (e:=e) hh;unfold DK cK cZ gX wI;rw [I4 hn,hd,AoC,AoH Z,Hx on hd hu,hw,AoC,AoC];dsimp only;rw [AoH Z,iy O,show Int.toNat 0=0 from rfl,Bj (O:0 < bl.length),AoC,JI (hu _ (BG O)),hs,AoC];dsimp only;rw [H1 on hd hu,AoC];unfold opD;rw [AoJ ho];dsimp only;rw [AoC];dsimp only;rw [AoH Z,AoH Z,IM sb hu,hog,ht,AoC,AoC];dsimp only;rw [AoH Z,Agj sb hog hu ht,AoC,Aid sb hu hog ht,AoC,Acp hf hh he he2,AoC];dsimp only;unfold sC;have hkok:kok bl top f h e=decide ((ksT bl top 1024).map (·.1)=wnt f h e):=rfl;by_cases hlen:(ksT bl top 1024).length=(wnt f h e).length
 .rw [ino (O:¬ ¬ (((ksT bl top 1024).length:Nat):Int)=(((wnt f h e).length:Nat):Int)),Anh hlen O,AoC];by_cases hkq:(ksT bl top 1024).map (·.1)=wnt f h e
  .rw [AoJ hkq];rw [hkok,decide_eq_true hkq,AoT];dsimp only;rw [iy O,iy O,AoJ (by simp only [Aa,decide_eq_true_eq,AoE];omega),AoE];have em:List.replicate bl.length (0:Int)=mny bl.length []:=by
    refine Apq λi=>?_
    by_cases hi:i < bl.length
    .rw [Re _ hi,List.getElem?_replicate_of_lt hi];simp
    .rw [App Aoz,App (by rw [KC];omega)]
   have ea:=VL (l:=srt (pgl top R)) (C:=[]) (by have:(srt (pgl top R)).length<=33:=l1;grind) true bl (opB bl) [] [] [] (mny bl.length []);rw [Ao6]at ea;rw [em,show B4 (srt (pgl top R)) bl (opB bl) [] [] [] [] (mny bl.length []) true=_ from ea,AoC];dsimp only;rw [show okb true (srt (pgl top R))=okb true (aC1 top R) from rfl,show srt (srt (pgl top R))=srt (aC1 top R) from rfl,All g T O Z true [],AoC];dsimp only;rw [Ao6,AoT,show aC1 top R++tcl bl (opB bl) [] T=aC2 bl (opB bl) top R T from rfl,show tpc bl (opB bl) [] T=aP2 bl (opB bl) T from rfl];have hg448:=AeD (b:=bl) (top:=top) (f:Int) (h:Int) (e:Int) R T bl (opB bl) [] [] 0 [] [] [] [] (k:=448) O;have hr448:=Q9 (z:=[]) (top:=top) sb g (C:=aC2 bl (opB bl) top R T) O (k:=448) (tok bl (opB bl) [] T) [] (mny bl.length (aP2 bl (opB bl) T));have hlk:=Ij bl (opB bl) [] top 448;rw [show D7 (f:Int) (h:Int) (e:Int) R T bl (opB bl) [] [] (ksT bl top 1024) 0 [] [] [] [] 448=_ from hg448,AoC,hr448,AoC];dsimp only;rw [AmW (Mn g top 448) O,AoC,show aC2 bl (opB bl) top R T++rkc bl (opB bl) [] top 448=aC3 bl (opB bl) top R T from rfl];have eif:∀{α:Type} (F:Bool->Option α),(if okb (tok bl (opB bl) [] T && rko bl (opB bl) [] top 448) (aC3 bl (opB bl) top R T)=true then F (rdR (rkd bl (opB bl) [] top 448)).2 else F false)=F (okb (af3 bl (opB bl) top T) (aC3 bl (opB bl) top R T)):=by
    intro α F;have:=AhF (fn:=tok bl (opB bl) [] T && rko bl (opB bl) [] top 448) (c:=(rdR (rkd bl (opB bl) [] top 448)).2) (l:=aC3 bl (opB bl) top R T);unfold af3
    grind
   rw [eif (λw=>some (0,0,0,0,0,0,[],(f:Int),(h:Int),(e:Int),R,T,bl,opB bl,[],[],(f:Int),(h:Int),(e:Int),R,T,bl,opB bl,[],[],ksT bl top 1024,0,[],(f:Int),ttx bl (opB bl) [] T,(rdR (rkd bl (opB bl) [] top 448)).1,bl,opB bl,[],[],[],srt (aC3 bl (opB bl) top R T),mny bl.length (aP2 bl (opB bl) T),w)),AoC];dsimp only;obtain ⟨j,j1,j2,j3⟩:=AmV (E:=(e:Int)) (R:=R) (T:=T) (top:=top) sb g hf hh (C:=aC3 bl (opB bl) top R T) (rs:=[]) (m:=mny bl.length (aP2 bl (opB bl) T)) O (af3 bl (opB bl) top T) (ttx bl (opB bl) [] T) (rdR (rkd bl (opB bl) [] top 448)).1;rw [j3,AoC];dsimp only;by_cases hok:okb (af3 bl (opB bl) top T && loo bl (opB bl) [] top f j) (aC3 bl (opB bl) top R T++CB bl (opB bl) [] top f j)=true
   .have hj:j=h - f:=by grind
    subst hj;have hok4:okb (af4 bl (opB bl) top T f h) (aC4 bl (opB bl) top R T f h)=true:=hok;rw [hok,AoH Z,hok4,AoT];have hcl:(chC (lod bl (opB bl) [] top f (h - f))).length=h - f:=by unfold chC lod;simp
    have hHB:HB (ttx bl (opB bl) [] T) (rdR (rkd bl (opB bl) [] top 448)).1 (chC (lod bl (opB bl) [] top f (h - f))):=by
     have:=Ac4 (rkd bl (opB bl) [] top 448);have:=Vw bl (opB bl) [] T;refine⟨O,O,O,λc hc=>?_⟩;obtain ⟨x',_,rfl⟩:=Ao0.1 hc;exact(T6 x').mono O
    rw [T0 hHB,AoC,AoC];dsimp only;have hG:aG bl (opB bl) top T f h=F6 (f:Int) (ttx bl (opB bl) [] T) (rdR (rkd bl (opB bl) [] top 448)).1 (chC (lod bl (opB bl) [] top f (h - f))):=rfl;rw [<- hG];cases hgh:aG bl (opB bl) top T f h with
    | false=>
     simp
    | true=>
     rw [hgh]at hG;have gh:=goodH_iff.1 hG.symm;rw [AoH Z,AbV gh (h:=h) O hh,AoC,LS hh,AoC,AoT];have e4:aC3 bl (opB bl) top R T++CB bl (opB bl) [] top f (h - f)=aC4 bl (opB bl) top R T f h:=rfl;have e4':(af3 bl (opB bl) top T && loo bl (opB bl) [] top f (h - f))=af4 bl (opB bl) top T f h:=rfl;have r3:=AmM (E:=(e:Int)) (R:=R) (T:=T) (top:=top) sb g gh (hd:=h) O hh (C:=aC4 bl (opB bl) top R T f h) (rs:=[]) (m:=mny bl.length (aP2 bl (opB bl) T)) O (af4 bl (opB bl) top T f h);rw [hok4]at r3;rw [e4];rcases r3 with⟨u1,u2⟩ | ⟨u1,u2⟩
     .have hU:aU bl (opB bl) top T f h=true:=u1;rw [u2,AoC,hU,AoT];dsimp only;have r4:=And (R:=R) (T:=T) (top:=top) (z:=[]) g gh (hd:=h) (e:=e) O hh he (C:=aC5 bl (opB bl) top R T f h) (P:=aP2 bl (opB bl) T) (rs:=[]) O O (af5 bl (opB bl) top T f h);rw [Ah O];rcases r4 with⟨v1,v2⟩ | ⟨v1,v2⟩
      .have hK:aK bl (opB bl) top T f h e=true:=v1;rw [show aC4 bl (opB bl) top R T f h++upc bl (opB bl) [] top (sts f h)=aC5 bl (opB bl) top R T f h from rfl,show(af4 bl (opB bl) top T f h && upo bl (opB bl) [] top (sts f h))=af5 bl (opB bl) top T f h from rfl,v2,AoC,hK,AoT];dsimp only;have r5:=Am7 (R:=R) (T:=T) (z:=[]) g (f:=f) (hd:=h) (e:=e) (t:=ttx bl (opB bl) [] T) (r:=(rdR (rkd bl (opB bl) [] top 448)).1) (cs:=chC (lod bl (opB bl) [] top f (h - f))) (ks:=ksT bl top 1024) (C:=aC6 bl (opB bl) top R T f h e) (P:=aP6 bl (opB bl) top T f h e) (rs:=[]) O O (okb (af6 bl (opB bl) top T f h e) (aC6 bl (opB bl) top R T f h e));rw [KC,show aC5 bl (opB bl) top R T f h++ckc bl (opB bl) [] top (cks f h e)=aC6 bl (opB bl) top R T f h e from rfl,show(af5 bl (opB bl) top T f h && cko bl (opB bl) [] top (cks f h e))=af6 bl (opB bl) top T f h e from rfl,show aP2 bl (opB bl) T++ckp bl (opB bl) [] top (cks f h e)=aP6 bl (opB bl) top T f h e from rfl];rcases r5 with⟨t1,t2⟩ | ⟨t1,t2⟩
       .have hS:aS bl (opB bl) top R T f h e=true:=t1;rw [t2,AoC,hS,AoT];exact⟨_,rfl,rfl,λq=>by rw [q];rfl⟩
       .have hS:aS bl (opB bl) top R T f h e=false:=t1
        simp_all
      .have hK:aK bl (opB bl) top T f h e=false:=v1;rw [show aC4 bl (opB bl) top R T f h++upc bl (opB bl) [] top (sts f h)=aC5 bl (opB bl) top R T f h from rfl,show(af4 bl (opB bl) top T f h && upo bl (opB bl) [] top (sts f h))=af5 bl (opB bl) top T f h from rfl,v2,AoC,hK];simp
     .have hU:aU bl (opB bl) top T f h=false:=u1
      simp_all
   .have hok':okb (af3 bl (opB bl) top T && loo bl (opB bl) [] top f j) (aC3 bl (opB bl) top R T++CB bl (opB bl) [] top f j)=false:=by grind
    have h4:okb (af4 bl (opB bl) top T f h) (aC4 bl (opB bl) top R T f h)=false:=AhN hok' j1
    simp_all
  simp_all
 .rw [iy (O:¬ (((ksT bl top 1024).length:Nat):Int)=(((wnt f h e).length:Nat):Int)),hkok,decide_eq_false (λq=>hlen (by grind))];simp
end Go.V.G