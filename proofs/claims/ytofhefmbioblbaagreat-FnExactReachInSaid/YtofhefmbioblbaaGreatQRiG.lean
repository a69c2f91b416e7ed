import Derived.Test.YtofhefmbioblbaaGreatQRiA
import Derived.Test.YtofhefmbioblbaaGreatQRiB
import Derived.Test.YtofhefmbioblbaaGreatQRiC
import Derived.Test.YtofhefmbioblbaaGreatQRiF
set_option linter.unusedVariables false
set_option linter.unusedSimpArgs false
set_option maxRecDepth 100000
namespace Go.V.G
open Go.V
theorem V8 {cs:List (List Prt)} {i:Nat} (h:i < cs.length) (n:Int):chn n (cs.drop i)=((AH cs[i] && decide (src cs[i]=n)) && chn (tgt cs[i]) (cs.drop (i+1))):=by
 rw [AkA h];rfl
theorem WI {cs:List (List Prt)} (hn:cs.length<=1099511627776) (hs:∀c∈cs,Sm 1099511627776 c) (n:Int):LC n cs=some (chn n cs):=by
 unfold LC;refine Ok.eq (Ok.bind (Q:=λr=>match r with | .inl _=>chn n cs=true | .inr b=>b=chn n cs) ?_ (by
  rintro (y | b) hr
  .exact Ok.mk hr.symm
  .exact Ok.mk hr))
 refine Ok.loop (λy=>y.2.1=cs/\y.2.2.1=(cs.length:Int)/\∃i:Nat,y.2.2.2=(i:Int)/\i<=cs.length/\chn n cs=chn y.1 (cs.drop i)) (λy=>((cs.length:Int) - y.2.2.2).toNat) ⟨rfl,rfl,0,rfl,Alx _,rfl⟩ ?_;rintro ⟨m,cs',l,i'⟩ ⟨e1,e2,i,e3,hi,hk⟩;dsimp only at e1 e2 e3 hk;subst e1 e2 e3;unfold Pd gX wI;dsimp only;refine Ok.ite (λhc=>?_) λhc=>?_
 .have hlt:i < cs'.length:=by simpa using hc
  have hge:cs'[Int.toNat (i:Int)]?=some cs'[i]:=by simp [hlt]
  refine Ok.yes Z (Ok.bind_eq hge (Ok.bind_eq (TU (hs _ (Akq hlt)) O) ?_));rw [V8 hlt]at hk;unfold WC;cases hg:AH cs'[i]with
  | false=>
   rw [hg]at hk;refine Ok.bind_eq (r:=(0,cs',(cs'.length:Int),(i:Int),true)) Z (Ok.yes rfl (Ok.mk ?_));dsimp only;rw [hk];simp
  | true=>
   rw [hg]at hk;refine Ok.bind_eq (r:=(tgt cs'[i],cs',(cs'.length:Int),(i:Int),decide (¬ src cs'[i]=m))) Z ?_;dsimp only;refine Ok.ite (λhb=>Ok.mk ?_) λhb=>Ok.mk ⟨⟨rfl,rfl,i+1,Aw hn hlt,O,?_⟩,?_⟩
   .have:¬ src cs'[i]=m:=by simpa using hb
    dsimp only;rw [hk];simp [this]
   .have:src cs'[i]=m:=by simpa using hb
    dsimp only;rw [hk];simp [this]
   .rw [Aw hn hlt];dsimp only;omega
 .have:i=cs'.length:=by
   have:¬ ((i:Int) < (List.length cs':Int)):=by simpa using hc
   omega
  subst this;refine Ok.mk ?_;dsimp only;rw [hk,AlN];rfl
theorem Rj {t:List UInt8} {r:List Rn} {cs:List (List Prt)} (h:HB t r cs) (f:Int):HG f t r cs=some (Fl f t r cs):=by
 unfold HG Fl wI;refine Ok.eq (Ok.bind (Q:=λb=>b=_) ?_ (λb hb=>Ok.mk hb));refine Ok.bind_eq (AJ _ _ _) (Ok.ite (λq1=>?_) λq1=>Ok.mk ?_)
 .have q1':0<=f/\f<=60:=by simpa using q1
  rw [show decide (0<=f/\f<=60)=true from q1,Akj];refine Ok.ite (λq2=>Ok.bind_eq (OE h.hr _ _) (Ok.ite (λq3=>?_) λq3=>Ok.mk ?_)) λq2=>Ok.mk ?_
  .rw [show decide ((t.length:Int)<=120)=true from q2,q3,Akj,Akj];rw [w64 (O:-9223372036854775808<=60 - f) O];refine Ok.ite (λq4=>Ok.bind_eq (WI h.hn h.hc _) (Ok.mk ?_)) λq4=>Ok.mk ?_
   .rw [q4,Akj]
   .have:decide ((cs.length:Int)<=60 - f)=false:=by simpa using q4
    rw [this,Als]
  .have:AN r (t.length:Int) f=false:=by simpa using q3
   rw [this];simp
  .have:decide ((t.length:Int)<=120)=false:=by simpa using q2
   rw [this];simp
 .have:decide (0<=f/\f<=60)=false:=by simpa using q1
  rw [this];simp
theorem Q4 {t:List UInt8} {r:List Rn} {cs:List (List Prt)} (h:HB t r cs) (f:Int):HO f t r cs=some (Fl f t r cs):=by
 have hn:=h.hn;unfold HO wI;refine Ok.eq (Ok.bind (Q:=λv=>v=(!(decide (0<=f/\f<=60) && (decide ((t.length:Int)<=120) && (AN r (t.length:Int) f && decide ((cs.length:Int)<=60 - f)))),f,t,r,cs)) ?_ ?_)
 .refine Ok.bind_eq (Cb _ _ _) (Ok.ite (λq1=>Ok.mk ?_) λq1=>Ok.ite (λq2=>Ok.mk ?_) λq2=>Ok.bind_eq (Ou h.hr _ _) (Ok.ite (λq3=>Ok.mk ?_) λq3=>Ok.mk ?_))
  .have:decide (0<=f/\f<=60)=false:=by simpa only [Akf] using q1
   rw [this];rfl
  .have:¬ (t.length:Int)<=120:=by
     have:(120:Int) < (t.length:Int):=by simpa using q2
     omega
   simp [this]
  .have:AN r (t.length:Int) f=false:=by simpa only [Akf] using q3
   rw [this];simp
  .have g1:0<=f/\f<=60:=by simpa using q1
   have g2:(t.length:Int)<=120:=by
    have:¬ (120:Int) < (t.length:Int):=by simpa using q2
    omega
   have g3:AN r (t.length:Int) f=true:=by simpa only [Akf,Alp] using q3
   rw [w64 (O:-9223372036854775808<=60 - f) O,g3];simp only [g1,and_self,decide_true,g2,Akj]
   congr 1
   by_cases hx:60 - f < (cs.length:Int)
   .have:¬ (cs.length:Int)<=60 - f:=O
    simp [hx,this]
   .have:(cs.length:Int)<=60 - f:=O
    simp [hx,this]
 rintro _ rfl;dsimp only;have split:Fl f t r cs=((decide (0<=f/\f<=60) && (decide ((t.length:Int)<=120) && (AN r (t.length:Int) f && decide ((cs.length:Int)<=60 - f)))) && chn (t.length:Int) cs):=by
  unfold Fl;simp only [Al7]
 rw [split];refine Ok.ite (λhb=>Ok.mk ?_) λhb=>?_
 .have:(decide (0<=f/\f<=60) && (decide ((t.length:Int)<=120) && (AN r (t.length:Int) f && decide ((cs.length:Int)<=60 - f))))=false:=by simpa only [Akf] using hb
  rw [this];rfl
 have hb':(decide (0<=f/\f<=60) && (decide ((t.length:Int)<=120) && (AN r (t.length:Int) f && decide ((cs.length:Int)<=60 - f))))=true:=by simpa only [Akf,Alp] using hb
 rw [hb',Akj];have ht:(t.length:Int)<=120:=by simp only [Aj8,decide_eq_true_eq]at hb';exact hb'.2.1
 refine Ok.bind (Q:=λr=>match r with | .inl _=>chn (t.length:Int) cs=true | .inr b=>b=chn (t.length:Int) cs) ?_ (by
  rintro (y | b) hr
  .exact Ok.mk hr.symm
  .exact Ok.mk hr)
 refine Ok.loop (λy=>y.2.1=cs/\y.2.2.1=(cs.length:Int)/\∃i:Nat,y.2.2.2=(i:Int)/\i<=cs.length/\chn (t.length:Int) cs=chn y.1 (cs.drop i)) (λy=>((cs.length:Int) - y.2.2.2).toNat) ⟨rfl,rfl,0,rfl,Alx _,rfl⟩ ?_;rintro ⟨m,cs',l,i'⟩ ⟨e1,e2,i,e3,hi,hk⟩;dsimp only at e1 e2 e3 hk;subst e1 e2 e3;unfold K4 gX wI;dsimp only;refine Ok.ite (λhc=>?_) λhc=>?_
 .have hlt:i < cs'.length:=by simpa using hc
  have hge:cs'[Int.toNat (i:Int)]?=some cs'[i]:=by simp [hlt]
  have sm:=h.hc _ (Akq hlt);refine Ok.yes Z (Ok.bind_eq hge ?_);rw [V8 hlt]at hk;cases hg:AH cs'[i]with
  | false=>
   rw [hg]at hk;refine Ok.bind_eq (r:=(cs',(cs'.length:Int),(i:Int),true,cs'[i])) (by rw [Mf sm O,hg];rfl) (Ok.yes rfl (Ok.mk ?_));dsimp only;rw [hk];simp
  | true=>
   rw [hg]at hk;have ss:=Bi (Aq hg).1;have g2:=(Aq hg).2;refine Ok.bind_eq (r:=(cs',(cs'.length:Int),(i:Int),decide (¬ src cs'[i]=m),cs'[i])) (by rw [Mf sm O,hg,Aj1,Aj6 Z,QE sm O ss O];rfl) ?_;dsimp only;refine Ok.ite (λhb=>Ok.mk ?_) λhb=>Ok.bind_eq (YP sm O ss O) (Ok.mk ⟨⟨rfl,rfl,i+1,Aw hn hlt,O,?_⟩,?_⟩)
   .have:¬ src cs'[i]=m:=by simpa using hb
    dsimp only;rw [hk];simp [this]
   .have:src cs'[i]=m:=by simpa using hb
    dsimp only;rw [hk];simp [this]
   .rw [Aw hn hlt];dsimp only;omega
 .have:i=cs'.length:=by
   have:¬ ((i:Int) < (List.length cs':Int)):=by simpa using hc
   omega
  subst this;refine Ok.mk ?_;dsimp only;rw [hk,AlN];rfl
theorem W4:KX=GV:=rfl
theorem Aa2 {c:List Prt} (hg:AH c=true) {t:List UInt8} (ht:(t.length:Int)=src c):HE t c=some (apply t c,true):=by
 have hs:=Bi (Aq hg).1;have sm:=C6 hg;have sle:=(Aq hg).2.1;have ha:=SG hg ht;unfold Nb at ha;rw [Aj5]at ha;obtain ⟨z,hz,he⟩:=ha;obtain rfl:z=apply t c:=Ali he;unfold HE;rw [Mf sm O,hg,Aj1,Aj6 Z,QE sm O hs O,Aj1,Aj1,Aj6 (by simp [ht]),W4];rw [hz];rfl
theorem Xf {t:List UInt8} {cs:List (List Prt)} {i:Nat} (h:i < cs.length):txt t (cs.take (i+1))=apply (txt t (cs.take i)) cs[i]:=by
 unfold txt;rw [Akp h,AlI];rfl
theorem WZ {n:Int} {cs:List (List Prt)} (h:chn n cs=true) {i:Nat} (hi:i < cs.length):AH cs[i]=true/\src cs[i]=D5 n (cs.take i)/\D5 n (cs.take (i+1))=tgt cs[i]:=by
 have h2:=(DV h i).2;rw [AkA hi]at h2;obtain ⟨k1,k2,k3⟩:=Fq h2;refine⟨k1,k2,?_⟩;rw [Akp hi,MI];rfl
theorem Zc {t:List UInt8} {cs:List (List Prt)} (hn:cs.length<=1099511627776) (hc:chn (t.length:Int) cs=true):Ab DB (t,cs,(cs.length:Int),0)=some (txt t cs):=by
 have:=Am DB (λi=>(txt t (cs.take i),cs,(cs.length:Int),((i:Nat):Int))) cs.length (txt t cs) (by
  intro i hi;have hlt:(i:Int) < (cs.length:Int):=O
  obtain ⟨k1,k2,k3⟩:=WZ hc hi;have hl:=Qv (DV hc i).1;unfold DB gX wI;simp only [hlt,decide_true,Akv,show(0:Int)<=(i:Int) from by omega,Aj4,Aj3 hi,Aj1,SG k1 (by rw [hl,k2]),Aw hn hi,Xf hi]) (by simp [DB,gX,wI])
 simpa [txt] using this
theorem Zd {t:List UInt8} {cs:List (List Prt)} (hn:cs.length<=1099511627776) (hc:chn (t.length:Int) cs=true):Ab GD (t,cs,(cs.length:Int),0)=some (txt t cs):=by
 have:=Am GD (λi=>(txt t (cs.take i),cs,(cs.length:Int),((i:Nat):Int))) cs.length (txt t cs) (by
  intro i hi;have hlt:(i:Int) < (cs.length:Int):=O
  obtain ⟨k1,k2,k3⟩:=WZ hc hi;have hl:=Qv (DV hc i).1;unfold GD gX wI;simp only [hlt,decide_true,Akv,show(0:Int)<=(i:Int) from by omega,Aj4,Aj3 hi,Aj1,Aa2 k1 (by rw [hl,k2]),Aw hn hi,Xf hi]) (by simp [GD,gX,wI])
 simpa [txt] using this
section
variable {f:Int} {t:List UInt8} {r:List Rn} {cs:List (List Prt)}
theorem Vf (g:GH f t r cs) {x:Int} (h1:f<=x) (h2:x<=f+cs.length):E5 f t r cs x=some (txt t (cs.take (x - f).toNat)):=by
 have:=g.hf;have:=g.hn;have w:IntKind.wrap .i64 (x - f)=x - f:=w64 O O;have hl:=Zc (cs:=cs.take (x - f).toNat) (by rw [Akb];omega) (DV g.hc _).1;unfold E5 sX wI;simp only [w,Ale,decide_true,Akv,show(0:Int)<=x - f from by omega,(O:x - f<=(cs.length:Int)),Int.toNat_zero,Ak6,AlT];rw [hl];rfl
theorem Ac0 (g:GH f t r cs) {x:Int} (h1:f<=x) (h2:x<=f+cs.length):L9 f t r cs x=some (txt t (cs.take (x - f).toNat)):=by
 have:=g.hf;have:=g.hn;have w:IntKind.wrap .i64 (x - f)=x - f:=w64 O O;have hl:=Zd (cs:=cs.take (x - f).toNat) (by rw [Akb];omega) (DV g.hc _).1;unfold L9 sX wI;simp only [w,Ale,decide_true,Akv,show(0:Int)<=x - f from by omega,(O:x - f<=(cs.length:Int)),Int.toNat_zero,Ak6,AlT];rw [hl];rfl
theorem AfV (g:GH f t r cs) (k:Nat):(((txt t (cs.take k)).length:Nat):Int)=D5 (t.length:Int) (cs.take k)/\0<=D5 (t.length:Int) (cs.take k)/\D5 (t.length:Int) (cs.take k)<=120:=
 ⟨Qv (DV g.hc k).1,Tx (DV g.hc k).1 O g.ht⟩
end
end Go.V.G
set_option maxRecDepth 100000
namespace Go.V.G
open Go.V
def Afz (xs:List (Int×Int)):Prop:=xs.length<=maxLen
def X6 (xs:List (Int×Int)):Nat:=xs.length
def UM (xs:List (Int×(Int×List UInt8))):Prop:=xs.length<=maxLen/\∀x∈xs,x.2.2.length<=maxLen
def Acc (x:Int×(Int×List UInt8)):Nat:=x.2.2.length
def Ni (xs:List (Int×(Int×List UInt8))):Nat:=xs.length+AG Acc xs
def YO (xs:List (List (Int×(Int×List UInt8)))):Prop:=xs.length<=maxLen/\∀x∈xs,UM x
def O5 (xs:List (List (Int×(Int×List UInt8)))):Nat:=xs.length+AG Ni xs
end Go.V.G
set_option maxRecDepth 100000
namespace Go.V.G
open Go.V
theorem n2:((2:Nat):Int)=2:=rfl
theorem n3:((3:Nat):Int)=3:=rfl
abbrev Hst:=Int×(List UInt8×(List (Int×Int)×List (List (Int×(Int×List UInt8)))))
def UQ (h:Hst):Nat:=h.2.1.length+X6 h.2.2.1+O5 h.2.2.2
end Go.V.G
set_option maxRecDepth 100000
namespace Go.V.G
open Go.V
structure FitP (c:List Prt):Prop where
 l:UM c
 i:∀p∈c,I64 p.1/\I64 p.2.1
structure FitH (t:List UInt8) (r:List Rn) (cs:List (List Prt)):Prop where
 ht:t.length<=maxLen
 hr:Afz r
 hc:YO cs
 hi:∀c∈cs,∀p∈c,I64 p.1/\I64 p.2.1
theorem Ab6:∀c:List Prt,Ni c=c.length+B0 c
 | []=>rfl
 | p::c=>by
  have ih:=Ab6 c;simp only [Ni,AG,Acc,B0,Akg]at ih ⊢;omega
theorem ZS {α:Type} {w:α->Nat} {B:Nat}:∀{xs:List α},(∀x∈xs,w x<=B)->AG w xs<=xs.length * B
 | [],_=>by simp [AG]
 | x::xs,h=>by
  have ih:=ZS (xs:=xs) λy hy=>h y (by simp [hy])
  have:=h x Z;simp only [AG,Akg,Al2];omega
theorem AhM {c:List Prt} (h:AH c=true):Ni c<=480:=by
 have:=C6 h;have:=this.len;have:=(C6 h).put;rw [Ab6];omega
theorem Ag4 {cs:List (List Prt)} (h:∀c∈cs,AH c=true) (hn:cs.length<=1000):O5 cs<=1000000:=by
 have:=ZS (w:=Ni) (B:=480) λc hc=>AhM (h c hc)
 unfold O5;omega
theorem Ahv {l:List Rn} {n m:Int} (h:AN l n m=true):X6 l<=120:=by
 obtain ⟨h1,_,h6⟩:=goodRuns_iff.1 h;have:=MV h6.pos;rw [h6.sum]at this;unfold X6;omega
theorem GH.w {f:Int} {t:List UInt8} {r:List Rn} {cs:List (List Prt)} (g:GH f t r cs):UQ (f,t,r,cs)<=2000000:=by
 have:=g.ht;have:=g.hn;have:=g.hf;have h1:=Ag4 (Tq g.hc) O;have h2:=Ahv g.hr;unfold UQ;dsimp only;omega
end Go.V.G
set_option maxRecDepth 100000
namespace Go.V.G
open Go.V
abbrev ED (a:List Prt) (cs:List (List Prt)):List Prt:=cs.foldl (λa c=>AO a c) a
theorem Abx {a:List Prt} {cs:List (List Prt)} {i:Nat} (h:i < cs.length):ED a (cs.take (i+1))=AO (ED a (cs.take i)) cs[i]:=by
 unfold ED;rw [Akp h,AlI];rfl
theorem AeN {a:List Prt} {cs:List (List Prt)} (ha:AH a=true) (hc:chn (tgt a) cs=true) {i:Nat} (hi:i < cs.length) :
  AH (ED a (cs.take i))=true/\AH cs[i]=true/\tgt (ED a (cs.take i))=src cs[i]:=by
 obtain ⟨k1,k2,k3⟩:=WZ hc hi;obtain ⟨r1,r2,r3⟩:=LH ha (DV hc i).1;exact⟨r1,k1,by rw [r3,k2]⟩
theorem Ze {a:List Prt} {cs:List (List Prt)} (hn:cs.length<=1099511627776) (ha:AH a=true) (hc:chn (tgt a) cs=true):Ab FQ (a,cs,(cs.length:Int),0)=some (ED a cs):=by
 have:=Am FQ (λi=>(ED a (cs.take i),cs,(cs.length:Int),((i:Nat):Int))) cs.length (ED a cs) (by
  intro i hi;have hlt:(i:Int) < (cs.length:Int):=O
  obtain ⟨k1,k2,k3⟩:=AeN ha hc hi;unfold FQ gX wI;simp only [hlt,decide_true,Akv,show(0:Int)<=(i:Int) from by omega,Aj4,Aj3 hi,Aj1,WU k1 k2 k3,Aw hn hi,Abx hi]) (by simp [FQ,gX,wI])
 simpa using this
theorem VM {c:List Prt} {cs:List (List Prt)} (hn:cs.length<=1000000) (ha:AH c=true) (hc:chn (tgt c) cs=true):Kt (c::cs)=some (ED c cs):=by
 obtain ⟨r1,_⟩:=LH ha hc;have hr:Aa (List.length ([]:List Prt)+List.length (ED c cs)) 32=true:=AfF (by have:=(C6 r1).len;simpa using AkE this O) O;have hl:=Ze O ha hc;unfold Kt cK gX sX;have e1:Int.toNat (((c::cs).length:Nat):Int) - Int.toNat 1=cs.length:=by simp
 have e2:(List.drop (Int.toNat 1) (c::cs)).take cs.length=cs:=by simp
 rw [e1,e2];exact Ok.eq (Ok.yes Z (Ok.bind_eq (r:=c) Z (Ok.yes Z (Ok.yes AjY (Ok.yes Z (Ok.yes Z (Ok.bind_eq hl (Ok.yes hr (Ok.mk rfl)))))))))
section
variable {f:Int} {t:List UInt8} {r:List Rn} {cs:List (List Prt)}
def seg (cs:List (List Prt)) (a b:Int):List (List Prt):=(cs.drop a.toNat).take (b.toNat - a.toNat)
def J7 (t:List UInt8) (cs:List (List Prt)) (a:Int):Int:=D5 (t.length:Int) (cs.take a.toNat)
def BW (f:Int) (t:List UInt8) (cs:List (List Prt)) (a b:Int):List Prt:=btw (J7 t cs (a - f)) (seg cs (a - f) (b - f))
theorem Ql (g:GH f t r cs) (a b:Int):chn (J7 t cs a) (seg cs a b)=true:=(DV (DV g.hc a.toNat).2 _).1
theorem ZK (g:GH f t r cs) {a b:Int} (h0:0<=a) (h1:a<=b):D5 (J7 t cs a) (seg cs a b)=J7 t cs b:=by
 unfold J7 seg;rw [<- MI,<- List.take_add]
 congr 2;omega
theorem Ww (g:GH f t r cs) (a:Int):0<=J7 t cs a/\J7 t cs a<=120:=Tx (DV g.hc _).1 O g.ht
theorem Iz (g:GH f t r cs) {a b:Int} (h0:f<=a) (h1:a<=b):AH (BW f t cs a b)=true/\src (BW f t cs a b)=J7 t cs (a - f)/\tgt (BW f t cs a b)=J7 t cs (b - f):=by
 obtain ⟨k1,k2⟩:=Ww g (a - f);obtain ⟨r1,r2,r3⟩:=X7 (Ql g (a - f) (b - f)) k1 k2;exact⟨r1,r2,by rw [BW,r3,ZK g O O]⟩
theorem AcV (n:Int):RT n=some (idc n):=by
 unfold RT idc;by_cases h:n=0 <;> simp [h]
theorem Wm (g:GH f t r cs) {a b:Int} (h0:f<=a) (h1:a<=b) (h2:b<=f+cs.length):EE f t r cs a b=some (BW f t cs a b):=by
 have:=g.hf;have:=g.hn;have w1:IntKind.wrap .i64 (a - f)=a - f:=w64 O O;have w2:IntKind.wrap .i64 (b - f)=b - f:=w64 O O;unfold EE sX wI;by_cases hab:a=b
 .subst hab;rw [Aj7 Z,Vf g h0 h2,Aj1,(AfV g _).1,AcV,Aj1];have e:seg cs (a - f) (a - f)=[]:=by simp [seg]
  rw [BW,e];rfl
 .have hlt:(a - f).toNat < cs.length:=O
  obtain ⟨c,ds,hds⟩:∃c ds,seg cs (a - f) (b - f)=c::ds:=by
   have:(seg cs (a - f) (b - f)).length≠0:=by unfold seg;rw [Akb,Aku];omega
   cases hsg:seg cs (a - f) (b - f)with
   | nil=>rw [hsg]at this;exact absurd rfl this
   | cons c ds=>exact⟨c,ds,rfl⟩
  have hch:=Ql g (a - f) (b - f);have hb:BW f t cs a b=ED c ds:=by unfold BW;rw [hds]at hch ⊢;exact Q5 hch
  have hln:ds.length<=1000000:=by
   have h9:(seg cs (a - f) (b - f)).length<=cs.length:=by unfold seg;rw [Akb,Aku];omega
   rw [hds,Akg]at h9;omega
  rw [hds]at hch;obtain ⟨k1,k2,k3⟩:=Fq hch;have hc:=VM hln k1 k3;rw [Aj6 (by simpa using hab),w1,w2,hb];rw [show(List.drop (a - f).toNat cs).take ((b - f).toNat - (a - f).toNat)=c::ds from hds,hc];simp only [Aj1,Ale,decide_true,Akv,show(0:Int)<=a - f from by omega,(O:a - f<=b - f),(O:b - f<=(cs.length:Int))]
end
end Go.V.G
set_option maxRecDepth 100000
namespace Go.V.G
open Go.V
def Byt (l:List Int):Prop:=∀x∈l,0<=x/\x<=255
theorem Byt.append {a b:List Int} (h:Byt a) (k:Byt b):Byt (a++b):=λx hx=>(Aka.1 hx).elim (h x) (k x)
theorem YY (s:List UInt8):Byt (Ax s):=λx hx=>by
 obtain ⟨b,_,rfl⟩:=Ako.1 hx;have:=b.toNat_lt;omega
def Rr (h x:Int):Int:=IntKind.wrap .u32 ((IntKind.wrap .u32 (((BitVec.ofInt (IntKind.bits .u32) h ^^^ BitVec.ofInt (IntKind.bits .u32) (IntKind.wrap .u32 x)).toNat:Int))) * 16777619)
theorem AgD (h x:Int):0<=Rr h x/\Rr h x < 4294967296:=by unfold Rr;rw [IntKind.wrap_u32];omega
theorem Ag1 {h x:Int} (h0:0<=h) (h1:h < 4294967296) (x0:0<=x) (x1:x<=255) :
  Int.tmod (IntKind.wrap .u64 ((IntKind.wrap .u64 (((BitVec.ofInt (IntKind.bits .u64) h ^^^ BitVec.ofInt (IntKind.bits .u64) (IntKind.wrap .u64 x)).toNat:Int))) * 16777619)) 4294967296=Rr h x:=by
 unfold Rr;obtain ⟨a,rfl⟩:=Akw h0;obtain ⟨b,rfl⟩:=Akw x0;have ha:a < 4294967296:=O
 have hb:b < 4294967296:=O
 have hx:=Nat.xor_lt_two_pow (n:=32) (O:a < 2 ^ 32) (O:b < 2 ^ 32);rw [Yw (n:=(b:Int)) O O,IntKind.wrap_u32 (b:Int),show(b:Int) % 4294967296=(b:Int) by omega];have e64:((BitVec.ofInt (IntKind.bits .u64) (a:Int) ^^^ BitVec.ofInt (IntKind.bits .u64) (b:Int)).toNat)=a ^^^ b:=by
  rw [BitVec.toNat_xor,BitVec.ofInt_natCast,BitVec.ofInt_natCast,BitVec.toNat_ofNat,BitVec.toNat_ofNat,show IntKind.bits .u64=64 from rfl,Amd O,Amd O]
 have e32:((BitVec.ofInt (IntKind.bits .u32) (a:Int) ^^^ BitVec.ofInt (IntKind.bits .u32) (b:Int)).toNat)=a ^^^ b:=by
  rw [BitVec.toNat_xor,BitVec.ofInt_natCast,BitVec.ofInt_natCast,BitVec.toNat_ofNat,BitVec.toNat_ofNat,show IntKind.bits .u32=32 from rfl,Amd O,Amd O]
 rw [e64,e32];generalize a ^^^ b=m at hx;rw [Yw (n:=(m:Int)) O O,IntKind.wrap_u32 (m:Int),show(m:Int) % 4294967296=(m:Int) by omega,Yw O O,IntKind.wrap_u32,AlC O]
def dig (h:Int) (b:List Int):Int:=b.foldl Rr h
theorem V4 {b:List Int} {h:Int} {i:Nat} (hi:i < b.length):dig h (b.take (i+1))=Rr (dig h (b.take i)) b[i]:=by
 unfold dig;rw [Akp hi,AlI];rfl
theorem XP:∀(b:List Int) {h:Int},0<=h/\h < 4294967296->0<=dig h b/\dig h b < 4294967296
 | [],_,h=>h
 | x::b,h,_=>XP b (AgD h x)
theorem QP {b:List Int} (hl:b.length<=1099511627776) (h:Int):K5 h b=some (dig h b):=by
 unfold K5;have:=Am Hr (λi=>(dig h (b.take i),b,(b.length:Int),((i:Nat):Int))) b.length (dig h b) (by
  intro i hi;have hlt:(i:Int) < (b.length:Int):=O
  unfold Hr gX wI;simp only [hlt,decide_true,Akv,show(0:Int)<=(i:Int) from by omega,Aj4,Aj3 hi,Aj1,Aw hl hi,V4 hi];rfl) (by simp [Hr,gX,wI])
 have e:Ab Hr (h,b,(b.length:Int),0)=some (dig h b):=by simpa [dig] using this
 rw [e];rfl
theorem On {b:List Int} (hl:b.length<=1099511627776):IE b=some (dig 2166136261 b):=by
 unfold IE;rw [QP hl];rfl
theorem OA {b:List Int} (hl:b.length<=1099511627776) (hb:Byt b):IV b=some (dig 2166136261 b):=by
 unfold IV;have:=Am FH (λi=>(dig 2166136261 (b.take i),b,(b.length:Int),((i:Nat):Int))) b.length (dig 2166136261 b) (by
  intro i hi;have hlt:(i:Int) < (b.length:Int):=O
  have hd:=XP (b.take i) (h:=2166136261) O;have hx:=hb _ (Akq hi);unfold FH cK gX wI;simp only [hlt,decide_true,Akv,show(0:Int)<=(i:Int) from by omega,Aj4,Aj3 hi,Aj1,show decide (¬ (4294967296:Int)=0)=true from rfl,Aw hl hi,V4 hi,Ag1 hd.1 hd.2 hx.1 hx.2]) (by simp [FH,cK,gX,wI])
 have e:Ab FH (2166136261,b,(b.length:Int),0)=some (dig 2166136261 b):=by simpa [dig] using this
 have hd:=XP b (h:=2166136261) O;rw [e,Aj1,IntKind.wrap_u32]
 congr 1;omega
def Hj (d:Int):List Int:=[IntKind.wrap .u8 (Int.fdiv d (2 ^ (min (Int.toNat 24) (IntKind.bits .u32)))),IntKind.wrap .u8 (Int.fdiv d (2 ^ (min (Int.toNat 16) (IntKind.bits .u32)))),IntKind.wrap .u8 (Int.fdiv d (2 ^ (min (Int.toNat 8) (IntKind.bits .u32)))),IntKind.wrap .u8 d]
theorem UR (d:Int):SA d=some (Hj d):=rfl
theorem AcN {c:List Prt} (h:AH c=true):(enc c).length<=720:=by
 have:=(C6 h).len;have:=(C6 h).put;rw [Tg];omega
theorem ZZ {c:List Prt} (hg:AH c=true):Byt (enc c):=λx hx=>by
 obtain ⟨p,hp,h⟩:=Al6.1 hx;obtain ⟨q1,q2⟩:=ID hg hp;have hk:=AeK p;simp only [Fv,Aka,Akk,Ame,or_false]at h;rcases h with(rfl | rfl) | h
 .omega
 .omega
 .exact YY _ x h
section
variable {f:Int} {t:List UInt8} {r:List Rn} {cs:List (List Prt)}
end
end Go.V.G
set_option maxRecDepth 100000
namespace Go.V.G
open Go.V
def Mk (d:List Int):List Int:=d++List.replicate (124 - d.length) 0
theorem Jn {d:List Int} (h:d.length<=124):(Mk d).length=124:=by unfold Mk;simp;omega
theorem UG {d:List Int} (h:d.length<=124):KW d 124=some (Mk d):=by
 unfold KW Mk cK cZ wI;rw [w64 O O,iy O,(O:Int.toNat ((124:Int) - (d.length:Int))=124 - d.length),Aj7 (by simp only [Aa,decide_eq_true_eq,Ald];omega)]
theorem TD {d:List Int} (h:U8s d):U8s (Mk d):=λv hv=>by
 unfold Mk at hv;rcases Aka.1 hv with hv | hv
 .exact h v hv
 .rw [(List.mem_replicate.1 hv).2];omega
theorem Z7 (d:Int):U8s (Hj d):=λv hv=>by
 simp only [Hj,Akk,Ame,or_false]at hv;rcases hv with rfl | rfl | rfl | rfl <;> exact TX _
def sgn (d:List Int):List Int:=d++Hj (dig 2166136261 d)
theorem AfY (d:List Int):(sgn d).length=d.length+4:=by unfold sgn Hj;simp
def Ri (f hd ev r t:Int):List Int:=[83,84,82,49,f,hd,ev,0,0,r,0,t]
def NU (f hd ev r t:Int):List Int:=sgn (Mk (Ri f hd ev r t))
structure SupOk (f hd ev:Int) (r t:Nat):Prop where
 f:0<=f/\f<=hd
 h:hd<=60
 e:1<=ev/\ev<=30
 r:33<=r/\r<=159
 t:33<=t/\t<=159
theorem Ad7 (f hd ev r t:Int):(NU f hd ev r t).length=128:=by unfold NU;rw [AfY,Jn (by simp [Ri])]
theorem AaA {f hd ev:Int} {r t:Nat} (h:SupOk f hd ev r t):U8s (Ri f hd ev r t):=λv hv=>by
 have h1:=h.f;have h2:=h.h;have h3:=h.e;have h4:=h.r;have h5:=h.t;simp only [Ri,Akk,Ame,or_false]at hv;rcases hv with rfl | rfl | rfl | rfl | rfl | rfl | rfl | rfl | rfl | rfl | rfl | rfl <;> omega
theorem AgM {f hd ev:Int} {r t:Nat} (h:SupOk f hd ev r t):U8s (NU f hd ev r t):=λv hv=>by
 unfold NU sgn at hv;rcases Aka.1 hv with hv | hv
 .exact TD (AaA h) v hv
 .exact Z7 _ v hv
theorem Ab1 {f hd ev:Int} {r t:Nat} (h:SupOk f hd ev r t):EY f hd ev (r:Int) (t:Int)=some (NU f hd ev r t,true):=by
 have h1:=h.f;have h2:=h.h;have h3:=h.e;have h4:=h.r;have h5:=h.t;unfold EY Hg JT cK;rw [iy h1.1,iy h1.2,decide_eq_true h2,Aj1,Aj1,Aj6 Z,AJ,decide_eq_true h3,Aj1,Aj6 Z,AJ,decide_eq_true O,Aj1,Aj1,Aj6 Z,
  AJ,decide_eq_true O,Aj1,Aj1,Aj1]
 dsimp only;rw [Aj6 Z,Ab5 O,Ab5 O,Aj1,Aj1,wub (r:=f) O O,wub (r:=hd) O O,wub (r:=ev) O O,
  Aj7 (by simp [Aa]),Aj7 (by simp [Aa]),UG Z,Aj1,On (by rw [Jn Z];omega),Aj1,UR,Aj1,Aj7 (by
   simp only [Aa,decide_eq_true_eq];rw [Jn Z];simp [Hj])]
 rfl
theorem AbG {f hd ev:Int} {r t:Nat} (h:SupOk f hd ev r t):Kk f hd ev (r:Int) (t:Int)=some (NU f hd ev r t):=by
 have h1:=h.f;have h2:=h.h;have h3:=h.e;have h4:=h.r;have h5:=h.t;unfold Kk cK cZ wI wB;simp only [wub (r:=f) O O,wub (r:=hd) O O,wub (r:=ev) O O,wub (r:=(r:Int)) O O,wub (r:=(t:Int)) O O,w8d (m:=r) O,w8d (m:=t) O];have e:IntKind.wrap .i64 (124 - (List.length [83,84,82,49,f,hd,ev,0,0,(r:Int),0,(t:Int)]:Int))=112:=by
  simp only [Akg,AkB];rw [w64 O O];rfl
 rw [e,iy AjZ,iy AjZ,iy O,Aj7 (by simp [Aa])];have ep:[83,84,82,49,f,hd,ev,0,0,(r:Int),0,(t:Int)]++List.replicate (Int.toNat 112) 0=Mk (Ri f hd ev r t):=rfl;rw [ep,OA (by rw [Jn (by simp [Ri])];omega) (TD (AaA h)),Aj1,iy O,iy O,iy O,Aj7 (by
  simp only [Aa,decide_eq_true_eq];rw [Jn (by simp [Ri])];simp)]
 rfl
end Go.V.G
set_option maxRecDepth 100000
namespace Go.V.G
open Go.V
abbrev Wr:=Int×List Int
section
variable {b:Bls} {x y z d:List Int}
structure GrOk (n:Nat) (g:List Wr):Prop where
 len:g.length<=2100
 at_:∀w∈g,0<=w.1/\w.1 < (n:Int)
 hd:∀w∈g,w.2.length=128
 u8:∀w∈g,U8s w.2
end
end Go.V.G
set_option maxRecDepth 100000
namespace Go.V.G
open Go.V
def hdA (g:List Wr) (k:Nat):List Int:=[76,79,71,49,(g.length:Int)]++(g.take k).flatMap λw=>D7 w.1
theorem M4 (g:List Wr) (k:Nat):(hdA g k).length<=5+2 * k:=by
 unfold hdA;have:((g.take k).flatMap λw=>D7 w.1).length=2 * (g.take k).length:=by
  generalize g.take k=l
  induction l with
  | nil=>rfl
  | cons a l ih=>rw [Alo,Aj9,ih];simp [D7];omega
 rw [Aj9,this,Akb];simp only [Akg,AkB];omega
def dat (g:List Wr) (k:Nat):List Int:=(g.take k).flatMap (·.2)
theorem Rv {g:List Wr} {k:Nat} {w:Wr} (h:g[k]?=some w):dat g (k+1)=dat g k++w.2:=by
 unfold dat;rw [CT h,Alm];simp
theorem V9 {g:List Wr} {k:Nat} {w:Wr} (h:g[k]?=some w):hdA g (k+1)=hdA g k++D7 w.1:=by
 unfold hdA;rw [CT h,Alm,Akd];simp
def hdH (g:List Wr):List Int:=Mk (hdA g g.length)
def N2 (g:List Wr):List Int:=hdH g++Hj (dig (dig 2166136261 (hdH g)) (dat g g.length))
theorem Ah6 (n:Int):U8s (D7 n):=λv hv=>by
 simp only [D7,Akk,Ame,or_false]at hv;rcases hv with rfl | rfl <;> exact TX _
theorem AcM {g:List Wr} (h:g.length<=30):U8s (hdH g):=TD λv hv=>by
 unfold hdA at hv;rcases Aka.1 hv with hv | hv
 .simp only [Akk,Ame,or_false]at hv;rcases hv with rfl | rfl | rfl | rfl | rfl <;> omega
 .obtain ⟨w,_,hw⟩:=Al6.1 hv;exact Ah6 _ v hw
theorem I7 {g:List Wr} (h:g.length<=30):(hdH g).length=124:=Jn (by have:=M4 g g.length;omega)
theorem AeW {g:List Wr} (h:g.length<=30):(N2 g).length=128:=by unfold N2 Hj;rw [Aj9,I7 h];rfl
theorem Agi {g:List Wr} (h:g.length<=30):U8s (N2 g):=λv hv=>by
 unfold N2 at hv;rcases Aka.1 hv with hv | hv
 .exact AcM h v hv
 .exact Z7 _ v hv
theorem Aag (h:Int) (a b:List Int):dig (dig h a) b=dig h (a++b):=by unfold dig;rw [AlI]
def nul:Wr:=(0,[])
def gw (g:List Wr) (k:Nat):Wr:=g[k]?.getD nul
theorem EK {g:List Wr} {k:Nat} (h:k < g.length):g[k]?=some (gw g k):=by unfold gw;rw [Aj3 h];rfl
theorem T0 {n:Nat} {g:List Wr} (h:GrOk n g):∀k,k<=g.length->(dat g k).length=128 * k
 | 0,_=>rfl
 | k+1,hk=>by
  have hg:=EK (g:=g) (k:=k) O;have:=h.hd _ (AkO hg);rw [Rv hg,Aj9,T0 h k O,this];omega
theorem Ahw {n:Nat} {g:List Wr} (h:GrOk n g) (k:Nat):U8s (dat g k):=λv hv=>by
 obtain ⟨w,hw,hv⟩:=Al6.1 hv;exact h.u8 w (AlE hw) v hv
section
variable {n:Nat} {g:List Wr}
theorem Aer (hl:g.length<=30) (d:Int):Aa ((hdH g).length+(Hj d).length) 1=true:=by
 rw [I7 hl,show(Hj d).length=4 from rfl];rfl
theorem Zw (h:GrOk n g) (hn:n<=160) (hl:g.length<=30):Nq g=some (N2 g):=by
 unfold Nq cK wB;have h1:=Am Hq (λk=>(g,hdA g k,g,(g.length:Int),((k:Nat):Int))) g.length (g,hdA g g.length) (λk hk=>by
   have hg:=EK hk;have ha:=h.at_ _ (AkO hg);have hal:=M4 g k;have hr:Aa ((hdA g k).length+(D7 (gw g k).1).length) 1=true:=by
    rw [show(D7 (gw g k).1).length=2 from rfl];simp only [Aa,decide_eq_true_eq];omega
   unfold Hq cK gX wI;dsimp only;rw [iy O,iy O,Aj4,hg,Aj1,AgU O,Aj1,Aj7 hr,Ak O,V9 hg]) (by
   unfold Hq cK gX wI;dsimp only;rw [ino O])
 have e0:hdA g 0=[76,79,71,49,IntKind.wrap .u8 (g.length:Int)]:=by unfold hdA;rw [wub O O];rfl
 rw [<- e0,show Ab Hq (g,hdA g 0,g,(g.length:Int),0)=_ from h1,Aj1];dsimp only;rw [UG (by have:=M4 g g.length;omega),Aj1,show Mk (hdA g g.length)=hdH g from rfl,On (by rw [I7 hl];omega),Aj1];have h2:=Am Ho (λk=>(hdH g,dig (dig 2166136261 (hdH g)) (dat g k),g,(g.length:Int),((k:Nat):Int))) g.length (hdH g,dig (dig 2166136261 (hdH g)) (dat g g.length)) (λk hk=>by
   have hg:=EK hk;have hd:=h.hd _ (AkO hg);unfold Ho gX wI;dsimp only;rw [iy O,iy O,Aj4,hg,Aj1,QP O,Aj1,Ak O,Rv hg,Aag]) (by
   unfold Ho gX wI;dsimp only;rw [ino O])
 have e1:dig (dig 2166136261 (hdH g)) (dat g 0)=dig 2166136261 (hdH g):=by
  generalize dig 2166136261 (hdH g)=q;unfold dat;rw [Amg];rfl
 have h3:Ab Ho (hdH g,dig (dig 2166136261 (hdH g)) (dat g 0),g,(g.length:Int),0)=some (hdH g,dig (dig 2166136261 (hdH g)) (dat g g.length)):=h2;rw [e1]at h3;rw [h3,Aj1];dsimp only;rw [UR,Aj1,Aj7 (Aer hl _)];rfl
theorem YX (h:GrOk n g) (hn:n<=160) (hl:g.length<=30):Kq g=some (N2 g):=by
 have hal':=M4 g g.length;unfold Kq cK cZ wI wB;have h1:=Am FP (λk=>(g,hdA g k,g,(g.length:Int),((k:Nat):Int))) g.length (g,hdA g g.length) (λk hk=>by
   have hg:=EK hk;have ha:=h.at_ _ (AkO hg);have hal:=M4 g k;have hr:Aa ((hdA g k).length+(D7 (gw g k).1).length) 1=true:=by
    rw [show(D7 (gw g k).1).length=2 from rfl];simp only [Aa,decide_eq_true_eq];omega
   unfold FP cK gX wI wB;dsimp only;rw [iy O,iy O,Aj4,hg,Aj1,iy O,AjD O,show([IntKind.wrap .u8 ((gw g k).1 / 256),IntKind.wrap .u8 (gw g k).1]:List Int)=D7 (gw g k).1 from rfl,
    Aj7 hr,Ak O,V9 hg]) (by
   unfold FP cK gX wI wB;dsimp only;rw [ino O])
 have e0:hdA g 0=[76,79,71,49,IntKind.wrap .u8 (g.length:Int)]:=by unfold hdA;rw [wub O O];rfl
 rw [<- e0,show Ab FP (g,hdA g 0,g,(g.length:Int),0)=_ from h1,Aj1];dsimp only;have ew:IntKind.wrap .i64 (124 - (((hdA g g.length).length:Nat):Int))=((124 - (hdA g g.length).length:Nat):Int):=by rw [w64 O O];omega
 rw [ew,iy O,Aj4,show hdA g g.length++List.replicate (124 - (hdA g g.length).length) 0=hdH g from rfl,Aj7 (by simp only [Aa,decide_eq_true_eq,Ald];omega),
  Aj7 (by simp only [Aa,decide_eq_true_eq,AkB];rw [I7 hl];omega),AkC]
 have h2:=Am FO (λk=>(hdH g,hdH g++dat g k,g,(g.length:Int),((k:Nat):Int))) g.length (hdH g,hdH g++dat g g.length) (λk hk=>by
   have hg:=EK hk;have hd:=h.hd _ (AkO hg);have hdl:=T0 h k O;have hhl:=I7 hl;unfold FO cK gX wI;dsimp only;rw [iy O,iy O,Aj4,hg,Aj1,Aj7 (by simp only [Aa,decide_eq_true_eq,Aj9];omega),Ak O,Rv hg,Akd]) (by
   unfold FO cK gX wI;dsimp only;rw [ino O])
 have e1:hdH g++dat g 0=hdH g:=by unfold dat;simp
 rw [e1]at h2;have hdl:=T0 h g.length (Akz _);have hhl:=I7 hl;rw [show Ab FO (hdH g,hdH g,g,(g.length:Int),0)=_ from h2,Aj1];dsimp only;rw [OA (by rw [Aj9];omega) (λv hv=>by
   rcases Aka.1 hv with hv | hv
   .exact AcM hl v hv
   .exact Ahw h _ v hv),Aj1,iy O,iy O,iy O,Aj7 (by simp only [Aa,decide_eq_true_eq];rw [I7 hl];simp),<- Aag]
 rfl
theorem w3 {k:Nat} (h:k<=1048576):IntKind.wrap .i64 (3+(k:Int))=((3+k:Nat):Int):=by rw [w64 O O];omega
end
end Go.V.G
set_option maxRecDepth 100000
namespace Go.V.G
open Go.V
theorem UC:∀(l:List Int) (k:Nat),k < l.length->(l.flatMap D7)[2 * k]?=some (IntKind.wrap .u8 (gb l k / 256))/\(l.flatMap D7)[2 * k+1]?=some (IntKind.wrap .u8 (gb l k))
 | [],k,h=>by simp at h
 | a::l,0,_=>⟨rfl,rfl⟩
 | a::l,k+1,h=>by
  have ih:=UC l k (by simpa using h);have e:(a::l).flatMap D7=IntKind.wrap .u8 (a / 256)::IntKind.wrap .u8 a::l.flatMap D7:=rfl;have g:gb (a::l) (k+1)=gb l k:=rfl;rw [e,g,(O:2 * (k+1)=2 * k+1+1),Ak9,Ak9,Ak9,Ak9];exact ih
theorem Us {kind:Int} {l:List Int} (hl:l.length=32) (hv:V2 l):BS (Dq (pgb kind l))=l:=by
 have key:∀k,k < 32->num (Dq (pgb kind l)) (1+2 * k)=gb l k:=λk hk=>by
  obtain ⟨h1,h2⟩:=UC l k O;have hf:=P0 l;have e:∀j,j < 64->gb (Dq (pgb kind l)) (1+j)=((l.flatMap D7)[j]?).getD 0:=λj hj=>by
   unfold Dq pgb gb;rw [AkW (by rw [Aj9,hf,hl];simp;omega),AkL Z];simp
  have hvv:=hv _ (AkO (Ai (O:k < l.length)));unfold num;rw [(O:1+2 * k+1=1+(2 * k+1)),e (2 * k) O,e (2 * k+1) O,h1,h2,AkM,AkM,IntKind.wrap_u8,IntKind.wrap_u8];omega
 unfold BS;rw [show(List.range 32).map (λk=>num (Dq (pgb kind l)) (1+2 * k))=(List.range 32).map (gb l) from Ak1 λk hk=>key k (AlD.1 hk)];exact Abv hl
theorem UE (kind:Int) (l:List Int):gb (Dq (pgb kind l)) 0=kind:=rfl
theorem UO {kind:Int} {l:List Int} (hl:l.length=32):rz (Dq (pgb kind l)) 65=true:=AhC 65 (Aay kind hl).symm
structure Lf (b:Bls) (x y top:List Int) (root:Int) (k:Nat):Prop where
 lv:liv b x y (gb top k)=true
 kd:gb (blk b (gb top k).toNat) 0=81
 rz:rz (blk b (gb top k).toNat) 65=true
 nz:nz (BS (blk b (gb top k).toNat))=true
 vs:MK b x (BS (blk b (gb top k).toNat))=false
 un:∀j,j < k->gb top j≠gb top k
 rt:root≠0/\liv b x y root=true/\gb (blk b root.toNat) 0=80
theorem Lp {b:Bls} {x y top:List Int} {root:Int} (h:tre b x y root=some top) {k:Nat} (hk:k < 32) (h0:gb top k≠0):Lf b x y top root k:=by
 have htl:=G4 h;unfold tre at h;split at h
 .obtain rfl:=Ali h;exact absurd (Ac8 k) h0
 .rename_i hr;split at h
  .rename_i hc;obtain rfl:=Ali h;simp only [Aj8]at hc;obtain ⟨c1,c2,c3⟩:=hc;have:=all_range.1 c3 k hk;unfold stG at this;rw [decide_eq_false h0,Alk]at this;simp only [Aj8,Akf]at this;obtain ⟨p1,p2,p3,p4⟩:=this;unfold pgB at p1 c1;simp only [Aj8,decide_eq_true_eq]at p1 c1;refine⟨p1.1,p1.2.1,p1.2.2,p2,p4,λj hj he=>?_,hr,c1.1,c1.2.1⟩;rw [Ala]at p3;have hm:gb (IX b root) j∈(IX b root).take k:=by
    have:((IX b root).take k)[j]?=some (gb (IX b root) j):=by rw [Akm hj,Ai O]
    exact AkO this
   have:=p3 _ hm;rw [he]at this;simp at this
  .cases h
theorem Xa {b:Bls} {x y top:List Int} {root:Int} (h:tre b x y root=some top) (h0:root≠0):liv b x y root=true/\gb (blk b root.toNat) 0=80:=by
 unfold tre at h;rw [Aj6 h0]at h;split at h
 .rename_i hc;simp only [Aj8]at hc;have:=hc.1;unfold pgB at this;simp only [Aj8,decide_eq_true_eq]at this;exact⟨this.1,this.2.1⟩
 .cases h
theorem MZ (top:List Int) (l:List Kv):∀k v,v∈MJ top l k->∃j,j < k/\v=gb top j/\gb top j≠0/\oth l j=true
 | 0,v,h=>by cases h
 | k+1,v,h=>by
  simp only [MJ]at h;split at h
  .rename_i ho;unfold goS at h;split at h
   .obtain ⟨j,h1,h2⟩:=MZ top l k v h;exact⟨j,O,h2⟩
   .rename_i hn;rcases Aka.1 h with h | h
    .obtain ⟨j,h1,h2⟩:=MZ top l k v h;exact⟨j,O,h2⟩
    .exact⟨k,O,Akc.1 h,hn,ho⟩
  .obtain ⟨j,h1,h2⟩:=MZ top l k v h;exact⟨j,O,h2⟩
theorem Xh {b:Bls} {x y:List Int} {m:Nat} (h1:33<=m) (h2:m < b.length) (h3:bit x m=true) (h4:(m:Int)∉y):liv b x y (m:Int)=true:=by
 unfold liv;rw [decide_eq_true O,Aj4,h3,decide_eq_false h4];rfl
theorem AhQ {b b':Bls} {x x':List Int} {v:Int} (hb:b'.length=b.length) (hl:b.length<=160) (hx:∀i,i < 160->bit x i=true->bit x' i=true) (h:isb b x v=true):isb b' x' v=true:=by
 unfold isb at h ⊢;simp only [Aj8,decide_eq_true_eq]at h ⊢;rw [hb];exact⟨h.1,hx _ O h.2⟩
theorem Af2 {b:Bls} {x y:List Int} {v:Int} (h:liv b x y v=true):isb b x v=true:=by
 unfold liv at h;unfold isb;simp only [Aj8]at h ⊢;exact⟨h.1,h.2.1⟩
theorem bad_no {b:Bls} {x l:List Int}:MK b x l=false↔∀v∈l,v=0\/isb b x v=true:=by
 unfold MK;rw [Ala];constructor
 .intro h v hv;have:=h v hv;by_cases h0:v=0
  .exact .inl h0
  .right;rw [decide_eq_true h0,Akj]at this;simpa using this
 .intro h v hv;rcases h v hv with h0 | h0
  .rw [decide_eq_false (not_not_intro h0)];simp
  .rw [h0];simp
theorem Agc {b:Bls} {x y top:List Int} {l:List Kv} {root:Int} (ht:tre b x y root=some top) (hl:∀s∈l,s.2=0\/liv b x y s.2=true) {k:Nat} (hk:k < 32):∀v∈av b top l k,v=0\/isb b x v=true:=by
 have h0:∀v∈lfv b (gb top k),v=0\/isb b x v=true:=by
  unfold lfv;split
  .intro v hv;exact .inl (AlK hv)
  .rename_i hn;exact bad_no.1 (Lp ht hk hn).vs
 unfold av;have key:∀(l:List Kv) (w:List Int),(∀v∈w,v=0\/isb b x v=true)->(∀s∈l,s.2=0\/liv b x y s.2=true)->∀v∈l.foldl (upd k) w,v=0\/isb b x v=true:=by
  intro l
  induction l with
  | nil=>intro w h _;exact h
  | cons s l ih=>
   intro w h hs;rw [Alz];refine ih _ ?_ λs' h'=>hs s' (by simp [h'])
   unfold upd;split
   .intro v hv;rcases Ak7 hv with hv | rfl
    .exact h v hv
    .exact(hs s Z).imp id Af2
   .exact h
 exact key l _ h0 hl
structure Tn (b:Bls) (x y z top:List Int) (l:List Kv) (root at_:Int) (b':Bls) (x' y' z':List Int):Prop where
 gs:GS b' x' y' z'
 bu:∀c∈b',U8s c
 bl:b'.length=b.length
 ux:U8s x'
 tr:∃nx,tre b' x' y' at_=some nx/\∀k,k < 32->lfv b' (gb nx k)=av b top l k
 ot:∀i,i < 160->bit x i=true->blk b' i=blk b i
theorem Sk.tn {b b':Bls} {x y z top x' y' z':List Int} {l:List Kv} {root at_:Int} (g:GS b x y z) (hu:∀c∈b,U8s c) (ht:tre b x y root=some top) (hs:Aa4 b x y l=true) (s:Sk b x y z top l root at_ b' x' y' z'):Tn b x y z top l root at_ b' x' y' z':=by
 obtain ⟨hl64,hk,hlv,_⟩:=AgB hs;have hb:=g.hb;have htl:=G4 ht;have htv:=Ais hu ht;obtain ⟨hyr,hyl⟩:=g.ylen;obtain ⟨yr',yl',ym'⟩:=s.yl hyr O;have hw:=s.wk;obtain ⟨nx,b1,x1,z1,q1,tv,hq1,_,hnn,hend⟩:=s.ex;have hnl:=tv.nl;have hnv:=Aiy hb.2 htv htl tv;have hyb:∀v∈y,∃m:Nat,v=(m:Int)/\(33<=m/\m < b.length)/\bit x m=true:=λv hv=>by
  obtain ⟨i,hi,rfl⟩:=AkG hv;have:=(Gg g.hy).2 i hi;exact⟨(y[i]).toNat,O,O,this.2.2⟩
 have hgone:∀v∈y',∃m:Nat,v=(m:Int)/\(33<=m/\m < b.length)/\bit x m=true:=λv hv=>by
  rcases (ym' v).1 hv with hv | hv
  .exact hyb v hv
  .rcases Aka.1 hv with hv | hv
   .obtain ⟨j,hj,rfl,hn,_⟩:=MZ _ _ _ _ hv;obtain ⟨m,e,h1,h2,h3,_⟩:=Cd (Lp ht hj hn).lv;exact⟨m,e,⟨h1,h2⟩,h3⟩
   .unfold rtL at hv;split at hv
    .cases hv
    .rename_i hr;rw [Akc]at hv;subst hv;obtain ⟨m,e,h1,h2,h3,_⟩:=Cd (Xa ht hr).1;exact⟨m,e,⟨h1,h2⟩,h3⟩
 have hup:(∀i,i < 160->bit x1 i=true->bit x' i=true)/\(∀i,i < 160->bit x1 i=true->blk b' i=blk b1 i)/\(∀c∈b',U8s c)/\(∀v∈z',v∈z1\/∃m:Nat,v=(m:Int)/\(33<=m/\m < b.length)/\bit x' m=true)/\(∀i,b.length<=i->i < 160->bit x' i=bit x1 i):=by
  rcases hend with⟨_,_,rfl,rfl,rfl⟩ | ⟨_,m,_,hm,hbm,rfl,rfl,rfl,_,_⟩
  .exact⟨λi _ h=>h,λi _ _=>rfl,tv.bu,λv hv=>.inl hv,λi _ _=>rfl⟩
  .have hx1:=tv.wk.hx;have hb1:=tv.wk.hb;have hz1:=tv.wk.hz;have hbit:∀i,i < 160->bit (setB x1 m) i=(decide (i=m) || bit x1 i):=λi hi=>Qj tv.wk.hu O O
   obtain ⟨_,_,z3,z4,z5⟩:=Md (z:=z1) O tv.wk.hr (m:Int);obtain ⟨_,_,_,_,y5⟩:=Md (z:=pt z1 (m:Int)) O z4 (m:Int);refine⟨λi hi h=>by rw [hbit i hi,h,Amo],λi hi h=>?_,λc hc=>?_,λv hv=>?_,λi h1 h2=>by rw [hbit i h2,decide_eq_false (O:¬ i=m),Alk]⟩
   .have him:m≠i:=by rintro rfl;rw [hbm]at h;cases h
    rw [Ka him,Ka him]
   .rcases Ak7 hc with hc | rfl
    .rcases Ak7 hc with hc | rfl
     .exact tv.bu c hc
     .exact Yk
    .exact Ac4 O
   .have key:v∈z1\/v=(m:Int):=by
     rcases (y5 v).1 hv with hv | hv
     .exact(z5 v).1 hv
     .exact .inr hv
    rcases key with hv | rfl
    .exact .inl hv
    .exact .inr ⟨m,rfl,hm,by rw [hbit m O];simp⟩
 obtain ⟨up1,up2,up3,up4,up5⟩:=hup;have hx':∀i,i < 160->bit x i=true->bit x' i=true:=λi hi h=>up1 i hi (tv.ot i hi h).2
 have hblk:∀i,i < 160->bit x i=true->blk b' i=blk b i:=λi hi h=>by
  have:=tv.ot i hi h;rw [up2 i hi this.2];exact this.1
 have hbl:b'.length=b.length:=hw.hb;have hfree:∀m:Nat,bit x m=false->((m:Nat):Int)∉y':=λm hm hh=>by
  obtain ⟨m',e,_,h⟩:=hgone _ hh;obtain rfl:m=m':=O
  rw [hm]at h;cases h
 have hgs:GS b' x' y' z':=by
  refine⟨by rw [hbl];exact hb,hw.hx,hw.hk,λi hi=>?_,?_,?_⟩
  .rw [hbl];have hg:=g.hbits i hi;unfold bG at hg ⊢;by_cases h33:i < 33
   .have hl:=hw.hlow i h33;rw [hl,decide_eq_false (O:¬ b.length<=i)];simp
   .by_cases hin:b.length<=i
    .rw [up5 i hin hi,tv.hi i hin hi];rw [decide_eq_false h33]at hg ⊢;exact hg
    .rw [decide_eq_false h33,decide_eq_false hin];simp
  .rw [hbl];refine MX yr' λv hv=>?_
   obtain ⟨m,rfl,hm,hbm⟩:=hgone v hv;exact⟨O,O,by rw [Aj4];exact hx' m O hbm⟩
  .rw [hbl];refine MX hw.hr λv hv=>?_
   have hnew:∀m:Nat,(33<=m/\m < b.length)->bit x' m=true->33<=((m:Nat):Int)/\((m:Nat):Int)<=(b.length:Int) - 1/\bit x' (((m:Nat):Int)).toNat=true:=λm hm h=>⟨O,O,by rw [Aj4];exact h⟩
   rcases up4 v hv with hv | ⟨m,rfl,hm,h⟩
   .rcases tv.zm v hv with hv | ⟨m,rfl,hm,h⟩
    .obtain ⟨i,hi,rfl⟩:=AkG hv;have:=(Gg g.hz).2 i hi;exact⟨this.1,this.2.1,hx' _ O this.2.2⟩
    .exact hnew m hm (up1 m O h)
   .exact hnew m hm h
 refine⟨hgs,up3,hbl,hw.hu,?_,hblk⟩;have hleaf:∀k,k < 32->lfv b' (gb nx k)=av b top l k:=λk hk32=>by
  cases ho:oth l k with
  | false=>
   rw [AfM ho,tv.st k hk32 (.inr ho)];unfold lfv;split
   .rfl
   .rename_i hn;have lf:=Lp ht hk32 hn;obtain ⟨m,e,h1,h2,h3,_⟩:=Cd lf.lv;rw [e,Aj4,hblk m O h3]
  | true=>
   cases hz:nz (av b top l k)with
   | false=>
    rw [tv.dz k hk32 ho hz];unfold lfv;rw [Aj7 rfl];have hal:=SK b top l k;have hall:∀v∈av b top l k,v=0:=λv hv=>by
     unfold nz at hz;rw [Ala]at hz;have:=hz v hv;simpa using this
    refine(List.eq_replicate_iff.2 ⟨hal,hall⟩).symm
   | true=>
    obtain ⟨m,e,hm,_,h3,h4⟩:=tv.dn k hk32 ho hz;unfold lfv;rw [e,Aj6 O,Aj4,up2 m O h3,h4,Us (SK b top l k) (AiC hu (λs hs=>Aii hb.2 (hlv s hs)) k)]
 have hst:∀k,k < 32->stG b' x' y' nx k=true:=λk hk32=>by
  unfold stG;by_cases h0:gb nx k=0
  .rw [decide_eq_true h0,Bool.true_or]
  rw [decide_eq_false h0,Alk];have hlk:=hleaf k hk32;have hpn:BS (blk b' (gb nx k).toNat)=av b top l k:=by
   rw [<- hlk];unfold lfv;rw [Aj6 h0]
  rw [hpn];have hbad:MK b' x' (av b top l k)=false:=bad_no.2 λv hv=>(Agc ht hlv hk32 v hv).imp id (AhQ hbl hb.2 hx')
  rw [hbad];have hne:∀j,j < k->gb nx j≠gb nx k->True:=λ_ _ _=>trivial
  have hun:(∀j,j < k->gb nx j≠gb nx k)->((nx.take k).any λv=>decide (v=gb nx k))=false:=λh=>by
   rw [Ala];intro v hv;obtain ⟨j,hj,rfl⟩:=AkG hv;rw [Akb]at hj;rw [List.getElem_take];have:=h j O;unfold gb at this;rw [Aj3 O,AkM]at this;unfold gb;simpa using this
  have hwhat:∀j,j < 32->gb nx j≠0->(∃m:Nat,gb nx j=(m:Int)/\bit x m=false)\/(gb nx j=gb top j/\gb top j≠0/\oth l j=false):=λj hj hjn=>by
   cases ho:oth l j with
   | false=>
    have:=tv.st j hj (.inr ho);exact .inr ⟨this,by rw [<- this];exact hjn,rfl⟩
   | true=>
    cases hz:nz (av b top l j)with
    | false=>exact absurd (tv.dz j hj ho hz) hjn
    | true=>obtain ⟨m,e,_,hx0,_,_⟩:=tv.dn j hj ho hz;exact .inl ⟨m,e,hx0⟩
  cases ho:oth l k with
  | true=>
   cases hz:nz (av b top l k)with
   | false=>exact absurd (tv.dz k hk32 ho hz) h0
   | true=>
    obtain ⟨m,e,hm,hx0,h3,h4⟩:=tv.dn k hk32 ho hz;have hb4:blk b' m=Dq (pgb 81 (av b top l k)):=by rw [up2 m O h3];exact h4
    have hp:pgB b' x' y' (gb nx k) 81=true:=by
     unfold pgB;rw [e,Aj4,hb4,Xh O O (up1 m O h3) (hfree m hx0),decide_eq_true (UE 81 _),UO (SK b top l k)];rfl
    have hd:=hun λj hj he=>by
     have hj0:gb nx j≠0:=by rw [he];exact h0
     rcases hwhat j O hj0 with⟨m2,e2,hx2⟩ | ⟨e2,hn2,_⟩
     .cases hoj:oth l j with
      | false=>
       have:=tv.st j O (.inr hoj);rw [this]at hj0;obtain ⟨m3,e3,_,_,h3x,_⟩:=Cd (Lp ht O hj0).lv;rw [this,e3]at e2;obtain rfl:m3=m2:=O
       rw [hx2]at h3x;cases h3x
      | true=>
       cases hzj:nz (av b top l j)with
       | false=>exact absurd (tv.dz j O hoj hzj) hj0
       | true=>exact tv.ds j k hj hk32 hoj ho hzj hz he
     .obtain ⟨m3,e3,_,_,h3x,_⟩:=Cd (Lp ht (O:j < 32) hn2).lv;rw [e2,e3,e]at he;obtain rfl:m3=m:=O
      rw [hx0]at h3x;cases h3x
    rw [hp,hd];rfl
  | false=>
   have e:=tv.st k hk32 (.inr ho);have hn:gb top k≠0:=by rw [<- e];exact h0
   have lf:=Lp ht hk32 hn;obtain ⟨m,em,h1,h2,h3,h4⟩:=Cd lf.lv;have hz:nz (av b top l k)=true:=by rw [AfM ho];unfold lfv;rw [Aj6 hn];exact lf.nz
   have hny:(m:Int)∉y':=λhh=>by
    rcases (ym' _).1 hh with hh | hh
    .exact h4 hh
    .rcases Aka.1 hh with hh | hh
     .obtain ⟨j,hj,ej,hnj,hoj⟩:=MZ _ _ _ _ hh;have hjk:j≠k:=by rintro rfl;rw [ho]at hoj;cases hoj
      rcases Nat.lt_or_gt_of_ne hjk with hl | hl
      .exact lf.un j hl (by rw [<- ej,em])
      .exact(Lp ht hj hnj).un k hl (by rw [<- ej,em])
     .unfold rtL at hh;split at hh
      .cases hh
      .rw [Akc]at hh;have hk80:=lf.rt.2.2;have hk81:=lf.kd;rw [em,Aj4]at hk81;rw [<- hh,Aj4,hk81]at hk80;omega
   have hbe:=hblk m O h3;have hp:pgB b' x' y' (gb nx k) 81=true:=by
    have hkd:=lf.kd;have hrz:=lf.rz;rw [em,Aj4]at hkd hrz;unfold pgB;rw [e,em,Aj4,hbe,Xh h1 O (hx' m O h3) hny,decide_eq_true hkd,hrz];rfl
   have hd:=hun λj hj he=>by
    have hj0:gb nx j≠0:=by rw [he];exact h0
    rcases hwhat j O hj0 with⟨m2,e2,hx2⟩ | ⟨e2,hn2,_⟩
    .rw [e2,e,em]at he;obtain rfl:m2=m:=O
     rw [hx2]at h3;cases h3
    .exact lf.un j hj (by rw [<- e2,he,e])
   rw [hp,hz,hd];rfl
 rcases hend with⟨hz,rfl,rfl,rfl,rfl⟩ | ⟨hz,m,rfl,hm,hbm,rfl,rfl,rfl,_,_⟩
 .refine⟨zer,by unfold tre;rw [Aj7 rfl],λk hk32=>?_⟩;have hall:∀v∈nx,v=0:=λv hv=>by
   unfold nz at hz;rw [Ala]at hz;have:=hz v hv;simpa using this
  have:nx=zer:=List.eq_replicate_iff.2 ⟨hnl,hall⟩;rw [<- this];exact hleaf k hk32
 .have hb1:=tv.wk.hb;have hbk:blk ((b1.set m HK).set m (Dq (pgb 80 nx))) m=Dq (pgb 80 nx):=RL (by rw [Ak5];omega);have htop:IX ((b1.set m HK).set m (Dq (pgb 80 nx))) (m:Int)=nx:=by
   unfold IX;rw [Aj4,hbk,Us hnl hnv]
  have hx0:bit x m=false:=by
   cases h:bit x m with
   | false=>rfl
   | true=>have:=(tv.ot m O h).2;rw [hbm]at this;cases this
  have hx1:=tv.wk.hx;have hbit:bit (setB x1 m) m=true:=by rw [Qj tv.wk.hu O O];simp
  refine⟨nx,?_,hleaf⟩;unfold tre;rw [Aj6 O,htop];have hp:pgB ((b1.set m HK).set m (Dq (pgb 80 nx))) (setB x1 m) y' (m:Int) 80=true:=by
   unfold pgB;rw [Aj4,hbk,Xh O O hbit (hfree m hx0),decide_eq_true (UE 80 _),UO hnl];rfl
  rw [hp,hz,all_range.2 hst];rfl
end Go.V.G
set_option maxRecDepth 100000
namespace Go.V.G
open Go.V
theorem AfD {b:Bls} (hb:b.length<=160) (hk:∀c∈b,c.length=128):Bd b:=⟨O,λc hc=>by have:=hk c hc;omega⟩
section
variable {b b':Bls} {x y z:List Int} {wr lf f hd ev:Int} {rt tx:Nat}
end
section
variable {b:Bls} {wr lf ev f:Int} {on:Bool} {t:List UInt8} {r:List Rn} {cs:List (List Prt)}
def okM (b:Bls) (wr lf ev f:Int) (t:List UInt8) (r:List Rn) (cs:List (List Prt)):Prop:=gd b wr lf=true/\wr<=999999900/\(1<=ev/\ev<=30)/\Fl f t r cs=true/\cs.length=0
end
end Go.V.G
set_option maxRecDepth 100000
namespace Go.V.G
open Go.V
theorem J0 {b:Bls} {wr lf:Int} (h:gd b wr lf=true):(40<=b.length/\b.length<=160)/\∀c∈b,c.length=128:=by
 unfold gd at h;simp only [Aj8,decide_eq_true_eq,Akx,beq_iff_eq]at h;exact⟨h.1,h.2.1⟩
theorem wr2 {a c:Nat} (ha:a<=1000) (hc:c<=1000):IntKind.wrap .i64 (IntKind.wrap .i64 ((a:Int)+(c:Int))+2)=((a+c+2:Nat):Int):=by
 rw [w64 (n:=(a:Int)+(c:Int)) O O,w64 O O];omega
section
variable {b:Bls} {wr lf ev f:Int} {t:List UInt8} {r:List Rn} {cs:List (List Prt)}
end
end Go.V.G
set_option maxRecDepth 100000
namespace Go.V.G
open Go.V
theorem H0 {σ τ ρ:Type} (L:σ->Option (σ⊕(τ⊕ρ))) (st:Nat->σ) (p:Nat->Bool) (e:ρ) (z:τ) (n:Nat)
  (step:∀i,i < n->L (st i)=some (if p i=true then .inl (st (i+1))else .inr (.inr e))) (last:L (st n)=some (.inr (.inl z))) :
  Ab L (st 0)=some (if(List.range n).all p=true then .inl z else .inr e):=by
 rcases BR L st p (λ_=>e) z n step last with⟨ha,hlp⟩ | ⟨k,hk,hp,_,hlp⟩
 .rw [hlp,Aj7 (all_range.2 ha)]
 .rw [hlp,Aj6 (λh=>by rw [all_range.1 h k hk]at hp;cases hp)]
def gG (n:Nat) (g:List Wr) (i:Nat):Bool:=decide ((gw g i).1=0\/(gw g i).1=1\/33<=(gw g i).1/\(gw g i).1<=(n:Int) - 1) && (decide ((gw g i).2.length=128) && (decide (i=0) || decide ((gw g (i - 1)).1 < (gw g i).1)))
def grB (n:Nat) (g:List Wr):Bool:=decide (1<=g.length/\g.length<=30) && (List.range g.length).all (gG n g)
theorem Af6 {n:Nat} (hn:n<=1048576) (a:Int):Sz a (n:Int)=some (decide (a=0\/a=1\/33<=a/\a<=(n:Int) - 1)):=by
 unfold Sz wI;rw [w64 O O,Cb];by_cases h0:a=0 <;> by_cases h1:a=1 <;> simp [h0,h1]
theorem Aa1 {n:Nat} {g:List Wr} (hn:n<=1048576) (hg:g.length<=1048576):L3 g (n:Int)=some (grB n g):=by
 unfold L3 grB;rw [Cb,Aj1];by_cases hl:1<=g.length/\g.length<=30
 .rw [decide_eq_true (show(1:Int)<=(g.length:Int)/\(g.length:Int)<=30 by omega),decide_eq_true hl];have h:=H0 Gs (λi=>(g,(n:Int),g,(g.length:Int),((i:Nat):Int))) (gG n g) false () g.length (λi hi=>by
   unfold Gs gG gX wI;dsimp only;rw [iy O,iy O,Aj4,EK hi,Aj1,Af6 hn,Aj1];have hix:=Ak (i:=i) O;by_cases h1:(gw g i).1=0\/(gw g i).1=1\/33<=(gw g i).1/\(gw g i).1<=(n:Int) - 1
   .rw [decide_eq_true h1];by_cases h2:(gw g i).2.length=128
    .rw [ino (O:¬ ¬ (((gw g i).2.length:Nat):Int)=128),decide_eq_true h2];by_cases h3:i=0
     .subst h3;simp [show IntKind.wrap .i64 1=1 from w64 O O]
     .rw [iy (show(0:Int) < (i:Int) by omega),im1 O O,iy O,Aj4,EK O,decide_eq_false h3];by_cases h4:(gw g (i - 1)).1 < (gw g i).1
      .rw [decide_eq_true h4];simp [(O:¬ (gw g i).1<=(gw g (i - 1)).1),hix]
      .rw [decide_eq_false h4];simp [show(gw g i).1<=(gw g (i - 1)).1 by omega]
    .rw [iy (O:¬ (((gw g i).2.length:Nat):Int)=128),decide_eq_false h2];rfl
   .rw [decide_eq_false h1];rfl) (by
   unfold Gs gX wI;dsimp only;rw [ino O])
  rw [show Ab Gs (g,(n:Int),g,(g.length:Int),0)=_ from h];cases (List.range g.length).all (gG n g) <;> rfl
 .rw [decide_eq_false (O:¬ ((1:Int)<=(g.length:Int)/\(g.length:Int)<=30)),decide_eq_false hl];rfl
def gI (g:List Wr) (i:Nat):Bool:=decide (0<=(gw g i).1/\(gw g i).1 < 160/\¬ (1 < (gw g i).1/\(gw g i).1 < 33)) && ((decide (i=0) || decide ((gw g (i - 1)).1 < (gw g i).1)) && decide ((gw g i).2.length=128))
theorem Yx {g:List Wr} (hg:g.length<=1048576):LG g=some ((List.range g.length).all (gI g) && decide (1<=g.length/\g.length<=30)):=by
 unfold LG;have h:=H0 F9 (λi=>(g,g,(g.length:Int),((i:Nat):Int))) (gI g) false g g.length (λi hi=>by
  unfold F9 gI gX wI;dsimp only;rw [iy O,iy O,Aj4,EK hi,Aj1];by_cases h1:(gw g i).1 < 0
  .rw [iy h1,decide_eq_false (O:¬ (0<=(gw g i).1/\(gw g i).1 < 160/\¬ (1 < (gw g i).1/\(gw g i).1 < 33)))];rfl
  .rw [ino h1];by_cases h2:(160:Int)<=(gw g i).1
   .rw [iy h2,decide_eq_false (O:¬ (0<=(gw g i).1/\(gw g i).1 < 160/\¬ (1 < (gw g i).1/\(gw g i).1 < 33)))];rfl
   .rw [ino h2];have key:(if decide ((0:Int) < (i:Int))=true then
      (if decide ((0:Int)<=IntKind.wrap .i64 ((i:Int) - 1))=true then
       Option.bind (g[Int.toNat (IntKind.wrap .i64 ((i:Int) - 1))]?) λr2=>
        if decide ((gw g i).1<=r2.1)=true then some (g,g,(g.length:Int),(i:Int),true)else some (g,g,(g.length:Int),(i:Int),decide (¬ (((gw g i).2.length:Nat):Int)=128))
      else none)else some (g,g,(g.length:Int),(i:Int),decide (¬ (((gw g i).2.length:Nat):Int)=128))) =
      some (g,g,(g.length:Int),(i:Int),!((decide (i=0) || decide ((gw g (i - 1)).1 < (gw g i).1)) && decide ((gw g i).2.length=128))):=by
     have e:decide (¬ (((gw g i).2.length:Nat):Int)=128) = !decide ((gw g i).2.length=128):=by
      by_cases h:(gw g i).2.length=128 <;> simp [h];omega
     by_cases h3:i=0
     .subst h3;rw [e];simp
     .rw [iy (show(0:Int) < (i:Int) by omega),im1 O O,iy O,Aj4,EK O,Aj1,decide_eq_false h3,e];by_cases h4:(gw g (i - 1)).1 < (gw g i).1
      .rw [decide_eq_true h4,ino O];simp
      .rw [decide_eq_false h4,iy O];simp
    have fin:decide (0<=(gw g i).1/\(gw g i).1 < 160/\¬ (1 < (gw g i).1/\(gw g i).1 < 33)) = !(decide (1 < (gw g i).1) && decide ((gw g i).1 < 33)):=by
     by_cases h3:1 < (gw g i).1 <;> by_cases h4:(gw g i).1 < 33 <;> simp [h3,h4] <;> omega
    rw [fin];by_cases h3:1 < (gw g i).1
    .rw [iy h3,decide_eq_true h3];by_cases h4:(gw g i).1 < 33
     .rw [iy h4,decide_eq_true h4];rfl
     .rw [ino h4,decide_eq_false h4,key,Aj1];dsimp only;rw [Ak O];cases ((decide (i=0) || decide ((gw g (i - 1)).1 < (gw g i).1)) && decide ((gw g i).2.length=128)) <;> rfl
    .rw [ino h3,decide_eq_false h3,key,Aj1];dsimp only;rw [Ak O];cases ((decide (i=0) || decide ((gw g (i - 1)).1 < (gw g i).1)) && decide ((gw g i).2.length=128)) <;> rfl) (by
  unfold F9 gX wI;dsimp only;rw [ino O])
 rw [show Ab F9 (g,g,(g.length:Int),0)=_ from h];have e:decide ((1:Int)<=(g.length:Int)/\(g.length:Int)<=30)=decide (1<=g.length/\g.length<=30):=decide_eq_decide.2 O;cases (List.range g.length).all (gI g)with
 | true=>rw [Aj7 rfl,Aj1];dsimp only;rw [AJ,e];rfl
 | false=>rfl
theorem AiF {g:List Wr} {w:Wr} (h:w∈g):∃i,i < g.length/\gw g i=w:=by
 obtain ⟨i,hi,rfl⟩:=AkG h;exact⟨i,hi,by have:=EK hi;rw [Aj3 hi]at this;injection this with this;exact this.symm⟩
theorem AdG {n:Nat} {g:List Wr} (hn:40<=n) (h:grB n g=true) (hu:∀w∈g,U8s w.2):GrOk n g/\1<=g.length/\g.length<=30:=by
 simp only [grB,Aj8,decide_eq_true_eq]at h;obtain ⟨h1,h2⟩:=h;have h3:=all_range.1 h2;have at_:∀w∈g,(0<=w.1/\w.1 < (n:Int))/\w.2.length=128:=λw hw=>by
  obtain ⟨i,hi,rfl⟩:=AiF hw;have:=h3 i hi;simp only [gG,Aj8,decide_eq_true_eq]at this;exact⟨O,this.2.1⟩
 exact⟨⟨O,λw hw=>(at_ w hw).1,λw hw=>(at_ w hw).2,hu⟩,h1⟩
theorem S7 {bl:Bls} {wr lf:Int} (on:Bool) {g:List Wr} (hd:gd bl wr lf=true) (hg:g.length<=1048576):JF bl wr on lf g=some (grB bl.length g):=by
 obtain ⟨hb,-⟩:=J0 hd;unfold JF gX wI;rw [Jl O,hd,Aj1,Aj7 rfl,Yx hg,Aj1];by_cases hl:1<=g.length/\g.length<=30
 .cases hi:(List.range g.length).all (gI g)with
  | false=>
   rw [Als];have:grB bl.length g=false:=by
    rw [Bool.eq_false_iff];intro h;simp only [grB,Aj8,decide_eq_true_eq]at h;have h3:=all_range.1 h.2;have:(List.range g.length).all (gI g)=true:=all_range.2 λi hi=>by
     have:=h3 i hi;simp only [gG,Aj8,decide_eq_true_eq]at this;simp only [gI,Aj8,decide_eq_true_eq];exact⟨O,this.2.2,this.2.1⟩
    rw [hi]at this;cases this
   rw [this];rfl
  | true=>
   have h3:=all_range.1 hi;have h4:∀i,i < g.length->(0<=(gw g i).1/\(gw g i).1 < 160/\¬ (1 < (gw g i).1/\(gw g i).1 < 33))/\(i=0\/(gw g (i - 1)).1 < (gw g i).1)/\(gw g i).2.length=128:=λi hi=>by
    have:=h3 i hi;simp only [gI,Aj8,Alj,decide_eq_true_eq]at this;exact⟨this.1,this.2.1,this.2.2⟩
   rw [Akj,decide_eq_true hl,Aj7 rfl,im1 O O,iy O,Aj4,EK O,Aj1];unfold NX wI;rw [AJ,w64 O O];have up:∀d i,i+d < g.length->(gw g i).1<=(gw g (i+d)).1:=by
    intro d
    induction d with
    | zero=>intro i _;exact Ale _
    | succ d ih=>
     intro i h;have h5:=ih i O;have h6:=(h4 (i+(d+1)) h).2.1;rw [(O:i+(d+1) - 1=i+d)]at h6;rcases h6 with h6 | h6
     .omega
     .omega
   have e:grB bl.length g=decide (0<=(gw g (g.length - 1)).1/\(gw g (g.length - 1)).1<=(bl.length:Int) - 1):=by
    unfold grB;rw [decide_eq_true hl,Akj];have h0:=h4 (g.length - 1) O;by_cases hlast:(gw g (g.length - 1)).1<=(bl.length:Int) - 1
    .rw [decide_eq_true (show 0<=(gw g (g.length - 1)).1/\(gw g (g.length - 1)).1<=(bl.length:Int) - 1 from⟨h0.1.1,hlast⟩)];refine all_range.2 λi hi=>?_
     have h5:=h4 i hi;have h6:=up (g.length - 1 - i) i O;rw [(O:i+(g.length - 1 - i)=g.length - 1)]at h6;simp only [gG,Aj8,Alj,decide_eq_true_eq];exact⟨O,h5.2.2,h5.2.1⟩
    .rw [decide_eq_false (λh=>hlast h.2),Bool.eq_false_iff];intro h;have:=all_range.1 h (g.length - 1) O;simp only [gG,Aj8,decide_eq_true_eq]at this;omega
   rw [e];rfl
 .have:grB bl.length g=false:=by unfold grB;rw [decide_eq_false hl,Als]
  rw [this,decide_eq_false hl,Amb];rfl
def wGr (bl:Bls):List Wr:=(List.range (gb (blk bl 2) 4).toNat).map λk=>(num (blk bl 2) (5+2 * k),blk bl (3+k))
theorem ZE (bl:Bls):(wGr bl).length=(gb (blk bl 2) 4).toNat:=by simp [wGr]
theorem Ado {bl:Bls} (hu:∀c∈bl,U8s c):∀w∈wGr bl,U8s w.2:=λw hw=>by
 simp only [wGr,Ako]at hw;obtain ⟨k,_,rfl⟩:=hw;intro v hv;by_cases h:3+k < bl.length
 .exact hu _ (BB h) v hv
 .simp only [blk]at hv;rw [Akr O]at hv;simp at hv
def wts (bl:Bls):List Wr:=if(decide (1<=gb (blk bl 2) 4/\gb (blk bl 2) 4<=30) && (grB bl.length (wGr bl) && (N2 (wGr bl) == blk bl 2)))=true then wGr bl else []
theorem NV {α:Type} (f:Nat->α) (k:Nat):(List.range (k+1)).map f=(List.range k).map f++[f k]:=by rw [AlF,AkJ];rfl
theorem Gd {bl:Bls} {wr lf:Int} (on:Bool) (hd:gd bl wr lf=true) (hu:∀c∈bl,U8s c):JH bl wr on lf=some (wts bl):=by
 obtain ⟨hb,hk⟩:=J0 hd;have u2:=hu _ (BB (O:2 < bl.length));have l2:=hk _ (BB (O:2 < bl.length));have h4:=DE u2 4;unfold JH wts gX;rw [show bl[Int.toNat 2]?=some (blk bl 2) from Bp O,Aj1,show(blk bl 2)[Int.toNat 4]?=some (gb (blk bl 2) 4) from Ai O,Aj1,Cb,w64 O O,Aj1];by_cases hn:1<=gb (blk bl 2) 4/\gb (blk bl 2) 4<=30
 .rw [decide_eq_true hn];obtain ⟨n,hn'⟩:=Akw h4.1;have hwl:=ZE bl;rw [hn',Aj4]at hwl;have h:=Am EQ (λk=>(blk bl 2,(n:Int),(List.range k).map (λk=>(num (blk bl 2) (5+2 * k),blk bl (3+k))),((k:Nat):Int),bl,wr,on,lf)) n (blk bl 2,wGr bl,bl,wr,on,lf) (λk hk'=>by
   have e1:IntKind.wrap .i64 (5+(IntKind.wrap .i64 (2 * (k:Int))))=((5+2 * k:Nat):Int):=by rw [w64 (n:=2 * (k:Int)) O O,w64 O O];omega
   have e2:IntKind.wrap .i64 (6+(IntKind.wrap .i64 (2 * (k:Int))))=((5+2 * k+1:Nat):Int):=by rw [w64 (n:=2 * (k:Int)) O O,w64 O O];omega
   have e3:IntKind.wrap .i64 (3+(k:Int))=((3+k:Nat):Int):=by rw [w64 O O];omega
   have l3:=hk _ (BB (O:3+k < bl.length));have q1:=DE u2 (5+2 * k);have q2:=DE u2 (5+2 * k+1);unfold EQ cK gX wI;dsimp only;rw [iy O,e1,e2,e3,iy O,Aj4,Ai O,Aj1,iy O,Aj4,Ai O,Aj1,iy O,Aj4,Bp O,Aj1,
    Aj7 (by simp only [Aa,decide_eq_true_eq,AkB];omega),Aj7 (by simp only [Aa,decide_eq_true_eq,Aky,List.length_range,Ake];omega),Ak O,SD q1 q2,NV]
   rfl) (by
   unfold EQ cK gX wI;dsimp only;rw [ino O];unfold wGr;rw [hn',Aj4])
  rw [hn',show Ab EQ (blk bl 2,(n:Int),[],0,bl,wr,on,lf)=_ from h];simp only [AkT,Akh,AkI,Aj1,Akj];rw [Aa1 O O,Aj1];cases hg:grB bl.length (wGr bl)with
  | false=>rfl
  | true=>
   obtain ⟨g1,g2,g3⟩:=AdG O hg (Ado hu);rw [YX g1 O g3];simp only [AkT,Akh,AkI,Aj1,Akj];rw [Rf (Agi g3) u2];cases (N2 (wGr bl) == blk bl 2) <;> rfl
 .rw [decide_eq_false hn];rfl
theorem Lv {bl:Bls} {wr lf:Int} (on:Bool) (hd:gd bl wr lf=true) (hu:∀c∈bl,U8s c):GQ bl wr on lf=some (wts bl):=by
 obtain ⟨hb,hk⟩:=J0 hd;have u2:=hu _ (BB (O:2 < bl.length));have l2:=hk _ (BB (O:2 < bl.length));have h4:=DE u2 4;unfold GQ wts gX;rw [show bl[Int.toNat 2]?=some (blk bl 2) from Bp O,Aj1,show(blk bl 2)[Int.toNat 4]?=some (gb (blk bl 2) 4) from Ai O,Aj1,AJ,w64 O O,Aj1];by_cases hn:1<=gb (blk bl 2) 4/\gb (blk bl 2) 4<=30
 .rw [decide_eq_true hn];obtain ⟨n,hn'⟩:=Akw h4.1;have hwl:=ZE bl;rw [hn',Aj4]at hwl;have h:=Am DA (λk=>(blk bl 2,(List.range k).map (λk=>(num (blk bl 2) (5+2 * k),blk bl (3+k))),(n:Int),((k:Nat):Int),bl,wr,on,lf)) n (blk bl 2,wGr bl,bl,wr,on,lf) (λk hk'=>by
   have e1:IntKind.wrap .i64 (5+(IntKind.wrap .i64 (2 * (k:Int))))=((5+2 * k:Nat):Int):=by rw [w64 (n:=2 * (k:Int)) O O,w64 O O];omega
   have e3:IntKind.wrap .i64 (3+(k:Int))=((3+k:Nat):Int):=by rw [w64 O O];omega
   unfold DA cK gX wI;dsimp only;rw [iy O,e1,e3,FX u2 O O,Aj1,iy O,Aj4,Bp O,Aj1,
    Aj7 (by simp only [Aa,decide_eq_true_eq,Aky,List.length_range,Ake];omega),Ak O,NV]) (by
   unfold DA cK gX wI;dsimp only;rw [ino O];unfold wGr;rw [hn',Aj4])
  rw [hn',show Ab DA (blk bl 2,[],(n:Int),0,bl,wr,on,lf)=_ from h];simp only [AkT,Akh,AkI,Aj1,Akj];rw [S7 on hd O,Aj1];cases hg:grB bl.length (wGr bl)with
  | false=>rfl
  | true=>
   obtain ⟨g1,g2,g3⟩:=AdG O hg (Ado hu);rw [Zw g1 O g3];simp only [AkT,Akh,AkI,Aj1,Akj];rw [Uk (by rw [AeW g3];omega),Aj1];cases (N2 (wGr bl) == blk bl 2) <;> rfl
 .rw [decide_eq_false hn];rfl
end Go.V.G
set_option maxRecDepth 100000
namespace Go.V.G
open Go.V
def MA (f h e r t:Int):Bool:=decide ((0<=f/\f<=h)/\h<=60) && (decide (1<=e/\e<=30) && (decide (33<=r/\r<=159) && decide (33<=t/\t<=159)))
theorem ZO {f h e r t:Int} (g:MA f h e r t=true):∃(m n:Nat),r=(m:Int)/\t=(n:Int)/\SupOk f h e m n:=by
 simp only [MA,Aj8,decide_eq_true_eq]at g;obtain ⟨g1,g2,g3,g4⟩:=g;obtain ⟨m,hm⟩:=Akw (O:0<=r);obtain ⟨n,hn⟩:=Akw (O:0<=t);exact⟨m,n,hm,hn,⟨g1.1,g1.2,g2,O,O⟩⟩
theorem XR (f h e r t:Int):LX f h e r t=some (MA f h e r t):=by
 unfold LX PO MA;simp only [Cb,Aj1];by_cases h1:0<=f/\f<=h <;> by_cases h2:h<=60 <;> by_cases h3:1<=e/\e<=30 <;> by_cases h4:33<=r/\r<=159 <;> simp [h1,h2,h3,h4]
theorem Y4 (f h:Int):Hg f h=some (decide ((0<=f/\f<=h)/\h<=60)):=by
 unfold Hg;by_cases h1:0<=f <;> by_cases h2:f<=h <;> simp [h1,h2]
theorem Afp {f h e r t:Int} (g:MA f h e r t=false):EY f h e r t=some ([],false):=by
 unfold EY JT cK;unfold MA at g;simp only [Y4,AJ,Aj1];by_cases h1:(0<=f/\f<=h)/\h<=60
 .rw [decide_eq_true h1]at g ⊢;by_cases h3:1<=e/\e<=30
  .rw [decide_eq_true h3]at g ⊢;by_cases h4:33<=r/\r<=159
   .rw [decide_eq_true h4]at g ⊢;simp only [Akj]at g;rw [g];rfl
   .rw [decide_eq_false h4];rfl
  .rw [decide_eq_false h3];rfl
 .rw [decide_eq_false h1];rfl
abbrev Sup:=Int×(Int×(Int×(Int×Int)))
def Tm (c:List Int):Bool:=decide (c.length=128) && (MA (gb c 4) (gb c 5) (gb c 6) (num c 8) (num c 10) && (NU (gb c 4) (gb c 5) (gb c 6) (num c 8) (num c 10) == c))
def Mn (c:List Int):Bool×Sup:=if Tm c=true then(true,gb c 4,gb c 5,gb c 6,num c 8,num c 10)else(false,0,0,0,0,0)
theorem Iq {c:List Int} (hu:U8s c):LQ c=some (Mn c):=by
 unfold LQ Mn Tm gX wI;by_cases hl:c.length=128
 .have u:=DE hu;rw [ino O,iy O,show c[Int.toNat 4]?=some (gb c 4) from Ai O,Aj1,iy O,show c[Int.toNat 5]?=some (gb c 5) from Ai O,Aj1,iy O,show c[Int.toNat 6]?=some (gb c 6) from Ai O,Aj1,
   iy O,show c[Int.toNat 8]?=some (gb c 8) from Ai O,Aj1,iy O,show c[Int.toNat 9]?=some (gb c 9) from Ai O,Aj1,iy O,show c[Int.toNat 10]?=some (gb c 10) from Ai O,Aj1,iy O,show c[Int.toNat 11]?=some (gb c 11) from Ai O,Aj1,
   SD (u 8) (u 9),SD (u 10) (u 11),w64 (n:=gb c 4) (by have:=u 4;omega) (by have:=u 4;omega),w64 (n:=gb c 5) (by have:=u 5;omega) (by have:=u 5;omega),w64 (n:=gb c 6) (by have:=u 6;omega) (by have:=u 6;omega),XR,Aj1,decide_eq_true hl,Akj,
   show gb c 8 * 256+gb c 9=num c 8 from rfl,show gb c 10 * 256+gb c 11=num c 10 from rfl]
  cases hg:MA (gb c 4) (gb c 5) (gb c 6) (num c 8) (num c 10)with
  | false=>rfl
  | true=>
   obtain ⟨m,n,hm,hn,hs⟩:=ZO hg;rw [hm,hn,AbG hs];simp only [AkT,Akh,AkI,Aj1,Akj];rw [Rf (AgM hs) hu];cases (NU (gb c 4) (gb c 5) (gb c 6) (m:Int) (n:Int) == c) <;> rfl
 .rw [iy O,decide_eq_false hl];rfl
theorem PZ {c:List Int} (hu:U8s c):L1 c=some (Mn c):=by
 unfold L1 Mn Tm gX;by_cases hl:c.length=128
 .have u:=DE hu;rw [ino O,iy O,show c[Int.toNat 4]?=some (gb c 4) from Ai O,Aj1,iy O,show c[Int.toNat 5]?=some (gb c 5) from Ai O,Aj1,iy O,show c[Int.toNat 6]?=some (gb c 6) from Ai O,Aj1,
   show CB c 8=some (num c 8) from FX (i:=8) hu O O,Aj1,show CB c 10=some (num c 10) from FX (i:=10) hu O O,Aj1,
   w64 (n:=gb c 4) (by have:=u 4;omega) (by have:=u 4;omega),w64 (n:=gb c 5) (by have:=u 5;omega) (by have:=u 5;omega),w64 (n:=gb c 6) (by have:=u 6;omega) (by have:=u 6;omega),decide_eq_true hl,Akj]
  cases hg:MA (gb c 4) (gb c 5) (gb c 6) (num c 8) (num c 10)with
  | false=>rw [Afp hg];rfl
  | true=>
   obtain ⟨m,n,hm,hn,hs⟩:=ZO hg;rw [hm,hn,Ab1 hs];simp only [AkT,Akh,AkI,Aj1,Akj];rw [Uk (by rw [Ad7];omega),Aj1];cases (NU (gb c 4) (gb c 5) (gb c 6) (m:Int) (n:Int) == c) <;> rfl
 .rw [iy O,decide_eq_false hl];rfl
def opB (bl:Bls):List Int:=(blk bl 1).take 20
def opG (bl:Bls):Bool:=gsp bl (opB bl) [] [] && rz (blk bl 1) 20
def opD (bl:Bls):Bool×(Bls×List Int):=if opG bl=true then(true,bl,opB bl)else(false,[],[])
theorem Sw {bl:Bls} (h1:bl.length<=160) (h2:40<=bl.length):SB bl (opB bl) [] []:=by
 exact⟨O,Z,Z⟩
theorem S9 {bl:Bls} {wr lf:Int} (on:Bool) (hd:gd bl wr lf=true) (hu:∀c∈bl,U8s c):JC bl wr on lf=some (opD bl):=by
 obtain ⟨hb,hk⟩:=J0 hd;have l1:=hk _ (BB (O:1 < bl.length));unfold JC opD opG gX sX;rw [Jl O,hd,Aj1,Aj6 Z,iy O,show bl[Int.toNat 1]?=some (blk bl 1) from Bp O,Aj1,VD (AfD O hk),Aj1,iy O,iy O,iy O,iy O,
  show(List.drop (Int.toNat 0) (blk bl 1)).take (Int.toNat 20 - Int.toNat 0)=opB bl from rfl,Vg (by unfold opB;rw [Akb];omega),Aj1,TP (Sw O O),Aj1]
 cases hg:gsp bl (opB bl) [] []with
 | false=>rfl
 | true=>
  simp only [AkT,Akh,AkI,Aj1,Akj];rw [iy O,iy O,iy O,iy O];have hcf:∀{l:List Int},l.length<=1048576->A9 l=some (l.any λv=>decide (¬ v=0)):=λ{l} hl=>by
   unfold A9 BQ;obtain ⟨r,hr,h⟩:=I5 Ba (λv=>decide (¬ v=0)) l (λk hk=>by
    unfold Ba J3 gX wI;dsimp only;rw [iy O,iy O,Aj4,Ai hk,Aj1,Aj1,Ak O];by_cases hz:gb l k=0 <;> simp [hz]) (by
    unfold Ba gX wI;dsimp only;rw [ino O])
   rw [hr,Aj1];rcases h with⟨rfl,h⟩ | ⟨k,rfl,h⟩
   .rw [h];rfl
   .rw [h];dsimp only;rw [Aj1,decide_eq_true O]
  rw [Aj4,show Int.toNat 20=20 from rfl,AkQ (show(List.drop 20 (blk bl 1)).length<=(blk bl 1).length - 20 by rw [Aku];omega),hcf (by rw [Aku];omega),Aj1,Nd];cases rz (blk bl 1) 20 <;> rfl
theorem GO {bl:Bls} {wr lf:Int} (on:Bool) (hd:gd bl wr lf=true) (hu:∀c∈bl,U8s c):JG bl wr on lf=some (opD bl):=by
 obtain ⟨hb,hk⟩:=J0 hd;have l1:=hk _ (BB (O:1 < bl.length));have e1:bl[0+Int.toNat 1]?=some (blk bl 1):=Bp O;unfold JG opD opG cK cZ sX;rw [HV O,hd,Aj1,Aj6 Z,Aha (AfD O hk),Aj1];dsimp only;rw [iy O,iy O,e1,Aj1,Aj1,iy O,iy O,iy O,iy O,Aj1,
  Aj7 (by simp only [Aa,decide_eq_true_eq,Akb,AkB];omega),iy O,iy O,Aj1,Aj1,iy O,iy O,iy O,iy O,Aj1,
  AkC,show((blk bl 1).drop (Int.toNat 0)).take (Int.toNat 20 - Int.toNat 0)=opB bl from rfl,Aj4,show Int.toNat 20=20 from rfl,AkQ (show(List.drop 20 (blk bl 1)).length<=(blk bl 1).length - 20 by rw [Aku];omega)]
 have hdl:(List.drop 20 (blk bl 1)).length=108:=by rw [Aku,l1]
 have h:=Rt EJ (λk=>(bl,((0+Int.toNat 1:Nat):Int),((20:Nat):Int),(((blk bl 1).length - 20:Nat):Int),(((List.drop 20 (blk bl 1)).length:Nat):Int),((k:Nat):Int),opB bl)) (List.drop 20 (blk bl 1)) (λv=>decide (¬ v=0)) false (bl,opB bl) (λk hk'=>by
  have e3:(blk bl 1)[20+k]?=some (gb (List.drop 20 (blk bl 1)) k):=by
   have:=Ai hk';rw [AkK]at this;exact this
  unfold EJ cK cZ wI;dsimp only;rw [iy O,iy O,show Int.toNat ((0+Int.toNat 1:Nat):Int)=0+Int.toNat 1 from rfl,e1,Aj1,iy (by rw [Akb,show Int.toNat ((20:Nat):Int)=20 from rfl,Aj4];omega),Aj1,show Int.toNat ((20:Nat):Int)=20 from rfl,Aj4 k,e3,Aj1,Ak O];by_cases hz:gb (List.drop 20 (blk bl 1)) k=0 <;> simp [hz]) (by
  unfold EJ cK cZ wI;dsimp only;rw [ino O])
 rw [show Ab EJ (bl,((0+Int.toNat 1:Nat):Int),((20:Nat):Int),(((blk bl 1).length - 20:Nat):Int),(((List.drop 20 (blk bl 1)).length:Nat):Int),0,opB bl)=_ from h,Nd];cases hz:rz (blk bl 1) 20 with
 | false=>simp
 | true=>
  simp only [AkT,Akh,AkI,Aj1,AlB];rw [M1 (Sw O O),Aj1];cases gsp bl (opB bl) [] [] <;> rfl
end Go.V.G
set_option maxRecDepth 100000
namespace Go.V.G
open Go.V
def rcC (b:Bls) (x y:List Int) (a:Int) (ch:List Int):Bool:=
 liv b x y a && (!decide (a∈ch) && (!decide (ch.length=9) && (decide (gb (blk b a.toNat) 0=82) && (!decide (124 < gb (blk b a.toNat) 3) && ((decide (num (blk b a.toNat) 1=0) || !decide (gb (blk b a.toNat) 3 < 124)) &&
  ((!decide (gb (blk b a.toNat) 3=0) || decide (ch.length=0)) && rz (blk b a.toNat) (4+(gb (blk b a.toNat) 3).toNat)))))))
def rcO (b:Bls) (a:Int):List Int:=((blk b a.toNat).drop 4).take (gb (blk b a.toNat) 3).toNat
def rcN (b:Bls) (x y:List Int):Nat->Int->List Int->List Int->Option (List Int×List Int)
 | 0,_,_,_=>none
 | f+1,a,d,ch=>if rcC b x y a ch=true then(if num (blk b a.toNat) 1=0 then some (d++rcO b a,ch++[a])else rcN b x y f (num (blk b a.toNat) 1) (d++rcO b a) (ch++[a]))else none
def rcd (b:Bls) (x y:List Int) (a:Int):Option (List Int×List Int):=rcN b x y 10 a [] []
def rcA (o:Option (List Int×List Int)):List Int×(List Int×Bool):=match o with
 | some p=>(p.1,p.2,true)
 | none=>([],[],false)
theorem ZW {b:Bls} {x y z:List Int} (g:RS b x y) {a:Int} (ch:List Int) (hl:liv b x y a=true):∃m n:Nat,a=(m:Int)/\(33<=m/\m < b.length)/\gb (blk b m) 3=(n:Int)/\n<=255:=by
 obtain ⟨m,rfl,h1,h2,_⟩:=Cd hl;have:=g.u8 h2 3;obtain ⟨n,hn⟩:=Akw this.1;exact⟨m,n,rfl,⟨h1,h2⟩,hn,O⟩
theorem Adc {b:Bls} {x y z:List Int} (g:RS b x y) (a:Int) {d ch:List Int} (hd:d.length<=10000) (hc:ch.length<=9) :
  EH ((b,x,y,z),a,d,ch)=some (if rcC b x y a ch=true then(if num (blk b a.toNat) 1=0 then .inr (d++rcO b a,ch++[a],true)else .inl ((b,x,y,z),num (blk b a.toNat) 1,d++rcO b a,ch++[a]))else .inr ([],[],false)):=by
 unfold EH cK gX sX wI;dsimp only;rw [KA g,Aj1];cases hl:liv b x y a with
 | false=>unfold rcC;rw [hl];rfl
 | true=>
  obtain ⟨m,n,rfl,hm,hn,hn2⟩:=ZW (z:=z) g ch hl;have hlen:=g.len hm.2;have hu:=g.hu _ (BB hm.2);have hb:=Bp hm.2;unfold rcC rcO;rw [hl,Aj4];rw [FW O,Aj1];by_cases hin:(m:Int)∈ch
  .rw [decide_eq_true hin];rfl
  .rw [decide_eq_false hin];by_cases h9:ch.length=9
   .rw [decide_eq_true (show(ch.length:Int)=9 by omega),decide_eq_true h9];rfl
   .rw [decide_eq_false (O:¬ (ch.length:Int)=9),decide_eq_false h9];have hnum:=FX hu (i:=1) O O;have hnum':CB (blk b m) 1=some (num (blk b m) 1):=hnum;have g3:(blk b m)[Int.toNat 3]?=some (n:Int):=by rw [<- hn];exact Ai O
    have g0:(blk b m)[Int.toNat 0]?=some (gb (blk b m) 0):=Ai O;have w5:IntKind.wrap .i64 (n:Int)=(n:Int):=w64 O O;have w4:IntKind.wrap .i64 (4+(n:Int))=((4+n:Nat):Int):=by rw [w64 O O];omega
    rw [hn];simp only [Aj1,AkT,Akh,AkI,Akj,AlW];rw [iy (show(0:Int)<=(m:Int) by omega),Aj4,hb,Aj1,hnum',Aj1,iy O,g3,Aj1,iy O,g0,Aj1,w5,w4,Aj4,Aj4];by_cases h82:gb (blk b m) 0=82
    .rw [ino (by simp [h82]),decide_eq_true h82];by_cases h124:(124:Int) < (n:Int)
     .rw [iy h124,decide_eq_true h124];rfl
     .rw [ino h124,decide_eq_false h124];have htk:List.take (128 - (4+n)) (List.drop (4+n) (blk b m))=(blk b m).drop (4+n):=AkQ (by rw [Aku];omega);have hcf:=AbQ (l:=(blk b m).drop (4+n)) (by rw [Aku];omega);rw [Nd]at hcf;have hsub:4+n - Int.toNat 4=n:=by rw [show Int.toNat 4=4 from rfl];omega
      have ht:(List.drop (Int.toNat 4) (blk b m)).take (4+n - Int.toNat 4)=((blk b m).drop 4).take n:=by rw [hsub];rfl
      have htl:(((blk b m).drop 4).take n).length=n:=by rw [Akb,Aku];omega
      have hroom:Aa (d.length+(((blk b m).drop 4).take n).length) 1=true:=by rw [htl];simp only [Aa,decide_eq_true_eq];omega
      have hroom2:Aa (ch.length+([(m:Int)]:List Int).length) 8=true:=by simp only [Aa,decide_eq_true_eq,Ake];omega
      have hlc:(((blk b m).length:Nat):Int)=128:=O
      rw [hlen];have j1:(0:Int)<=((4+n:Nat):Int):=O
      have j2:((4+n:Nat):Int)<=((128:Nat):Int):=O
      have j3:((128:Nat):Int)<=((128:Nat):Int):=O
      have j4:(0:Int)<=4:=O
      have j5:(4:Int)<=((4+n:Nat):Int):=O
      have k1:((n:Int) < 124)↔n < 124:=O
      have k2:((n:Int)=0)↔n=0:=O
      have k3:((ch.length:Int)=0)↔ch.length=0:=O
      simp only [iy j1,iy j2,iy j3,iy j4,iy j5,Aj4,htk,hcf,Aj1,ht,hroom,hroom2,Akv,k1,k2,k3,decide_eq_true h82];have hz3:∀w:Bool,decide (n=0)=w\/decide (n=0) = !w:=by intro w;cases w <;> cases decide (n=0) <;> simp
      rcases hz3 true with hz | hz <;> rcases Ama (decide (ch.length=0))with hch | hch <;> rcases Ama (decide (n < 124))with hq | hq <;> cases hr:rz (blk b m) (4+n) <;> by_cases h0:num (blk b m) 1=0 <;>
       (first
        | (exfalso;simp only [decide_eq_true_eq,decide_eq_false_iff_not,AkT]at hz hq;omega)
        | simp only [h0,hz,hch,hq,hr,w4,iy j1,iy j2,iy j3,iy j4,iy j5,hlen,Aj4,Aj1,ht,hroom,hroom2,Akv,AkI,AkT,AlW,Akj,Als,AlB,Amb,Amo,Bool.or_false,Bool.true_or,Alk,decide_true,decide_false,not_true_eq_false,not_false_eq_true,Akh])
    .rw [iy h82,decide_eq_false h82];rfl
theorem Acg {b:Bls} {x y z:List Int} (h:SB b x y z) (g:RS b x y) {a:Int} (ha:¬ a=0) {d ch:List Int} (hd:d.length<=10000) (hc:ch.length<=9) :
  Dz (a,d,ch,b,x,y,z)=some (if rcC b x y a ch=true then .inl (num (blk b a.toNat) 1,d++rcO b a,ch++[a],b,x,y,z)else .inr (.inr false)):=by
 unfold Dz cK gX sX wI;dsimp only;rw [iy ha,LU g,Aj1];cases hl:liv b x y a with
 | false=>unfold rcC;rw [hl];rfl
 | true=>
  obtain ⟨m,n,rfl,hm,hn,hn2⟩:=ZW (z:=z) g ch hl;have hlen:=g.len hm.2;have hu:=g.hu _ (BB hm.2);have hb:=Bp hm.2;unfold rcC rcO;rw [hl,Aj4];rw [Gf O,Aj1];by_cases hin:(m:Int)∈ch
  .rw [decide_eq_true hin];rfl
  .rw [decide_eq_false hin];by_cases h9:ch.length=9
   .rw [decide_eq_true (show(ch.length:Int)=9 by omega),decide_eq_true h9];rfl
   .rw [decide_eq_false (O:¬ (ch.length:Int)=9),decide_eq_false h9];have g3:(blk b m)[Int.toNat 3]?=some (n:Int):=by rw [<- hn];exact Ai O
    have g0:(blk b m)[Int.toNat 0]?=some (gb (blk b m) 0):=Ai O;have g1:(blk b m)[Int.toNat 1]?=some (gb (blk b m) 1):=Ai O;have g2:(blk b m)[Int.toNat 2]?=some (gb (blk b m) 2):=Ai O;have u1:=DE hu 1;have u2:=DE hu 2;have w1:IntKind.wrap .i64 (IntKind.wrap .i64 (IntKind.wrap .i64 (gb (blk b m) 1) * 256)+IntKind.wrap .i64 (gb (blk b m) 2))=num (blk b m) 1:=by
     rw [w64 (n:=gb (blk b m) 1) O O,w64 (n:=gb (blk b m) 1 * 256) O O,w64 (n:=gb (blk b m) 2) O O,w64 O O];rfl
    have w5:IntKind.wrap .i64 (n:Int)=(n:Int):=w64 O O;have w4:IntKind.wrap .i64 (4+(n:Int))=((4+n:Nat):Int):=by rw [w64 O O];omega
    rw [hn];simp only [Aj1,AkT,Akh,AkI,Akj,AlW];rw [iy (show(0:Int)<=(m:Int) by omega),Aj4,hb,Aj1,iy O,g1,Aj1,iy O,g2,Aj1,iy O,g3,Aj1,iy O,g0,Aj1,w1,w5,w4,Aj4];by_cases h82:gb (blk b m) 0=82
    .rw [ino (by simp [h82]),decide_eq_true h82];by_cases h124:(124:Int) < (n:Int)
     .rw [iy h124,decide_eq_true h124];rfl
     .rw [ino h124,decide_eq_false h124];have hcf:=OU (c:=blk b m) (n:=4+n) O O;have hsub:4+n - Int.toNat 4=n:=by rw [show Int.toNat 4=4 from rfl];omega
      have ht:(List.drop (Int.toNat 4) (blk b m)).take (4+n - Int.toNat 4)=((blk b m).drop 4).take n:=by rw [hsub];rfl
      have htl:(((blk b m).drop 4).take n).length=n:=by rw [Akb,Aku];omega
      have hroom:Aa (d.length+(((blk b m).drop 4).take n).length) 1=true:=by rw [htl];simp only [Aa,decide_eq_true_eq];omega
      have hroom2:Aa (ch.length+([(m:Int)]:List Int).length) 8=true:=by simp only [Aa,decide_eq_true_eq,Ake];omega
      rw [hcf];have j2:((4+n:Nat):Int)<=((128:Nat):Int):=O
      have j3:((128:Nat):Int)<=((128:Nat):Int):=O
      have j4:(0:Int)<=4:=O
      have j5:(4:Int)<=((4+n:Nat):Int):=O
      have k1:((n:Int)=124)↔¬ n < 124:=O
      have k4:((n:Int) < 124)↔n < 124:=O
      have k2:((n:Int)=0)↔n=0:=O
      have k3:((0:Int) < (ch.length:Int))↔¬ ch.length=0:=O
      simp only [k1,k2,k3,k4,Classical.not_not,decide_not,decide_eq_true h82];rcases Ama (decide (n=0))with hz | hz <;> rcases Ama (decide (ch.length=0))with hch | hch <;> rcases Ama (decide (n < 124))with hq | hq <;> cases hr:rz (blk b m) (4+n) <;> by_cases h0:num (blk b m) 1=0 <;>
       (first
        | (exfalso;simp only [decide_eq_true_eq,decide_eq_false_iff_not,AkT]at hz hq;omega)
        | simp only [h0,hz,hch,hq,hr,w4,iy j2,iy j3,iy j4,iy j5,hlen,Aj4,Aj1,ht,hroom,hroom2,Akv,AkI,AkT,AlW,Akj,Als,AlB,Amb,Amo,Bool.or_false,Bool.true_or,Alk,decide_true,decide_false,not_true_eq_false,not_false_eq_true,Akh])
    .rw [iy h82,decide_eq_false h82];rfl
theorem TK {b:Bls} {x y:List Int} {a:Int} {ch:List Int} (h:rcC b x y a ch=true):(rcO b a).length<=124:=by
 unfold rcC at h;simp only [Aj8,Akf,decide_eq_false_iff_not]at h;unfold rcO;rw [Akb];have:=h.2.2.2.2.1;omega
theorem AfI {b:Bls} {x y:List Int} {a:Int} {ch:List Int} (h:rcC b x y a ch=true):¬ a=0:=by
 unfold rcC at h;rw [Aj8]at h;obtain ⟨m,rfl,h1,_⟩:=Cd h.1;omega
theorem ZP {b:Bls} {x y:List Int} {a:Int} {ch:List Int} (h:rcC b x y a ch=true):¬ ch.length=9:=by
 unfold rcC at h;simp only [Aj8,Akf,decide_eq_false_iff_not]at h;exact h.2.2.1
theorem Ur {b:Bls} {x y z:List Int} (g:RS b x y):∀(f:Nat) (a:Int) (d ch:List Int),d.length<=124 * ch.length->ch.length+f=10->ch.length<=9->
  Ab EH ((b,x,y,z),a,d,ch)=some (rcA (rcN b x y f a d ch))
 | 0,a,d,ch,hd,hf,hc=>by omega
 | f+1,a,d,ch,hd,hf,hc=>by
  rw [AE,Adc g a O hc];unfold rcN;by_cases h:rcC b x y a ch=true
  .rw [Aj7 h,Aj7 h];have h9:=ZP h;have h1:=TK h;by_cases h0:num (blk b a.toNat) 1=0
   .rw [Aj7 h0,Aj7 h0];rfl
   .rw [Aj6 h0,Aj6 h0];exact Ur g f _ _ _ (by simp only [Aj9,Ake];omega) (by simp only [Aj9,Ake];omega) (by simp only [Aj9,Ake];omega)
  .rw [Aj6 h,Aj6 h];rfl
theorem Zs {b:Bls} {x y z:List Int} (g:RS b x y) (a:Int):G8 (b,x,y,z) a=some (rcA (rcd b x y a)):=by
 unfold G8 rcd;rw [Ur (z:=z) g 10 a [] [] Z rfl Z];rfl
theorem U8 {b:Bls} {x y z:List Int} (h:SB b x y z) (g:RS b x y):∀(f:Nat) (a:Int) (d ch:List Int),d.length<=124 * ch.length->ch.length+f=10->ch.length<=9->¬ a=0->
  Ab Dz (a,d,ch,b,x,y,z)=some (match rcN b x y f a d ch with | some p=>.inl p | none=>.inr false)
 | 0,a,d,ch,hd,hf,hc,ha=>by omega
 | f+1,a,d,ch,hd,hf,hc,ha=>by
  rw [AE,Acg h g ha O hc];unfold rcN;by_cases hC:rcC b x y a ch=true
  .rw [Aj7 hC,Aj7 hC];have h9:=ZP hC;have h1:=TK hC;by_cases h0:num (blk b a.toNat) 1=0
   .rw [Aj7 h0,h0];dsimp only;rw [AE];unfold Dz cK gX sX wI;dsimp only;rw [ino Z]
   .rw [Aj6 h0];exact U8 h g f _ _ _ (by simp only [Aj9,Ake];omega) (by simp only [Aj9,Ake];omega) (by simp only [Aj9,Ake];omega) h0
  .rw [Aj6 hC,Aj6 hC]
theorem Adm {b:Bls} {x y:List Int}:∀(f:Nat) (a:Int) (d ch:List Int) {p:List Int×List Int},rcN b x y f a d ch=some p->ch.length < p.2.length
 | 0,_,_,_,p,h=>by cases h
 | f+1,a,d,ch,p,h=>by
  unfold rcN at h;split at h
  .split at h
   .injection h with h;subst h;simp
   .have:=Adm f _ _ _ h;simp only [Aj9,Ake]at this;omega
  .cases h
theorem Zp {b:Bls} {x y z:List Int} (h:SB b x y z) (g:RS b x y) (a:Int):Kr b x y z a=some (rcA (rcd b x y a)):=by
 unfold Kr;by_cases ha:a=0
 .subst ha;rw [AE];have e1:Dz (0,[],[],b,x,y,z)=some (.inr (.inl ([],[]))):=by
   unfold Dz cK gX sX wI;dsimp only;rw [ino Z]
  rw [e1];have:rcd b x y 0=none:=by
   unfold rcd rcN;rw [Aj6 (λq=>AfI q rfl)]
  rw [this];rfl
 .rw [U8 h g 10 a [] [] Z rfl Z ha];unfold rcd;cases e:rcN b x y 10 a [] []with
  | none=>rfl
  | some p=>
   have:=Adm _ _ _ _ e;simp only [Aj1];rw [decide_eq_true (show(0:Int) < (p.2.length:Int) by simp only [AkB]at this;omega)];rfl
end Go.V.G
set_option maxRecDepth 100000
namespace Go.V.G
open Go.V
def vl (b:Bls) (top:List Int) (k:Nat):Int:=gb (lfv b (gb top (k / 32))) (k % 32)
theorem OW {b:Bls} {top:List Int} (ht:top.length=32) (root:Int) {k:Nat} (hk:k < 1024):Fg root top (top.map (lfv b)) (k:Int)=some (vl b top k):=by
 obtain ⟨e1,e2⟩:=Agk (n:=(k:Int)) O;obtain ⟨e3,_⟩:=AgN (n:=(k:Int)) O;rw [Aj4]at e1 e2 e3;unfold Fg cK gX wI;rw [iy O,e1,iy O,Aj4,AkH,Ai O,AkY,Aj1,iy O,e3,iy O,Aj4,Ai (by rw [Aav];omega),Aj1];rfl
def ksT (b:Bls) (top:List Int) (n:Nat):List Kv:=((List.range n).filter λk=>decide (¬ vl b top k=0)).map λk=>(((k:Nat):Int),vl b top k)
theorem Qc (b:Bls) (top:List Int) (n:Nat):(ksT b top n).length<=n:=by
 unfold ksT;rw [Aky];exact AkE (Alg _ _) Z
theorem Nv (b:Bls) (top:List Int) (n:Nat):ksT b top (n+1)=ksT b top n++(if vl b top n=0 then []else [((n:Int),vl b top n)]):=by
 unfold ksT;rw [AlF,Alr,AkJ];by_cases h:vl b top n=0 <;> simp [h]
theorem Aa3 {b:Bls} {top:List Int} (ht:top.length=32) (root:Int):JE root top (top.map (lfv b))=some (ksT b top 1024):=by
 unfold JE;have h:=Am EV (λk=>(ksT b top k,((k:Nat):Int),root,top,top.map (lfv b))) 1024 (ksT b top 1024) (λk hk=>by
  have hl:=Qc b top k;unfold EV cK wI;dsimp only;rw [iy O,OW ht root hk,Aj1,Nv];by_cases hz:vl b top k=0
  .rw [ino (by simp [hz]),Aj1,Aj7 hz,Aki,Ak O]
  .rw [iy hz,Aj7 (by simp only [Aa,decide_eq_true_eq,Ake];omega),Aj1,Aj6 hz,Ak O]) (by
  unfold EV cK wI;dsimp only;rw [ino O])
 rw [show Ab EV ([],0,root,top,top.map (lfv b))=_ from h];rfl
def kL (b:Bls) (top:List Int) (k m:Nat):List Kv:=((List.range m).filter λi=>decide (¬ gb (lfs b (gb top k)) i=0)).map λi=>(((32 * k+i:Nat):Int),gb (lfs b (gb top k)) i)
theorem Tu (b:Bls) (top:List Int) (k m:Nat):kL b top k (m+1)=kL b top k m++(if gb (lfs b (gb top k)) m=0 then []else [(((32 * k+m:Nat):Int),gb (lfs b (gb top k)) m)]):=by
 unfold kL;rw [AlF,Alr,AkJ];by_cases h:gb (lfs b (gb top k)) m=0 <;> simp [h]
theorem Adj (b:Bls) (top:List Int) (k m:Nat):(kL b top k m).length<=m:=by
 unfold kL;rw [Aky];exact AkE (Alg _ _) Z
theorem AaK (b:Bls) (a:Int):(lfs b a).length<=32:=by
 unfold lfs;split
 .simp
 .rw [Fi];exact Akz _
def kS (b:Bls) (top:List Int) (n:Nat):List Kv:=(List.range n).flatMap λk=>kL b top k (lfs b (gb top k)).length
theorem Tj (b:Bls) (top:List Int) (n:Nat):kS b top (n+1)=kS b top n++kL b top n (lfs b (gb top n)).length:=by
 unfold kS;rw [AlF,Alm];simp
theorem AcW (b:Bls) (top:List Int):∀n,(kS b top n).length<=32 * n
 | 0=>by simp [kS]
 | n+1=>by
  rw [Tj,Aj9];have h1:=AcW b top n;have h2:=Adj b top n (lfs b (gb top n)).length;have h3:=AaK b (gb top n);omega
theorem AhK {b:Bls} {top:List Int} {k i:Nat} (hi:i < 32):vl b top (32 * k+i)=gb (lfs b (gb top k)) i:=by
 unfold vl;rw [show(32 * k+i) / 32=k by omega,show(32 * k+i) % 32=i by omega];unfold lfv lfs;split
 .unfold gb zer;rw [List.getElem?_replicate_of_lt hi];simp
 .rfl
theorem Vj (b:Bls) (top:List Int) (n:Nat):∀m,m<=32->ksT b top (32 * n+m)=ksT b top (32 * n)++kL b top n m
 | 0,_=>by simp [kL]
 | m+1,h=>by
  rw [(O:32 * n+(m+1)=32 * n+m+1),Nv,Vj b top n m O,Tu,Akd,AhK O]
theorem AgZ (b:Bls) (top:List Int) (k:Nat):kL b top k 32=kL b top k (lfs b (gb top k)).length:=by
 by_cases h:gb top k=0
 .have e:lfs b (gb top k)=[]:=by unfold lfs;rw [Aj7 h]
  have:∀m,kL b top k m=[]:=by
   intro m
   induction m with
   | zero=>rfl
   | succ m ih=>rw [Tu,ih,e];simp [gb]
  rw [this,this]
 .have e:(lfs b (gb top k)).length=32:=by unfold lfs;rw [Aj6 h,Fi]
  rw [e]
theorem Adx (b:Bls) (top:List Int):∀n,kS b top n=ksT b top (32 * n)
 | 0=>rfl
 | n+1=>by rw [Tj,Adx b top n,(O:32 * (n+1)=32 * n+32),Vj b top n 32 O,AgZ]
theorem Acw {b:Bls} {x y z top:List Int} {root:Int} (h:SB b x y z) (hg:gsp b x y z=true) (hu:∀c∈b,U8s c) (ht:tre b x y root=some top):NK b x y z root=some (ksT b top 1024,true):=by
 have hl:=G4 ht;have gs:=P4 hg;unfold NK;rw [HM h hu,hg,ht,Aj1];simp only [Option.isSome_some,Bool.and_self,AkT,Akh,AkI];rw [PJ (gs.rs h hu),ht,Aj1];dsimp only [trS];have h2:=Am Hi (λk=>(kS b top k,top.map (lfs b),((32:Nat):Int),((k:Nat):Int))) 32 (kS b top 32) (λk hk=>by
  have hgk:(top.map (lfs b))[k]?=some (lfs b (gb top k)):=by rw [AkH,Ai O];rfl
  have hll:=AaK b (gb top k);have h1:=Am Hz (λi=>(kS b top k++kL b top k i,(k:Int),top.map (lfs b),((32:Nat):Int),(k:Int),((0+Int.toNat (k:Int):Nat):Int),(((lfs b (gb top k)).length:Nat):Int),((i:Nat):Int))) (lfs b (gb top k)).length (kS b top (k+1),top.map (lfs b),((32:Nat):Int),(k:Int)) (λi hi=>by
   have hkl:=Adj b top k i;have hks:=AcW b top k;have ew:IntKind.wrap .i64 ((IntKind.wrap .i64 (32 * (k:Int)))+(i:Int))=((32 * k+i:Nat):Int):=by rw [w64 (n:=32 * (k:Int)) O O,w64 O O];omega
   unfold Hz cK cZ wI;dsimp only;rw [iy O,iy O,Aj4,Aj4,Akt,hgk,Aj1,iy O,Aj1,Aj4,Akt,Ai hi,Aj1,ew,Tu];by_cases hz:gb (lfs b (gb top k)) i=0
   .rw [ino (by simp [hz]),Aj1,Aj7 hz,Aki];dsimp only;rw [Ak O,Aj4]
   .rw [iy hz,Aj7 (by simp only [Aa,decide_eq_true_eq,Ake,Aj9];omega),Aj1,Aj6 hz];dsimp only;rw [Ak O,Aj4,Akd]) (by
   unfold Hz cK cZ wI;dsimp only;rw [ino O,Tj])
  have e0:kS b top k++kL b top k 0=kS b top k:=by simp [kL]
  rw [e0]at h1;unfold Hi cK cZ wI;dsimp only;rw [iy O,iy O,iy (by rw [Aky];omega),Aj4,Akt,hgk,Aj1,Aj1];rw [show Ab Hz (kS b top k,(k:Int),top.map (lfs b),((32:Nat):Int),(k:Int),(k:Int),(((lfs b (gb top k)).length:Nat):Int),0)=some (kS b top (k+1),top.map (lfs b),((32:Nat):Int),(k:Int)) by
   rw [Aj4,Akt]at h1;exact h1,Aj1]
  dsimp only;rw [Ak O]) (by
  unfold Hi cK cZ wI;dsimp only;rw [ino O])
 rw [Aky,hl,show Ab Hi ([],top.map (lfs b),((32:Nat):Int),0)=_ from h2,Aj1,Adx]
theorem AeT {l:List Kv} (hl:l.length<=1048576) (key:Int) (a1 a2 a3 a4 a5:Int) (b:Bls) (x y z:List Int) (f:Int) (t:List UInt8) (r:List (Int×Int)) (cs:List (List Prt)) (rc:List Int) :
  DI a1 a2 a3 a4 a5 b x y z l f t r cs rc key=some (((l.find? λp=>decide (p.1=key)).map (·.2)).getD 0):=by
 unfold DI;rcases BR Eb (λi=>(key,l,(l.length:Int),((i:Nat):Int))) (λi=>!decide ((sg l i).1=key)) (λi=>(sg l i).2) () l.length (λi hi=>by
  unfold Eb gX wI;dsimp only;rw [iy O,iy O,Aj4,I9 hi,Aj1,Ak O];by_cases h:(sg l i).1=key <;> simp [h]) (by
  unfold Eb gX wI;dsimp only;rw [ino O])with⟨ha,h⟩ | ⟨k,hk,hp,ha,h⟩
 .rw [show Ab Eb (key,l,(l.length:Int),0)=_ from h];have:l.find? (λp=>decide (p.1=key))=none:=by
   rw [List.find?_eq_none];intro p hp;obtain ⟨i,hi,rfl⟩:=AkG hp;have h1:=ha i hi;have h2:=I9 hi;rw [Aj3 hi]at h2;injection h2 with h2
   rw [h2];simpa using h1
  rw [this];rfl
 .rw [show Ab Eb (key,l,(l.length:Int),0)=_ from h];have:l.find? (λp=>decide (p.1=key))=some (sg l k):=by
   rw [List.find?_eq_some_iff_getElem];have h2:=I9 hk;rw [Aj3 hk]at h2;injection h2 with h2
   refine⟨by simpa using hp,k,hk,h2,λj hj=>?_⟩;have h3:=I9 (O:j < l.length);rw [Aj3 (O:j < l.length)]at h3;injection h3 with h3
   rw [h3];exact ha j hj
  rw [this];rfl
theorem XQ (b:Bls) (top:List Int) (key:Nat):∀n,((ksT b top n).find? λp=>decide (p.1=(key:Int)))=if key < n/\¬ vl b top key=0 then some ((key:Int),vl b top key)else none
 | 0=>by simp [ksT]
 | n+1=>by
  rw [Nv,List.find?_append,XQ b top key n];by_cases hn:key=n
  .subst hn;rw [Aj6 O];by_cases hz:vl b top key=0
   .rw [Aj7 hz,Aj6 (λq=>q.2 hz)];rfl
   .rw [Aj6 hz,Aj7 ⟨O,hz⟩];simp
  .have hne:¬ (n:Int)=(key:Int):=O
   have e:List.find? (λp:Kv=>decide (p.1=(key:Int))) (if vl b top n=0 then []else [((n:Int),vl b top n)])=none:=by
    split
    .rfl
    .rw [List.find?_cons];simp [hne]
   rw [e,Option.or_none];by_cases hk:key < n/\¬ vl b top key=0
   .rw [Aj7 hk,Aj7 ⟨O,hk.2⟩]
   .rw [Aj6 hk,Aj6 (λq=>hk ⟨O,q.2⟩)]
theorem AhF (b:Bls) (top:List Int) {key:Nat} (hk:key < 1024):(((ksT b top 1024).find? λp=>decide (p.1=(key:Int))).map (·.2)).getD 0=vl b top key:=by
 rw [XQ];by_cases h:vl b top key=0
 .rw [Aj6 (λq=>q.2 h),h];rfl
 .rw [Aj7 ⟨hk,h⟩];rfl
end Go.V.G
set_option maxRecDepth 100000
namespace Go.V.G
open Go.V
def skn (f k n:Nat):List (Int×Int):=((List.range n).filter λi=>decide (f<=i * 2 ^ k)).map λi=>((k:Int),((i:Nat):Int))
def stk (f h:Nat):Nat->List (Int×Int)
 | 0=>[]
 | k+1=>stk f h k++skn f k (h / 2 ^ k)
def sts (f h:Nat):List (Int×Int):=stk f h 6
theorem Je (f k n:Nat):skn f k (n+1)=skn f k n++(if f<=n * 2 ^ k then [((k:Int),(n:Int))]else []):=by
 unfold skn;rw [AlF,Alr,AkJ];by_cases h:f<=n * 2 ^ k <;> simp [h]
theorem TR (f k n:Nat):(skn f k n).length<=n:=by
 unfold skn;rw [Aky];exact AkE (Alg _ _) Z
theorem Qe (f h:Nat):∀k,(stk f h k).length<=k * h
 | 0=>by simp [stk]
 | k+1=>by
  unfold stk;rw [Aj9,Al2];have h1:=Qe f h k;have h2:=TR f k (h / 2 ^ k);have h3:=Amm h (2 ^ k);omega
theorem No (f k:Nat):∀n,n<=(f+2 ^ k - 1) / 2 ^ k->skn f k n=[]
 | 0,_=>rfl
 | n+1,hn=>by
  rw [Je,No f k n O,Aj6,Aki];have hp:0 < 2 ^ k:=AlG Z;have:=(Nat.le_div_iff_mul_le hp).1 hn;rw [Al2]at this;omega
theorem Agv {f k n:Nat} (hn:(f+2 ^ k - 1) / 2 ^ k<=n):f<=n * 2 ^ k:=by
 have hp:0 < 2 ^ k:=AlG Z;have:¬ n+1<=(f+2 ^ k - 1) / 2 ^ k:=O
 rw [Nat.le_div_iff_mul_le hp,Al2]at this;omega
theorem Aa6:∀{k:Nat},k < 6->(2:Int) ^ (min (Int.toNat (k:Int)) (IntKind.bits .i64))=((2 ^ k:Nat):Int)/\2 ^ k<=32/\(2:Int) ^ (min (Int.toNat (IntKind.wrap .u64 (k:Int))) (IntKind.bits .i64))=((2 ^ k:Nat):Int)/\IntKind.wrap .u64 (k:Int)=(k:Int)
 | 0,_=>by decide
 | 1,_=>by decide
 | 2,_=>by decide
 | 3,_=>by decide
 | 4,_=>by decide
 | 5,_=>by decide
 | k+6,h=>by omega
theorem Od {k i:Nat} (hk:k < 6) (hi:i<=1000):IntKind.wrap .i64 ((i:Int) * (2:Int) ^ (min (Int.toNat (k:Int)) (IntKind.bits .i64)))=((i * 2 ^ k:Nat):Int):=by
 obtain ⟨h1,h2,_⟩:=Aa6 hk;rw [h1,<- Int.natCast_mul];have:i * 2 ^ k<=1000 * 32:=Nat.mul_le_mul hi h2;rw [w64 O O]
theorem lt_dv {h k i:Nat}:(i+1) * 2 ^ k<=h↔i < h / 2 ^ k:=by
 have hp:0 < 2 ^ k:=AlG Z;rw [<- Nat.le_div_iff_mul_le hp];omega
theorem Of {f h:Nat} (hh:h<=60):KC (f:Int) (h:Int)=some (sts f h):=by
 unfold KC;have h2:=Am IK (λk=>((f:Int),(h:Int),stk f h k,((k:Nat):Int))) 6 (sts f h) (λk hk=>by
  obtain ⟨p1,p2,p3,p4⟩:=Aa6 hk;have hp:0 < 2 ^ k:=AlG Z;have hdl:=Amm h (2 ^ k);have hsk:=Qe f h k;have hkh:k * h<=6 * 60:=Nat.mul_le_mul O hh;have h1:=Am It (λi=>((f:Int),(h:Int),stk f h k++skn f k i,(k:Int),((i:Nat):Int))) (h / 2 ^ k) ((f:Int),(h:Int),stk f h (k+1),(k:Int)) (λi hi=>by
   have hl:=TR f k i;have hm:=(lt_dv (h:=h) (k:=k) (i:=i)).2 hi;unfold It cK cZ wI;dsimp only;rw [p4,iy O,Ak O,Od hk O,iy O,iy O,Od hk O];by_cases hz:f<=i * 2 ^ k
   .rw [iy O,Aj7 (by simp only [Aa,decide_eq_true_eq,Ake,Aj9];omega),Aj1,Je,Aj7 hz,Akd];dsimp only;rw [Ak O]
   .rw [ino O,Aj1,Je,Aj6 hz,Aki];dsimp only;rw [Ak O]) (by
   have hm:¬ (h / 2 ^ k+1) * 2 ^ k<=h:=λq=>Nat.lt_irrefl _ (lt_dv.1 q)
   unfold It cK cZ wI;dsimp only;rw [p4,iy O,Ak O,Od hk O,ino O];rfl)
  have e0:stk f h k++skn f k 0=stk f h k:=by simp [skn]
  rw [e0]at h1;unfold IK wI;dsimp only;rw [iy O,show Ab It ((f:Int),(h:Int),stk f h k,(k:Int),0)=_ from h1,Aj1];dsimp only;rw [Ak O]) (by
  unfold IK wI;dsimp only;rw [ino O];rfl)
 rw [show Ab IK ((f:Int),(h:Int),[],0)=_ from h2];rfl
theorem T3 {f h:Nat} (hf:f<=h) (hh:h<=60):Jt (f:Int) (h:Int)=some (sts f h):=by
 unfold Jt;have h2:=Am Ff (λk=>((f:Int),(h:Int),stk f h k,((k:Nat):Int))) 6 (sts f h) (λk hk=>by
  obtain ⟨p1,p2,p3,p4⟩:=Aa6 hk;have hp:0 < 2 ^ k:=AlG Z;have hdl:=Amm h (2 ^ k);have hsk:=Qe f h k;have hkh:k * h<=6 * 60:=Nat.mul_le_mul O hh;have he0:(f+2 ^ k - 1) / 2 ^ k<=f+2 ^ k - 1:=Amm _ _;have h1:=Am Hb (λj=>((f:Int),(h:Int),stk f h k++skn f k ((f+2 ^ k - 1) / 2 ^ k+j),(k:Int),(((f+2 ^ k - 1) / 2 ^ k+j:Nat):Int),(k:Int))) (h / 2 ^ k - (f+2 ^ k - 1) / 2 ^ k) ((f:Int),(h:Int),stk f h (k+1),(k:Int)) (λj hj=>by
   have hl:=TR f k ((f+2 ^ k - 1) / 2 ^ k+j);have hm:=(lt_dv (h:=h) (k:=k) (i:=(f+2 ^ k - 1) / 2 ^ k+j)).2 O;unfold Hb cK cZ wI;dsimp only;rw [iy O,Ak O,Od hk O,iy O,Aj7 (by simp only [Aa,decide_eq_true_eq,Ake,Aj9];omega),<- All,Je,Aj7 (Agv O),Akd]) (by
   have hm:¬ ((f+2 ^ k - 1) / 2 ^ k+(h / 2 ^ k - (f+2 ^ k - 1) / 2 ^ k)+1) * 2 ^ k<=h:=λq=>by have:=lt_dv.1 q;omega
   have es:skn f k ((f+2 ^ k - 1) / 2 ^ k+(h / 2 ^ k - (f+2 ^ k - 1) / 2 ^ k))=skn f k (h / 2 ^ k):=by
    by_cases hq:(f+2 ^ k - 1) / 2 ^ k<=h / 2 ^ k
    .rw [show(f+2 ^ k - 1) / 2 ^ k+(h / 2 ^ k - (f+2 ^ k - 1) / 2 ^ k)=h / 2 ^ k by omega]
    .rw [No f k _ O,No f k _ O]
   unfold Hb cK cZ wI;dsimp only;rw [iy O,Ak O,Od hk O,ino O,es];rfl)
  rw [Alv,No f k _ (Akz _),Aki]at h1;have e1:IntKind.wrap .i64 (1 * ((2 ^ k:Nat):Int))=((2 ^ k:Nat):Int):=by rw [Int.one_mul,w64 O O]
  have e2:IntKind.wrap .i64 ((f:Int)+((2 ^ k:Nat):Int))=((f+2 ^ k:Nat):Int):=by rw [w64 O O];omega
  have e3:IntKind.wrap .i64 (((f+2 ^ k:Nat):Int) - 1)=((f+2 ^ k - 1:Nat):Int):=by rw [w64 O O];omega
  unfold Ff cZ wI;dsimp only;rw [iy O,iy O,iy O,p1,e1,e2,e3,Al5 _ O,<- Int.natCast_ediv,h1,Aj1];dsimp only;rw [Ak O]) (by
  unfold Ff cZ wI;dsimp only;rw [ino O];rfl)
 rw [show Ab Ff ((f:Int),(h:Int),[],0)=_ from h2];rfl
def ky (s:Int×Int):Nat:=64 * s.1.toNat+s.2.toNat
structure St8 (f h:Nat) (s:Int×Int) (k i:Nat):Prop where
 e:s=((k:Int),(i:Int))
 hk:k < 6
 lo:f<=i * 2 ^ k
 hi:(i+1) * 2 ^ k<=h
theorem skn_mem {f k n:Nat} {s:Int×Int}:s∈skn f k n↔∃i,i < n/\f<=i * 2 ^ k/\s=((k:Int),((i:Nat):Int)):=by
 unfold skn;simp only [Ako,AlL,AlD,decide_eq_true_eq];constructor
 .rintro ⟨i,⟨h1,h2⟩,rfl⟩;exact⟨i,h1,h2,rfl⟩
 .rintro ⟨i,h1,h2,rfl⟩;exact⟨i,⟨h1,h2⟩,rfl⟩
theorem Aao {f h:Nat} {s:Int×Int}:∀{n:Nat},s∈stk f h n↔∃k i,k < n/\i < h / 2 ^ k/\f<=i * 2 ^ k/\s=(((k:Nat):Int),((i:Nat):Int))
 | 0=>by simp [stk]
 | n+1=>by
  unfold stk;rw [Aka,Aao,skn_mem];constructor
  .rintro (⟨k,i,h1,h2⟩ | ⟨i,h1,h2⟩)
   .exact⟨k,i,O,h2⟩
   .exact⟨n,i,O,h1,h2⟩
  .rintro ⟨k,i,h1,h2⟩;by_cases hk:k=n
   .subst hk;exact .inr ⟨i,h2⟩
   .exact .inl ⟨k,i,O,h2⟩
theorem sts_mem {f h:Nat} {s:Int×Int}:s∈sts f h↔∃k i,St8 f h s k i:=by
 unfold sts;rw [Aao];constructor
 .rintro ⟨k,i,h1,h2,h3,h4⟩;exact⟨k,i,h4,h1,h3,lt_dv.2 h2⟩
 .rintro ⟨k,i,h⟩;exact⟨k,i,h.hk,lt_dv.1 h.hi,h.lo,h.e⟩
theorem St8.lt {f h k i:Nat} {s:Int×Int} (g:St8 f h s k i) (hh:h<=60):i < 60/\ky s=64 * k+i/\64 * k+i < 384:=by
 have h1:=lt_dv.1 g.hi;have h2:=Amm h (2 ^ k);have h3:=g.hk;refine⟨O,?_,O⟩;unfold ky;rw [g.e];simp
theorem SM (a b c:Int):Bz a b c=some (decide (b<=a) && decide (a<=c)):=by
 unfold Bz;by_cases h:b<=a <;> simp [h]
theorem Kc {k i:Nat} (hk:k < 6) (hi:i < 64):FU (k:Int) (i:Int)=some ((64 * k+i:Nat):Int):=by
 unfold FU wI;rw [SM,Aj1,decide_eq_true (show(0:Int)<=(k:Int) by omega),decide_eq_true (show(k:Int)<=5 by omega),SM,Aj1,decide_eq_true (show(0:Int)<=(i:Int) by omega),decide_eq_true (show(i:Int)<=63 by omega)];simp only [Bool.and_self,AkT,Akh,AkI,Aj1];rw [w64 (n:=64 * (k:Int)) O O,w64 O O]
 congr 1
theorem Abp {k i:Nat} (hk:k < 6) (hi:i < 64):MQ (k:Int) (i:Int)=some ((64 * k+i:Nat):Int):=by
 unfold MQ wI;rw [AJ,Aj1,decide_eq_true (show(0:Int)<=(k:Int)/\(k:Int)<=5 by omega),AJ,Aj1,decide_eq_true (show(0:Int)<=(i:Int)/\(i:Int)<=63 by omega)];simp only [Bool.and_self,AkT,Akh,AkI,Aj1];rw [w64 (n:=64 * (k:Int)) O O,w64 O O]
 congr 1
theorem Ac2 {k i:Nat} (hk:k < 6) (hi:i < 64):E2 (k:Int) (i:Int)=some ((i * 2 ^ k:Nat):Int):=by
 unfold E2 cZ wI;rw [iy O,Od hk O]
theorem AgW {k i:Nat} (hk:k < 6) (hi:i < 64):GA (k:Int) (i:Int)=some (((i+1) * 2 ^ k:Nat):Int):=by
 unfold GA cZ wI;rw [iy O,Ak O,Od hk O]
def ckn (f e n:Nat):List Nat:=((List.range n).map (f+1 + ·)).filter λr=>decide (r % e=0)
theorem Re (f e n:Nat):ckn f e (n+1)=ckn f e n++(if(f+1+n) % e=0 then [f+1+n]else []):=by
 unfold ckn;rw [AlF,AkJ,Alr];by_cases h:(f+1+n) % e=0 <;> simp [h]
theorem Qn (f e n:Nat):(ckn f e n).length<=n:=by
 unfold ckn;exact AkE (Alg _ _) Z
def cks (f h e:Nat):List Nat:=ckn f e (h - f)
theorem cks_mem {f h e r:Nat}:r∈cks f h e↔f < r/\r<=h/\r % e=0:=by
 unfold cks ckn;simp only [AlL,Ako,AlD,decide_eq_true_eq];constructor
 .rintro ⟨⟨a,h1,rfl⟩,h2⟩;exact⟨O,O,h2⟩
 .rintro ⟨h1,h2,h3⟩;exact⟨⟨r - (f+1),O,O⟩,h3⟩
theorem WB {a e:Nat}:Int.tmod (a:Int) (e:Int)=((a % e:Nat):Int):=by
 rw [AlC O];rfl
theorem YL {f h e:Nat} (hf:f<=h) (hh:h<=60) (he:0 < e) (he2:e<=30):NC (f:Int) (h:Int) (e:Int)=some ((cks f h e).map λr=>((r:Nat):Int)):=by
 unfold NC wI;have h2:=Am Hs (λn=>((h:Int),(e:Int),(ckn f e n).map (λr=>((r:Nat):Int)),((f+1+n:Nat):Int))) (h - f) ((cks f h e).map λr=>((r:Nat):Int)) (λn hn=>by
  have hl:=Qn f e n;unfold Hs cK wI;dsimp only;rw [iy O,iy O,WB,Re];by_cases hz:(f+1+n) % e=0
  .rw [iy O,Aj7 (by simp only [Aa,decide_eq_true_eq,Ake,Aky];omega),Aj1,Aj7 hz,AkJ];dsimp only;rw [Ak O];rfl
  .rw [ino O,Aj1,Aj6 hz,Aki];dsimp only;rw [Ak O];rfl) (by
  unfold Hs cK wI;dsimp only;rw [ino O];rfl)
 rw [Ak O,show Ab Hs ((h:Int),(e:Int),[],((f+1:Nat):Int))=_ from h2];rfl
end Go.V.G
set_option maxRecDepth 100000
namespace Go.V.G
open Go.V
theorem AgH:Ris ([]:List Int):=by rw [ris_iff];exact List.Pairwise.nil
noncomputable abbrev srt (l:List Int):List Int:=pts [] l
theorem IU {l:List Int} (h:l.length<=1000000):Ris (srt l)/\(srt l).length<=l.length/\∀v,v∈srt l↔v∈l:=by
 obtain ⟨h1,h2,h3⟩:=Acr AgH (l:=l) (by simp only [AkB];omega);refine⟨h1,by simpa using h2,λv=>by rw [h3 v];simp⟩
theorem FT {l:List Int} (h:l.length<=1000000) (v:Int):C7 (srt l) v=some (srt (l++[v]))/\H2 (srt l) v=some (srt (l++[v])):=by
 obtain ⟨h1,h2,h3⟩:=IU h;obtain ⟨p1,p2,_⟩:=Md (z:=srt l) O h1 v;have e:srt (l++[v])=pt (srt l) v:=Ae1 [] l v;rw [e];exact⟨p1,p2⟩
theorem Sa {l:List Int} {i:Nat} {v:Int} (h:l[i]?=some v):(l.take (i+1)).filter (λv=>decide (¬ v=0))=(l.take i).filter (λv=>decide (¬ v=0))++(if v=0 then []else [v]):=by
 rw [CT h,Alr];by_cases h0:v=0 <;> simp [h0]
def pgl (top:List Int) (root:Int):List Int:=(top++[root]).filter (λv=>decide (¬ v=0))
theorem Z5 {top:List Int} {root:Int} (h:top.length=32):(pgl top root).length<=33:=by
 unfold pgl;have:=Alg (λv=>decide (¬ v=0)) (top++[root]);rw [Aj9,Ake,h]at this;omega
theorem Aek {b:Bls} {x y z top:List Int} {root:Int} (h:SB b x y z) (hu:∀c∈b,U8s c) (hg:gsp b x y z=true) (ht:tre b x y root=some top):Mb b x y z root=some (srt (pgl top root),true):=by
 have htl:=G4 ht;unfold Mb pgl cK;rw [HM h hu,hg,ht,Aj1,Aj6 Z,PJ ((P4 hg).rs h hu),ht,Aj1];unfold trS;dsimp only;rw [Aj7 (AaC O _)];generalize hL:top++[root]=L;have hLl:L.length=33:=by rw [<- hL];simp [htl]
 have hl:=Am Gi (λi=>(srt ((L.take i).filter (λv=>decide (¬ v=0))),L,(L.length:Int),((i:Nat):Int))) L.length (srt ((L.take L.length).filter (λv=>decide (¬ v=0)))) (λi hi=>by
  have hgi:=Ai hi;have hfl:=Alg (λv=>decide (¬ v=0)) (L.take i);rw [Akb]at hfl;have hput:=(FT (l:=(L.take i).filter (λv=>decide (¬ v=0))) O (gb L i)).1;unfold Gi cK cZ wI;dsimp only;rw [iy O,iy O,iy O,Akt,Aj4,hgi,Aj1,Sa hgi];by_cases h0:gb L i=0
  .rw [ino (not_not_intro h0),Aj1,Aj7 h0,Aki];dsimp only;rw [Ak O]
  .rw [iy h0,hput,Aj1,Aj1,Aj6 h0];dsimp only;rw [Ak O]) (by
  unfold Gi cK cZ wI;dsimp only;rw [ino O])
 rw [show Ab Gi ([],L,(L.length:Int),0)=_ from hl,AkR];rfl
theorem Aeh {top:List Int} (htl:top.length=32) (root:Int) (v:List (List Int)):IJ root top v=some (srt (pgl top root)):=by
 unfold IJ pgl cK;rw [AbL O,Aj1,Aj7 (AaC O _)];generalize hL:top++[root]=L;have hLl:L.length=33:=by rw [<- hL];simp [htl]
 have hl:=Am Ef (λi=>(srt ((L.take i).filter (λv=>decide (¬ v=0))),L,(L.length:Int),((i:Nat):Int))) L.length (srt ((L.take L.length).filter (λv=>decide (¬ v=0)))) (λi hi=>by
  have hgi:=Ai hi;have hfl:=Alg (λv=>decide (¬ v=0)) (L.take i);rw [Akb]at hfl;have hput:=(FT (l:=(L.take i).filter (λv=>decide (¬ v=0))) O (gb L i)).2;unfold Ef cK cZ wI;dsimp only;rw [iy O,iy O,iy O,Akt,Aj4,hgi,Aj1,Sa hgi];by_cases h0:gb L i=0
  .rw [ino (not_not_intro h0),Aj1,Aj7 h0,Aki];dsimp only;rw [Ak O]
  .rw [iy h0,hput,Aj1,Aj1,Aj6 h0];dsimp only;rw [Ak O]) (by
  unfold Ef cK cZ wI;dsimp only;rw [ino O])
 rw [show Ab Ef ([],L,(L.length:Int),0)=_ from hl,AkR];rfl
def kyI (s:Int×Int):Int:=(ky s:Int)
def ckI (r:Nat):Int:=((384+r:Nat):Int)
def IH (f h e:Nat):List Int:=(sts f h).map kyI++((cks f h e).map ckI++[448])
noncomputable def wnt (f h e:Nat):List Int:=srt (IH f h e)
theorem Ia {f h:Nat} (hh:h<=60):(sts f h).length<=360:=by
 have:=Qe f h 6;unfold sts;omega
theorem MN {f h e:Nat} (hh:h<=60):(cks f h e).length<=60:=by
 have:=Qn f e (h - f);unfold cks;omega
theorem Ads {f h e:Nat} (hh:h<=60):(IH f h e).length<=421:=by
 have h1:=Ia (f:=f) hh;have h2:=MN (f:=f) (e:=e) hh;unfold IH;simp only [Aj9,Aky,Ake];omega
theorem Pm {f h:Nat} {i:Nat} (hi:i < (sts f h).length):∃k j,St8 f h (sts f h)[i] k j:=sts_mem.1 (Akq hi)
theorem Y2 {f h e:Nat} (hf:f<=h) (hh:h<=60) (he:0 < e) (he2:e<=30):Ju (f:Int) (h:Int) (e:Int)=some (wnt f h e):=by
 have hsl:=Ia (f:=f) hh;unfold Ju wI;rw [Of hh,Aj1];have h1:=Am EP (λi=>((f:Int),(h:Int),(e:Int),srt (((sts f h).map kyI).take i),sts f h,(((sts f h).length:Nat):Int),((i:Nat):Int))) (sts f h).length ((f:Int),(h:Int),(e:Int),srt ((sts f h).map kyI)) (λi hi=>by
  obtain ⟨k,j,g⟩:=Pm hi;obtain ⟨l1,l2,l3⟩:=g.lt hh;have hk:=g.hk;have hget:(sts f h)[i]?=some ((sts f h)[i]):=Aj3 hi;have hml:((sts f h).map kyI)[i]?=some (((64 * k+j:Nat):Nat):Int):=by rw [AkH,hget];show some (kyI _)=_;unfold kyI;rw [l2]
  have hput:=(FT (l:=((sts f h).map kyI).take i) (by rw [Akb,Aky];omega) ((64 * k+j:Nat):Int)).1;unfold EP cK cZ wI;dsimp only;rw [iy O,iy O,iy O,Akt,Aj4,hget,Aj1,Aj1];simp only [g.e];rw [Kc hk O,Aj1,hput,Aj1,Ak O,CT hml]) (by
  unfold EP cK cZ wI;dsimp only;rw [ino O,AkQ Z])
 rw [show Ab EP ((f:Int),(h:Int),(e:Int),[],sts f h,(((sts f h).length:Nat):Int),0)=_ from h1,Aj1];dsimp only;have h2:=Am E1 (λn=>((h:Int),(e:Int),srt ((sts f h).map kyI++(ckn f e n).map ckI),((f+1+n:Nat):Int))) (h - f) (srt ((sts f h).map kyI++(cks f h e).map ckI)) (λn hn=>by
  have hl:=Qn f e n;unfold E1 cK wI;dsimp only;rw [iy O,iy O,WB,Re];by_cases hz:(f+1+n) % e=0
  .have hput:=(FT (l:=(sts f h).map kyI++(ckn f e n).map ckI) (by rw [Aj9,Aky,Aky];omega) (ckI (f+1+n))).1;have ew:IntKind.wrap .i64 (384+((f+1+n:Nat):Int))=ckI (f+1+n):=by rw [w64 O O];unfold ckI;omega
   rw [iy O,ew,hput,Aj1,Aj1,Aj7 hz,AkJ,<- Akd];dsimp only;rw [Ak O];rfl
  .rw [ino O,Aj1,Aj6 hz,Aki];dsimp only;rw [Ak O];rfl) (by
  unfold E1 cK wI;dsimp only;rw [ino O];rfl)
 have e0:(sts f h).map kyI++(ckn f e 0).map ckI=(sts f h).map kyI:=by simp [ckn]
 rw [e0]at h2;have hcl:=MN (f:=f) (e:=e) hh;rw [Ak O,show Ab E1 ((h:Int),(e:Int),srt ((sts f h).map kyI),((f+1:Nat):Int))=_ from h2,Aj1,
  (FT (l:=(sts f h).map kyI++(cks f h e).map ckI) (by rw [Aj9,Aky,Aky];omega) 448).1,Akd]
 rfl
theorem AcJ {f h e:Nat} (hh:h<=60):Ris (wnt f h e)/\(wnt f h e).length<=421/\∀v,v∈wnt f h e↔v∈IH f h e:=by
 have hl:=Ads (f:=f) (e:=e) hh;obtain ⟨h1,h2,h3⟩:=IU (l:=IH f h e) O;exact⟨h1,by unfold wnt;omega,h3⟩
theorem Aal (b:Bls) (top:List Int):∀n,((ksT b top n).map (·.1)).Pairwise (· < ·)/\∀v∈(ksT b top n).map (·.1),v < ((n:Nat):Int)
 | 0=>by simp [ksT]
 | n+1=>by
  obtain ⟨h1,h2⟩:=Aal b top n;rw [Nv,AkJ];by_cases hz:vl b top n=0
  .rw [Aj7 hz];refine⟨by simpa using h1,λv hv=>?_⟩;have:=h2 v (by simpa using hv);omega
  .rw [Aj6 hz];refine⟨?_,λv hv=>?_⟩
   .rw [AlM];refine⟨h1,Z,λa ha c hc=>?_⟩;simp only [AkN,Ami,Akc]at hc;rw [hc];exact h2 a ha
   .rcases Aka.1 hv with hv | hv
    .have:=h2 v hv;omega
    .simp only [AkN,Ami,Akc]at hv;omega
theorem ksT_mem {b:Bls} {top:List Int} {n:Nat} {v:Int}:v∈(ksT b top n).map (·.1)↔∃k:Nat,k < n/\¬ vl b top k=0/\v=(k:Int):=by
 unfold ksT;simp only [Ak0,Ako,AlL,AlD,decide_eq_true_eq,Function.comp];constructor
 .rintro ⟨k,⟨h1,h2⟩,rfl⟩;exact⟨k,h1,h2,rfl⟩
 .rintro ⟨k,h1,h2,rfl⟩;exact⟨k,⟨h1,h2⟩,rfl⟩
noncomputable def kok (b:Bls) (top:List Int) (f h e:Nat):Bool:=decide ((ksT b top 1024).map (·.1)=wnt f h e)
theorem ZG {b:Bls} {top:List Int} {f h e:Nat} (hh:h<=60):kok b top f h e=true↔(∀k:Nat,k < 1024->¬ vl b top k=0->(k:Int)∈IH f h e)/\∀k:Nat,k < 1024->(k:Int)∈IH f h e->¬ vl b top k=0:=by
 obtain ⟨w1,_,w3⟩:=AcJ (f:=f) (e:=e) hh;unfold kok;rw [decide_eq_true_eq];constructor
 .intro q;refine⟨λk hk hv=>?_,λk hk hm=>?_⟩
  .rw [<- w3,<- q];exact ksT_mem.2 ⟨k,hk,hv,rfl⟩
  .rw [<- w3,<- q]at hm;obtain ⟨k',h1,h2,h3⟩:=ksT_mem.1 hm;have:k'=k:=O
   rw [<- this];exact h2
 .rintro ⟨q1,q2⟩;refine Tf (ris_iff.2 (Aal b top 1024).1) w1 λv=>?_
  rw [w3,ksT_mem];constructor
  .rintro ⟨k,h1,h2,rfl⟩;exact q1 k h1 h2
  .intro hm;have hb:∃k:Nat,k < 1024/\v=(k:Int):=by
    unfold IH at hm;rcases Aka.1 hm with hm | hm
    .obtain ⟨s,hs,rfl⟩:=Ako.1 hm;obtain ⟨k,j,g⟩:=sts_mem.1 hs;obtain ⟨l1,l2,l3⟩:=g.lt hh;exact⟨ky s,O,rfl⟩
    .rcases Aka.1 hm with hm | hm
     .obtain ⟨r,hr,rfl⟩:=Ako.1 hm;have:=cks_mem.1 hr;exact⟨384+r,O,rfl⟩
     .exact⟨448,O,by simpa using hm⟩
   obtain ⟨k,hk,rfl⟩:=hb;exact⟨k,hk,q2 k hk hm,rfl⟩
end Go.V.G
set_option maxRecDepth 100000
namespace Go.V.G
open Go.V
theorem AeR {σ α:Type} {f:σ->α->Option σ} {xs:List α} {x y:σ} (h:∀l:List α,l.Perm xs->l.foldlM f x=some y):Ny f xs x=some y:=by
 have hx:∃y,∀l:List α,l.Perm xs->l.foldlM f x=some y:=⟨y,h⟩
 unfold Ny;rw [dif_pos hx];have h1:=hx.choose_spec xs (List.Perm.refl _);rw [h xs (List.Perm.refl _)]at h1;exact h1.symm
def ndb (l:List Int):Bool:=decide l.Nodup
theorem Ky {l:List Int} {v:Int}:(l++[v]).Nodup↔l.Nodup/\v∉l:=by
 rw [Akn];constructor
 .rintro ⟨h1,_,h3⟩;exact⟨h1,λhv=>h3 v hv v Z rfl⟩
 .rintro ⟨h1,h2⟩;refine⟨h1,Z,λa ha c hc=>?_⟩;rw [Akc.1 hc];rintro rfl;exact h2 ha
theorem WM (l:List Int) (v:Int):ndb (l++[v])=(ndb l && !decide (v∈l)):=by
 unfold ndb;by_cases h1:l.Nodup <;> by_cases h2:v∈l <;> simp [Ky,h1,h2]
def bd (fn:Bool) (l:List Int):Bool:=!(fn && ndb l)
theorem AaP (fn:Bool) (l:List Int) (v:Int):bd fn (l++[v])=if bd fn l=true then true else decide (v∈l):=by
 unfold bd;rw [WM];cases fn <;> cases ndb l <;> simp
structure Led (C P bl:List Int):Prop where
 mem:∀v,v∈bl↔v∈C\/v∈P
 nd:bl.Nodup↔C.Nodup/\∀v∈P,v∉C
theorem Led.nil:Led [] [] []:=⟨Z,Z⟩
theorem Led.claim {C P bl:List Int} (h:Led C P bl) (v:Int):Led (C++[v]) P (bl++[v]):=by
 refine⟨λw=>?_,?_⟩
 .simp only [Aka,Akc,h.mem w];constructor
  .rintro ((h | h) | h)
   .exact .inl (.inl h)
   .exact .inr h
   .exact .inl (.inr h)
  .rintro ((h | h) | h)
   .exact .inl (.inl h)
   .exact .inr h
   .exact .inl (.inr h)
 .rw [Ky,Ky,h.nd,h.mem];constructor
  .rintro ⟨⟨h1,h2⟩,h3⟩;refine⟨⟨h1,λq=>h3 (.inl q)⟩,λw hw hm=>?_⟩;rcases Aka.1 hm with hm | hm
   .exact h2 w hw hm
   .rw [Akc.1 hm]at hw;exact h3 (.inr hw)
  .rintro ⟨⟨h1,h2⟩,h3⟩;refine⟨⟨h1,λw hw hm=>h3 w hw (Alw _ hm)⟩,?_⟩;rintro (q | q)
   .exact h2 q
   .exact h3 v q Z
theorem Led.claims {P:List Int}:∀{l C bl:List Int},Led C P bl->Led (C++l) P (bl++l)
 | [],C,bl,h=>by simpa using h
 | v::l,C,bl,h=>by
  have:=Led.claims (l:=l) (h.claim v);simpa using this
theorem Led.piece {C P bl:List Int} (h:Led C P bl) (v:Int):Led C (P++[v]) (if v∈P then bl else bl++[v]):=by
 by_cases hv:v∈P
 .rw [Aj7 hv];refine⟨λw=>?_,?_⟩
  .rw [h.mem w,Aka,Akc];constructor
   .rintro (q | q)
    .exact .inl q
    .exact .inr (.inl q)
   .rintro (q | q | q)
    .exact .inl q
    .exact .inr q
    .exact .inr (by rw [q];exact hv)
  .rw [h.nd];constructor
   .rintro ⟨h1,h2⟩;refine⟨h1,λw hw=>?_⟩;rcases Aka.1 hw with hw | hw
    .exact h2 w hw
    .rw [Akc.1 hw];exact h2 v hv
   .rintro ⟨h1,h2⟩;exact⟨h1,λw hw=>h2 w (Alw _ hw)⟩
 .rw [Aj6 hv];refine⟨λw=>?_,?_⟩
  .rw [Aka,h.mem w,Aka,Akc];constructor
   .rintro ((q | q) | q)
    .exact .inl q
    .exact .inr (.inl q)
    .exact .inr (.inr q)
   .rintro (q | q | q)
    .exact .inl (.inl q)
    .exact .inl (.inr q)
    .exact .inr q
  .rw [Ky,h.nd,h.mem];constructor
   .rintro ⟨⟨h1,h2⟩,h3⟩;refine⟨h1,λw hw=>?_⟩;rcases Aka.1 hw with hw | hw
    .exact h2 w hw
    .rw [Akc.1 hw];exact λq=>h3 (.inl q)
   .rintro ⟨h1,h2⟩;refine⟨⟨h1,λw hw=>h2 w (Alw _ hw)⟩,?_⟩;rintro (q | q)
    .exact h2 v Z q
    .exact hv q
def bpn (P bl l:List Int):Nat->List Int
 | 0=>bl
 | i+1=>if gb l i∈P++l.take i then bpn P bl l i else bpn P bl l i++[gb l i]
theorem AaG {C P bl l:List Int} (h:Led C P bl):∀n,n<=l.length->Led C (P++l.take n) (bpn P bl l n)
 | 0,_=>by simpa [bpn] using h
 | n+1,hn=>by
  have h1:=(AaG (l:=l) h n O).piece (gb l n);rw [CT (Ai (O:n < l.length)),<- Akd];exact h1
theorem TM (P bl l:List Int):∀n,(bpn P bl l n).length<=bl.length+n
 | 0=>by simp [bpn]
 | n+1=>by
  have:=TM P bl l n;unfold bpn;split
  .omega
  .rw [Aj9,Ake];omega
theorem Afs (m:List (Int×Int)) (k v w:Int):CF (Dn m k v) w=if w=k then v else CF m w:=by
 induction m with
 | nil=>
  unfold Dn CF CF;by_cases h:k=w
  .subst h;simp
  .rw [Aj6 h,Aj6 (λq=>h q.symm)]
 | cons p m ih=>
  unfold Dn;by_cases h:p.1=k
  .rw [Aj7 h];unfold CF;by_cases hw:k=w
   .subst hw;simp
   .rw [Aj6 hw,Aj6 (λq=>hw q.symm),Aj6 (by rw [h];exact hw)]
  .rw [Aj6 h];unfold CF;by_cases hw:p.1=w
   .rw [Aj7 hw,Aj7 hw,Aj6 (by rw [<- hw];exact h)]
   .rw [Aj6 hw,Aj6 hw];exact ih
theorem Ut (m:List (Int×Int)) (k v:Int):∀w,w∈(Dn m k v).map (·.1)↔w∈m.map (·.1)\/w=k:=by
 induction m with
 | nil=>intro w;simp [Dn]
 | cons p m ih=>
  intro w;unfold Dn;by_cases h:p.1=k
  .rw [Aj7 h];simp only [AkN,Akk,h];constructor
   .rintro (q | q)
    .exact .inr q
    .exact .inl (.inr q)
   .rintro ((q | q) | q)
    .exact .inl q
    .exact .inr q
    .exact .inl q
  .rw [Aj6 h];simp only [AkN,Akk,ih w];constructor
   .rintro (q | q | q)
    .exact .inl (.inl q)
    .exact .inl (.inr q)
    .exact .inr q
   .rintro ((q | q) | q)
    .exact .inl q
    .exact .inr (.inl q)
    .exact .inr (.inr q)
theorem Af9 (m:List (Int×Int)) (k v:Int) (h:(m.map (·.1)).Nodup):((Dn m k v).map (·.1)).Nodup:=by
 induction m with
 | nil=>simp [Dn]
 | cons p m ih=>
  rw [AkN,AkV]at h;unfold Dn;by_cases hk:p.1=k
  .rw [Aj7 hk,AkN,AkV];rw [hk]at h;exact h
  .rw [Aj6 hk,AkN,AkV];refine⟨λq=>?_,ih h.2⟩;rcases (Ut m k v p.1).1 q with q | q
   .exact h.1 q
   .exact hk q
theorem X0 {m:List (Int×Int)} (h:(m.map (·.1)).Nodup):∀p∈m,CF m p.1=p.2:=by
 induction m with
 | nil=>intro p hp;cases hp
 | cons q m ih=>
  intro p hp;rw [AkN,AkV]at h;unfold CF;rcases Akk.1 hp with rfl | hp
  .rw [Aj7 rfl]
  .rw [Aj6 (λe=>h.1 (by rw [e];exact List.mem_map_of_mem hp))];exact ih h.2 p hp
def std (P:List Int):List (Int×Int):=P.foldl (λm k=>Dn m k (CF m k+1)) []
theorem Oh (P:List Int) (v:Int):std (P++[v])=Dn (std P) v (CF (std P) v+1):=by unfold std;rw [AlI];rfl
theorem Aej {p:List Int->Prop} (h0:p []) (h1:∀l v,p l->p (l++[v])) (l:List Int):p l:=by
 have:∀n,∀l:List Int,l.length=n->p l:=by
  intro n
  induction n with
  | zero=>intro l hl;rw [List.length_eq_zero_iff.1 hl];exact h0
  | succ n ih=>
   intro l hl;have e:=List.dropLast_concat_getLast (l:=l) (by intro q;rw [q]at hl;cases hl);rw [<- e];exact h1 _ _ (ih _ (by rw [List.length_dropLast];omega))
 exact this _ l rfl
theorem Xv (P:List Int):(∀v,CF (std P) v=(P.count v:Int))/\((std P).map (·.1)).Nodup/\∀v,v∈(std P).map (·.1)↔v∈P:=by
 refine Aej (p:=λP=>(∀v,CF (std P) v=(P.count v:Int))/\((std P).map (·.1)).Nodup/\∀v,v∈(std P).map (·.1)↔v∈P) ?_ ?_ P
 .refine⟨λv=>by simp [std,CF],by simp [std],by simp [std]⟩
 .rintro P k ⟨h1,h2,h3⟩;refine⟨λv=>?_,?_,λv=>?_⟩
  .rw [Oh,Afs,h1,h1,List.count_append];by_cases h:v=k
   .subst h;rw [Aj7 rfl];simp
   .rw [Aj6 h];simp [List.count_cons,show ¬ k=v from λq=>h q.symm]
  .rw [Oh];exact Af9 _ _ _ h2
  .rw [Oh,Ut,h3,Aka,Akc]
theorem std_zero {P:List Int} {v:Int}:CF (std P) v=0↔v∉P:=by
 rw [(Xv P).1 v];have:=List.count_pos_iff (l:=P) (a:=v);constructor
 .intro h q;have:=this.2 q;omega
 .intro h;have:¬ 0 < P.count v:=λq=>h (this.1 q)
  omega
theorem N6 {l bl:List Int} (hl:bl.length+l.length<=100000) (fn:Bool) (ks rs:List Int) (d:Bls) (m:List (Int×Int)) :
  BK l ks bl rs (bd fn bl) d m=some (l,ks,bl++l,rs,bd fn (bl++l),d,m):=by
 unfold BK;have h:=Am Cg (λi=>(l,(l.length:Int),((i:Nat):Int),ks,bl++l.take i,rs,bd fn (bl++l.take i),d,m)) l.length (l,ks,bl++l,rs,bd fn (bl++l),d,m) (λi hi=>by
  have hg:=Ai hi;unfold Cg cK cZ wI;dsimp only;rw [iy O,iy O,iy O,Akt,Aj4,hg,Aj1,CT hg,<- Akd,AaP];have hr:Aa ((bl++l.take i).length+([gb l i]:List Int).length) 8=true:=by simp only [Aa,decide_eq_true_eq,Ake,Aj9,Akb];omega
  by_cases hb:bd fn (bl++l.take i)=true
  .rw [Aj7 hb,Aj1,Aj7 hb,Aj7 hr,Ak O]
  .rw [Aj6 hb,FW (by rw [Aj9,Akb];omega),Aj1,Aj1,Aj6 hb,Aj7 hr,Ak O]) (by
  unfold Cg cK cZ wI;dsimp only;rw [ino O,AkR])
 rw [Amg,Aki]at h;rw [show Ab Cg (l,(l.length:Int),0,ks,bl,rs,bd fn bl,d,m)=_ from h];rfl
theorem Y6 {l bl:List Int} (hl:bl.length+l.length<=100000) (fn:Bool) (ks rs:List Int) (d:Bls) (m:List (Int×Int)) :
  En l ks bl rs (bd fn bl) d m=some (ks,bl++l,rs,bd fn (bl++l),d,m):=by
 unfold En;have h:=Am CJ (λi=>(l,(l.length:Int),((i:Nat):Int),ks,bl++l.take i,rs,bd fn (bl++l.take i),d,m)) l.length (ks,bl++l,rs,bd fn (bl++l),d,m) (λi hi=>by
  have hg:=Ai hi;unfold CJ cK gX wI;dsimp only;rw [iy O,iy O,Aj4,hg,Aj1,CT hg,<- Akd,AaP];have hr:Aa ((bl++l.take i).length+([gb l i]:List Int).length) 8=true:=by simp only [Aa,decide_eq_true_eq,Ake,Aj9,Akb];omega
  by_cases hb:bd fn (bl++l.take i)=true
  .rw [Aj7 hb,Aj1,Aj7 hb,Aj7 hr,Ak O]
  .rw [Aj6 hb,FW (by rw [Aj9,Akb];omega),Aj1,Aj1,Aj6 hb,Aj7 hr,Ak O]) (by
  unfold CJ cK gX wI;dsimp only;rw [ino O,AkR])
 rw [Amg,Aki]at h;rw [show Ab CJ (l,(l.length:Int),0,ks,bl,rs,bd fn bl,d,m)=_ from h];rfl
theorem RX {b:Bls} {x y z:List Int} (g:RS b x y) (root:Int):IA (b,x,y,z) root=some (tin b x y root):=by
 unfold IA tin cK;rw [YI g,Aj1];cases hp:ptx b x y root with
 | none=>rfl
 | some l=>
  obtain ⟨⟨hall,hnd,hlen⟩,_⟩:=Ir hp;dsimp only;rw [Aj6 Z];have hL:=Am Ed (λk=>(root,cat b (l.take k),l.take k,l.map (Dw b),(l.length:Int),((k:Nat):Int))) l.length (root,cat b l,l) (λk hk=>by
   have hpk:=hall _ (Akq hk);have h1:=RQ (b:=b) (x:=x) (y:=y) (l:=l.take k) λv hv=>hall v (AlE hv)
   have h2:=Abq b hpk;rw [Akb]at h1;have hg:(l.map (Dw b))[k]?=some (Dw b l[k]):=by rw [AkH,Aj3 hk];rfl
   unfold Ed cK cZ wI;dsimp only;rw [iy O,iy O,iy (by rw [Aky];omega),Akt,Aj4,hg,Aj1,Aj1,Aj1,
    show(Dw b l[k]).2.2=Gr b l[k] from rfl,show(Dw b l[k]).1=l[k] from rfl,iy O,Aj7 (by simp only [Aa,decide_eq_true_eq,Ake,Akb];omega),Ak O,Yt b hk,Akp hk]) (by
   unfold Ed cK cZ wI;dsimp only;rw [ino O,AkR])
  have hL':Ab Ed (root,([]:List UInt8),[],l.map (Dw b),(l.length:Int),0)=_:=hL;rw [Aky,hL',Aj1];dsimp only;rw [Aj7 (by simp only [Aa,decide_eq_true_eq,Ake];omega)]
theorem WG {b:Bls} {x y z:List Int} (g:RS b x y) {root:Int} (hp:ptx b x y root=none) (ks bl rs:List Int) (w:Bool) (d:Bls) (a1:Int) (a2:Bool) (a3 a4 a5 a6 a7 a8:Int) (m:List (Int×Int)) :
  Bk root ks bl rs w d a1 a2 a3 a4 a5 a6 a7 a8 b x y z m=some ([],ks,bl,rs,true,d,a1,a2,a3,a4,a5,a6,a7,a8,b,x,y,z,m):=by
 unfold Bk sX wI;rw [RX g,Aj1];unfold tin;rw [hp];rfl
theorem Wp {b:Bls} {x y z:List Int} (g:RS b x y) {root:Int} {l:List Int} (hp:ptx b x y root=some l) {P bl:List Int} (hbl:bl.length<=90000) (hP:P.length<=90000) (fn:Bool) (ks rs:List Int) (d:Bls) (a1:Int) (a2:Bool) (a3 a4 a5 a6 a7 a8:Int) :
  Bk root ks bl rs (bd fn bl) d a1 a2 a3 a4 a5 a6 a7 a8 b x y z (std P) =
   some (cat b l,ks,bpn P (bl++[root]) l l.length,rs,bd fn (bpn P (bl++[root]) l l.length),d,a1,a2,a3,a4,a5,a6,a7,a8,b,x,y,z,std (P++l)):=by
 obtain ⟨⟨hall,hnd,hlen⟩,_⟩:=Ir hp;have hw:IntKind.wrap .i64 (((((l++[root]).length:Nat):Int)) - 1)=(l.length:Int):=by rw [Aj9,Ake,w64 O O];omega
 have hle:(l++[root]).length=l.length+1:=by simp
 have e1:(List.drop l.length (l++[root])).take (l.length+1 - l.length)=[root]:=by
  rw [List.drop_left,(O:l.length+1 - l.length=1)];rfl
 have e2:(List.drop (Int.toNat 0) (l++[root])).take (l.length - Int.toNat 0)=l:=by
  rw [show Int.toNat 0=0 from rfl,Ak6,AlT,List.take_left]
 unfold Bk sX wI;rw [RX g,Aj1];unfold tin;rw [hp];dsimp only;rw [Aj1];dsimp only;rw [Aj6 Z,hw,hle,iy O,iy O,iy O,iy O,Aj4,Aj4,e1,Y6 (by rw [Ake];omega),Aj1];dsimp only;rw [iy O,iy O,iy O,iy O,e2];have h:=Am B5 (λi=>(cat b l,l,(l.length:Int),((i:Nat):Int),ks,bpn P (bl++[root]) l i,rs,bd fn (bpn P (bl++[root]) l i),d,a1,a2,a3,a4,a5,a6,a7,a8,b,x,y,z,std (P++l.take i))) l.length
   (cat b l,ks,bpn P (bl++[root]) l l.length,rs,bd fn (bpn P (bl++[root]) l l.length),d,a1,a2,a3,a4,a5,a6,a7,a8,b,x,y,z,std (P++l)) (λi hi=>by
  have hg:=Ai hi;have hbn:=TM P (bl++[root]) l i;rw [Aj9,Ake]at hbn;have hc:IntKind.wrap .i64 (CF (std (P++l.take i)) (gb l i)+1)=CF (std (P++l.take i)) (gb l i)+1:=by
   rw [(Xv _).1];have:=List.count_le_length (l:=P++l.take i) (a:=gb l i);rw [Aj9,Akb]at this;rw [w64 O O]
  have hst:std (P++l.take (i+1))=Dn (std (P++l.take i)) (gb l i) (CF (std (P++l.take i)) (gb l i)+1):=by rw [CT hg,<- Akd,Oh]
  unfold B5 gX wI;dsimp only;rw [iy O,iy O,Aj4,hg,Aj1,hst];by_cases hz:gb l i∈P++l.take i
  .rw [ino (λq=>std_zero.1 q hz),Aj1];dsimp only;have e:bpn P (bl++[root]) l (i+1)=bpn P (bl++[root]) l i:=by show(if _ then _ else _)=_;rw [Aj7 hz]
   rw [e,hc,Ak O]
  .rw [iy (std_zero.2 hz),N6 (by rw [Ake];omega),Aj1];dsimp only;rw [Aj1];dsimp only;have e:bpn P (bl++[root]) l (i+1)=bpn P (bl++[root]) l i++[gb l i]:=by show(if _ then _ else _)=_;rw [Aj6 hz]
   rw [e,hc,Ak O]) (by
  unfold B5 gX wI;dsimp only;rw [ino O,AkR])
 rw [Amg,Aki]at h;rw [show Ab B5 (cat b l,l,(l.length:Int),0,ks,bl++[root],rs,bd fn (bl++[root]),d,a1,a2,a3,a4,a5,a6,a7,a8,b,x,y,z,std P)=_ from h];rfl
def rkd (b:Bls) (x y top:List Int) (k:Nat):List Int:=(rcA (rcd b x y (vl b top k))).1
def rkc (b:Bls) (x y top:List Int) (k:Nat):List Int:=(rcA (rcd b x y (vl b top k))).2.1
def rko (b:Bls) (x y top:List Int) (k:Nat):Bool:=(rcA (rcd b x y (vl b top k))).2.2
theorem AaD {b:Bls} {x y:List Int}:∀(f:Nat) (a:Int) (d ch:List Int) {p:List Int×List Int},rcN b x y f a d ch=some p->p.2.length<=ch.length+f/\p.1.length<=d.length+124 * f
 | 0,_,_,_,p,h=>by cases h
 | f+1,a,d,ch,p,h=>by
  unfold rcN at h;split at h
  .rename_i hc;have ho:=TK hc;split at h
   .injection h with h;subst h;simp;omega
   .have:=AaD f _ _ _ h;simp only [Aj9,Ake]at this;omega
  .cases h
theorem Hp (b:Bls) (x y top:List Int) (k:Nat):(rkc b x y top k).length<=10/\(rkd b x y top k).length<=1240:=by
 unfold rkc rkd rcA;split
 .rename_i p hp;have:=AaD _ _ _ _ hp;simp only [AkB]at this;dsimp only;omega
 .simp
theorem U7 {b:Bls} {x y z top:List Int} (g:RS b x y) (ht:top.length=32) {bl ks:List Int} (hbl:bl.length<=90000) (hks:ks.length<=90000) {k:Nat} (hk:k < 1024) (fn:Bool) (rs:List Int) (d:Bls) (a1:Int) (a2:Bool) (a3 a4 a5 a6 a7 a8 rt:Int) (m:List (Int×Int)) :
  Bw (k:Int) ks bl rs (bd fn bl) d a1 a2 a3 a4 a5 a6 a7 a8 b x y z rt top (top.map (lfv b)) m =
   some (rkd b x y top k,ks++[(k:Int)],bl++rkc b x y top k,rs,bd (fn && rko b x y top k) (bl++rkc b x y top k),d,a1,a2,a3,a4,a5,a6,a7,a8,b,x,y,z,rt,top,top.map (lfv b),m):=by
 have hl:=(Hp b x y top k).1;unfold Bw cK;rw [Aj7 (by simp only [Aa,decide_eq_true_eq,Ake];omega),OW ht rt hk,Aj1,Zs g,Aj1];have hb:(if bd fn bl=true then true else !(rko b x y top k))=bd (fn && rko b x y top k) bl:=by
  unfold bd;cases fn <;> cases ndb bl <;> cases rko b x y top k <;> rfl
 unfold rkd rkc rko at *;generalize rcA (rcd b x y (vl b top k))=q at *;obtain ⟨q1,q2,q3⟩:=q;dsimp only at *;have hc:=N6 (l:=q2) (bl:=bl) O (fn && q3) (ks++[(k:Int)]) rs d m;rw [<- hb]at hc;by_cases hw:bd fn bl=true
 .rw [Aj7 hw,Aj1];dsimp only;rw [Aj7 hw]at hc;rw [hc];rfl
 .rw [Aj6 hw,Aj1];dsimp only;rw [Aj6 hw]at hc;rw [hc];rfl
end Go.V.G
set_option maxRecDepth 100000
namespace Go.V.G
open Go.V
def okb (fn:Bool) (l:List Int):Bool:=fn && ndb l
theorem Wj (fn:Bool) (l:List Int) (v:Int):okb fn (l++[v])=if v∈l then false else okb fn l:=by
 unfold okb;rw [WM];by_cases h:v∈l <;> simp [h]
def mny (n:Nat) (P:List Int):List Int:=(List.range n).map λk=>(P.count ((k:Nat):Int):Int)
theorem I4 (n:Nat) (P:List Int):(mny n P).length=n:=by simp [mny]
theorem OV {n k:Nat} (P:List Int) (h:k < n):(mny n P)[k]?=some (P.count (k:Int):Int):=by
 unfold mny;rw [AkH,AlZ h];rfl
theorem Ad3 {n k:Nat} (P:List Int) (h:k < n):mny n (P++[(k:Int)])=(mny n P).set k ((P.count (k:Int):Int)+1):=by
 refine AkZ λi=>?_
 rw [Amn,I4];by_cases hi:i < n
 .rw [OV _ hi,OV _ hi,List.count_append];by_cases hk:k=i
  .subst hk;rw [Aj7 rfl,Aj7 h];simp
  .rw [Aj6 hk];have:¬ (k:Int)=(i:Int):=O
   simp [List.count_cons,this]
 .rw [Akr (by rw [I4];omega),Akr (by rw [I4];omega)];by_cases hk:k=i
  .rw [Aj7 hk,Aj6 O]
  .rw [Aj6 hk]
theorem RK {l C:List Int} (hl:C.length+l.length<=100000) (fn:Bool) (b:Bls) (x y z rs m:List Int) :
  BX l b x y z rs (srt C) m (okb fn C)=some (l,b,x,y,z,rs,srt (C++l),m,okb fn (C++l)):=by
 unfold BX;have h:=Am B1 (λi=>(l,(l.length:Int),((i:Nat):Int),b,x,y,z,rs,srt (C++l.take i),m,okb fn (C++l.take i))) l.length (l,b,x,y,z,rs,srt (C++l),m,okb fn (C++l)) (λi hi=>by
  have hg:=Ai hi;have hcl:(C++l.take i).length<=1000000:=by rw [Aj9,Akb];omega
  obtain ⟨o1,o2,o3⟩:=IU hcl;unfold B1 cK cZ wI;dsimp only;rw [iy O,iy O,iy O,Akt,Aj4,hg,Aj1,CT hg,<- Akd,Wj,Gf O,Aj1];by_cases hb:gb l i∈C++l.take i
  .rw [Aj7 hb,decide_eq_true ((o3 _).2 hb),Aj7 rfl,Aj1];dsimp only;rw [(FT hcl _).1,Aj1,Ak O]
  .rw [Aj6 hb,decide_eq_false (λq=>hb ((o3 _).1 q)),Aj6 Z,Aj1];dsimp only;rw [(FT hcl _).1,Aj1,Ak O]) (by
  unfold B1 cK cZ wI;dsimp only;rw [ino O,AkR])
 rw [Amg,Aki]at h;rw [show Ab B1 (l,(l.length:Int),0,b,x,y,z,rs,srt C,m,okb fn C)=_ from h];rfl
theorem Y7 {l C:List Int} (hl:C.length+l.length<=100000) (fn:Bool) (b:Bls) (x y z rs m:List Int) :
  DL l b x y z rs (srt C) m (okb fn C)=some (b,x,y,z,rs,srt (C++l),m,okb fn (C++l)):=by
 unfold DL;have h:=Am Cq (λi=>(l,(l.length:Int),((i:Nat):Int),b,x,y,z,rs,srt (C++l.take i),m,okb fn (C++l.take i))) l.length (b,x,y,z,rs,srt (C++l),m,okb fn (C++l)) (λi hi=>by
  have hg:=Ai hi;have hcl:(C++l.take i).length<=1000000:=by rw [Aj9,Akb];omega
  obtain ⟨o1,o2,o3⟩:=IU hcl;unfold Cq gX wI;dsimp only;rw [iy O,iy O,Aj4,hg,Aj1,CT hg,<- Akd,Wj,Gf O,Aj1];by_cases hb:gb l i∈C++l.take i
  .rw [Aj7 hb,decide_eq_true ((o3 _).2 hb),Aj7 rfl,Aj1];dsimp only;rw [(FT hcl _).1,Aj1,Ak O]
  .rw [Aj6 hb,decide_eq_false (λq=>hb ((o3 _).1 q)),Aj6 Z,Aj1];dsimp only;rw [(FT hcl _).1,Aj1,Ak O]) (by
  unfold Cq gX wI;dsimp only;rw [ino O,AkR])
 rw [Amg,Aki]at h;rw [show Ab Cq (l,(l.length:Int),0,b,x,y,z,rs,srt C,m,okb fn C)=_ from h];rfl
theorem XH {b:Bls} {x y z:List Int} (g:RS b x y) {root:Int} (hp:ptx b x y root=none) (rs c m:List Int) (w:Bool) :
  BG root b x y z rs c m w=some ([],b,x,y,z,rs,c,m,false):=by
 unfold BG sX wI;rw [QH g,Aj1];unfold tin;rw [hp];rfl
theorem W2 {b:Bls} {x y z:List Int} (g:RS b x y) {root:Int} {l:List Int} (hp:ptx b x y root=some l) {P C:List Int} (hC:C.length<=90000) (hP:P.length<=90000) (fn:Bool) (rs:List Int) :
  BG root b x y z rs (srt C) (mny b.length P) (okb fn C)=some (cat b l,b,x,y,z,rs,srt (C++[root]),mny b.length (P++l),okb fn (C++[root])):=by
 obtain ⟨⟨hall,hnd,hlen⟩,_⟩:=Ir hp;have hw:IntKind.wrap .i64 (((((l++[root]).length:Nat):Int)) - 1)=(l.length:Int):=by rw [Aj9,Ake,w64 O O];omega
 have hle:(l++[root]).length=l.length+1:=by simp
 have e1:(List.drop l.length (l++[root])).take (l.length+1 - l.length)=[root]:=by
  rw [List.drop_left,(O:l.length+1 - l.length=1)];rfl
 have e2:(List.drop (Int.toNat 0) (l++[root])).take (l.length - Int.toNat 0)=l:=by
  rw [show Int.toNat 0=0 from rfl,Ak6,AlT,List.take_left]
 unfold BG sX wI;rw [QH g,Aj1];unfold tin;rw [hp];dsimp only;rw [Aj1];dsimp only;rw [Aj6 Z,hw,hle,iy O,iy O,iy O,iy O,Aj4,Aj4,e1,Y7 (by rw [Ake];omega),Aj1];dsimp only;rw [iy O,iy O,iy O,iy O,e2];have h:=Am Cy (λi=>(cat b l,l,(l.length:Int),((i:Nat):Int),b,x,y,z,rs,srt (C++[root]),mny b.length (P++l.take i),okb fn (C++[root]))) l.length
   (cat b l,b,x,y,z,rs,srt (C++[root]),mny b.length (P++l),okb fn (C++[root])) (λi hi=>by
  have hg:=Ai hi;have hmem:gb l i∈l:=by
   have:=Akq hi;rw [Aj3 hi]at hg;injection hg with hg;rw [<- hg];exact this
  obtain ⟨m,hm1,hm2,hm3,_⟩:=P7 (hall _ hmem);have hml:=I4 b.length (P++l.take i);have hc:=List.count_le_length (l:=P++l.take i) (a:=(m:Int));rw [Aj9,Akb]at hc;unfold Cy cK cZ gX wI;dsimp only;rw [iy O,iy O,Aj4,hg,Aj1,hm1,iy O,iy O,Aj4,Akt,OV _ hm3,Aj1,iy O,iy O,Aj1,Aj1,w64 (n:=(((P++l.take i).count (m:Int):Nat):Int)+1) O O,
   CT hg,<- Akd,hm1,Ad3 _ hm3,Ak O]) (by
  unfold Cy cK cZ gX wI;dsimp only;rw [ino O,AkR])
 rw [Amg,Aki]at h;rw [show Ab Cy (cat b l,l,(l.length:Int),0,b,x,y,z,rs,srt (C++[root]),mny b.length P,okb fn (C++[root]))=_ from h];rfl
theorem Pj {b:Bls} {x y z top:List Int} (h:SB b x y z) (g:RS b x y) {C:List Int} (hC:C.length<=90000) {k:Nat} (fn:Bool) (rs m:List Int) :
  Ce (vl b top k) b x y z rs (srt C) m (okb fn C) =
   some (rkd b x y top k,b,x,y,z,rs,srt (C++rkc b x y top k),m,okb (fn && rko b x y top k) (C++rkc b x y top k)):=by
 have hl:=(Hp b x y top k).1;unfold Ce;rw [Zp h g,Aj1];have hb:(if okb fn C=true then rko b x y top k else false)=okb (fn && rko b x y top k) C:=by
  unfold okb;cases fn <;> cases ndb C <;> cases rko b x y top k <;> rfl
 unfold rkd rkc rko at *;generalize rcA (rcd b x y (vl b top k))=q at *;obtain ⟨q1,q2,q3⟩:=q;dsimp only at *;have hc:=RK (l:=q2) (C:=C) O (fn && q3) b x y z rs m;rw [<- hb]at hc;by_cases hw:okb fn C=true
 .rw [Aj7 hw,Aj1];dsimp only;rw [Aj7 hw]at hc;rw [hc];rfl
 .rw [Aj6 hw,Aj1];dsimp only;rw [Aj6 hw]at hc;rw [hc];rfl
end Go.V.G
set_option maxRecDepth 100000
namespace Go.V.G
open Go.V
theorem TB {a b c:List Prt} (ha:AH a=true) (hb:AH b=true) (hc:AH c=true) (h1:tgt a=src b) (h2:tgt b=src c):AO (AO a b) c=AO a (AO b c):=by
 obtain ⟨b1,b2,b3,b4⟩:=Dx hb hc h2;obtain ⟨a1,a2,a3,a4⟩:=Dx ha hb h1;obtain ⟨p1,p2,_⟩:=Dx ha b1 O;obtain ⟨r1,r2,_⟩:=Dx a1 hc O;refine Mo (Aq r1).1 (Aq p1).1 ?_;rw [p2,r2,a2,b2];exact Aby _ _ _ (KH hb hc h2).1 (KH ha hb h1).1
theorem Uq:∀{cs:List (List Prt)} {a d:List Prt},AH a=true->AH d=true->tgt a=src d->chn (tgt d) cs=true->ED (AO a d) cs=AO a (ED d cs)
 | [],_,_,_,_,_,_=>rfl
 | c::cs,a,d,ha,hd,ht,hc=>by
  obtain ⟨k1,k2,k3⟩:=Fq hc;obtain ⟨q1,q2,q3,q4⟩:=Dx hd k1 k2.symm;show ED (AO (AO a d) c) cs=AO a (ED (AO d c) cs);rw [TB ha hd k1 ht k2.symm];exact Uq ha q1 O (by rw [q4];exact k3)
theorem Ags {n:Int} {xs ys:List (List Prt)} (h:chn n (xs++ys)=true) (h0:0<=n) (h1:n<=120) (hy:ys≠[]):btw n (xs++ys)=AO (btw n xs) (btw (D5 n xs) ys):=by
 rw [Nw,Aj8]at h;obtain ⟨b1,b2,b3⟩:=X7 h.1 h0 h1;cases ys with
 | nil=>exact absurd rfl hy
 | cons c cs=>
  obtain ⟨k1,k2,k3⟩:=Fq h.2;rw [Q5 h.2];have e:btw n (xs++c::cs)=ED (AO (btw n xs) c) cs:=by unfold btw;rw [AlI];rfl
  rw [e];exact Uq b1 k1 O k3
section
variable {f:Int} {t:List UInt8} {r:List Rn} {cs:List (List Prt)}
theorem ZC (g:GH f t r cs) {a b c:Int} (h0:f<=a) (h1:a<=b) (h2:b < c) (h3:c<=f+cs.length):BW f t cs a c=AO (BW f t cs a b) (BW f t cs b c):=by
 obtain ⟨k1,k2⟩:=Ww g (a - f);have es:seg cs (a - f) (c - f)=seg cs (a - f) (b - f)++seg cs (b - f) (c - f):=by
  unfold seg;have:cs.drop (b - f).toNat=(cs.drop (a - f).toNat).drop ((b - f).toNat - (a - f).toNat):=by rw [Amf];congr 1;omega
  rw [this,<- List.take_add]
  congr 1;omega
 have hne:seg cs (b - f) (c - f)≠[]:=by
  intro q;have:=congrArg List.length q;unfold seg at this;rw [Akb,Aku,AkB]at this;omega
 have hc:=Ql g (a - f) (c - f);rw [es]at hc;unfold BW;rw [es,Ags hc k1 k2 hne,ZK g O O]
theorem QN (g:GH f t r cs) {a:Int} (h0:f<=a) (h1:a < f+cs.length):cs[(a - f).toNat]?=some (BW f t cs a (a+1)):=by
 have hl:(a - f).toNat < cs.length:=O
 have es:seg cs (a - f) (a+1 - f)=[cs[(a - f).toNat]]:=by
  unfold seg;rw [show(a+1 - f).toNat - (a - f).toNat=1 by omega,AkA hl];rfl
 have hc:=Ql g (a - f) (a+1 - f);rw [es]at hc;unfold BW;rw [es,Q5 hc,Aj3 hl];rfl
end
def frS (s:Int×Int):Nat:=s.2.toNat * 2 ^ s.1.toNat
def toS (s:Int×Int):Nat:=(s.2.toNat+1) * 2 ^ s.1.toNat
def bt (f:Int) (t:List UInt8) (cs:List (List Prt)) (s:Int×Int):List Prt:=BW f t cs (frS s:Int) (toS s:Int)
theorem St8.ft {f h k i:Nat} {s:Int×Int} (g:St8 f h s k i):frS s=i * 2 ^ k/\toS s=(i+1) * 2 ^ k/\f<=frS s/\frS s < toS s/\toS s<=h:=by
 have h1:=g.lo;have h2:=g.hi;have hp:0 < 2 ^ k:=AlG Z;have e1:frS s=i * 2 ^ k:=by unfold frS;rw [g.e];simp
 have e2:toS s=(i+1) * 2 ^ k:=by unfold toS;rw [g.e];simp
 rw [e1,e2];refine⟨rfl,rfl,h1,?_,h2⟩;rw [Al2];omega
theorem Xm (f k:Nat):∀n,(skn f k n).Pairwise (λa c=>ky a < ky c)/\∀s∈skn f k n,64 * k<=ky s/\ky s < 64 * k+n
 | 0=>by simp [skn]
 | n+1=>by
  obtain ⟨h1,h2⟩:=Xm f k n;rw [Je];by_cases h:f<=n * 2 ^ k
  .rw [Aj7 h];have e:ky ((k:Int),(n:Int))=64 * k+n:=by unfold ky;simp
   refine⟨?_,λs hs=>?_⟩
   .rw [AlM];refine⟨h1,Z,λa ha c hc=>?_⟩;rw [Akc.1 hc,e];exact(h2 a ha).2
   .rcases Aka.1 hs with hs | hs
    .have:=h2 s hs;omega
    .rw [Akc.1 hs,e];omega
  .rw [Aj6 h,Aki];exact⟨h1,λs hs=>by have:=h2 s hs;omega⟩
theorem WE {f h:Nat} (hh:h<=60):∀k,(stk f h k).Pairwise (λa c=>ky a < ky c)/\∀s∈stk f h k,ky s < 64 * k
 | 0=>by simp [stk]
 | k+1=>by
  obtain ⟨h1,h2⟩:=WE (f:=f) hh k;obtain ⟨g1,g2⟩:=Xm f k (h / 2 ^ k);have hd:=Amm h (2 ^ k);unfold stk;refine⟨?_,λs hs=>?_⟩
  .rw [AlM];refine⟨h1,g1,λa ha c hc=>?_⟩;have:=h2 a ha;have:=(g2 c hc).1;omega
  .rcases Aka.1 hs with hs | hs
   .have:=h2 s hs;omega
   .have:=g2 s hs;omega
theorem Rk {f h:Nat} (hh:h<=60):(sts f h).Pairwise (λa c=>ky a < ky c):=(WE hh 6).1
theorem SL {f h:Nat} (hh:h<=60) {i:Nat} (hi:i < (sts f h).length) {s:Int×Int} (hs:s∈sts f h) (hk:ky s < ky (sts f h)[i]):s∈(sts f h).take i:=by
 obtain ⟨j,hj,rfl⟩:=AkG hs;have hp:=Rk (f:=f) hh;rw [List.pairwise_iff_getElem]at hp;have:j < i:=by
  rcases Nat.lt_trichotomy j i with q | q | q
  .exact q
  .subst q;omega
  .have:=hp i j hi hj q;omega
 rw [List.mem_take_iff_getElem];exact⟨j,O,rfl⟩
def OQ (B:Int×Int->List Prt) (A:List (List Prt)) (L:List (Int×Int)):List (List Prt):=L.foldl (λA s=>A.set (ky s) (B s)) A
theorem Wx (B:Int×Int->List Prt):∀(L:List (Int×Int)) (A:List (List Prt)),(OQ B A L).length=A.length
 | [],A=>rfl
 | s::L,A=>by
  show(OQ B (A.set (ky s) (B s)) L).length=_;rw [Wx B L,Ak5]
theorem Xz (B:Int×Int->List Prt):∀(L:List (Int×Int)) (A:List (List Prt)) (k:Nat),(∀s∈L,ky s≠k)->(OQ B A L)[k]?=A[k]?
 | [],A,k,_=>rfl
 | s::L,A,k,h=>by
  show(OQ B (A.set (ky s) (B s)) L)[k]?=_;rw [Xz B L _ k (λc hc=>h c (by simp [hc])),List.getElem?_set_ne (h s Z)]
theorem Qq (B:Int×Int->List Prt):∀(L:List (Int×Int)) (A:List (List Prt)),L.Pairwise (λa c=>ky a < ky c)->∀s∈L,ky s < A.length->(OQ B A L)[ky s]?=some (B s)
 | [],A,_,s,hs,_=>by cases hs
 | c::L,A,hp,s,hs,hl=>by
  rw [List.pairwise_cons]at hp;show(OQ B (A.set (ky c) (B c)) L)[ky s]?=_;rcases Akk.1 hs with rfl | hs
  .rw [Xz B L _ (ky s) (λd hd=>by have:=hp.1 d hd;omega),Aly hl]
  .exact Qq B L _ hp.2 s hs (by rw [Ak5];exact hl)
def Gz (f:Int) (t:List UInt8) (cs:List (List Prt)) (L:List (Int×Int)):List (List Prt):=OQ (bt f t cs) (List.replicate 384 []) L
theorem Ac5 (f:Int) (t:List UInt8) (cs:List (List Prt)) (L:List (Int×Int)) (s:Int×Int):Gz f t cs (L++[s])=(Gz f t cs L).set (ky s) (bt f t cs s):=by
 unfold Gz OQ;rw [AlI];rfl
theorem X4 (f:Int) (t:List UInt8) (cs:List (List Prt)) (L:List (Int×Int)):(Gz f t cs L).length=384:=by unfold Gz;rw [Wx,Ald]
theorem YB {f:Nat} {t:List UInt8} {r:List Rn} {cs:List (List Prt)} (g:GH (f:Int) t r cs) {h:Nat} (hf:h=f+cs.length) (hh:h<=60) :
  NS (f:Int) t r cs=some (Gz (f:Int) t cs (sts f h)):=by
 have hsl:=Ia (f:=f) hh;unfold NS O8 cK cZ wI;rw [iy O,iy O,Aj7 AjZ,Aj1,w64 O O,show(f:Int)+(cs.length:Int)=(h:Int) by omega,Of hh,Aj1];have hL:=Am Hl (λi=>(Gz (f:Int) t cs ((sts f h).take i),sts f h,(((sts f h).length:Nat):Int),((i:Nat):Int),(f:Int),t,r,cs)) (sts f h).length (Gz (f:Int) t cs (sts f h)) (λi hi=>by
  obtain ⟨k,j,g8⟩:=Pm hi;obtain ⟨l1,l2,l3⟩:=g8.lt hh;obtain ⟨f1,f2,f3,f4,f5⟩:=g8.ft;have hk:=g8.hk;have hget:(sts f h)[i]?=some ((sts f h)[i]):=Aj3 hi;have hal:=X4 (f:Int) t cs ((sts f h).take i);unfold Hl cK cZ gX wI;dsimp only;rw [iy O,iy O,iy O,Akt,Aj4,hget,Aj1,Aj1,Akp hi,Ac5,l2];have ebt:bt (f:Int) t cs (sts f h)[i]=BW (f:Int) t cs ((j * 2 ^ k:Nat):Int) (((j+1) * 2 ^ k:Nat):Int):=by unfold bt;rw [f1,f2]
  rw [ebt];have hlo:=g8.lo;have hhi:=g8.hi;simp only [g8.e,Akt];by_cases h0:k=0
  .subst h0;rw [Nat.pow_zero,Nat.mul_one]at hlo hhi;rw [Nat.pow_zero,Nat.mul_one,Nat.mul_one];have h1:=QN g (a:=(j:Int)) O O;rw [iy O,w64 O O,iy O,h1,Aj1,iy O,iy O,Aj4,Aj3 (O:j < (Gz (f:Int) t cs ((sts f h).take i)).length),Aj1,Aj1,Aj1];dsimp only;rw [Ak O,Nat.mul_zero,Akt,show(((j+1:Nat)):Int)=(j:Int)+1 by omega]
  .obtain ⟨k',rfl⟩:∃k',k=k' + 1:=⟨k - 1,O⟩
   have hpk:2 ^ (k' + 1)=2 * 2 ^ k':=by rw [Nat.pow_succ];omega
   have hp:0 < 2 ^ k':=AlG Z;have m1:j * 2 ^ (k' + 1)=(2 * j) * 2 ^ k':=by rw [hpk,<- Nat.mul_assoc,Nat.mul_comm j 2]
   have m2:(j+1) * 2 ^ (k' + 1)=(2 * j+1+1) * 2 ^ k':=by rw [hpk,<- Nat.mul_assoc,Nat.mul_comm (j+1) 2];congr 1
   have m3:(2 * j+1) * 2 ^ k'=(2 * j) * 2 ^ k' + 2 ^ k':=Al2 _ _;have m4:(2 * j+1+1) * 2 ^ k'=(2 * j+1) * 2 ^ k' + 2 ^ k':=Al2 _ _;rw [m1]at hlo;rw [m2]at hhi;have ga:St8 f h ((k':Int),((2 * j:Nat):Int)) k' (2 * j):=⟨rfl,O,hlo,O⟩
   have gb':St8 f h ((k':Int),((2 * j+1:Nat):Int)) k' (2 * j+1):=⟨rfl,O,O,hhi⟩
   obtain ⟨a1,a2,a3⟩:=ga.lt hh;obtain ⟨b1,b2,b3⟩:=gb'.lt hh;obtain ⟨fa1,fa2,_⟩:=ga.ft;obtain ⟨fb1,fb2,_⟩:=gb'.ft;generalize hU:2 * j * 2 ^ k'=U at *;generalize hV:(2 * j+1) * 2 ^ k'=V at *;generalize hW:(2 * j+1+1) * 2 ^ k'=W at *;have pw:=(Rk (f:=f) hh).sublist (List.take_sublist i _);have ia:=Qq (bt (f:Int) t cs) _ (List.replicate 384 []) pw _ (SL hh hi (sts_mem.2 ⟨_,_,ga⟩) (by rw [a2,l2];omega)) (by rw [Ald,a2];omega);have ib:=Qq (bt (f:Int) t cs) _ (List.replicate 384 []) pw _ (SL hh hi (sts_mem.2 ⟨_,_,gb'⟩) (by rw [b2,l2];omega)) (by rw [Ald,b2];omega);rw [a2]at ia;rw [b2]at ib;have wk:IntKind.wrap .i64 (((k' + 1:Nat):Int) - 1)=(k':Int):=by rw [w64 O O];omega
   have wa:IntKind.wrap .i64 (IntKind.wrap .i64 (64 * (k':Int))+IntKind.wrap .i64 (2 * (j:Int)))=((64 * k' + 2 * j:Nat):Int):=by
    rw [w64 (n:=64 * (k':Int)) O O,w64 (n:=2 * (j:Int)) O O,w64 O O];omega
   have ga1:=Iz g (a:=(U:Int)) (b:=(V:Int)) O O;have gb1:=Iz g (a:=(V:Int)) (b:=(W:Int)) O O;have hcmp:=Wy ga1.1 gb1.1 (by rw [ga1.2.2,gb1.2.1]);have eA:bt (f:Int) t cs ((k':Int),((2 * j:Nat):Int))=BW (f:Int) t cs (U:Int) (V:Int):=by unfold bt;rw [fa1,fa2]
   have eB:bt (f:Int) t cs ((k':Int),((2 * j+1:Nat):Int))=BW (f:Int) t cs (V:Int) (W:Int):=by unfold bt;rw [fb1,fb2]
   rw [eA]at ia;rw [eB]at ib;rw [ino O,Kc hk O,Aj1,wk,wa,iy (show(0:Int)<=((64 * k' + 2 * j:Nat):Int) by omega),iy (show((64 * k' + 2 * j:Nat):Int) < (((Gz (f:Int) t cs ((sts f h).take i)).length:Nat):Int) by omega),Aj4,show(Gz (f:Int) t cs ((sts f h).take i))[64 * k' + 2 * j]?=_ from ia,Aj1,Ak O,iy O,iy O,Aj4,
    show(Gz (f:Int) t cs ((sts f h).take i))[64 * k' + 2 * j+1]?=_ from ib,Aj1,hcmp,Aj1,iy O,iy O,Aj4,Aj3 (O:64 * (k' + 1)+j < (Gz (f:Int) t cs ((sts f h).take i)).length),Aj1,Aj1,Aj1]
   dsimp only;rw [Ak O,m1,m2,ZC g (a:=(U:Int)) (b:=(V:Int)) (c:=(W:Int)) O O O O]) (by
  unfold Hl cK cZ gX wI;dsimp only;rw [ino O,AkR])
 rw [show Ab Hl (List.replicate (Int.toNat 384) ([]:List Prt),sts f h,(((sts f h).length:Nat):Int),0,(f:Int),t,r,cs)=_ from hL];rfl
theorem Af8 {f:Int} {t:List UInt8} {cs:List (List Prt)} {f' h:Nat} (hh:h<=60) {s:Int×Int} (hs:s∈sts f' h):(Gz f t cs (sts f' h))[ky s]?=some (bt f t cs s):=by
 obtain ⟨k,j,g⟩:=sts_mem.1 hs;obtain ⟨l1,l2,l3⟩:=g.lt hh;exact Qq _ _ _ (Rk hh) s hs (by rw [Ald];omega)
end Go.V.G
set_option maxRecDepth 100000
namespace Go.V.G
open Go.V
structure HD (t:List UInt8) (r:List Rn) (cs:List (List Prt)):Prop where
 ht:t.length<=130
 hr:r.length<=30
 hn:cs.length<=60
 hc:∀c∈cs,Sm 2000 c
theorem HD.hb {t:List UInt8} {r:List Rn} {cs:List (List Prt)} (h:HD t r cs):HB t r cs:=
 ⟨by have:=h.ht;omega,by have:=h.hr;omega,by have:=h.hn;omega,λc hc=>(h.hc c hc).mono O⟩
end Go.V.G
set_option maxRecDepth 100000
namespace Go.V.G
open Go.V
theorem UA {l:List Rn} {i:Nat} (h:i < l.length):AM (l.take (i+1))=AM (l.take i)+l[i].2:=by
 rw [Akp h,MC];simp [AM]
theorem Pa {l:List Rn} (hp:Pos l) (i:Nat):0<=AM (l.take i)/\AM (l.take i)<=AM l:=by
 have h2:AM l=AM (l.take i)+AM (l.drop i):=by rw [<- MC,AkS]
 have h3:=DP (l:=l.drop i) λq hq=>hp q (Al9 hq)
 have h4:=DP (l:=l.take i) λq hq=>hp q (AlE hq)
 omega
end Go.V.G
set_option maxRecDepth 100000
namespace Go.V.G
open Go.V
def CH:Nat->List Int->Option (List Prt)
 | 0,x=>if x=[]then some []else none
 | n+1,x=>match x with
  | []=>some []
  | [_]=>none
  | k::m::r=>
   if k=1 then(CH n r).map ((m,0,[]) :: ·)
   else if k=2 then(CH n r).map ((0,m,[]) :: ·)
   else if k=3/\m<=(r.length:Int)then(CH n (r.drop m.toNat)).map ((0,0,AF (r.take m.toNat)) :: ·)
   else none
theorem Nx:∀n,CH n []=some []
 | 0=>rfl
 | _+1=>rfl
theorem P2:∀(n:Nat) (x:List Int) (c:List Prt),Byt x->CH n x=some c->c.length<=x.length/\B0 c<=x.length/\∀p∈c,(0<=p.1/\p.1<=255)/\(0<=p.2.1/\p.2.1<=255)
 | 0,x,c,hb,h=>by
  unfold CH at h;split at h
  .injection h with h;subst h;simp [B0]
  .cases h
 | n+1,[],c,hb,h=>by
  rw [Nx]at h;injection h with h;subst h;simp [B0]
 | n+1,[a],c,hb,h=>by simp [CH]at h
 | n+1,k::m::r,c,hb,h=>by
  have hm:=hb m Z;have hr:Byt r:=λv hv=>hb v (by simp [hv])
  simp only [CH]at h;split at h
  .obtain ⟨c',h1,rfl⟩:=Ak3.1 h;obtain ⟨q1,q2,q3⟩:=P2 n r c' hr h1;refine⟨by simp only [Akg];omega,by simp only [B0,Akg,AkB]at q2 ⊢;omega,λp hp=>?_⟩;rcases Akk.1 hp with rfl | hp
   .exact⟨hm,Aj0⟩
   .exact q3 p hp
  .split at h
   .obtain ⟨c',h1,rfl⟩:=Ak3.1 h;obtain ⟨q1,q2,q3⟩:=P2 n r c' hr h1;refine⟨by simp only [Akg];omega,by simp only [B0,Akg,AkB]at q2 ⊢;omega,λp hp=>?_⟩;rcases Akk.1 hp with rfl | hp
    .exact⟨Aj0,hm⟩
    .exact q3 p hp
   .split at h
    .rename_i h3;obtain ⟨c',h1,rfl⟩:=Ak3.1 h;obtain ⟨q1,q2,q3⟩:=P2 n _ c' (λv hv=>hr v (Al9 hv)) h1;rw [Aku]at q1 q2;have ht:(AF (r.take m.toNat)).length=m.toNat:=by unfold AF;rw [Aky,Akb];omega
     refine⟨by simp only [Akg];omega,by simp only [B0,Akg,ht]at q2 ⊢;omega,λp hp=>?_⟩;rcases Akk.1 hp with rfl | hp
     .exact⟨Aj0,Aj0⟩
     .exact q3 p hp
    .cases h
theorem ZU {n:Nat} {x:List Int} {c:List Prt} (hb:Byt x) (h:CH n x=some c):Sm x.length c:=by
 obtain ⟨q1,q2,q3⟩:=P2 n x c hb h;exact⟨q1,q2,λp hp=>by obtain ⟨⟨a,b⟩,c,d⟩:=q3 p hp;exact⟨by unfold I64;omega,by unfold I64;omega⟩⟩
theorem AaN {l:List Prt} (h:l.length<=1099511627776) (x:Prt):Aa (List.length l+List.length [x]) 32=true:=by simp [Aa];omega
theorem Ph:∀(n:Nat) (rest:List Int) (acc:List Prt),rest.length<=n->Byt rest->n<=1000000000->n+acc.length<=1099511627776->
  Ab Az (rest,acc)=some (match CH n rest with | some c=>.inl (acc++c) | none=>.inr false)
 | n,[],acc,_,_,_,_=>by
  rw [AE,Nx];unfold Az cK gX sX;simp
 | 0,a::r,acc,h,_,_,_=>by simp at h
 | n+1,[a],acc,_,_,_,_=>by
  rw [AE];unfold Az cK gX sX;simp [CH]
 | n+1,k::m::r,acc,h,hb,hn,ha=>by
  have hm:=hb m Z;have hr:Byt r:=λv hv=>hb v (by simp [hv])
  simp only [Akg]at h;have hl2:¬ ((List.length (k::m::r):Int)) < 2:=by simp;omega
  have hl0:(0:Int) < ((List.length (k::m::r):Int)):=by simp;omega
  have hl3:(2:Int)<=((List.length (k::m::r):Int)):=by simp;omega
  have g0:(k::m::r)[Int.toNat 0]?=some k:=rfl;have g1:(k::m::r)[Int.toNat 1]?=some m:=rfl;have w:IntKind.wrap .i64 m=m:=w64 O O;have room:=AaN (O:acc.length<=1099511627776);have ih:=λp=>Ph n r (acc++[p]) O hr O (by simp only [Aj9,Akg,AkB];omega)
  rw [AE];by_cases k1:k=1
  .subst k1;have hs:Az (1::m::r,acc)=some (.inl (r,acc++[(m,0,[])])):=by
    unfold Az cK gX sX;dsimp only;rw [NN];simp only [hl0,hl2,hl3,g0,g1,decide_true,decide_false,Akv,Akh,AkI,Aj1,Ale,show(0:Int)<=1 from by omega,show(0:Int)<=2 from by omega,w,room]
   rw [hs];dsimp only;rw [ih,CH];simp only [Akv];cases CH n r with
   | none=>rfl
   | some c=>simp
  .by_cases k2:k=2
   .subst k2;have hs:Az (2::m::r,acc)=some (.inl (r,acc++[(0,m,[])])):=by
     unfold Az cK gX sX;dsimp only;rw [NN];simp only [hl0,hl2,hl3,g0,g1,decide_true,decide_false,Akv,Akh,AkI,Aj1,Ale,show(0:Int)<=1 from by omega,show(0:Int)<=2 from by omega,(O:¬ (2:Int)=1),w,room]
    rw [hs];dsimp only;rw [ih,CH];simp only [(O:¬ (2:Int)=1),Akv,AkI];cases CH n r with
    | none=>rfl
    | some c=>simp
   .by_cases k3:k=3/\m<=(r.length:Int)
    .obtain ⟨rfl,k4⟩:=k3;have tk:(List.drop (Int.toNat 0) r).take (Int.toNat m - Int.toNat 0)=r.take m.toNat:=rfl;have dr:(List.drop (Int.toNat m) r).take (Int.toNat (List.length r:Int) - Int.toNat m)=r.drop m.toNat:=AkQ (by rw [Aku];omega);have hs:Az (3::m::r,acc)=some (.inl (r.drop m.toNat,acc++[(0,0,AF (r.take m.toNat))])):=by
      unfold Az cK gX sX;dsimp only;rw [NN];simp only [hl0,hl2,hl3,g0,g1,decide_true,decide_false,Akv,Akh,AkI,Aj1,Ale,show(0:Int)<=1 from by omega,show(0:Int)<=2 from by omega,(O:¬ (3:Int)=1),(O:¬ (3:Int)=2),w,k4,hm.1,tk,dr,room]
     rw [hs];dsimp only;rw [Ph n (r.drop m.toNat) _ (by rw [Aku];omega) (λv hv=>hr v (Al9 hv)) O (by simp only [Aj9,Akg,AkB];omega),CH];simp only [k4,Akv,AkI,and_self,(O:¬ (3:Int)=1),(O:¬ (3:Int)=2)];cases CH n (r.drop m.toNat)with
     | none=>rfl
     | some c=>simp
    .have hs:Az (k::m::r,acc)=some (.inr (.inr false)):=by
      unfold Az cK gX sX;dsimp only;rw [NN];by_cases k3':k=3
      .subst k3';have:¬ m<=(r.length:Int):=λh=>k3 ⟨rfl,h⟩
       simp only [hl0,hl2,hl3,g0,g1,decide_true,decide_false,Akv,Akh,AkI,Aj1,Ale,show(0:Int)<=1 from by omega,show(0:Int)<=2 from by omega,(O:¬ (3:Int)=1),(O:¬ (3:Int)=2),w,this]
      .simp only [hl0,hl2,hl3,g0,g1,k1,k2,k3',decide_true,decide_false,Akv,Akh,AkI,Aj1,Ale,show(0:Int)<=1 from by omega,show(0:Int)<=2 from by omega,w]
     rw [hs,CH];simp only [k1,k2,k3,AkI]
def BT (x:List Int):List Prt×Bool:=match CH x.length x with
 | some c=>if AH c=true then(c,true)else([],false)
 | none=>([],false)
theorem QZ (x:List Int):Sm 240 (BT x).1:=by
 unfold BT;split
 .split
  .rename_i h;exact C6 h
  .exact Sm.nil _
 .exact Sm.nil _
theorem Aas {x:List Int} (hb:Byt x) (hl:x.length<=1000000000):E4 x=some (BT x):=by
 unfold E4 BT;rw [Ph x.length x [] (Akz _) hb hl AjY];cases hd:CH x.length x with
 | none=>rfl
 | some c=>
  simp only [Aj1,AkC];rw [OX (ZU hb hd) O,Aj1];cases hg:AH c <;> simp
theorem Vb {b:List Int} (hb:Byt b) (hl:b.length<=1000000000):∀(n:Nat) (pos:Nat) (acc:List Prt),pos<=b.length->b.length - pos<=n->acc.length<=500->
  Ab Bm (b,acc,(pos:Int))=some (match CH n (b.drop pos)with | some c=>if acc.length+c.length<=500 then .inl (acc++c)else .inr false | none=>.inr false)
 | n,pos,acc,hp,hn,ha=>by
  by_cases he:pos=b.length
  .subst he;rw [AE,AlN,Nx];unfold Bm cK gX sX wI;simp [ha]
  have hlt:pos < b.length:=O
  obtain ⟨n,rfl⟩:∃n',n=n' + 1:=⟨n - 1,O⟩
  have c0:(pos:Int) < (b.length:Int):=O
  have w1:IntKind.wrap .i64 ((pos:Int)+1)=((pos+1:Nat):Int):=by rw [w64 O O];omega
  by_cases he2:pos+1=b.length
  .have hd:b.drop pos=[b[pos]]:=by rw [AkA hlt,he2,AlN]
   have c1:(b.length:Int)<=((pos+1:Nat):Int):=O
   rw [AE,hd];unfold Bm cK gX sX wI;simp only [w1,c0,c1,decide_true,Akv,CH]
  have hlt2:pos+1 < b.length:=O
  have hd:b.drop pos=b[pos]::b[pos+1]::b.drop (pos+2):=by rw [AkA hlt,AkA hlt2]
  have c1:¬ (b.length:Int)<=((pos+1:Nat):Int):=O
  have g1:b[Int.toNat ((pos+1:Nat):Int)]?=some b[pos+1]:=by rw [Aj4];exact Aj3 hlt2
  have g0:b[Int.toNat (pos:Int)]?=some b[pos]:=by rw [Aj4];exact Aj3 hlt
  have hm:=hb _ (Akq hlt2);have w:IntKind.wrap .i64 b[pos+1]=b[pos+1]:=w64 O O;have room:=AaN (O:acc.length<=1099511627776);have p0:(0:Int)<=(pos:Int):=O
  have p1:(0:Int)<=((pos+1:Nat):Int):=O
  have w2:IntKind.wrap .i64 ((pos:Int)+2)=((pos+2:Nat):Int):=by rw [w64 O O];omega
  have al:∀p:Prt,(List.length (acc++[p]):Int)=(acc.length:Int)+1:=λp=>by simp
  have nx:∀(p:Prt) (q:Nat),q<=b.length->b.length - q<=n->(if decide ((500:Int) < (List.length (acc++[p]):Int))=true then(some (.inr (.inr false)):Option ((List Int×(List Prt×Int))⊕(List Prt⊕Bool)))else some (.inl (b,acc++[p],(q:Int))))=Bm (b,acc,(pos:Int))->
    Ab Bm (b,acc,(pos:Int))=some (match (CH n (b.drop q)).map (p :: ·)with | some c=>if acc.length+c.length<=500 then .inl (acc++c)else .inr false | none=>.inr false):=by
   intro p q hq hqn hs;rw [AE,<- hs];by_cases h5:acc.length+1<=500
   .have h5':¬ (500:Int) < (List.length (acc++[p]):Int):=by rw [al];omega
    rw [Aj6 (by simpa using h5')];dsimp only;rw [Vb hb hl n q (acc++[p]) hq hqn AjY];cases CH n (b.drop q)with
    | none=>rfl
    | some c=>
     simp only [AkY,Aj9,Akg,AkB,Akd,AkP,AkC,Akt,All,Nat.add_comm 1]
   .have h5':(500:Int) < (List.length (acc++[p]):Int):=by rw [al];omega
    rw [Aj7 (by simpa using h5')];cases CH n (b.drop q)with
    | none=>rfl
    | some c=>
     have:¬ acc.length+(p::c).length<=500:=by simp only [Akg];omega
     simp only [AkY,this,AkI]
  rw [hd,CH];by_cases k1:b[pos]=1
  .simp only [k1,Akv];refine nx _ (pos+2) O O ?_;unfold Bm cK gX sX wI;simp only [w1,w2,w,c0,c1,g0,g1,p0,p1,k1,decide_true,decide_false,Akv,Akh,AkI,Aj1,room]
  .by_cases k2:b[pos]=2
   .simp only [k2,(O:¬ (2:Int)=1),Akv,AkI];refine nx _ (pos+2) O O ?_;unfold Bm cK gX sX wI;simp only [w1,w2,w,c0,c1,g0,g1,p0,p1,k2,decide_true,decide_false,Akv,Akh,AkI,Aj1,room,(O:¬ (2:Int)=1)]
   .by_cases k3:b[pos]=3
    .have w3:IntKind.wrap .i64 ((IntKind.wrap .i64 ((b.length:Int) - (pos:Int))) - 2)=((b.length - (pos+2):Nat):Int):=by rw [w64 (n:=(b.length:Int) - (pos:Int)) O O,w64 O O];omega
     have hdl:(b.drop (pos+2)).length=b.length - (pos+2):=Aku;by_cases k4:b[pos+1]<=((b.length - (pos+2):Nat):Int)
     .obtain ⟨m,hme⟩:=Akw hm.1;have k4':b[pos+1]<=(((b.drop (pos+2)).length:Nat):Int):=by rw [hdl];exact k4
      simp only [k3,k4',(O:¬ (3:Int)=1),(O:¬ (3:Int)=2),and_self,Akv,AkI,Amf];have hq:pos+2+b[pos+1].toNat<=b.length:=O
      refine nx _ (pos+2+b[pos+1].toNat) hq O ?_;have w4:IntKind.wrap .i64 (((pos+2:Nat):Int)+b[pos+1])=((pos+2+b[pos+1].toNat:Nat):Int):=by rw [w64 O O];omega
      have w5:IntKind.wrap .i64 ((pos:Int)+b[pos+1])=((pos+b[pos+1].toNat:Nat):Int):=by rw [w64 O O];omega
      have w6:IntKind.wrap .i64 (((pos+b[pos+1].toNat:Nat):Int)+2)=((pos+2+b[pos+1].toNat:Nat):Int):=by rw [w64 O O];omega
      have k5:¬ ((b.length - (pos+2):Nat):Int) < b[pos+1]:=O
      have i1:(0:Int)<=((pos+2:Nat):Int):=O
      have i2:((pos+2:Nat):Int)<=((pos+2+b[pos+1].toNat:Nat):Int):=O
      have i3:((pos+2+b[pos+1].toNat:Nat):Int)<=(b.length:Int):=O
      have tk:(List.drop (Int.toNat ((pos+2:Nat):Int)) b).take (Int.toNat ((pos+2+b[pos+1].toNat:Nat):Int) - Int.toNat ((pos+2:Nat):Int))=(b.drop (pos+2)).take b[pos+1].toNat:=by
       rw [Aj4,Aj4];congr 1;omega
      unfold Bm cK gX sX wI;simp only [w1,w2,w,w3,w4,w5,w6,c0,c1,g0,g1,p0,p1,k3,k5,i1,i2,i3,tk,decide_true,decide_false,Akv,Akh,AkI,Aj1,Ale,room,(O:¬ (3:Int)=1),(O:¬ (3:Int)=2)]
     .have k4':¬ b[pos+1]<=(((b.drop (pos+2)).length:Nat):Int):=by rw [hdl];exact k4
      have k5:((b.length - (pos+2):Nat):Int) < b[pos+1]:=O
      simp only [k3,k4',(O:¬ (3:Int)=1),(O:¬ (3:Int)=2),and_false,AkI];rw [AE];unfold Bm cK gX sX wI;simp only [w1,w2,w,w3,c0,c1,g0,g1,p0,p1,k3,k5,decide_true,decide_false,Akv,Akh,AkI,Aj1,(O:¬ (3:Int)=1),(O:¬ (3:Int)=2)]
    .simp only [k1,k2,k3,false_and,AkI];rw [AE];unfold Bm cK gX sX wI;simp only [w1,w2,w,c0,c1,g0,g1,p0,p1,k1,k2,k3,decide_true,decide_false,Akv,Akh,AkI,Aj1]
theorem Agb {x:List Int} (hb:Byt x) (hl:x.length<=1000000000):IY x=some (BT x):=by
 unfold IY BT;have:=Vb hb hl x.length 0 [] (Alx _) Z Z;rw [Ak6]at this;rw [show Ab Bm (x,[],0)=_ from this];cases hd:CH x.length x with
 | none=>rfl
 | some c=>
  simp only [AkB,Akt,AkC];by_cases h5:c.length<=500
  .rw [Aj7 h5];simp only [Aj1];rw [Mf (ZU hb hd) O,Aj1];cases hg:AH c <;> simp
  .rw [Aj6 h5];have hg:¬ AH c=true:=λh=>by have:=(C6 h).len;omega
   simp only [Aj1,Aj6 hg]
end Go.V.G
set_option maxRecDepth 100000
namespace Go.V.G
open Go.V
theorem NE {l:List Rn} (h:AN l (AM l) 60=true):Pos l/\AM l<=120:=by
 obtain ⟨⟨q1,_⟩,_,q4⟩:=goodRuns_iff.1 h;exact⟨q4.pos,q1.2⟩
theorem UI {l:List Rn} (hl:l.length<=1000000000):∀(n i:Nat),i+n=l.length->(∀q∈l.take i,1<=q.2)->AM (l.take i)<=240->
  Ab Ck (l,AM (l.take i),l,(l.length:Int),(i:Int))=some (.inl (l,AM l))\/(Ab Ck (l,AM (l.take i),l,(l.length:Int),(i:Int))=some (.inr false)/\AN l (AM l) 60=false)
 | 0,i,hi,hp,hs=>by
  left;obtain rfl:i=l.length:=O
  rw [AE];unfold Ck gX wI;dsimp only;rw [Aj6 Z,AkR]
 | n+1,i,hi,hp,hs=>by
  have hlt:i < l.length:=O
  have h0:0<=AM (l.take i):=DP hp;have e1:=UA hlt;have c0:(i:Int) < (l.length:Int):=O
  have hge:l[Int.toNat (i:Int)]?=some l[i]:=by rw [Aj4];exact Aj3 hlt
  have p0:(0:Int)<=(i:Int):=O
  have bad:(¬ (1<=l[i].2/\l[i].2<=120)\/120 < AM (l.take i))->AN l (AM l) 60=false:=by
   intro h;cases hg:AN l (AM l) 60 with
   | false=>rfl
   | true=>
    obtain ⟨g1,g2⟩:=NE hg;have h1:=g1 _ (Akq hlt);have h2:=Yv g1 _ (Akq hlt);have h3:=Pa g1 i;omega
  by_cases h1:1<=l[i].2/\l[i].2<=120
  .by_cases h2:120 < AM (l.take i)
   .right;refine⟨?_,bad (.inr h2)⟩;rw [AE];unfold Ck gX wI;simp only [c0,p0,hge,decide_true,Akv,Aj1,AJ,h1,and_self,h2,AkT,Akh,AkI]
   .have w:IntKind.wrap .i64 (AM (l.take i)+l[i].2)=AM (l.take (i+1)):=by rw [w64 O O,e1]
    have hs':Ck (l,AM (l.take i),l,(l.length:Int),(i:Int))=some (.inl (l,AM (l.take (i+1)),l,(l.length:Int),((i+1:Nat):Int))):=by
     unfold Ck gX wI;simp only [c0,p0,hge,decide_true,decide_false,Akv,Aj1,AJ,h1,and_self,h2,AkT,Akh,AkI,w,Aw (O:l.length<=1099511627776) hlt]
    rw [AE,hs'];exact UI hl n (i+1) O (λq hq=>by
     rw [Akp hlt]at hq;rcases Aka.1 hq with hq | hq
     .exact hp q hq
     .rw [Akc.1 hq];exact h1.1) O
  .right;refine⟨?_,bad (.inl h1)⟩;rw [AE];unfold Ck gX wI;simp only [c0,p0,hge,decide_true,Akv,Aj1,AJ,h1,decide_false,AlW]
theorem Vt {l:List Rn} (hl:l.length<=1000000000):IF l=some (AN l (AM l) 60):=by
 unfold IF;rcases UI hl l.length 0 O Z (by simp [AM])with h | ⟨h,h2⟩
 .rw [show Ab Ck (l,0,l,(l.length:Int),0)=_ from h,Aj1];dsimp only;rw [OE O];rfl
 .rw [show Ab Ck (l,0,l,(l.length:Int),0)=_ from h,Aj1,h2]
theorem Xe {l:List Rn} (hl:l.length<=1000000000):∀(n i:Nat),i+n=l.length->(∀q∈l.take i,1<=q.2)->AM (l.take i)<=120->
  (Ab DJ (AM (l.take i),l,(l.length:Int),(i:Int))=some (.inl (AM l))/\0<=AM l)\/(Ab DJ (AM (l.take i),l,(l.length:Int),(i:Int))=some (.inr (-1))/\AN l (AM l) 60=false)
 | 0,i,hi,hp,hs=>by
  left;obtain rfl:i=l.length:=O
  have h0:0<=AM (l.take l.length):=DP hp;rw [AkR]at h0 ⊢;refine⟨?_,h0⟩;rw [AE];unfold DJ gX wI;dsimp only;rw [Aj6 Z]
 | n+1,i,hi,hp,hs=>by
  have hlt:i < l.length:=O
  have h0:0<=AM (l.take i):=DP hp;have e1:=UA hlt;have c0:(i:Int) < (l.length:Int):=O
  have hge:l[Int.toNat (i:Int)]?=some l[i]:=by rw [Aj4];exact Aj3 hlt
  have p0:(0:Int)<=(i:Int):=O
  have w0:IntKind.wrap .i64 (120 - AM (l.take i))=120 - AM (l.take i):=w64 O O;by_cases h1:1<=l[i].2/\l[i].2<=120 - AM (l.take i)
  .have w:IntKind.wrap .i64 (AM (l.take i)+l[i].2)=AM (l.take (i+1)):=by rw [w64 O O,e1]
   have hs':DJ (AM (l.take i),l,(l.length:Int),(i:Int))=some (.inl (AM (l.take (i+1)),l,(l.length:Int),((i+1:Nat):Int))):=by
    unfold DJ gX wI;simp only [c0,p0,hge,decide_true,decide_false,Akv,Aj1,Cb,w0,h1,and_self,AkT,Akh,AkI,w,Aw (O:l.length<=1099511627776) hlt]
   rw [AE,hs'];exact Xe hl n (i+1) O (λq hq=>by
    rw [Akp hlt]at hq;rcases Aka.1 hq with hq | hq
    .exact hp q hq
    .rw [Akc.1 hq];exact h1.1) O
  .right;refine⟨?_,?_⟩
   .rw [AE];unfold DJ gX wI;simp only [c0,p0,hge,decide_true,Akv,Aj1,Cb,w0,h1,decide_false,AlW]
   .cases hg:AN l (AM l) 60 with
    | false=>rfl
    | true=>
     obtain ⟨g1,g2⟩:=NE hg;have h1:=g1 _ (Akq hlt);have h3:=Pa g1 (i+1);omega
theorem Zt {l:List Rn} (hl:l.length<=1000000000):Nl l=some (AN l (AM l) 60):=by
 unfold Nl TY;rcases Xe hl l.length 0 O Z (by simp [AM])with⟨h,h2⟩ | ⟨h,h2⟩
 .rw [show Ab DJ (0,l,(l.length:Int),0)=_ from h];simp only [Aj1,h2,decide_true,Akv];rw [Ou O];rfl
 .rw [show Ab DJ (0,l,(l.length:Int),0)=_ from h,h2];rfl
theorem Ln:∀(xs:List Int),(Bx xs).length=xs.length / 2
 | []=>rfl
 | [a]=>by simp [Bx]
 | a::b::xs=>by
  have:=Ln xs;simp only [Bx,Akg];omega
theorem Ac7:∀(xs:List Int) (i:Nat) (h:2 * i+1 < xs.length),(Bx xs)[i]?=some (xs[2 * i],xs[2 * i+1])
 | [],i,h=>by simp at h
 | [a],i,h=>by simp at h
 | a::b::xs,0,h=>rfl
 | a::b::xs,i+1,h=>by
  simp only [Akg]at h;have:=Ac7 xs i O;simp only [Bx,Ak9,this];rfl
def rdR (x:List Int):List Rn×Bool:=if x.length % 2=0/\AN (Bx x) (AM (Bx x)) 60=true then(Bx x,true)else([],false)
theorem Aiv {x:List Int} (hb:Byt x) (hl:x.length<=1048576):GL x=some (rdR x):=by
 unfold GL rdR;rw [Aj7 ⟨hl,hb⟩];by_cases h:x.length % 2=0
 .rw [Aj7 h,Vt (by rw [Ln];omega),Aj1];cases AN (Bx x) (AM (Bx x)) 60 <;> simp [h]
 .rw [Aj6 h,Aj6 (λq=>h q.1)]
theorem AiS {x:List Int} (hb:Byt x) (hl:x.length<=1048576):Kw x=some (rdR x):=by
 unfold Kw cK;have hm:Int.tmod (x.length:Int) 2=((x.length % 2:Nat):Int):=by rw [AlC O];omega
 rw [hm];by_cases h:x.length % 2=0
 .by_cases h2:240 < x.length
  .have hg:¬ AN (Bx x) (AM (Bx x)) 60=true:=λhg=>by
    obtain ⟨g1,g2⟩:=NE hg;have:=MV g1;rw [Ln]at this;omega
   have hr:rdR x=([],false):=Aj6 (λq=>hg q.2);rw [hr];have h3:(240:Int) < (x.length:Int):=O
   simp [h,h3]
  .have h3:¬ (240:Int) < (x.length:Int):=O
   have hloop:=Am FI (λi=>(x,(Bx x).take i,((2 * i:Nat):Int))) (x.length / 2) (Bx x) (λi hi=>by
    have c0:((2 * i:Nat):Int) < (x.length:Int):=O
    have i1:2 * i < x.length:=O
    have i2:2 * i+1 < x.length:=O
    have g0:x[Int.toNat ((2 * i:Nat):Int)]?=some x[2 * i]:=by rw [Aj4];exact Aj3 i1
    have w1:IntKind.wrap .i64 (((2 * i:Nat):Int)+1)=((2 * i+1:Nat):Int):=by rw [w64 O O];omega
    have w2:IntKind.wrap .i64 (((2 * i:Nat):Int)+2)=((2 * (i+1):Nat):Int):=by rw [w64 O O];omega
    have g1:x[Int.toNat ((2 * i+1:Nat):Int)]?=some x[2 * i+1]:=by rw [Aj4];exact Aj3 i2
    have b0:=hb _ (Akq i1);have b1:=hb _ (Akq i2);have w3:IntKind.wrap .i64 x[2 * i]=x[2 * i]:=w64 O O;have w4:IntKind.wrap .i64 x[2 * i+1]=x[2 * i+1]:=w64 O O;have hpl:i < (Bx x).length:=by rw [Ln];exact hi
    have hpg:=Ac7 x i i2;have ht:(Bx x).take (i+1)=(Bx x).take i++[(x[2 * i],x[2 * i+1])]:=by
     rw [List.take_add_one,hpg];rfl
    unfold FI cK gX wI;simp only [c0,w1,w2,w3,w4,g0,g1,decide_true,Akv,Aj1,show(0:Int)<=((2 * i:Nat):Int) from by omega,show(0:Int)<=((2 * i+1:Nat):Int) from by omega,ht,
     show Aa (List.length ((Bx x).take i)+List.length ([(x[2 * i],x[2 * i+1])]:List (Int×Int))) 16=true from AfF (by rw [Akb,Ln];simp;omega) O]) (by
    have c0:¬ ((2 * (x.length / 2):Nat):Int) < (x.length:Int):=O
    unfold FI cK gX wI;simp only [c0,decide_false,Akh,AkI];rw [AkQ (by rw [Ln];exact Akz _)])
   have hl0:Ab FI (x,[],0)=some (Bx x):=by simpa using hloop
   simp only [h,h3,(O:¬ (2:Int)=0),not_false_eq_true,decide_true,decide_false,Akv,Akh,AkI,Aj1,hl0,(O:¬ (((0:Nat):Int))=1)];rw [Zt (by rw [Ln];omega),Aj1];unfold rdR;cases AN (Bx x) (AM (Bx x)) 60 <;> simp [h]
 .have h1:x.length % 2=1:=O
  have hr:rdR x=([],false):=Aj6 (λq=>h q.1);rw [hr];simp [h1]
theorem Aar (x:List Int):(rdR x).1.length<=120:=by
 unfold rdR;split
 .rename_i h;obtain ⟨g1,g2⟩:=NE h.2;have:=MV g1;dsimp only;omega
 .simp
def be (x:List Int):Int:=x.foldl (λa b=>a * 256+b) 0
end Go.V.G
set_option maxRecDepth 100000
namespace Go.V.G
open Go.V
theorem whl {σ τ:Type} (L:σ->Option (σ⊕τ)) (st:Nat->σ) (fin:Nat->τ) (ok:Nat->Bool) (n:Nat)
  (step:∀j,j < n->ok j=true->L (st j)=some (.inl (st (j+1)))) (stop:∀j,j<=n->(j=n\/ok j=false)->L (st j)=some (.inr (fin j))) :
  ∃j,j<=n/\(j=n\/ok j=false)/\Ab L (st 0)=some (fin j):=by
 have:∀d,d<=n->∃j,j<=n/\(j=n\/ok j=false)/\Ab L (st (n - d))=some (fin j):=by
  intro d
  induction d with
  | zero=>intro _;exact⟨n,Akz _,.inl rfl,by rw [AE,AlT,stop n (Akz _) (.inl rfl)]⟩
  | succ d ih=>
   intro hd;by_cases h:ok (n - (d+1))=true
   .obtain ⟨j,h1,h2,h3⟩:=ih O;refine⟨j,h1,h2,?_⟩;rw [AE,step _ O h];rw [(O:n - d=n - (d+1)+1)]at h3;exact h3
   .have h':ok (n - (d+1))=false:=by simpa using h
    exact⟨n - (d+1),O,.inr h',by rw [AE,stop _ O (.inr h')]⟩
 have h:=this n (Akz _);rw [AlJ]at h;exact h
theorem Aip {b:Bls} (hu:∀c∈b,U8s c) (a:Int):∀v∈rcO b a,0<=v/\v<=255:=by
 intro v hv;unfold rcO at hv;have hv:=Al9 (AlE hv);by_cases h:a.toNat < b.length
 .exact hu _ (BB h) v hv
 .unfold blk at hv;rw [Akr O]at hv;cases hv
theorem AdS {b:Bls} {x y:List Int} (hu:∀c∈b,U8s c):∀(f:Nat) (a:Int) (d ch:List Int) {p:List Int×List Int},(∀v∈d,0<=v/\v<=255)->rcN b x y f a d ch=some p->∀v∈p.1,0<=v/\v<=255
 | 0,_,_,_,p,_,h=>by cases h
 | f+1,a,d,ch,p,hd,h=>by
  have hd':∀v∈d++rcO b a,0<=v/\v<=255:=λv hv=>by
   rcases Aka.1 hv with hv | hv
   .exact hd v hv
   .exact Aip hu a v hv
  unfold rcN at h;split at h
  .split at h
   .injection h with h;subst h;exact hd'
   .exact AdS hu f _ _ _ hd' h
  .cases h
theorem KF {b:Bls} {x y:List Int} (g:RS b x y) (top:List Int) (k:Nat):Byt (rkd b x y top k):=by
 intro v hv;unfold rkd rcA at hv;split at hv
 .rename_i p hp;exact AdS g.hu _ _ _ _ Z hp v hv
 .cases hv
theorem Abi {b:Bls} {top:List Int} (a1 a2 a3 a4 a5:Int) (b':Bls) (x y z:List Int) (f:Int) (t:List UInt8) (r:List (Int×Int)) (cs:List (List Prt)) (rc:List Int) {k:Nat} (hk:k < 1024) :
  DI a1 a2 a3 a4 a5 b' x y z (ksT b top 1024) f t r cs rc (k:Int)=some (vl b top k):=by
 have:=Qc b top 1024;rw [AeT O,AhF b top hk]
theorem Aeu {i:Nat} (hi:i < 64):FU 0 (i:Int)=some (i:Int):=by
 have:=Kc (k:=0) (i:=i) O hi;rw [Nat.mul_zero,Akt]at this;exact this
def tpc (b:Bls) (x y:List Int) (a:Int):List Int:=(ptx b x y a).getD []
def tcl (b:Bls) (x y:List Int) (a:Int):List Int:=if(ptx b x y a).isSome=true then [a]else []
def tok (b:Bls) (x y:List Int) (a:Int):Bool:=(ptx b x y a).isSome
def ttx (b:Bls) (x y:List Int) (a:Int):List UInt8:=(tin b x y a).1
def btx (b:Bls) (x y:List Int) (P bl:List Int) (a:Int):List Int:=match ptx b x y a with
 | some l=>bpn P (bl++[a]) l l.length
 | none=>bl
theorem Se (b:Bls) (x y:List Int) (a:Int):(tpc b x y a).length<=3/\(tcl b x y a).length<=1/\(ttx b x y a).length<=120:=by
 unfold tpc tcl ttx tin;cases h:ptx b x y a with
 | none=>simp
 | some l=>
  obtain ⟨⟨hall,_,hlen⟩,_⟩:=Ir h;have:=RQ hall;simp;omega
theorem Aic {b:Bls} {x y z:List Int} (g:RS b x y) (a:Int) {P C:List Int} (hC:C.length<=90000) (hP:P.length<=90000) (fn:Bool) (rs:List Int) :
  BG a b x y z rs (srt C) (mny b.length P) (okb fn C)=some (ttx b x y a,b,x,y,z,rs,srt (C++tcl b x y a),mny b.length (P++tpc b x y a),okb (fn && tok b x y a) (C++tcl b x y a)):=by
 unfold ttx tcl tpc tok tin;cases h:ptx b x y a with
 | none=>
  rw [XH g h];simp [okb]
 | some l=>
  rw [W2 g h hC hP];simp
theorem Aif {b:Bls} {x y z:List Int} (g:RS b x y) (a:Int) {P bl:List Int} (hbl:bl.length<=90000) (hP:P.length<=90000) (fn:Bool) (ks rs:List Int) (d:Bls) (a1:Int) (a2:Bool) (a3 a4 a5 a6 a7 a8:Int) :
  Bk a ks bl rs (bd fn bl) d a1 a2 a3 a4 a5 a6 a7 a8 b x y z (std P) =
   some (ttx b x y a,ks,btx b x y P bl a,rs,bd (fn && tok b x y a) (btx b x y P bl a),d,a1,a2,a3,a4,a5,a6,a7,a8,b,x,y,z,std (P++tpc b x y a)):=by
 unfold ttx tpc tok btx tin;cases h:ptx b x y a with
 | none=>
  rw [WG g h];simp [bd]
 | some l=>
  rw [Wp g h hbl hP];simp
theorem Aap {b:Bls} {x y C P bl:List Int} (h:Led C P bl) (a:Int):Led (C++tcl b x y a) (P++tpc b x y a) (btx b x y P bl a):=by
 unfold tcl tpc btx;cases hp:ptx b x y a with
 | none=>simpa using h
 | some l=>
  have:=AaG (l:=l) (h.claim a) l.length (Akz _);rw [AkR]at this;simpa using this
theorem Aah (b:Bls) (x y P bl:List Int) (a:Int):(btx b x y P bl a).length<=bl.length+4:=by
 unfold btx;split
 .rename_i l hp;obtain ⟨⟨_,_,hlen⟩,_⟩:=Ir hp;have:=TM P (bl++[a]) l l.length;rw [Aj9,Ake]at this;omega
 .omega
section
variable {F H E R T:Int} {b:Bls} {x y z top:List Int}
theorem AiW {ks:List Kv} {w:List Int} (hl:ks.length=w.length) (hk:ks.length<=100000) (pg:List Int) :
  Ab Fe (ks,pg,w,(ks.length:Int),0,0,0,0,0,0,0,[],F,H,E,R,T,b,x,y,z)=some (if ks.map (·.1)=w then .inl (ks,pg,0,0,0,0,0,0,[],F,H,E,R,T,b,x,y,z)else .inr (false,0,0,0,0,0,0,[])):=by
 have h:=H0 Fe (λi=>(ks,pg,w,(ks.length:Int),((i:Nat):Int),0,0,0,0,0,0,[],F,H,E,R,T,b,x,y,z)) (λi=>decide ((sg ks i).1=gb w i)) (false,0,0,0,0,0,0,[]) (ks,pg,0,0,0,0,0,0,[],F,H,E,R,T,b,x,y,z) ks.length (λi hi=>by
  unfold Fe cK cZ wI;dsimp only;rw [iy O,iy O,iy O,Akt,Aj4,I9 hi,Aj1,Aj1,iy O,iy O,Ai O,Aj1];by_cases hq:(sg ks i).1=gb w i
  .rw [ino (not_not_intro hq),decide_eq_true hq,Aj7 rfl,Ak O]
  .rw [iy hq,decide_eq_false hq,Aj6 Z]) (by
  unfold Fe cK cZ wI;dsimp only;rw [ino O])
 rw [show Ab Fe (ks,pg,w,(ks.length:Int),0,0,0,0,0,0,0,[],F,H,E,R,T,b,x,y,z)=_ from h];have e:((List.range ks.length).all λi=>decide ((sg ks i).1=gb w i))=decide (ks.map (·.1)=w):=by
  rw [AlY,all_range,decide_eq_true_eq];constructor
  .intro q;refine AkZ λi=>?_
   by_cases hi:i < ks.length
   .have:=q i hi;simp only [decide_eq_true_eq]at this;rw [AkH,I9 hi,Ai O,<- this];rfl
   .rw [Akr AjY,Akr O]
  .rintro q i hi;have h1:(ks.map (·.1))[i]?=w[i]?:=by rw [q]
   rw [AkH,I9 hi,Ai O]at h1;injection h1 with h1
   exact decide_eq_true h1
 rw [e];by_cases hq:ks.map (·.1)=w <;> simp [hq]
def lod (b:Bls) (x y top:List Int) (f j:Nat):List (List Int):=(List.range j).map λi=>rkd b x y top (f+i)
def Cp (b:Bls) (x y top:List Int) (f j:Nat):List Int:=(List.range j).flatMap λi=>rkc b x y top (f+i)
def loo (b:Bls) (x y top:List Int) (f j:Nat):Bool:=(List.range j).all λi=>rko b x y top (f+i) && (BT (rkd b x y top (f+i))).2
theorem Ae0 (b:Bls) (x y top:List Int) (f j:Nat):lod b x y top f (j+1)=lod b x y top f j++[rkd b x y top (f+j)]:=by unfold lod;rw [NV]
theorem RB (b:Bls) (x y top:List Int) (f j:Nat):Cp b x y top f (j+1)=Cp b x y top f j++rkc b x y top (f+j):=by unfold Cp;rw [AlF,Alm];simp
theorem X2 (b:Bls) (x y top:List Int) (f j:Nat):loo b x y top f (j+1)=(loo b x y top f j && (rko b x y top (f+j) && (BT (rkd b x y top (f+j))).2)):=by unfold loo;rw [AlF,List.all_append];simp
theorem TG (b:Bls) (x y top:List Int) (f:Nat):∀j,(Cp b x y top f j).length<=10 * j
 | 0=>by simp [Cp]
 | j+1=>by
  have h1:=TG b x y top f j;have h2:=(Hp b x y top (f+j)).1;rw [RB,Aj9];omega
def chC (l:List (List Int)):List (List Prt):=l.map λc=>(BT c).1
theorem Afc (l:List (List Int)) (c:List Int):chC (l++[c])=chC l++[(BT c).1]:=by unfold chC;rw [AkJ];rfl
theorem Ai3 (h:SB b x y z) (g:RS b x y) {f hd:Nat} (hf:f<=hd) (hh:hd<=60) {C rs m:List Int} (hC:C.length<=80000) (fn:Bool) (t:List UInt8) (r:List Rn) :
  ∃j,j<=hd - f/\(j=hd - f\/okb (fn && loo b x y top f j) (C++Cp b x y top f j)=false)/\
   Ab GG ((f:Int),0,0,0,0,0,0,[],(f:Int),(hd:Int),E,R,T,b,x,y,z,(f:Int),(hd:Int),E,R,T,b,x,y,z,ksT b top 1024,0,[],(f:Int),t,r,[],b,x,y,z,rs,srt C,m,okb fn C) =
    some (0,0,0,0,0,0,[],(f:Int),(hd:Int),E,R,T,b,x,y,z,(f:Int),(hd:Int),E,R,T,b,x,y,z,ksT b top 1024,0,[],(f:Int),t,r,chC (lod b x y top f j),b,x,y,z,rs,srt (C++Cp b x y top f j),m,okb (fn && loo b x y top f j) (C++Cp b x y top f j)):=by
 have hw:=whl GG (λj=>(((f+j:Nat):Int),0,0,0,0,0,0,[],(f:Int),(hd:Int),E,R,T,b,x,y,z,(f:Int),(hd:Int),E,R,T,b,x,y,z,ksT b top 1024,0,[],(f:Int),t,r,chC (lod b x y top f j),b,x,y,z,rs,srt (C++Cp b x y top f j),m,okb (fn && loo b x y top f j) (C++Cp b x y top f j)))
  (λj=>(0,0,0,0,0,0,[],(f:Int),(hd:Int),E,R,T,b,x,y,z,(f:Int),(hd:Int),E,R,T,b,x,y,z,ksT b top 1024,0,[],(f:Int),t,r,chC (lod b x y top f j),b,x,y,z,rs,srt (C++Cp b x y top f j),m,okb (fn && loo b x y top f j) (C++Cp b x y top f j)))
  (λj=>okb (fn && loo b x y top f j) (C++Cp b x y top f j)) (hd - f) (λj hj hok=>by
   have hll:=TG b x y top f j;have hk:=Hp b x y top (f+j);have hr:=Pj (z:=z) (top:=top) h g (C:=C++Cp b x y top f j) (by rw [Aj9];omega) (k:=f+j) (fn && loo b x y top f j) rs m;have hcl:(chC (lod b x y top f j)).length=j:=by unfold chC lod;simp
   unfold GG cK wI;dsimp only;rw [iy O,Aj1];dsimp only;rw [hok]at hr ⊢;rw [Aj7 rfl,Aeu O,Aj1,Abi _ _ _ _ _ _ _ _ _ _ _ _ _ _ O,Aj1,hr,Aj1];dsimp only;rw [Agb (KF g top (f+j)) O,Aj1,RB,X2,Ae0,Afc,<- Akd];have hb:(if okb (fn && loo b x y top f j && rko b x y top (f+j)) (C++Cp b x y top f j++rkc b x y top (f+j))=true then(BT (rkd b x y top (f+j))).2 else false)=okb (fn && (loo b x y top f j && (rko b x y top (f+j) && (BT (rkd b x y top (f+j))).2))) (C++Cp b x y top f j++rkc b x y top (f+j)):=by
    unfold okb;cases fn <;> cases loo b x y top f j <;> cases rko b x y top (f+j) <;> cases ndb (C++Cp b x y top f j++rkc b x y top (f+j)) <;> cases (BT (rkd b x y top (f+j))).2 <;> rfl
   have hro:Aa ((chC (lod b x y top f j)).length+([(BT (rkd b x y top (f+j))).1]:List (List Prt)).length) 24=true:=by simp only [Aa,decide_eq_true_eq,Ake];omega
   rw [<- hb];by_cases hq:okb (fn && loo b x y top f j && rko b x y top (f+j)) (C++Cp b x y top f j++rkc b x y top (f+j))=true
   .rw [Aj7 hq,Aj7 hq,Aj1];dsimp only;rw [Aj7 hro,Ak O];rfl
   .rw [Aj6 hq,Aj6 hq,Aj1];dsimp only;rw [Aj7 hro,Ak O];rfl) (λj hj hok=>by
   unfold GG cK wI;dsimp only;by_cases hlt:j < hd - f
   .rw [iy O,Aj1];dsimp only;rcases hok with hok | hok
    .omega
    .rw [hok,Aj6 Z]
   .rw [ino O,Aj1];dsimp only;rw [Aj6 Z])
 obtain ⟨j,h1,h2,h3⟩:=hw;refine⟨j,h1,h2,?_⟩;have e0:lod b x y top f 0=[]:=rfl;have e1:Cp b x y top f 0=[]:=rfl;have e2:loo b x y top f 0=true:=rfl;rw [e0,e1,e2,Aki,AlB]at h3;exact h3
end
end Go.V.G
set_option maxRecDepth 100000
namespace Go.V.G
open Go.V
def upk (L:List (Int×Int)):List (Int×Int):=L.filter λs=>decide (0 < s.1)
def upc (b:Bls) (x y top:List Int) (L:List (Int×Int)):List Int:=(upk L).flatMap λs=>rkc b x y top (ky s)
def upo (b:Bls) (x y top:List Int) (L:List (Int×Int)):Bool:=(upk L).all λs=>rko b x y top (ky s)
theorem Xq (L:List (Int×Int)) (s:Int×Int):upk (L++[s])=upk L++(if 0 < s.1 then [s]else []):=by
 unfold upk;rw [Alr];by_cases h:0 < s.1 <;> simp [h]
theorem Aff (b:Bls) (x y top:List Int) (L:List (Int×Int)) (s:Int×Int):upc b x y top (L++[s])=upc b x y top L++(if 0 < s.1 then rkc b x y top (ky s)else []):=by
 unfold upc;rw [Xq,Alm];by_cases h:0 < s.1 <;> simp [h]
theorem Ad9 (b:Bls) (x y top:List Int) (L:List (Int×Int)) (s:Int×Int):upo b x y top (L++[s])=(upo b x y top L && (if 0 < s.1 then rko b x y top (ky s)else true)):=by
 unfold upo;rw [Xq,List.all_append];by_cases h:0 < s.1 <;> simp [h]
theorem ZF (b:Bls) (x y top:List Int) (L:List (Int×Int)):(upc b x y top L).length<=10 * L.length:=by
 unfold upc;have h1:(upk L).length<=L.length:=Alg _ _;have h2:∀M:List (Int×Int),(M.flatMap λs=>rkc b x y top (ky s)).length<=10 * M.length:=by
  intro M
  induction M with
  | nil=>simp
  | cons s M ih=>
   have:=(Hp b x y top (ky s)).1;rw [Alo,Aj9,Akg];omega
 have:=h2 (upk L);omega
def upe (b:Bls) (x y top:List Int) (f:Int) (t:List UInt8) (cs:List (List Prt)) (s:Int×Int):Bool:=!decide (0 < s.1) || (AF (rkd b x y top (ky s)) == AF (enc (bt f t cs s)))
def ckc (b:Bls) (x y top:List Int) (l:List Nat):List Int:=l.flatMap λr=>tcl b x y (vl b top (384+r))
def ckp (b:Bls) (x y top:List Int) (l:List Nat):List Int:=l.flatMap λr=>tpc b x y (vl b top (384+r))
def cko (b:Bls) (x y top:List Int) (l:List Nat):Bool:=l.all λr=>tok b x y (vl b top (384+r))
def cke (b:Bls) (x y top:List Int) (f:Nat) (t:List UInt8) (cs:List (List Prt)) (r:Nat):Bool:=ttx b x y (vl b top (384+r)) == txt t (cs.take (r - f))
theorem Qf (b:Bls) (x y top:List Int):∀l:List Nat,(ckc b x y top l).length<=l.length/\(ckp b x y top l).length<=3 * l.length
 | []=>by simp [ckc,ckp]
 | r::l=>by
  have h1:=Qf b x y top l;have h2:=Se b x y (vl b top (384+r));unfold ckc ckp at *;rw [Alo,Alo,Aj9,Aj9,Akg];omega
def pcn (P:List Int) (n:Nat):List Int:=((List.range n).filter λk=>decide (0 < P.count ((k:Nat):Int))).map λk=>((k:Nat):Int)
theorem AeI (P:List Int) (n:Nat):pcn P (n+1)=pcn P n++(if 0 < P.count (n:Int)then [(n:Int)]else []):=by
 unfold pcn;rw [AlF,Alr,AkJ];by_cases h:0 < P.count (n:Int)
 .rw [Aj7 h,List.filter_cons,Aj7 (decide_eq_true h)];rfl
 .rw [Aj6 h,List.filter_cons,Aj6 (by rw [decide_eq_false h];simp)];rfl
theorem AhU (P:List Int) (n:Nat):∀v∈pcn P n,v < ((n:Nat):Int):=by
 intro v hv;unfold pcn at hv;simp only [Ako,AlL,AlD]at hv;obtain ⟨k,⟨h1,_⟩,rfl⟩:=hv;omega
theorem AaJ (P:List Int) (n:Nat):(pcn P n).length<=n:=by
 unfold pcn;rw [Aky];exact AkE (Alg _ _) Z
def stB (b:Bls) (x C P:List Int) (k:Nat):Bool:=(decide (P.count (k:Int)=0) || (!decide ((k:Int)∈C) && decide (gb (blk b k) 1=(P.count (k:Int):Int)))) && (decide (k < 33) || (bit x k == decide ((k:Int)∈C\/0 < P.count (k:Int))))
section
variable {E R T:Int} {b:Bls} {x y z top:List Int}
theorem AiI (h:SB b x y z) (g:RS b x y) {f hd:Nat} {t:List UInt8} {r:List Rn} {cs:List (List Prt)} (gh:GH (f:Int) t r cs) (hf:hd=f+cs.length) (hh:hd<=60) {C rs m:List Int} (hC:C.length<=80000) (fn:Bool) :
  (((sts f hd).all (upe b x y top (f:Int) t cs)=true/\
    Ab EW (Gz (f:Int) t cs (sts f hd),sts f hd,(((sts f hd).length:Nat):Int),0,0,0,0,0,0,0,[],(f:Int),(hd:Int),E,R,T,b,x,y,z,(f:Int),(hd:Int),E,R,T,b,x,y,z,ksT b top 1024,0,[],(f:Int),t,r,cs,b,x,y,z,rs,srt C,m,okb fn C) =
     some (.inl (0,0,0,0,0,0,[],(f:Int),(hd:Int),E,R,T,b,x,y,z,(f:Int),(hd:Int),E,R,T,b,x,y,z,ksT b top 1024,0,[],(f:Int),t,r,cs,b,x,y,z,rs,srt (C++upc b x y top (sts f hd)),m,okb (fn && upo b x y top (sts f hd)) (C++upc b x y top (sts f hd)))))\/
   ((sts f hd).all (upe b x y top (f:Int) t cs)=false/\
    Ab EW (Gz (f:Int) t cs (sts f hd),sts f hd,(((sts f hd).length:Nat):Int),0,0,0,0,0,0,0,[],(f:Int),(hd:Int),E,R,T,b,x,y,z,(f:Int),(hd:Int),E,R,T,b,x,y,z,ksT b top 1024,0,[],(f:Int),t,r,cs,b,x,y,z,rs,srt C,m,okb fn C) =
     some (.inr (false,0,0,0,0,0,0,[])))):=by
 have hsl:=Ia (f:=f) hh;have hal:=X4 (f:Int) t cs (sts f hd);have hL:=BR EW (λi=>(Gz (f:Int) t cs (sts f hd),sts f hd,(((sts f hd).length:Nat):Int),((i:Nat):Int),0,0,0,0,0,0,[],(f:Int),(hd:Int),E,R,T,b,x,y,z,(f:Int),(hd:Int),E,R,T,b,x,y,z,ksT b top 1024,0,[],(f:Int),t,r,cs,b,x,y,z,rs,srt (C++upc b x y top ((sts f hd).take i)),m,okb (fn && upo b x y top ((sts f hd).take i)) (C++upc b x y top ((sts f hd).take i))))
  (λi=>upe b x y top (f:Int) t cs (((sts f hd)[i]?).getD (0,0))) (λ_=>(false,0,0,0,0,0,0,[])) (0,0,0,0,0,0,[],(f:Int),(hd:Int),E,R,T,b,x,y,z,(f:Int),(hd:Int),E,R,T,b,x,y,z,ksT b top 1024,0,[],(f:Int),t,r,cs,b,x,y,z,rs,srt (C++upc b x y top (sts f hd)),m,okb (fn && upo b x y top (sts f hd)) (C++upc b x y top (sts f hd))) (sts f hd).length (λi hi=>by
    obtain ⟨k,j,g8⟩:=Pm hi;obtain ⟨l1,l2,l3⟩:=g8.lt hh;have hk:=g8.hk;have hget:(sts f hd)[i]?=some ((sts f hd)[i]):=Aj3 hi;have hul:=ZF b x y top ((sts f hd).take i);rw [Akb]at hul;have hal2:=Af8 (f:=(f:Int)) (t:=t) (cs:=cs) hh (Akq hi);obtain ⟨f1,f2,f3,f4,f5⟩:=g8.ft;have hbt:AH (bt (f:Int) t cs (sts f hd)[i])=true:=(Iz gh (a:=(frS (sts f hd)[i]:Int)) (b:=(toS (sts f hd)[i]:Int)) O O).1;have hrec:=Pj (z:=z) (top:=top) h g (C:=C++upc b x y top ((sts f hd).take i)) (by rw [Aj9];omega) (k:=ky (sts f hd)[i]) (fn && upo b x y top ((sts f hd).take i)) rs m;unfold EW cK cZ wI;dsimp only;rw [iy O,iy O,iy O,Akt,Aj4,hget,Aj1,Aj1,Akp hi,Aff,Ad9,AkM];unfold upe;by_cases h0:0 < (sts f hd)[i].1
    .have e1:FU (sts f hd)[i].1 (sts f hd)[i].2=some (ky (sts f hd)[i]:Int):=by rw [l2];simp only [g8.e];exact Kc hk O
     rw [iy h0,e1,Aj1,Abi _ _ _ _ _ _ _ _ _ _ _ _ _ _ O,Aj1,hrec,Aj1];dsimp only;rw [Aj1,iy O,iy O,Akt,Aj4,hal2,Aj1,AaV (C6 hbt) O hbt,Aj1,Aj1,Aj7 h0,Aj7 h0,decide_eq_true h0,AkT,Alk,Akd,Al7];dsimp only;cases hq:(AF (rkd b x y top (ky (sts f hd)[i])) == AF (enc (bt (f:Int) t cs (sts f hd)[i])))with
     | true=>rw [Aj6 Z,Aj7 rfl,Ak O]
     | false=>rw [Aj7 Z,Aj6 Z]
    .rw [ino h0,Aj1,Aj6 h0,Aj6 h0,decide_eq_false h0,Aki,AlB];dsimp only;rw [Aj6 Z,Aj7 Z,Ak O]) (by
    unfold EW cK cZ wI;dsimp only;rw [ino O,AkR])
 have e0:upc b x y top ((sts f hd).take 0)=[]:=rfl;have e1:upo b x y top ((sts f hd).take 0)=true:=rfl;rw [e0,e1,Aki,AlB]at hL;rcases hL with⟨ha,hl⟩ | ⟨k,hk,hp,_,hl⟩
 .refine .inl ⟨?_,hl⟩;rw [Akx];intro s hs;obtain ⟨i,hi,rfl⟩:=AkG hs;have:=ha i hi;rw [Aj3 hi]at this;exact this
 .refine .inr ⟨?_,hl⟩;rw [Aj3 hk]at hp;cases hq:(sts f hd).all (upe b x y top (f:Int) t cs)with
  | false=>rfl
  | true=>
    have:=Akx.1 hq _ (Akq hk);rw [show upe b x y top (f:Int) t cs (sts f hd)[k]=false from hp]at this;cases this
theorem AiU (g:RS b x y) {f hd e:Nat} {t:List UInt8} {r:List Rn} {cs:List (List Prt)} (gh:GH (f:Int) t r cs) (hf:hd=f+cs.length) (hh:hd<=60) (he:0 < e) {C P rs:List Int} (hC:C.length<=80000) (hP:P.length<=80000) (fn:Bool) :
  ((cks f hd e).all (cke b x y top f t cs)=true/\
    Ab E7 (((f+1:Nat):Int),0,0,0,0,0,0,[],(f:Int),(hd:Int),(e:Int),R,T,b,x,y,z,(f:Int),(hd:Int),(e:Int),R,T,b,x,y,z,ksT b top 1024,0,[],(f:Int),t,r,cs,b,x,y,z,rs,srt C,mny b.length P,okb fn C) =
     some (.inl (0,0,0,0,0,0,[],b,x,y,z,(f:Int),(hd:Int),(e:Int),R,T,b,x,y,z,ksT b top 1024,0,[],(f:Int),t,r,cs,b,x,y,z,rs,srt (C++ckc b x y top (cks f hd e)),mny b.length (P++ckp b x y top (cks f hd e)),okb (fn && cko b x y top (cks f hd e)) (C++ckc b x y top (cks f hd e)))))\/
   ((cks f hd e).all (cke b x y top f t cs)=false/\
    Ab E7 (((f+1:Nat):Int),0,0,0,0,0,0,[],(f:Int),(hd:Int),(e:Int),R,T,b,x,y,z,(f:Int),(hd:Int),(e:Int),R,T,b,x,y,z,ksT b top 1024,0,[],(f:Int),t,r,cs,b,x,y,z,rs,srt C,mny b.length P,okb fn C) =
     some (.inr (false,0,0,0,0,0,0,[]))):=by
 have hL:=BR E7 (λn=>(((f+1+n:Nat):Int),0,0,0,0,0,0,[],(f:Int),(hd:Int),(e:Int),R,T,b,x,y,z,(f:Int),(hd:Int),(e:Int),R,T,b,x,y,z,ksT b top 1024,0,[],(f:Int),t,r,cs,b,x,y,z,rs,srt (C++ckc b x y top (ckn f e n)),mny b.length (P++ckp b x y top (ckn f e n)),okb (fn && cko b x y top (ckn f e n)) (C++ckc b x y top (ckn f e n))))
  (λn=>!decide ((f+1+n) % e=0) || cke b x y top f t cs (f+1+n)) (λ_=>(false,0,0,0,0,0,0,[])) (0,0,0,0,0,0,[],b,x,y,z,(f:Int),(hd:Int),(e:Int),R,T,b,x,y,z,ksT b top 1024,0,[],(f:Int),t,r,cs,b,x,y,z,rs,srt (C++ckc b x y top (cks f hd e)),mny b.length (P++ckp b x y top (cks f hd e)),okb (fn && cko b x y top (cks f hd e)) (C++ckc b x y top (cks f hd e))) (hd - f) (λn hn=>by
    have hnl:=Qn f e n;have hcl:=Qf b x y top (ckn f e n);have htx:=Ac0 gh (x:=((f+1+n:Nat):Int)) O O;rw [show(((f+1+n:Nat):Int) - (f:Int)).toNat=f+1+n - f by omega]at htx;have ew:IntKind.wrap .i64 (384+((f+1+n:Nat):Int))=((384+(f+1+n):Nat):Int):=by rw [w64 O O];omega
    have hrt:=Aic (z:=z) g (vl b top (384+(f+1+n))) (P:=P++ckp b x y top (ckn f e n)) (C:=C++ckc b x y top (ckn f e n)) (by rw [Aj9];omega) (by rw [Aj9];omega) (fn && cko b x y top (ckn f e n)) rs;unfold E7 cK wI;dsimp only;rw [iy O,iy O,WB,Re];by_cases hz:(f+1+n) % e=0
    .have a1:ckc b x y top (ckn f e n++[f+1+n])=ckc b x y top (ckn f e n)++tcl b x y (vl b top (384+(f+1+n))):=by unfold ckc;rw [Alm];simp
     have a2:ckp b x y top (ckn f e n++[f+1+n])=ckp b x y top (ckn f e n)++tpc b x y (vl b top (384+(f+1+n))):=by unfold ckp;rw [Alm];simp
     have a3:cko b x y top (ckn f e n++[f+1+n])=(cko b x y top (ckn f e n) && tok b x y (vl b top (384+(f+1+n)))):=by unfold cko;rw [List.all_append];simp
     rw [iy O,ew,Abi _ _ _ _ _ _ _ _ _ _ _ _ _ _ O,Aj1,hrt,Aj1];dsimp only;rw [htx,Aj1,Aj1,Aj7 hz,a1,a2,a3,decide_eq_true hz,AkT,Alk,Akd,Akd,Al7];dsimp only;unfold cke;cases hq:(ttx b x y (vl b top (384+(f+1+n))) == txt t (cs.take (f+1+n - f)))with
     | true=>rw [Aj6 Z,Aj7 rfl,Ak O];rfl
     | false=>rw [Aj7 Z,Aj6 Z]
    .rw [ino O,Aj1,Aj6 hz,Aki,decide_eq_false hz];dsimp only;rw [Aj6 Z,Aj7 Z,Ak O];rfl) (by
    unfold E7 cK wI;dsimp only;rw [ino O];rfl)
 have e0:ckc b x y top (ckn f e 0)=[]:=rfl;have e1:cko b x y top (ckn f e 0)=true:=rfl;have e2:ckp b x y top (ckn f e 0)=[]:=rfl;rw [e0,e1,e2,Aki,Aki,AlB]at hL;rcases hL with⟨ha,hl⟩ | ⟨k,hk,hp,_,hl⟩
 .refine .inl ⟨?_,hl⟩;rw [Akx];intro q hq;obtain ⟨q1,q2,q3⟩:=cks_mem.1 hq;have:=ha (q - (f+1)) O;rw [(O:f+1+(q - (f+1))=q),decide_eq_true q3]at this;simpa using this
 .refine .inr ⟨?_,hl⟩;cases hq:(cks f hd e).all (cke b x y top f t cs)with
  | false=>rfl
  | true=>
    simp only [AlV,Bool.not_eq_false',decide_eq_true_eq]at hp;have:=Akx.1 hq _ (cks_mem.2 (⟨O,O,hp.1⟩:f < f+1+k/\f+1+k<=hd/\(f+1+k) % e=0));rw [hp.2]at this;cases this
theorem AiB (g:RS b x y) {f hd e:Nat} {t:List UInt8} {r:List Rn} {cs:List (List Prt)} {ks:List Kv} {C P rs:List Int} (hC:C.length<=80000) (hP:P.length<=80000) (ok:Bool) :
  ((List.range b.length).all (stB b x C P)=true/\
    Ab ES (mny b.length P,(b.length:Int),0,0,0,0,0,0,0,[],b,x,y,z,(f:Int),(hd:Int),(e:Int),R,T,b,x,y,z,ks,0,[],(f:Int),t,r,cs,b,x,y,z,rs,srt C,ok) =
     some (.inl (0,0,0,0,0,0,[],(f:Int),(hd:Int),(e:Int),R,T,b,x,y,z,ks,0,[],(f:Int),t,r,cs,b,x,y,z,rs,srt (C++pcn P b.length),mny b.length P,ok)))\/
   ((List.range b.length).all (stB b x C P)=false/\
    Ab ES (mny b.length P,(b.length:Int),0,0,0,0,0,0,0,[],b,x,y,z,(f:Int),(hd:Int),(e:Int),R,T,b,x,y,z,ks,0,[],(f:Int),t,r,cs,b,x,y,z,rs,srt C,ok) =
     some (.inr (false,0,0,0,0,0,0,[]))):=by
 have hbl:=g.hn;have hxl:=g.hx;have hml:=I4 b.length P;have hL:=BR ES (λk=>(mny b.length P,(b.length:Int),((k:Nat):Int),0,0,0,0,0,0,[],b,x,y,z,(f:Int),(hd:Int),(e:Int),R,T,b,x,y,z,ks,0,[],(f:Int),t,r,cs,b,x,y,z,rs,srt (C++pcn P k),ok))
  (stB b x C P) (λ_=>(false,0,0,0,0,0,0,[])) (0,0,0,0,0,0,[],(f:Int),(hd:Int),(e:Int),R,T,b,x,y,z,ks,0,[],(f:Int),t,r,cs,b,x,y,z,rs,srt (C++pcn P b.length),mny b.length P,ok) b.length (λk hk=>by
    have hpl:=AaJ P k;have hc1:=List.count_le_length (l:=P) (a:=(k:Int));obtain ⟨o1,o2,o3⟩:=IU (l:=C++pcn P k) (by rw [Aj9];omega);have hm1:(k:Int)∈srt (C++pcn P k)↔(k:Int)∈C:=by
     rw [o3,Aka];exact⟨λq=>q.elim id λq=>by have:=AhU P k _ q;omega,.inl⟩
    have hlen:=g.len hk;have hu:=g.u8 hk 1;have hus:=Ik (bits:=x) (k:=k) O O;have hst:stB b x C P k=((decide (P.count (k:Int)=0) || (!decide ((k:Int)∈C) && decide (gb (blk b k) 1=(P.count (k:Int):Int)))) && (decide (k < 33) || (bit x k == decide ((k:Int)∈C\/0 < P.count (k:Int))))):=rfl;rw [hst];unfold ES cK cZ gX wI;dsimp only;rw [iy O,iy O,iy O,Akt,Aj4,OV P hk,Aj1,AeI];by_cases h0:0 < P.count (k:Int)
    .rw [iy O,Gf (by rw [Aj9]at o2;omega),Aj1,decide_eq_false (O:¬ P.count (k:Int)=0),Aj7 h0];by_cases hin:(k:Int)∈C
     .rw [decide_eq_true (hm1.2 hin),Aj7 rfl,Aj1,decide_eq_true hin];dsimp only;rw [Aj7 rfl];rfl
     .rw [decide_eq_false (λq=>hin (hm1.1 q)),Aj6 Z,iy O,Bp hk,Aj1,iy O,show Int.toNat 1=1 from rfl,Ai O,Aj1,Aj1,w64 (n:=gb (blk b k) 1) O O,decide_eq_false hin];dsimp only;by_cases hb:gb (blk b k) 1=(P.count (k:Int):Int)
      .obtain ⟨p1,p2,p3⟩:=IU (l:=C++pcn P k++[(k:Int)]) (by simp only [Aj9,Ake];omega);rw [decide_eq_false (not_not_intro hb),Aj6 Z,iy O,(FT (l:=C++pcn P k) (by rw [Aj9];omega) _).1,Aj1,Aj1,decide_eq_true hb];dsimp only;rw [<- Akd];by_cases h33:k < 33
       .rw [ino O,Aj1,decide_eq_true h33];dsimp only;rw [Aj6 Z,Ak O];rfl
       .have hm2:(k:Int)∈srt (C++pcn P k++[(k:Int)]):=(p3 _).2 Z;rw [iy O,hus,Aj1,Gf (by simp only [Aj9,Ake]at p2;omega),Aj1,Aj1,decide_eq_false h33,decide_eq_true hm2,decide_eq_true (.inr h0:(k:Int)∈C\/0 < P.count (k:Int))];dsimp only;cases bit x k with
        | true=>rw [Aj6 Z,Ak O];rfl
        | false=>rw [Aj7 Z];rfl
      .rw [decide_eq_true hb,Aj7 rfl,decide_eq_false hb];rfl
    .rw [ino O,Aj1,decide_eq_true (O:P.count (k:Int)=0),Aj6 h0,Aki];dsimp only;rw [Aj6 Z,ino O,Aj1];dsimp only;by_cases h33:k < 33
     .rw [ino O,Aj1,decide_eq_true h33];dsimp only;rw [Aj6 Z,Ak O];rfl
     .rw [iy O,hus,Aj1,Gf (by rw [Aj9]at o2;omega),Aj1,Aj1,decide_eq_false h33];dsimp only;by_cases hin:(k:Int)∈C
      .rw [decide_eq_true (hm1.2 hin),decide_eq_true (.inl hin:(k:Int)∈C\/0 < P.count (k:Int))];cases bit x k with
       | true=>rw [Aj6 Z,Ak O];rfl
       | false=>rw [Aj7 Z];rfl
      .rw [decide_eq_false (λq=>hin (hm1.1 q)),decide_eq_false (λq=>q.elim hin h0:¬ ((k:Int)∈C\/0 < P.count (k:Int)))];cases bit x k with
       | true=>rw [Aj7 Z];rfl
       | false=>rw [Aj6 Z,Ak O];rfl) (by
    unfold ES cK cZ gX wI;dsimp only;rw [ino O])
 have e0:pcn P 0=[]:=rfl;rw [e0,Aki]at hL;rcases hL with⟨ha,hl⟩ | ⟨k,hk,hp,_,hl⟩
 .exact .inl ⟨all_range.2 ha,hl⟩
 .refine .inr ⟨?_,hl⟩;cases hq:(List.range b.length).all (stB b x C P)with
  | false=>rfl
  | true=>rw [all_range.1 hq k hk]at hp;cases hp
end
end Go.V.G