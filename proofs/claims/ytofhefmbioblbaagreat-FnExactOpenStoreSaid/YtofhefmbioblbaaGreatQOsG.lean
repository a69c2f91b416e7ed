import Derived.Test.YtofhefmbioblbaaGreatQOsA
import Derived.Test.YtofhefmbioblbaaGreatQOsB
import Derived.Test.YtofhefmbioblbaaGreatQOsC
import Derived.Test.YtofhefmbioblbaaGreatQOsF
set_option linter.unusedVariables false
set_option linter.unusedSimpArgs false
set_option maxRecDepth 100000
namespace Go.V.G
open Go.V
theorem YG {cs:List (List Prt)} {i:Nat} (h:i < cs.length) (n:Int):chn n (cs.drop i)=((AH cs[i] && decide (src cs[i]=n)) && chn (tgt cs[i]) (cs.drop (i+1))):=by
 rw [Alb h];rfl
theorem Xa {cs:List (List Prt)} (hn:cs.length<=1099511627776) (hs:∀c∈cs,Sm 1099511627776 c) (n:Int):Md n cs=some (chn n cs):=by
 unfold Md;refine Ok.eq (Ok.bind (Q:=λr=>match r with | .inl _=>chn n cs=true | .inr b=>b=chn n cs) ?_ (by
  rintro (y | b) hr
  .exact Ok.mk hr.symm
  .exact Ok.mk hr))
 refine Ok.loop (λy=>y.2.1=cs/\y.2.2.1=(cs.length:Int)/\∃i:Nat,y.2.2.2=(i:Int)/\i<=cs.length/\chn n cs=chn y.1 (cs.drop i)) (λy=>((cs.length:Int) - y.2.2.2).toNat) ⟨rfl,rfl,0,rfl,Al6 _,rfl⟩ ?_;rintro ⟨m,cs',l,i'⟩ ⟨e1,e2,i,e3,hi,hk⟩;dsimp only at e1 e2 e3 hk;subst e1 e2 e3;unfold PJ gX wI;dsimp only;refine Ok.ite (λhc=>?_) λhc=>?_
 .have hlt:i < cs'.length:=by simpa using hc
  have hge:cs'[Int.toNat (i:Int)]?=some cs'[i]:=by simp [hlt]
  refine Ok.yes Z (Ok.bind_eq hge (Ok.bind_eq (TA (hs _ (Ak1 hlt)) O) ?_));rw [YG hlt]at hk;unfold XB;cases hg:AH cs'[i]with
  | false=>
   rw [hg]at hk;refine Ok.bind_eq (r:=(0,cs',(cs'.length:Int),(i:Int),true)) Z (Ok.yes rfl (Ok.mk ?_));dsimp only;rw [hk];simp
  | true=>
   rw [hg]at hk;refine Ok.bind_eq (r:=(tgt cs'[i],cs',(cs'.length:Int),(i:Int),decide (¬ src cs'[i]=m))) Z ?_;dsimp only;refine Ok.ite (λhb=>Ok.mk ?_) λhb=>Ok.mk ⟨⟨rfl,rfl,i+1,Aw hn hlt,O,?_⟩,?_⟩
   .have:¬ src cs'[i]=m:=by simpa using hb
    dsimp only;rw [hk];simp [this]
   .have:src cs'[i]=m:=by simpa using hb
    dsimp only;rw [hk];simp [this]
   .rw [Aw hn hlt];dsimp only;omega
 .have:i=cs'.length:=by
   have:¬ ((i:Int) < (List.length cs':Int)):=by simpa using hc
   omega
  subst this;refine Ok.mk ?_;dsimp only;rw [hk,Amn];rfl
theorem Rm {t:List UInt8} {r:List Rn} {cs:List (List Prt)} (h:HB t r cs) (f:Int):HY f t r cs=some (FO f t r cs):=by
 unfold HY FO wI;refine Ok.eq (Ok.bind (Q:=λb=>b=_) ?_ (λb hb=>Ok.mk hb));refine Ok.bind_eq (AI _ _ _) (Ok.ite (λq1=>?_) λq1=>Ok.mk ?_)
 .have q1':0<=f/\f<=60:=by simpa using q1
  rw [show decide (0<=f/\f<=60)=true from q1,AkS];refine Ok.ite (λq2=>Ok.bind_eq (OQ h.hr _ _) (Ok.ite (λq3=>?_) λq3=>Ok.mk ?_)) λq2=>Ok.mk ?_
  .rw [show decide ((t.length:Int)<=120)=true from q2,q3,AkS,AkS];rw [w64 (O:-9223372036854775808<=60 - f) O];refine Ok.ite (λq4=>Ok.bind_eq (Xa h.hn h.hc _) (Ok.mk ?_)) λq4=>Ok.mk ?_
   .rw [q4,AkS]
   .have:decide ((cs.length:Int)<=60 - f)=false:=by simpa using q4
    rw [this,Al1]
  .have:AO r (t.length:Int) f=false:=by simpa using q3
   rw [this];simp
  .have:decide ((t.length:Int)<=120)=false:=by simpa using q2
   rw [this];simp
 .have:decide (0<=f/\f<=60)=false:=by simpa using q1
  rw [this];simp
theorem Ru {t:List UInt8} {r:List Rn} {cs:List (List Prt)} (h:HB t r cs) (f:Int):HU f t r cs=some (FO f t r cs):=by
 have hn:=h.hn;unfold HU wI;refine Ok.eq (Ok.bind (Q:=λv=>v=(!(decide (0<=f/\f<=60) && (decide ((t.length:Int)<=120) && (AO r (t.length:Int) f && decide ((cs.length:Int)<=60 - f)))),f,t,r,cs)) ?_ ?_)
 .refine Ok.bind_eq (Cf _ _ _) (Ok.ite (λq1=>Ok.mk ?_) λq1=>Ok.ite (λq2=>Ok.mk ?_) λq2=>Ok.bind_eq (OT h.hr _ _) (Ok.ite (λq3=>Ok.mk ?_) λq3=>Ok.mk ?_))
  .have:decide (0<=f/\f<=60)=false:=by simpa only [AkP] using q1
   rw [this];rfl
  .have:¬ (t.length:Int)<=120:=by
     have:(120:Int) < (t.length:Int):=by simpa using q2
     omega
   simp [this]
  .have:AO r (t.length:Int) f=false:=by simpa only [AkP] using q3
   rw [this];simp
  .have g1:0<=f/\f<=60:=by simpa using q1
   have g2:(t.length:Int)<=120:=by
    have:¬ (120:Int) < (t.length:Int):=by simpa using q2
    omega
   have g3:AO r (t.length:Int) f=true:=by simpa only [AkP,AlZ] using q3
   rw [w64 (O:-9223372036854775808<=60 - f) O,g3];simp only [g1,and_self,decide_true,g2,AkS]
   congr 1
   by_cases hx:60 - f < (cs.length:Int)
   .have:¬ (cs.length:Int)<=60 - f:=O
    simp [hx,this]
   .have:(cs.length:Int)<=60 - f:=O
    simp [hx,this]
 rintro _ rfl;dsimp only;have split:FO f t r cs=((decide (0<=f/\f<=60) && (decide ((t.length:Int)<=120) && (AO r (t.length:Int) f && decide ((cs.length:Int)<=60 - f)))) && chn (t.length:Int) cs):=by
  unfold FO;simp only [AmH]
 rw [split];refine Ok.ite (λhb=>Ok.mk ?_) λhb=>?_
 .have:(decide (0<=f/\f<=60) && (decide ((t.length:Int)<=120) && (AO r (t.length:Int) f && decide ((cs.length:Int)<=60 - f))))=false:=by simpa only [AkP] using hb
  rw [this];rfl
 have hb':(decide (0<=f/\f<=60) && (decide ((t.length:Int)<=120) && (AO r (t.length:Int) f && decide ((cs.length:Int)<=60 - f))))=true:=by simpa only [AkP,AlZ] using hb
 rw [hb',AkS];have ht:(t.length:Int)<=120:=by simp only [AkI,decide_eq_true_eq]at hb';exact hb'.2.1
 refine Ok.bind (Q:=λr=>match r with | .inl _=>chn (t.length:Int) cs=true | .inr b=>b=chn (t.length:Int) cs) ?_ (by
  rintro (y | b) hr
  .exact Ok.mk hr.symm
  .exact Ok.mk hr)
 refine Ok.loop (λy=>y.2.1=cs/\y.2.2.1=(cs.length:Int)/\∃i:Nat,y.2.2.2=(i:Int)/\i<=cs.length/\chn (t.length:Int) cs=chn y.1 (cs.drop i)) (λy=>((cs.length:Int) - y.2.2.2).toNat) ⟨rfl,rfl,0,rfl,Al6 _,rfl⟩ ?_;rintro ⟨m,cs',l,i'⟩ ⟨e1,e2,i,e3,hi,hk⟩;dsimp only at e1 e2 e3 hk;subst e1 e2 e3;unfold K6 gX wI;dsimp only;refine Ok.ite (λhc=>?_) λhc=>?_
 .have hlt:i < cs'.length:=by simpa using hc
  have hge:cs'[Int.toNat (i:Int)]?=some cs'[i]:=by simp [hlt]
  have sm:=h.hc _ (Ak1 hlt);refine Ok.yes Z (Ok.bind_eq hge ?_);rw [YG hlt]at hk;cases hg:AH cs'[i]with
  | false=>
   rw [hg]at hk;refine Ok.bind_eq (r:=(cs',(cs'.length:Int),(i:Int),true,cs'[i])) (by rw [LR sm O,hg];rfl) (Ok.yes rfl (Ok.mk ?_));dsimp only;rw [hk];simp
  | true=>
   rw [hg]at hk;have ss:=Bi (Aq hg).1;have g2:=(Aq hg).2;refine Ok.bind_eq (r:=(cs',(cs'.length:Int),(i:Int),decide (¬ src cs'[i]=m),cs'[i])) (by rw [LR sm O,hg,AkB,AkG Z,Q8 sm O ss O];rfl) ?_;dsimp only;refine Ok.ite (λhb=>Ok.mk ?_) λhb=>Ok.bind_eq (Zo sm O ss O) (Ok.mk ⟨⟨rfl,rfl,i+1,Aw hn hlt,O,?_⟩,?_⟩)
   .have:¬ src cs'[i]=m:=by simpa using hb
    dsimp only;rw [hk];simp [this]
   .have:src cs'[i]=m:=by simpa using hb
    dsimp only;rw [hk];simp [this]
   .rw [Aw hn hlt];dsimp only;omega
 .have:i=cs'.length:=by
   have:¬ ((i:Int) < (List.length cs':Int)):=by simpa using hc
   omega
  subst this;refine Ok.mk ?_;dsimp only;rw [hk,Amn];rfl
theorem Yi:LE=G7:=rfl
theorem Abt {c:List Prt} (hg:AH c=true) {t:List UInt8} (ht:(t.length:Int)=src c):HX t c=some (apply t c,true):=by
 have hs:=Bi (Aq hg).1;have sm:=De hg;have sle:=(Aq hg).2.1;have ha:=Ta hg ht;unfold No at ha;rw [AkF]at ha;obtain ⟨z,hz,he⟩:=ha;obtain rfl:z=apply t c:=AlR he;unfold HX;rw [LR sm O,hg,AkB,AkG Z,Q8 sm O hs O,AkB,AkB,AkG (by simp [ht]),Yi];rw [hz];rfl
theorem YC {t:List UInt8} {cs:List (List Prt)} {i:Nat} (h:i < cs.length):txt t (cs.take (i+1))=apply (txt t (cs.take i)) cs[i]:=by
 unfold txt;rw [Ak0 h,Ami];rfl
theorem Yq {n:Int} {cs:List (List Prt)} (h:chn n cs=true) {i:Nat} (hi:i < cs.length):AH cs[i]=true/\src cs[i]=Eg n (cs.take i)/\Eg n (cs.take (i+1))=tgt cs[i]:=by
 have h2:=(D6 h i).2;rw [Alb hi]at h2;obtain ⟨k1,k2,k3⟩:=FW h2;refine⟨k1,k2,?_⟩;rw [Ak0 hi,MM];rfl
theorem ZE {t:List UInt8} {cs:List (List Prt)} (hn:cs.length<=1099511627776) (hc:chn (t.length:Int) cs=true):Ab DJ (t,cs,(cs.length:Int),0)=some (txt t cs):=by
 have:=Am DJ (λi=>(txt t (cs.take i),cs,(cs.length:Int),((i:Nat):Int))) cs.length (txt t cs) (by
  intro i hi;have hlt:(i:Int) < (cs.length:Int):=O
  obtain ⟨k1,k2,k3⟩:=Yq hc hi;have hl:=Qw (D6 hc i).1;unfold DJ gX wI;simp only [hlt,decide_true,Ak4,show(0:Int)<=(i:Int) from by omega,AkE,AkD hi,AkB,Ta k1 (by rw [hl,k2]),Aw hn hi,YC hi]) (by simp [DJ,gX,wI])
 simpa [txt] using this
theorem ZX {t:List UInt8} {cs:List (List Prt)} (hn:cs.length<=1099511627776) (hc:chn (t.length:Int) cs=true):Ab GM (t,cs,(cs.length:Int),0)=some (txt t cs):=by
 have:=Am GM (λi=>(txt t (cs.take i),cs,(cs.length:Int),((i:Nat):Int))) cs.length (txt t cs) (by
  intro i hi;have hlt:(i:Int) < (cs.length:Int):=O
  obtain ⟨k1,k2,k3⟩:=Yq hc hi;have hl:=Qw (D6 hc i).1;unfold GM gX wI;simp only [hlt,decide_true,Ak4,show(0:Int)<=(i:Int) from by omega,AkE,AkD hi,AkB,Abt k1 (by rw [hl,k2]),Aw hn hi,YC hi]) (by simp [GM,gX,wI])
 simpa [txt] using this
section
variable {f:Int} {t:List UInt8} {r:List Rn} {cs:List (List Prt)}
theorem Va (g:GH f t r cs) {x:Int} (h1:f<=x) (h2:x<=f+cs.length):Fo f t r cs x=some (txt t (cs.take (x - f).toNat)):=by
 have:=g.hf;have:=g.hn;have w:IntKind.wrap .i64 (x - f)=x - f:=w64 O O;have hl:=ZE (cs:=cs.take (x - f).toNat) (by rw [AkL];omega) (D6 g.hc _).1;unfold Fo sX wI;simp only [w,AlO,decide_true,Ak4,show(0:Int)<=x - f from by omega,(O:x - f<=(cs.length:Int)),Int.toNat_zero,AlH,Amt];rw [hl];rfl
theorem Adk (g:GH f t r cs) {x:Int} (h1:f<=x) (h2:x<=f+cs.length):LT f t r cs x=some (txt t (cs.take (x - f).toNat)):=by
 have:=g.hf;have:=g.hn;have w:IntKind.wrap .i64 (x - f)=x - f:=w64 O O;have hl:=ZX (cs:=cs.take (x - f).toNat) (by rw [AkL];omega) (D6 g.hc _).1;unfold LT sX wI;simp only [w,AlO,decide_true,Ak4,show(0:Int)<=x - f from by omega,(O:x - f<=(cs.length:Int)),Int.toNat_zero,AlH,Amt];rw [hl];rfl
theorem Aha (g:GH f t r cs) (k:Nat):(((txt t (cs.take k)).length:Nat):Int)=Eg (t.length:Int) (cs.take k)/\0<=Eg (t.length:Int) (cs.take k)/\Eg (t.length:Int) (cs.take k)<=120:=
 ⟨Qw (D6 g.hc k).1,Uo (D6 g.hc k).1 O g.ht⟩
end
end Go.V.G
set_option maxRecDepth 100000
namespace Go.V.G
open Go.V
def Af4 (xs:List (Int×Int)):Prop:=xs.length<=maxLen
def Yt (xs:List (Int×Int)):Nat:=xs.length
def VH (xs:List (Int×(Int×List UInt8))):Prop:=xs.length<=maxLen/\∀x∈xs,x.2.2.length<=maxLen
def AdC (x:Int×(Int×List UInt8)):Nat:=x.2.2.length
def Nf (xs:List (Int×(Int×List UInt8))):Nat:=xs.length+AG AdC xs
def Zv (xs:List (List (Int×(Int×List UInt8)))):Prop:=xs.length<=maxLen/\∀x∈xs,VH x
def Qe (xs:List (List (Int×(Int×List UInt8)))):Nat:=xs.length+AG Nf xs
end Go.V.G
set_option maxRecDepth 100000
namespace Go.V.G
open Go.V
theorem n2:((2:Nat):Int)=2:=rfl
theorem n3:((3:Nat):Int)=3:=rfl
abbrev Hst:=Int×(List UInt8×(List (Int×Int)×List (List (Int×(Int×List UInt8)))))
def Vy (h:Hst):Nat:=h.2.1.length+Yt h.2.2.1+Qe h.2.2.2
end Go.V.G
set_option maxRecDepth 100000
namespace Go.V.G
open Go.V
structure FitP (c:List Prt):Prop where
 l:VH c
 i:∀p∈c,I64 p.1/\I64 p.2.1
structure FitH (t:List UInt8) (r:List Rn) (cs:List (List Prt)):Prop where
 ht:t.length<=maxLen
 hr:Af4 r
 hc:Zv cs
 hi:∀c∈cs,∀p∈c,I64 p.1/\I64 p.2.1
theorem AcK:∀c:List Prt,Nf c=c.length+B1 c
 | []=>rfl
 | p::c=>by
  have ih:=AcK c;simp only [Nf,AG,AdC,B1,AkQ]at ih ⊢;omega
theorem AaF {α:Type} {w:α->Nat} {B:Nat}:∀{xs:List α},(∀x∈xs,w x<=B)->AG w xs<=xs.length * B
 | [],_=>by simp [AG]
 | x::xs,h=>by
  have ih:=AaF (xs:=xs) λy hy=>h y (by simp [hy])
  have:=h x Z;simp only [AG,AkQ,AmC];omega
theorem Aip {c:List Prt} (h:AH c=true):Nf c<=480:=by
 have:=De h;have:=this.len;have:=(De h).put;rw [AcK];omega
theorem AgC {cs:List (List Prt)} (h:∀c∈cs,AH c=true) (hn:cs.length<=1000):Qe cs<=1000000:=by
 have:=AaF (w:=Nf) (B:=480) λc hc=>Aip (h c hc)
 unfold Qe;omega
theorem Aih {l:List Rn} {n m:Int} (h:AO l n m=true):Yt l<=120:=by
 obtain ⟨h1,_,h6⟩:=goodRuns_iff.1 h;have:=Nt h6.pos;rw [h6.sum]at this;unfold Yt;omega
theorem GH.w {f:Int} {t:List UInt8} {r:List Rn} {cs:List (List Prt)} (g:GH f t r cs):Vy (f,t,r,cs)<=2000000:=by
 have:=g.ht;have:=g.hn;have:=g.hf;have h1:=AgC (Tx g.hc) O;have h2:=Aih g.hr;unfold Vy;dsimp only;omega
end Go.V.G
set_option maxRecDepth 100000
namespace Go.V.G
open Go.V
abbrev EL (a:List Prt) (cs:List (List Prt)):List Prt:=cs.foldl (λa c=>AN a c) a
theorem Ab4 {a:List Prt} {cs:List (List Prt)} {i:Nat} (h:i < cs.length):EL a (cs.take (i+1))=AN (EL a (cs.take i)) cs[i]:=by
 unfold EL;rw [Ak0 h,Ami];rfl
theorem Afg {a:List Prt} {cs:List (List Prt)} (ha:AH a=true) (hc:chn (tgt a) cs=true) {i:Nat} (hi:i < cs.length) :
  AH (EL a (cs.take i))=true/\AH cs[i]=true/\tgt (EL a (cs.take i))=src cs[i]:=by
 obtain ⟨k1,k2,k3⟩:=Yq hc hi;obtain ⟨r1,r2,r3⟩:=Mn ha (D6 hc i).1;exact⟨r1,k1,by rw [r3,k2]⟩
theorem ZL {a:List Prt} {cs:List (List Prt)} (hn:cs.length<=1099511627776) (ha:AH a=true) (hc:chn (tgt a) cs=true):Ab F6 (a,cs,(cs.length:Int),0)=some (EL a cs):=by
 have:=Am F6 (λi=>(EL a (cs.take i),cs,(cs.length:Int),((i:Nat):Int))) cs.length (EL a cs) (by
  intro i hi;have hlt:(i:Int) < (cs.length:Int):=O
  obtain ⟨k1,k2,k3⟩:=Afg ha hc hi;unfold F6 gX wI;simp only [hlt,decide_true,Ak4,show(0:Int)<=(i:Int) from by omega,AkE,AkD hi,AkB,XD k1 k2 k3,Aw hn hi,Ab4 hi]) (by simp [F6,gX,wI])
 simpa using this
theorem V8 {c:List Prt} {cs:List (List Prt)} (hn:cs.length<=1000000) (ha:AH c=true) (hc:chn (tgt c) cs=true):KD (c::cs)=some (EL c cs):=by
 obtain ⟨r1,_⟩:=Mn ha hc;have hr:Aa (List.length ([]:List Prt)+List.length (EL c cs)) 32=true:=Af6 (by have:=(De r1).len;simpa using Ale this O) O;have hl:=ZL O ha hc;unfold KD cK gX sX;have e1:Int.toNat (((c::cs).length:Nat):Int) - Int.toNat 1=cs.length:=by simp
 have e2:(List.drop (Int.toNat 1) (c::cs)).take cs.length=cs:=by simp
 rw [e1,e2];exact Ok.eq (Ok.yes Z (Ok.bind_eq (r:=c) Z (Ok.yes Z (Ok.yes Aky (Ok.yes Z (Ok.yes Z (Ok.bind_eq hl (Ok.yes hr (Ok.mk rfl)))))))))
section
variable {f:Int} {t:List UInt8} {r:List Rn} {cs:List (List Prt)}
def seg (cs:List (List Prt)) (a b:Int):List (List Prt):=(cs.drop a.toNat).take (b.toNat - a.toNat)
def KM (t:List UInt8) (cs:List (List Prt)) (a:Int):Int:=Eg (t.length:Int) (cs.take a.toNat)
def B0 (f:Int) (t:List UInt8) (cs:List (List Prt)) (a b:Int):List Prt:=btw (KM t cs (a - f)) (seg cs (a - f) (b - f))
theorem QJ (g:GH f t r cs) (a b:Int):chn (KM t cs a) (seg cs a b)=true:=(D6 (D6 g.hc a.toNat).2 _).1
theorem Aau (g:GH f t r cs) {a b:Int} (h0:0<=a) (h1:a<=b):Eg (KM t cs a) (seg cs a b)=KM t cs b:=by
 unfold KM seg;rw [<- MM,<- List.take_add]
 congr 2;omega
theorem Yf (g:GH f t r cs) (a:Int):0<=KM t cs a/\KM t cs a<=120:=Uo (D6 g.hc _).1 O g.ht
theorem IF (g:GH f t r cs) {a b:Int} (h0:f<=a) (h1:a<=b):AH (B0 f t cs a b)=true/\src (B0 f t cs a b)=KM t cs (a - f)/\tgt (B0 f t cs a b)=KM t cs (b - f):=by
 obtain ⟨k1,k2⟩:=Yf g (a - f);obtain ⟨r1,r2,r3⟩:=YA (QJ g (a - f) (b - f)) k1 k2;exact⟨r1,r2,by rw [B0,r3,Aau g O O]⟩
theorem Ad5 (n:Int):R6 n=some (idc n):=by
 unfold R6 idc;by_cases h:n=0 <;> simp [h]
theorem YD (g:GH f t r cs) {a b:Int} (h0:f<=a) (h1:a<=b) (h2:b<=f+cs.length):EQ f t r cs a b=some (B0 f t cs a b):=by
 have:=g.hf;have:=g.hn;have w1:IntKind.wrap .i64 (a - f)=a - f:=w64 O O;have w2:IntKind.wrap .i64 (b - f)=b - f:=w64 O O;unfold EQ sX wI;by_cases hab:a=b
 .subst hab;rw [AkH Z,Va g h0 h2,AkB,(Aha g _).1,Ad5,AkB];have e:seg cs (a - f) (a - f)=[]:=by simp [seg]
  rw [B0,e];rfl
 .have hlt:(a - f).toNat < cs.length:=O
  obtain ⟨c,ds,hds⟩:∃c ds,seg cs (a - f) (b - f)=c::ds:=by
   have:(seg cs (a - f) (b - f)).length≠0:=by unfold seg;rw [AkL,Ak5];omega
   cases hsg:seg cs (a - f) (b - f)with
   | nil=>rw [hsg]at this;exact absurd rfl this
   | cons c ds=>exact⟨c,ds,rfl⟩
  have hch:=QJ g (a - f) (b - f);have hb:B0 f t cs a b=EL c ds:=by unfold B0;rw [hds]at hch ⊢;exact RI hch
  have hln:ds.length<=1000000:=by
   have h9:(seg cs (a - f) (b - f)).length<=cs.length:=by unfold seg;rw [AkL,Ak5];omega
   rw [hds,AkQ]at h9;omega
  rw [hds]at hch;obtain ⟨k1,k2,k3⟩:=FW hch;have hc:=V8 hln k1 k3;rw [AkG (by simpa using hab),w1,w2,hb];rw [show(List.drop (a - f).toNat cs).take ((b - f).toNat - (a - f).toNat)=c::ds from hds,hc];simp only [AkB,AlO,decide_true,Ak4,show(0:Int)<=a - f from by omega,(O:a - f<=b - f),(O:b - f<=(cs.length:Int))]
end
end Go.V.G
set_option maxRecDepth 100000
namespace Go.V.G
open Go.V
def Byt (l:List Int):Prop:=∀x∈l,0<=x/\x<=255
theorem Byt.append {a b:List Int} (h:Byt a) (k:Byt b):Byt (a++b):=λx hx=>(AkK.1 hx).elim (h x) (k x)
theorem Zb (s:List UInt8):Byt (Ay s):=λx hx=>by
 obtain ⟨b,_,rfl⟩:=AkY.1 hx;have:=b.toNat_lt;omega
def RA (h x:Int):Int:=IntKind.wrap .u32 ((IntKind.wrap .u32 (((BitVec.ofInt (IntKind.bits .u32) h ^^^ BitVec.ofInt (IntKind.bits .u32) (IntKind.wrap .u32 x)).toNat:Int))) * 16777619)
theorem Ahq (h x:Int):0<=RA h x/\RA h x < 4294967296:=by unfold RA;rw [IntKind.wrap_u32];omega
theorem Ahh {h x:Int} (h0:0<=h) (h1:h < 4294967296) (x0:0<=x) (x1:x<=255) :
  Int.tmod (IntKind.wrap .u64 ((IntKind.wrap .u64 (((BitVec.ofInt (IntKind.bits .u64) h ^^^ BitVec.ofInt (IntKind.bits .u64) (IntKind.wrap .u64 x)).toNat:Int))) * 16777619)) 4294967296=RA h x:=by
 unfold RA;obtain ⟨a,rfl⟩:=Ak6 h0;obtain ⟨b,rfl⟩:=Ak6 x0;have ha:a < 4294967296:=O
 have hb:b < 4294967296:=O
 have hx:=Nat.xor_lt_two_pow (n:=32) (O:a < 2 ^ 32) (O:b < 2 ^ 32);rw [YK (n:=(b:Int)) O O,IntKind.wrap_u32 (b:Int),show(b:Int) % 4294967296=(b:Int) by omega];have e64:((BitVec.ofInt (IntKind.bits .u64) (a:Int) ^^^ BitVec.ofInt (IntKind.bits .u64) (b:Int)).toNat)=a ^^^ b:=by
  rw [BitVec.toNat_xor,BitVec.ofInt_natCast,BitVec.ofInt_natCast,BitVec.toNat_ofNat,BitVec.toNat_ofNat,show IntKind.bits .u64=64 from rfl,AmN O,AmN O]
 have e32:((BitVec.ofInt (IntKind.bits .u32) (a:Int) ^^^ BitVec.ofInt (IntKind.bits .u32) (b:Int)).toNat)=a ^^^ b:=by
  rw [BitVec.toNat_xor,BitVec.ofInt_natCast,BitVec.ofInt_natCast,BitVec.toNat_ofNat,BitVec.toNat_ofNat,show IntKind.bits .u32=32 from rfl,AmN O,AmN O]
 rw [e64,e32];generalize a ^^^ b=m at hx;rw [YK (n:=(m:Int)) O O,IntKind.wrap_u32 (m:Int),show(m:Int) % 4294967296=(m:Int) by omega,YK O O,IntKind.wrap_u32,Amc O]
def dig (h:Int) (b:List Int):Int:=b.foldl RA h
theorem WW {b:List Int} {h:Int} {i:Nat} (hi:i < b.length):dig h (b.take (i+1))=RA (dig h (b.take i)) b[i]:=by
 unfold dig;rw [Ak0 hi,Ami];rfl
theorem XE:∀(b:List Int) {h:Int},0<=h/\h < 4294967296->0<=dig h b/\dig h b < 4294967296
 | [],_,h=>h
 | x::b,h,_=>XE b (Ahq h x)
theorem Q1 {b:List Int} (hl:b.length<=1099511627776) (h:Int):K8 h b=some (dig h b):=by
 unfold K8;have:=Am HG (λi=>(dig h (b.take i),b,(b.length:Int),((i:Nat):Int))) b.length (dig h b) (by
  intro i hi;have hlt:(i:Int) < (b.length:Int):=O
  unfold HG gX wI;simp only [hlt,decide_true,Ak4,show(0:Int)<=(i:Int) from by omega,AkE,AkD hi,AkB,Aw hl hi,WW hi];rfl) (by simp [HG,gX,wI])
 have e:Ab HG (h,b,(b.length:Int),0)=some (dig h b):=by simpa [dig] using this
 rw [e];rfl
theorem OS {b:List Int} (hl:b.length<=1099511627776):II b=some (dig 2166136261 b):=by
 unfold II;rw [Q1 hl];rfl
theorem OK {b:List Int} (hl:b.length<=1099511627776) (hb:Byt b):I7 b=some (dig 2166136261 b):=by
 unfold I7;have:=Am F4 (λi=>(dig 2166136261 (b.take i),b,(b.length:Int),((i:Nat):Int))) b.length (dig 2166136261 b) (by
  intro i hi;have hlt:(i:Int) < (b.length:Int):=O
  have hd:=XE (b.take i) (h:=2166136261) O;have hx:=hb _ (Ak1 hi);unfold F4 cK gX wI;simp only [hlt,decide_true,Ak4,show(0:Int)<=(i:Int) from by omega,AkE,AkD hi,AkB,show decide (¬ (4294967296:Int)=0)=true from rfl,Aw hl hi,WW hi,Ahh hd.1 hd.2 hx.1 hx.2]) (by simp [F4,cK,gX,wI])
 have e:Ab F4 (2166136261,b,(b.length:Int),0)=some (dig 2166136261 b):=by simpa [dig] using this
 have hd:=XE b (h:=2166136261) O;rw [e,AkB,IntKind.wrap_u32]
 congr 1;omega
def Ht (d:Int):List Int:=[IntKind.wrap .u8 (Int.fdiv d (2 ^ (min (Int.toNat 24) (IntKind.bits .u32)))),IntKind.wrap .u8 (Int.fdiv d (2 ^ (min (Int.toNat 16) (IntKind.bits .u32)))),IntKind.wrap .u8 (Int.fdiv d (2 ^ (min (Int.toNat 8) (IntKind.bits .u32)))),IntKind.wrap .u8 d]
theorem Vr (d:Int):Su d=some (Ht d):=rfl
theorem Adc {c:List Prt} (h:AH c=true):(enc c).length<=720:=by
 have:=(De h).len;have:=(De h).put;rw [Un];omega
theorem Aa5 {c:List Prt} (hg:AH c=true):Byt (enc c):=λx hx=>by
 obtain ⟨p,hp,h⟩:=AmG.1 hx;obtain ⟨q1,q2⟩:=Iz hg hp;have hk:=AeA p;simp only [Fu,AkK,AkU,AmO,or_false]at h;rcases h with(rfl | rfl) | h
 .omega
 .omega
 .exact Zb _ x h
section
variable {f:Int} {t:List UInt8} {r:List Rn} {cs:List (List Prt)}
end
end Go.V.G
set_option maxRecDepth 100000
namespace Go.V.G
open Go.V
def MT (d:List Int):List Int:=d++List.replicate (124 - d.length) 0
theorem Jo {d:List Int} (h:d.length<=124):(MT d).length=124:=by unfold MT;simp;omega
theorem VK {d:List Int} (h:d.length<=124):Ly d 124=some (MT d):=by
 unfold Ly MT cK cZ wI;rw [w64 O O,iy O,(O:Int.toNat ((124:Int) - (d.length:Int))=124 - d.length),AkH (by simp only [Aa,decide_eq_true_eq,AlN];omega)]
theorem Us {d:List Int} (h:U8s d):U8s (MT d):=λv hv=>by
 unfold MT at hv;rcases AkK.1 hv with hv | hv
 .exact h v hv
 .rw [(List.mem_replicate.1 hv).2];omega
theorem AaL (d:Int):U8s (Ht d):=λv hv=>by
 simp only [Ht,AkU,AmO,or_false]at hv;rcases hv with rfl | rfl | rfl | rfl <;> exact TM _
def sgn (d:List Int):List Int:=d++Ht (dig 2166136261 d)
theorem AgM (d:List Int):(sgn d).length=d.length+4:=by unfold sgn Ht;simp
def Rx (f hd ev r t:Int):List Int:=[83,84,82,49,f,hd,ev,0,0,r,0,t]
def N5 (f hd ev r t:Int):List Int:=sgn (MT (Rx f hd ev r t))
structure SupOk (f hd ev:Int) (r t:Nat):Prop where
 f:0<=f/\f<=hd
 h:hd<=60
 e:1<=ev/\ev<=30
 r:33<=r/\r<=159
 t:33<=t/\t<=159
theorem Afs (f hd ev r t:Int):(N5 f hd ev r t).length=128:=by unfold N5;rw [AgM,Jo (by simp [Rx])]
theorem Aar {f hd ev:Int} {r t:Nat} (h:SupOk f hd ev r t):U8s (Rx f hd ev r t):=λv hv=>by
 have h1:=h.f;have h2:=h.h;have h3:=h.e;have h4:=h.r;have h5:=h.t;simp only [Rx,AkU,AmO,or_false]at hv;rcases hv with rfl | rfl | rfl | rfl | rfl | rfl | rfl | rfl | rfl | rfl | rfl | rfl <;> omega
theorem Ag3 {f hd ev:Int} {r t:Nat} (h:SupOk f hd ev r t):U8s (N5 f hd ev r t):=λv hv=>by
 unfold N5 sgn at hv;rcases AkK.1 hv with hv | hv
 .exact Us (Aar h) v hv
 .exact AaL _ v hv
theorem AbA {f hd ev:Int} {r t:Nat} (h:SupOk f hd ev r t):EU f hd ev (r:Int) (t:Int)=some (N5 f hd ev r t,true):=by
 have h1:=h.f;have h2:=h.h;have h3:=h.e;have h4:=h.r;have h5:=h.t;unfold EU HH Ka cK;rw [iy h1.1,iy h1.2,decide_eq_true h2,AkB,AkB,AkG Z,AI,decide_eq_true h3,AkB,AkG Z,AI,decide_eq_true O,AkB,AkB,AkG Z,
  AI,decide_eq_true O,AkB,AkB,AkB]
 dsimp only;rw [AkG Z,AdE O,AdE O,AkB,AkB,wub (r:=f) O O,wub (r:=hd) O O,wub (r:=ev) O O,
  AkH (by simp [Aa]),AkH (by simp [Aa]),VK Z,AkB,OS (by rw [Jo Z];omega),AkB,Vr,AkB,AkH (by
   simp only [Aa,decide_eq_true_eq];rw [Jo Z];simp [Ht])]
 rfl
theorem AbY {f hd ev:Int} {r t:Nat} (h:SupOk f hd ev r t):KH f hd ev (r:Int) (t:Int)=some (N5 f hd ev r t):=by
 have h1:=h.f;have h2:=h.h;have h3:=h.e;have h4:=h.r;have h5:=h.t;unfold KH cK cZ wI wB;simp only [wub (r:=f) O O,wub (r:=hd) O O,wub (r:=ev) O O,wub (r:=(r:Int)) O O,wub (r:=(t:Int)) O O,w8d (m:=r) O,w8d (m:=t) O];have e:IntKind.wrap .i64 (124 - (List.length [83,84,82,49,f,hd,ev,0,0,(r:Int),0,(t:Int)]:Int))=112:=by
  simp only [AkQ,Alc];rw [w64 O O];rfl
 rw [e,iy Akz,iy Akz,iy O,AkH (by simp [Aa])];have ep:[83,84,82,49,f,hd,ev,0,0,(r:Int),0,(t:Int)]++List.replicate (Int.toNat 112) 0=MT (Rx f hd ev r t):=rfl;rw [ep,OK (by rw [Jo (by simp [Rx])];omega) (Us (Aar h)),AkB,iy O,iy O,iy O,AkH (by
  simp only [Aa,decide_eq_true_eq];rw [Jo (by simp [Rx])];simp)]
 rfl
end Go.V.G
set_option maxRecDepth 100000
namespace Go.V.G
open Go.V
abbrev Wr:=Int×List Int
section
variable {b:Bls} {x y z d:List Int}
structure GrOk (n:Nat) (g:List Wr):Prop where
 len:g.length<=2100
 at_:∀w∈g,0<=w.1/\w.1 < (n:Int)
 hd:∀w∈g,w.2.length=128
 u8:∀w∈g,U8s w.2
end
end Go.V.G
set_option maxRecDepth 100000
namespace Go.V.G
open Go.V
def hdA (g:List Wr) (k:Nat):List Int:=[76,79,71,49,(g.length:Int)]++(g.take k).flatMap λw=>Eh w.1
theorem Nh (g:List Wr) (k:Nat):(hdA g k).length<=5+2 * k:=by
 unfold hdA;have:((g.take k).flatMap λw=>Eh w.1).length=2 * (g.take k).length:=by
  generalize g.take k=l
  induction l with
  | nil=>rfl
  | cons a l ih=>rw [AlY,AkJ,ih];simp [Eh];omega
 rw [AkJ,this,AkL];simp only [AkQ,Alc];omega
def dat (g:List Wr) (k:Nat):List Int:=(g.take k).flatMap (·.2)
theorem Ry {g:List Wr} {k:Nat} {w:Wr} (h:g[k]?=some w):dat g (k+1)=dat g k++w.2:=by
 unfold dat;rw [CE h,AlW];simp
theorem X4 {g:List Wr} {k:Nat} {w:Wr} (h:g[k]?=some w):hdA g (k+1)=hdA g k++Eh w.1:=by
 unfold hdA;rw [CE h,AlW,AkN];simp
def hdH (g:List Wr):List Int:=MT (hdA g g.length)
def MB (g:List Wr):List Int:=hdH g++Ht (dig (dig 2166136261 (hdH g)) (dat g g.length))
theorem Aiv (n:Int):U8s (Eh n):=λv hv=>by
 simp only [Eh,AkU,AmO,or_false]at hv;rcases hv with rfl | rfl <;> exact TM _
theorem Aeo {g:List Wr} (h:g.length<=30):U8s (hdH g):=Us λv hv=>by
 unfold hdA at hv;rcases AkK.1 hv with hv | hv
 .simp only [AkU,AmO,or_false]at hv;rcases hv with rfl | rfl | rfl | rfl | rfl <;> omega
 .obtain ⟨w,_,hw⟩:=AmG.1 hv;exact Aiv _ v hw
theorem Jd {g:List Wr} (h:g.length<=30):(hdH g).length=124:=Jo (by have:=Nh g g.length;omega)
theorem WO {g:List Wr} (h:g.length<=30):(MB g).length=128:=by unfold MB Ht;rw [AkJ,Jd h];rfl
theorem Aho {g:List Wr} (h:g.length<=30):U8s (MB g):=λv hv=>by
 unfold MB at hv;rcases AkK.1 hv with hv | hv
 .exact Aeo h v hv
 .exact AaL _ v hv
theorem AaK (h:Int) (a b:List Int):dig (dig h a) b=dig h (a++b):=by unfold dig;rw [Ami]
def nul:Wr:=(0,[])
def gw (g:List Wr) (k:Nat):Wr:=g[k]?.getD nul
theorem D1 {g:List Wr} {k:Nat} (h:k < g.length):g[k]?=some (gw g k):=by unfold gw;rw [AkD h];rfl
theorem Ud {n:Nat} {g:List Wr} (h:GrOk n g):∀k,k<=g.length->(dat g k).length=128 * k
 | 0,_=>rfl
 | k+1,hk=>by
  have hg:=D1 (g:=g) (k:=k) O;have:=h.hd _ (All hg);rw [Ry hg,AkJ,Ud h k O,this];omega
theorem Ah7 {n:Nat} {g:List Wr} (h:GrOk n g) (k:Nat):U8s (dat g k):=λv hv=>by
 obtain ⟨w,hw,hv⟩:=AmG.1 hv;exact h.u8 w (Ame hw) v hv
section
variable {n:Nat} {g:List Wr}
theorem Ae1 (hl:g.length<=30) (d:Int):Aa ((hdH g).length+(Ht d).length) 1=true:=by
 rw [Jd hl,show(Ht d).length=4 from rfl];rfl
theorem Y6 (h:GrOk n g) (hn:n<=160) (hl:g.length<=30):Oc g=some (MB g):=by
 unfold Oc cK wB;have h1:=Am Hx (λk=>(g,hdA g k,g,(g.length:Int),((k:Nat):Int))) g.length (g,hdA g g.length) (λk hk=>by
   have hg:=D1 hk;have ha:=h.at_ _ (All hg);have hal:=Nh g k;have hr:Aa ((hdA g k).length+(Eh (gw g k).1).length) 1=true:=by
    rw [show(Eh (gw g k).1).length=2 from rfl];simp only [Aa,decide_eq_true_eq];omega
   unfold Hx cK gX wI;dsimp only;rw [iy O,iy O,AkE,hg,AkB,AgS O,AkB,AkH hr,Ak O,X4 hg]) (by
   unfold Hx cK gX wI;dsimp only;rw [ino O])
 have e0:hdA g 0=[76,79,71,49,IntKind.wrap .u8 (g.length:Int)]:=by unfold hdA;rw [wub O O];rfl
 rw [<- e0,show Ab Hx (g,hdA g 0,g,(g.length:Int),0)=_ from h1,AkB];dsimp only;rw [VK (by have:=Nh g g.length;omega),AkB,show MT (hdA g g.length)=hdH g from rfl,OS (by rw [Jd hl];omega),AkB];have h2:=Am HO (λk=>(hdH g,dig (dig 2166136261 (hdH g)) (dat g k),g,(g.length:Int),((k:Nat):Int))) g.length (hdH g,dig (dig 2166136261 (hdH g)) (dat g g.length)) (λk hk=>by
   have hg:=D1 hk;have hd:=h.hd _ (All hg);unfold HO gX wI;dsimp only;rw [iy O,iy O,AkE,hg,AkB,Q1 O,AkB,Ak O,Ry hg,AaK]) (by
   unfold HO gX wI;dsimp only;rw [ino O])
 have e1:dig (dig 2166136261 (hdH g)) (dat g 0)=dig 2166136261 (hdH g):=by
  generalize dig 2166136261 (hdH g)=q;unfold dat;rw [AmQ];rfl
 have h3:Ab HO (hdH g,dig (dig 2166136261 (hdH g)) (dat g 0),g,(g.length:Int),0)=some (hdH g,dig (dig 2166136261 (hdH g)) (dat g g.length)):=h2;rw [e1]at h3;rw [h3,AkB];dsimp only;rw [Vr,AkB,AkH (Ae1 hl _)];rfl
theorem Y4 (h:GrOk n g) (hn:n<=160) (hl:g.length<=30):Kr g=some (MB g):=by
 have hal':=Nh g g.length;unfold Kr cK cZ wI wB;have h1:=Am F9 (λk=>(g,hdA g k,g,(g.length:Int),((k:Nat):Int))) g.length (g,hdA g g.length) (λk hk=>by
   have hg:=D1 hk;have ha:=h.at_ _ (All hg);have hal:=Nh g k;have hr:Aa ((hdA g k).length+(Eh (gw g k).1).length) 1=true:=by
    rw [show(Eh (gw g k).1).length=2 from rfl];simp only [Aa,decide_eq_true_eq];omega
   unfold F9 cK gX wI wB;dsimp only;rw [iy O,iy O,AkE,hg,AkB,iy O,Akt O,show([IntKind.wrap .u8 ((gw g k).1 / 256),IntKind.wrap .u8 (gw g k).1]:List Int)=Eh (gw g k).1 from rfl,
    AkH hr,Ak O,X4 hg]) (by
   unfold F9 cK gX wI wB;dsimp only;rw [ino O])
 have e0:hdA g 0=[76,79,71,49,IntKind.wrap .u8 (g.length:Int)]:=by unfold hdA;rw [wub O O];rfl
 rw [<- e0,show Ab F9 (g,hdA g 0,g,(g.length:Int),0)=_ from h1,AkB];dsimp only;have ew:IntKind.wrap .i64 (124 - (((hdA g g.length).length:Nat):Int))=((124 - (hdA g g.length).length:Nat):Int):=by rw [w64 O O];omega
 rw [ew,iy O,AkE,show hdA g g.length++List.replicate (124 - (hdA g g.length).length) 0=hdH g from rfl,AkH (by simp only [Aa,decide_eq_true_eq,AlN];omega),
  AkH (by simp only [Aa,decide_eq_true_eq,Alc];rw [Jd hl];omega),Ala]
 have h2:=Am F5 (λk=>(hdH g,hdH g++dat g k,g,(g.length:Int),((k:Nat):Int))) g.length (hdH g,hdH g++dat g g.length) (λk hk=>by
   have hg:=D1 hk;have hd:=h.hd _ (All hg);have hdl:=Ud h k O;have hhl:=Jd hl;unfold F5 cK gX wI;dsimp only;rw [iy O,iy O,AkE,hg,AkB,AkH (by simp only [Aa,decide_eq_true_eq,AkJ];omega),Ak O,Ry hg,AkN]) (by
   unfold F5 cK gX wI;dsimp only;rw [ino O])
 have e1:hdH g++dat g 0=hdH g:=by unfold dat;simp
 rw [e1]at h2;have hdl:=Ud h g.length (Ak9 _);have hhl:=Jd hl;rw [show Ab F5 (hdH g,hdH g,g,(g.length:Int),0)=_ from h2,AkB];dsimp only;rw [OK (by rw [AkJ];omega) (λv hv=>by
   rcases AkK.1 hv with hv | hv
   .exact Aeo hl v hv
   .exact Ah7 h _ v hv),AkB,iy O,iy O,iy O,AkH (by simp only [Aa,decide_eq_true_eq];rw [Jd hl];simp),<- AaK]
 rfl
def pln (g:List Wr) (k:Nat):List Wr:=(List.range k).map λi=>(((3+i:Nat):Int),(gw g i).2)
def Wh (g:List Wr):List Wr:=(pln g g.length++[(2,MB g)])++(g++[(2,CG)])
theorem w3 {k:Nat} (h:k<=1048576):IntKind.wrap .i64 (3+(k:Int))=((3+k:Nat):Int):=by rw [w64 O O];omega
theorem XP (h:GrOk n g) (hn:40<=n) (hl:g.length<=30):∀w∈Wh g,(0<=w.1/\w.1 < (n:Int))/\w.2.length=128:=by
 intro w hw;unfold Wh pln at hw;simp only [AkK,AkY,Amd,AkM]at hw;rcases hw with(⟨i,hi,rfl⟩ | rfl) | hw | rfl
 .have:=h.hd _ (All (D1 hi));exact⟨AkA,this⟩
 .exact⟨AkA,WO hl⟩
 .exact⟨h.at_ w hw,h.hd w hw⟩
 .exact⟨AkA,by simp [CG]⟩
end
def Cv:List Wr->Bls->Int->Int->Bool×Dsk
 | [],bl,wr,lf=>(true,bl,wr,true,lf)
 | w::l,bl,wr,lf=>if(BA w.1 w.2 bl wr true lf).1=true then Cv l (BA w.1 w.2 bl wr true lf).2.1 (BA w.1 w.2 bl wr true lf).2.2.1 (BA w.1 w.2 bl wr true lf).2.2.2.2 else(false,(BA w.1 w.2 bl wr true lf).2)
theorem Nd {a:Int} {d:List Int} {bl:Bls} {wr lf:Int} (h:(BA a d bl wr true lf).1=true):(BA a d bl wr true lf).2.2.2.1=true/\(BA a d bl wr true lf).2.1=bl.set a.toNat d:=by
 unfold BA at h ⊢;rw [AkG Z]at h ⊢;split at h
 .cases h
 .rename_i hl;rw [AkG hl];exact⟨rfl,rfl⟩
theorem AaY {a:Int} {d:List Int} {bl:Bls} {wr lf:Int} (h:(BA a d bl wr true lf).1=false):(BA a d bl wr true lf).2.1=bl:=by
 unfold BA at h ⊢;rw [AkG Z]at h ⊢;split at h
 .rename_i hl;rw [AkH hl]
 .cases h
theorem TY:∀(l:List Wr) (bl:Bls) (wr lf:Int),(∀w∈l,w.2.length=128)->(∀c∈bl,c.length=128)->(Cv l bl wr lf).2.1.length=bl.length/\∀c∈(Cv l bl wr lf).2.1,c.length=128
 | [],bl,wr,lf,_,hk=>⟨rfl,hk⟩
 | w::l,bl,wr,lf,hl,hk=>by
  unfold Cv;split
  .rename_i hp;obtain ⟨_,e⟩:=Nd hp;rw [e];obtain ⟨h1,h2⟩:=TY l (bl.set w.1.toNat w.2) (BA w.1 w.2 bl wr true lf).2.2.1 (BA w.1 w.2 bl wr true lf).2.2.2.2 (λv hv=>hl v (by simp [hv])) (λc hc=>by
    rcases AlC hc with hc | rfl
    .exact hk c hc
    .exact hl w Z)
   exact⟨by rw [h1,AlB],h2⟩
  .rename_i hp;have:=AaY (by simpa using hp);dsimp only;rw [this];exact⟨rfl,hk⟩
theorem Abk {α:Type} {L l:List α} {w:α} {k:Nat} (h:L.drop k=w::l):L[k]?=some w/\L.drop (k+1)=l/\k < L.length:=by
 have hk:k < L.length:=by
  rcases Nat.lt_or_ge k L.length with h' | h'
  .exact h'
  .rw [Amg h']at h;cases h
 rw [Alb hk]at h;injection h with h1 h2
 exact⟨by rw [AkD hk,h1],h2,hk⟩
theorem AcJ {L:List Wr} (hL:L.length<=1000):∀(l:List Wr) (k:Nat) (bl:Bls) (wr lf:Int),L.drop k=l->(∀w∈l,(0<=w.1/\w.1 < (bl.length:Int))/\w.2.length=128)->
  Ab Cn (L,(L.length:Int),(k:Int),bl,wr,true,lf)=some (if(Cv l bl wr lf).1=true then .inl (Cv l bl wr lf).2 else .inr (2,(Cv l bl wr lf).2))
 | [],k,bl,wr,lf,hd,_=>by
  have hk:L.length<=k:=List.drop_eq_nil_iff.1 hd;rw [Ax];unfold Cn gX wI;dsimp only;rw [ino O];rfl
 | w::l,k,bl,wr,lf,hd,hw=>by
  obtain ⟨h1,h2,h3⟩:=Abk hd;obtain ⟨⟨a0,a1⟩,a2⟩:=hw w Z;rw [Ax];have hstep:Cn (L,(L.length:Int),(k:Int),bl,wr,true,lf)=some (if(BA w.1 w.2 bl wr true lf).1=true then .inl (L,(L.length:Int),((k+1:Nat):Int),(BA w.1 w.2 bl wr true lf).2)else .inr (.inr (2,(BA w.1 w.2 bl wr true lf).2))):=by
   unfold Cn gX wI;dsimp only;rw [iy O,iy O,AkE,h1,AkB,Ae7 O a0 a1,AkB,Ak O];cases (BA w.1 w.2 bl wr true lf).1 <;> rfl
  rw [hstep];unfold Cv;by_cases hp:(BA w.1 w.2 bl wr true lf).1=true
  .rw [AkH hp,AkH hp];obtain ⟨e1,e2⟩:=Nd hp;have ih:=AcJ hL l (k+1) (BA w.1 w.2 bl wr true lf).2.1 (BA w.1 w.2 bl wr true lf).2.2.1 (BA w.1 w.2 bl wr true lf).2.2.2.2 h2 (λv hv=>by rw [e2,AlB];exact hw v (by simp [hv]));rw [<- ih];generalize BA w.1 w.2 bl wr true lf=q at e1;obtain ⟨q1,q2,q3,q4,q5⟩:=q;dsimp only at e1 ⊢;rw [e1]
  .rw [AkG hp,AkG hp,AkG Z]
theorem V6 {L:List Wr} {bl:Bls} {wr lf:Int} (hL:L.length<=1000) (hw:∀w∈L,(0<=w.1/\w.1 < (bl.length:Int))/\w.2.length=128) :
  DM L bl wr true lf=some (if(Cv L bl wr lf).1=true then 0 else 2,(Cv L bl wr lf).2):=by
 unfold DM;rw [AkG Z,show Ab Cn (L,(L.length:Int),0,bl,wr,true,lf)=_ from AcJ hL L 0 bl wr lf rfl hw,AkB];by_cases h:(Cv L bl wr lf).1=true
 .rw [AkH h,AkH h]
 .rw [AkG h,AkG h]
end Go.V.G
set_option maxRecDepth 100000
namespace Go.V.G
open Go.V
theorem Vl:∀(l:List Int) (k:Nat),k < l.length->(l.flatMap Eh)[2 * k]?=some (IntKind.wrap .u8 (gb l k / 256))/\(l.flatMap Eh)[2 * k+1]?=some (IntKind.wrap .u8 (gb l k))
 | [],k,h=>by simp at h
 | a::l,0,_=>⟨rfl,rfl⟩
 | a::l,k+1,h=>by
  have ih:=Vl l k (by simpa using h);have e:(a::l).flatMap Eh=IntKind.wrap .u8 (a / 256)::IntKind.wrap .u8 a::l.flatMap Eh:=rfl;have g:gb (a::l) (k+1)=gb l k:=rfl;rw [e,g,(O:2 * (k+1)=2 * k+1+1),AlJ,AlJ,AlJ,AlJ];exact ih
theorem UT {kind:Int} {l:List Int} (hl:l.length=32) (hv:V2 l):BU (Dv (pgb kind l))=l:=by
 have key:∀k,k < 32->num (Dv (pgb kind l)) (1+2 * k)=gb l k:=λk hk=>by
  obtain ⟨h1,h2⟩:=Vl l k O;have hf:=PW l;have e:∀j,j < 64->gb (Dv (pgb kind l)) (1+j)=((l.flatMap Eh)[j]?).getD 0:=λj hj=>by
   unfold Dv pgb gb;rw [Alw (by rw [AkJ,hf,hl];simp;omega),Alm Z];simp
  have hvv:=hv _ (All (Ai (O:k < l.length)));unfold num;rw [(O:1+2 * k+1=1+(2 * k+1)),e (2 * k) O,e (2 * k+1) O,h1,h2,Aln,Aln,IntKind.wrap_u8,IntKind.wrap_u8];omega
 unfold BU;rw [show(List.range 32).map (λk=>num (Dv (pgb kind l)) (1+2 * k))=(List.range 32).map (gb l) from AlD λk hk=>key k (Amd.1 hk)];exact AcC hl
theorem VE (kind:Int) (l:List Int):gb (Dv (pgb kind l)) 0=kind:=rfl
theorem Vo {kind:Int} {l:List Int} (hl:l.length=32):rz (Dv (pgb kind l)) 65=true:=AhQ 65 (AaG kind hl).symm
structure Lf (b:Bls) (x y top:List Int) (root:Int) (k:Nat):Prop where
 lv:liv b x y (gb top k)=true
 kd:gb (blk b (gb top k).toNat) 0=81
 rz:rz (blk b (gb top k).toNat) 65=true
 nz:nz (BU (blk b (gb top k).toNat))=true
 vs:MA b x (BU (blk b (gb top k).toNat))=false
 un:∀j,j < k->gb top j≠gb top k
 rt:root≠0/\liv b x y root=true/\gb (blk b root.toNat) 0=80
theorem K7 {b:Bls} {x y top:List Int} {root:Int} (h:tre b x y root=some top) {k:Nat} (hk:k < 32) (h0:gb top k≠0):Lf b x y top root k:=by
 have htl:=In h;unfold tre at h;split at h
 .obtain rfl:=AlR h;exact absurd (Ac1 k) h0
 .rename_i hr;split at h
  .rename_i hc;obtain rfl:=AlR h;simp only [AkI]at hc;obtain ⟨c1,c2,c3⟩:=hc;have:=all_range.1 c3 k hk;unfold stG at this;rw [decide_eq_false h0,AlT]at this;simp only [AkI,AkP]at this;obtain ⟨p1,p2,p3,p4⟩:=this;unfold pgB at p1 c1;simp only [AkI,decide_eq_true_eq]at p1 c1;refine⟨p1.1,p1.2.1,p1.2.2,p2,p4,λj hj he=>?_,hr,c1.1,c1.2.1⟩;rw [AlK]at p3;have hm:gb (I3 b root) j∈(I3 b root).take k:=by
    have:((I3 b root).take k)[j]?=some (gb (I3 b root) j):=by rw [AkW hj,Ai O]
    exact All this
   have:=p3 _ hm;rw [he]at this;simp at this
  .cases h
theorem Yp {b:Bls} {x y top:List Int} {root:Int} (h:tre b x y root=some top) (h0:root≠0):liv b x y root=true/\gb (blk b root.toNat) 0=80:=by
 unfold tre at h;rw [AkG h0]at h;split at h
 .rename_i hc;simp only [AkI]at hc;have:=hc.1;unfold pgB at this;simp only [AkI,decide_eq_true_eq]at this;exact⟨this.1,this.2.1⟩
 .cases h
theorem Nu (top:List Int) (l:List Kv):∀k v,v∈MH top l k->∃j,j < k/\v=gb top j/\gb top j≠0/\oth l j=true
 | 0,v,h=>by cases h
 | k+1,v,h=>by
  simp only [MH]at h;split at h
  .rename_i ho;unfold goS at h;split at h
   .obtain ⟨j,h1,h2⟩:=Nu top l k v h;exact⟨j,O,h2⟩
   .rename_i hn;rcases AkK.1 h with h | h
    .obtain ⟨j,h1,h2⟩:=Nu top l k v h;exact⟨j,O,h2⟩
    .exact⟨k,O,AkM.1 h,hn,ho⟩
  .obtain ⟨j,h1,h2⟩:=Nu top l k v h;exact⟨j,O,h2⟩
theorem Xd {b:Bls} {x y:List Int} {m:Nat} (h1:33<=m) (h2:m < b.length) (h3:bit x m=true) (h4:(m:Int)∉y):liv b x y (m:Int)=true:=by
 unfold liv;rw [decide_eq_true O,AkE,h3,decide_eq_false h4];rfl
theorem Ai3 {b b':Bls} {x x':List Int} {v:Int} (hb:b'.length=b.length) (hl:b.length<=160) (hx:∀i,i < 160->bit x i=true->bit x' i=true) (h:isb b x v=true):isb b' x' v=true:=by
 unfold isb at h ⊢;simp only [AkI,decide_eq_true_eq]at h ⊢;rw [hb];exact⟨h.1,hx _ O h.2⟩
theorem Ags {b:Bls} {x y:List Int} {v:Int} (h:liv b x y v=true):isb b x v=true:=by
 unfold liv at h;unfold isb;simp only [AkI]at h ⊢;exact⟨h.1,h.2.1⟩
theorem bad_no {b:Bls} {x l:List Int}:MA b x l=false↔∀v∈l,v=0\/isb b x v=true:=by
 unfold MA;rw [AlK];constructor
 .intro h v hv;have:=h v hv;by_cases h0:v=0
  .exact .inl h0
  .right;rw [decide_eq_true h0,AkS]at this;simpa using this
 .intro h v hv;rcases h v hv with h0 | h0
  .rw [decide_eq_false (not_not_intro h0)];simp
  .rw [h0];simp
theorem Ag5 {b:Bls} {x y top:List Int} {l:List Kv} {root:Int} (ht:tre b x y root=some top) (hl:∀s∈l,s.2=0\/liv b x y s.2=true) {k:Nat} (hk:k < 32):∀v∈av b top l k,v=0\/isb b x v=true:=by
 have h0:∀v∈lfv b (gb top k),v=0\/isb b x v=true:=by
  unfold lfv;split
  .intro v hv;exact .inl (Amk hv)
  .rename_i hn;exact bad_no.1 (K7 ht hk hn).vs
 unfold av;have key:∀(l:List Kv) (w:List Int),(∀v∈w,v=0\/isb b x v=true)->(∀s∈l,s.2=0\/liv b x y s.2=true)->∀v∈l.foldl (upd k) w,v=0\/isb b x v=true:=by
  intro l
  induction l with
  | nil=>intro w h _;exact h
  | cons s l ih=>
   intro w h hs;rw [Al9];refine ih _ ?_ λs' h'=>hs s' (by simp [h'])
   unfold upd;split
   .intro v hv;rcases AlC hv with hv | rfl
    .exact h v hv
    .exact(hs s Z).imp id Ags
   .exact h
 exact key l _ h0 hl
structure Tn (b:Bls) (x y z top:List Int) (l:List Kv) (root at_:Int) (b':Bls) (x' y' z':List Int):Prop where
 gs:GS b' x' y' z'
 bu:∀c∈b',U8s c
 bl:b'.length=b.length
 ux:U8s x'
 tr:∃nx,tre b' x' y' at_=some nx/\∀k,k < 32->lfv b' (gb nx k)=av b top l k
 ot:∀i,i < 160->bit x i=true->blk b' i=blk b i
theorem Sk.tn {b b':Bls} {x y z top x' y' z':List Int} {l:List Kv} {root at_:Int} (g:GS b x y z) (hu:∀c∈b,U8s c) (ht:tre b x y root=some top) (hs:AbZ b x y l=true) (s:Sk b x y z top l root at_ b' x' y' z'):Tn b x y z top l root at_ b' x' y' z':=by
 obtain ⟨hl64,hk,hlv,_⟩:=AgP hs;have hb:=g.hb;have htl:=In ht;have htv:=AiG hu ht;obtain ⟨hyr,hyl⟩:=g.ylen;obtain ⟨yr',yl',ym'⟩:=s.yl hyr O;have hw:=s.wk;obtain ⟨nx,b1,x1,z1,q1,tv,hq1,_,hnn,hend⟩:=s.ex;have hnl:=tv.nl;have hnv:=Ajn hb.2 htv htl tv;have hyb:∀v∈y,∃m:Nat,v=(m:Int)/\(33<=m/\m < b.length)/\bit x m=true:=λv hv=>by
  obtain ⟨i,hi,rfl⟩:=Alh hv;have:=(GB g.hy).2 i hi;exact⟨(y[i]).toNat,O,O,this.2.2⟩
 have hgone:∀v∈y',∃m:Nat,v=(m:Int)/\(33<=m/\m < b.length)/\bit x m=true:=λv hv=>by
  rcases (ym' v).1 hv with hv | hv
  .exact hyb v hv
  .rcases AkK.1 hv with hv | hv
   .obtain ⟨j,hj,rfl,hn,_⟩:=Nu _ _ _ _ hv;obtain ⟨m,e,h1,h2,h3,_⟩:=Cp (K7 ht hj hn).lv;exact⟨m,e,⟨h1,h2⟩,h3⟩
   .unfold rtL at hv;split at hv
    .cases hv
    .rename_i hr;rw [AkM]at hv;subst hv;obtain ⟨m,e,h1,h2,h3,_⟩:=Cp (Yp ht hr).1;exact⟨m,e,⟨h1,h2⟩,h3⟩
 have hup:(∀i,i < 160->bit x1 i=true->bit x' i=true)/\(∀i,i < 160->bit x1 i=true->blk b' i=blk b1 i)/\(∀c∈b',U8s c)/\(∀v∈z',v∈z1\/∃m:Nat,v=(m:Int)/\(33<=m/\m < b.length)/\bit x' m=true)/\(∀i,b.length<=i->i < 160->bit x' i=bit x1 i):=by
  rcases hend with⟨_,_,rfl,rfl,rfl⟩ | ⟨_,m,_,hm,hbm,rfl,rfl,rfl,_,_⟩
  .exact⟨λi _ h=>h,λi _ _=>rfl,tv.bu,λv hv=>.inl hv,λi _ _=>rfl⟩
  .have hx1:=tv.wk.hx;have hb1:=tv.wk.hb;have hz1:=tv.wk.hz;have hbit:∀i,i < 160->bit (setB x1 m) i=(decide (i=m) || bit x1 i):=λi hi=>Qy tv.wk.hu O O
   obtain ⟨_,_,z3,z4,z5⟩:=Mu (z:=z1) O tv.wk.hr (m:Int);obtain ⟨_,_,_,_,y5⟩:=Mu (z:=pt z1 (m:Int)) O z4 (m:Int);refine⟨λi hi h=>by rw [hbit i hi,h,AmY],λi hi h=>?_,λc hc=>?_,λv hv=>?_,λi h1 h2=>by rw [hbit i h2,decide_eq_false (O:¬ i=m),AlT]⟩
   .have him:m≠i:=by rintro rfl;rw [hbm]at h;cases h
    rw [Ku him,Ku him]
   .rcases AlC hc with hc | rfl
    .rcases AlC hc with hc | rfl
     .exact tv.bu c hc
     .exact Rr
    .exact Aen O
   .have key:v∈z1\/v=(m:Int):=by
     rcases (y5 v).1 hv with hv | hv
     .exact(z5 v).1 hv
     .exact .inr hv
    rcases key with hv | rfl
    .exact .inl hv
    .exact .inr ⟨m,rfl,hm,by rw [hbit m O];simp⟩
 obtain ⟨up1,up2,up3,up4,up5⟩:=hup;have hx':∀i,i < 160->bit x i=true->bit x' i=true:=λi hi h=>up1 i hi (tv.ot i hi h).2
 have hblk:∀i,i < 160->bit x i=true->blk b' i=blk b i:=λi hi h=>by
  have:=tv.ot i hi h;rw [up2 i hi this.2];exact this.1
 have hbl:b'.length=b.length:=hw.hb;have hfree:∀m:Nat,bit x m=false->((m:Nat):Int)∉y':=λm hm hh=>by
  obtain ⟨m',e,_,h⟩:=hgone _ hh;obtain rfl:m=m':=O
  rw [hm]at h;cases h
 have hgs:GS b' x' y' z':=by
  refine⟨by rw [hbl];exact hb,hw.hx,hw.hk,λi hi=>?_,?_,?_⟩
  .rw [hbl];have hg:=g.hbits i hi;unfold bG at hg ⊢;by_cases h33:i < 33
   .have hl:=hw.hlow i h33;rw [hl,decide_eq_false (O:¬ b.length<=i)];simp
   .by_cases hin:b.length<=i
    .rw [up5 i hin hi,tv.hi i hin hi];rw [decide_eq_false h33]at hg ⊢;exact hg
    .rw [decide_eq_false h33,decide_eq_false hin];simp
  .rw [hbl];refine Nk yr' λv hv=>?_
   obtain ⟨m,rfl,hm,hbm⟩:=hgone v hv;exact⟨O,O,by rw [AkE];exact hx' m O hbm⟩
  .rw [hbl];refine Nk hw.hr λv hv=>?_
   have hnew:∀m:Nat,(33<=m/\m < b.length)->bit x' m=true->33<=((m:Nat):Int)/\((m:Nat):Int)<=(b.length:Int) - 1/\bit x' (((m:Nat):Int)).toNat=true:=λm hm h=>⟨O,O,by rw [AkE];exact h⟩
   rcases up4 v hv with hv | ⟨m,rfl,hm,h⟩
   .rcases tv.zm v hv with hv | ⟨m,rfl,hm,h⟩
    .obtain ⟨i,hi,rfl⟩:=Alh hv;have:=(GB g.hz).2 i hi;exact⟨this.1,this.2.1,hx' _ O this.2.2⟩
    .exact hnew m hm (up1 m O h)
   .exact hnew m hm h
 refine⟨hgs,up3,hbl,hw.hu,?_,hblk⟩;have hleaf:∀k,k < 32->lfv b' (gb nx k)=av b top l k:=λk hk32=>by
  cases ho:oth l k with
  | false=>
   rw [Aga ho,tv.st k hk32 (.inr ho)];unfold lfv;split
   .rfl
   .rename_i hn;have lf:=K7 ht hk32 hn;obtain ⟨m,e,h1,h2,h3,_⟩:=Cp lf.lv;rw [e,AkE,hblk m O h3]
  | true=>
   cases hz:nz (av b top l k)with
   | false=>
    rw [tv.dz k hk32 ho hz];unfold lfv;rw [AkH rfl];have hal:=SH b top l k;have hall:∀v∈av b top l k,v=0:=λv hv=>by
     unfold nz at hz;rw [AlK]at hz;have:=hz v hv;simpa using this
    refine(List.eq_replicate_iff.2 ⟨hal,hall⟩).symm
   | true=>
    obtain ⟨m,e,hm,_,h3,h4⟩:=tv.dn k hk32 ho hz;unfold lfv;rw [e,AkG O,AkE,up2 m O h3,h4,UT (SH b top l k) (Ai6 hu (λs hs=>AhI hb.2 (hlv s hs)) k)]
 have hst:∀k,k < 32->stG b' x' y' nx k=true:=λk hk32=>by
  unfold stG;by_cases h0:gb nx k=0
  .rw [decide_eq_true h0,Bool.true_or]
  rw [decide_eq_false h0,AlT];have hlk:=hleaf k hk32;have hpn:BU (blk b' (gb nx k).toNat)=av b top l k:=by
   rw [<- hlk];unfold lfv;rw [AkG h0]
  rw [hpn];have hbad:MA b' x' (av b top l k)=false:=bad_no.2 λv hv=>(Ag5 ht hlv hk32 v hv).imp id (Ai3 hbl hb.2 hx')
  rw [hbad];have hne:∀j,j < k->gb nx j≠gb nx k->True:=λ_ _ _=>trivial
  have hun:(∀j,j < k->gb nx j≠gb nx k)->((nx.take k).any λv=>decide (v=gb nx k))=false:=λh=>by
   rw [AlK];intro v hv;obtain ⟨j,hj,rfl⟩:=Alh hv;rw [AkL]at hj;rw [List.getElem_take];have:=h j O;unfold gb at this;rw [AkD O,Aln]at this;unfold gb;simpa using this
  have hwhat:∀j,j < 32->gb nx j≠0->(∃m:Nat,gb nx j=(m:Int)/\bit x m=false)\/(gb nx j=gb top j/\gb top j≠0/\oth l j=false):=λj hj hjn=>by
   cases ho:oth l j with
   | false=>
    have:=tv.st j hj (.inr ho);exact .inr ⟨this,by rw [<- this];exact hjn,rfl⟩
   | true=>
    cases hz:nz (av b top l j)with
    | false=>exact absurd (tv.dz j hj ho hz) hjn
    | true=>obtain ⟨m,e,_,hx0,_,_⟩:=tv.dn j hj ho hz;exact .inl ⟨m,e,hx0⟩
  cases ho:oth l k with
  | true=>
   cases hz:nz (av b top l k)with
   | false=>exact absurd (tv.dz k hk32 ho hz) h0
   | true=>
    obtain ⟨m,e,hm,hx0,h3,h4⟩:=tv.dn k hk32 ho hz;have hb4:blk b' m=Dv (pgb 81 (av b top l k)):=by rw [up2 m O h3];exact h4
    have hp:pgB b' x' y' (gb nx k) 81=true:=by
     unfold pgB;rw [e,AkE,hb4,Xd O O (up1 m O h3) (hfree m hx0),decide_eq_true (VE 81 _),Vo (SH b top l k)];rfl
    have hd:=hun λj hj he=>by
     have hj0:gb nx j≠0:=by rw [he];exact h0
     rcases hwhat j O hj0 with⟨m2,e2,hx2⟩ | ⟨e2,hn2,_⟩
     .cases hoj:oth l j with
      | false=>
       have:=tv.st j O (.inr hoj);rw [this]at hj0;obtain ⟨m3,e3,_,_,h3x,_⟩:=Cp (K7 ht O hj0).lv;rw [this,e3]at e2;obtain rfl:m3=m2:=O
       rw [hx2]at h3x;cases h3x
      | true=>
       cases hzj:nz (av b top l j)with
       | false=>exact absurd (tv.dz j O hoj hzj) hj0
       | true=>exact tv.ds j k hj hk32 hoj ho hzj hz he
     .obtain ⟨m3,e3,_,_,h3x,_⟩:=Cp (K7 ht (O:j < 32) hn2).lv;rw [e2,e3,e]at he;obtain rfl:m3=m:=O
      rw [hx0]at h3x;cases h3x
    rw [hp,hd];rfl
  | false=>
   have e:=tv.st k hk32 (.inr ho);have hn:gb top k≠0:=by rw [<- e];exact h0
   have lf:=K7 ht hk32 hn;obtain ⟨m,em,h1,h2,h3,h4⟩:=Cp lf.lv;have hz:nz (av b top l k)=true:=by rw [Aga ho];unfold lfv;rw [AkG hn];exact lf.nz
   have hny:(m:Int)∉y':=λhh=>by
    rcases (ym' _).1 hh with hh | hh
    .exact h4 hh
    .rcases AkK.1 hh with hh | hh
     .obtain ⟨j,hj,ej,hnj,hoj⟩:=Nu _ _ _ _ hh;have hjk:j≠k:=by rintro rfl;rw [ho]at hoj;cases hoj
      rcases Nat.lt_or_gt_of_ne hjk with hl | hl
      .exact lf.un j hl (by rw [<- ej,em])
      .exact(K7 ht hj hnj).un k hl (by rw [<- ej,em])
     .unfold rtL at hh;split at hh
      .cases hh
      .rw [AkM]at hh;have hk80:=lf.rt.2.2;have hk81:=lf.kd;rw [em,AkE]at hk81;rw [<- hh,AkE,hk81]at hk80;omega
   have hbe:=hblk m O h3;have hp:pgB b' x' y' (gb nx k) 81=true:=by
    have hkd:=lf.kd;have hrz:=lf.rz;rw [em,AkE]at hkd hrz;unfold pgB;rw [e,em,AkE,hbe,Xd h1 O (hx' m O h3) hny,decide_eq_true hkd,hrz];rfl
   have hd:=hun λj hj he=>by
    have hj0:gb nx j≠0:=by rw [he];exact h0
    rcases hwhat j O hj0 with⟨m2,e2,hx2⟩ | ⟨e2,hn2,_⟩
    .rw [e2,e,em]at he;obtain rfl:m2=m:=O
     rw [hx2]at h3;cases h3
    .exact lf.un j hj (by rw [<- e2,he,e])
   rw [hp,hz,hd];rfl
 rcases hend with⟨hz,rfl,rfl,rfl,rfl⟩ | ⟨hz,m,rfl,hm,hbm,rfl,rfl,rfl,_,_⟩
 .refine⟨zer,by unfold tre;rw [AkH rfl],λk hk32=>?_⟩;have hall:∀v∈nx,v=0:=λv hv=>by
   unfold nz at hz;rw [AlK]at hz;have:=hz v hv;simpa using this
  have:nx=zer:=List.eq_replicate_iff.2 ⟨hnl,hall⟩;rw [<- this];exact hleaf k hk32
 .have hb1:=tv.wk.hb;have hbk:blk ((b1.set m CG).set m (Dv (pgb 80 nx))) m=Dv (pgb 80 nx):=Sf (by rw [AlB];omega);have htop:I3 ((b1.set m CG).set m (Dv (pgb 80 nx))) (m:Int)=nx:=by
   unfold I3;rw [AkE,hbk,UT hnl hnv]
  have hx0:bit x m=false:=by
   cases h:bit x m with
   | false=>rfl
   | true=>have:=(tv.ot m O h).2;rw [hbm]at this;cases this
  have hx1:=tv.wk.hx;have hbit:bit (setB x1 m) m=true:=by rw [Qy tv.wk.hu O O];simp
  refine⟨nx,?_,hleaf⟩;unfold tre;rw [AkG O,htop];have hp:pgB ((b1.set m CG).set m (Dv (pgb 80 nx))) (setB x1 m) y' (m:Int) 80=true:=by
   unfold pgB;rw [AkE,hbk,Xd O O hbit (hfree m hx0),decide_eq_true (VE 80 _),Vo hnl];rfl
  rw [hp,hz,all_range.2 hst];rfl
end Go.V.G
set_option maxRecDepth 100000
namespace Go.V.G
open Go.V
theorem Abp {b:Bls} (hb:b.length<=160) (hk:∀c∈b,c.length=128):Bd b:=⟨O,λc hc=>by have:=hk c hc;omega⟩
section
variable {b b':Bls} {x y z:List Int} {wr lf f hd ev:Int} {rt tx:Nat}
end
section
variable {b:Bls} {wr lf ev f:Int} {on:Bool} {t:List UInt8} {r:List Rn} {cs:List (List Prt)}
def okM (b:Bls) (wr lf ev f:Int) (t:List UInt8) (r:List Rn) (cs:List (List Prt)):Prop:=gd b wr lf=true/\wr<=999999900/\(1<=ev/\ev<=30)/\FO f t r cs=true/\cs.length=0
end
end Go.V.G
set_option maxRecDepth 100000
namespace Go.V.G
open Go.V
theorem IA {b:Bls} {wr lf:Int} (h:gd b wr lf=true):(40<=b.length/\b.length<=160)/\∀c∈b,c.length=128:=by
 unfold gd at h;simp only [AkI,decide_eq_true_eq,Ak7,beq_iff_eq]at h;exact⟨h.1,h.2.1⟩
section
variable {b:Bls} {wr lf ev f:Int} {t:List UInt8} {r:List Rn} {cs:List (List Prt)}
end
end Go.V.G
set_option maxRecDepth 100000
namespace Go.V.G
open Go.V
theorem Ie {σ τ ρ:Type} (L:σ->Option (σ⊕(τ⊕ρ))) (st:Nat->σ) (p:Nat->Bool) (e:ρ) (z:τ) (n:Nat)
  (step:∀i,i < n->L (st i)=some (if p i=true then .inl (st (i+1))else .inr (.inr e))) (last:L (st n)=some (.inr (.inl z))) :
  Ab L (st 0)=some (if(List.range n).all p=true then .inl z else .inr e):=by
 rcases BW L st p (λ_=>e) z n step last with⟨ha,hlp⟩ | ⟨k,hk,hp,_,hlp⟩
 .rw [hlp,AkH (all_range.2 ha)]
 .rw [hlp,AkG (λh=>by rw [all_range.1 h k hk]at hp;cases hp)]
def gG (n:Nat) (g:List Wr) (i:Nat):Bool:=decide ((gw g i).1=0\/(gw g i).1=1\/33<=(gw g i).1/\(gw g i).1<=(n:Int) - 1) && (decide ((gw g i).2.length=128) && (decide (i=0) || decide ((gw g (i - 1)).1 < (gw g i).1)))
def grB (n:Nat) (g:List Wr):Bool:=decide (1<=g.length/\g.length<=30) && (List.range g.length).all (gG n g)
theorem AgY {n:Nat} (hn:n<=1048576) (a:Int):SW a (n:Int)=some (decide (a=0\/a=1\/33<=a/\a<=(n:Int) - 1)):=by
 unfold SW wI;rw [w64 O O,Cf];by_cases h0:a=0 <;> by_cases h1:a=1 <;> simp [h0,h1]
theorem Abz {n:Nat} {g:List Wr} (hn:n<=1048576) (hg:g.length<=1048576):LU g (n:Int)=some (grB n g):=by
 unfold LU grB;rw [Cf,AkB];by_cases hl:1<=g.length/\g.length<=30
 .rw [decide_eq_true (show(1:Int)<=(g.length:Int)/\(g.length:Int)<=30 by omega),decide_eq_true hl];have h:=Ie Gy (λi=>(g,(n:Int),g,(g.length:Int),((i:Nat):Int))) (gG n g) false () g.length (λi hi=>by
   unfold Gy gG gX wI;dsimp only;rw [iy O,iy O,AkE,D1 hi,AkB,AgY hn,AkB];have hix:=Ak (i:=i) O;by_cases h1:(gw g i).1=0\/(gw g i).1=1\/33<=(gw g i).1/\(gw g i).1<=(n:Int) - 1
   .rw [decide_eq_true h1];by_cases h2:(gw g i).2.length=128
    .rw [ino (O:¬ ¬ (((gw g i).2.length:Nat):Int)=128),decide_eq_true h2];by_cases h3:i=0
     .subst h3;simp [show IntKind.wrap .i64 1=1 from w64 O O]
     .rw [iy (show(0:Int) < (i:Int) by omega),im1 O O,iy O,AkE,D1 O,decide_eq_false h3];by_cases h4:(gw g (i - 1)).1 < (gw g i).1
      .rw [decide_eq_true h4];simp [(O:¬ (gw g i).1<=(gw g (i - 1)).1),hix]
      .rw [decide_eq_false h4];simp [show(gw g i).1<=(gw g (i - 1)).1 by omega]
    .rw [iy (O:¬ (((gw g i).2.length:Nat):Int)=128),decide_eq_false h2];rfl
   .rw [decide_eq_false h1];rfl) (by
   unfold Gy gX wI;dsimp only;rw [ino O])
  rw [show Ab Gy (g,(n:Int),g,(g.length:Int),0)=_ from h];cases (List.range g.length).all (gG n g) <;> rfl
 .rw [decide_eq_false (O:¬ ((1:Int)<=(g.length:Int)/\(g.length:Int)<=30)),decide_eq_false hl];rfl
def gI (g:List Wr) (i:Nat):Bool:=decide (0<=(gw g i).1/\(gw g i).1 < 160/\¬ (1 < (gw g i).1/\(gw g i).1 < 33)) && ((decide (i=0) || decide ((gw g (i - 1)).1 < (gw g i).1)) && decide ((gw g i).2.length=128))
theorem XV {g:List Wr} (hg:g.length<=1048576):L8 g=some ((List.range g.length).all (gI g) && decide (1<=g.length/\g.length<=30)):=by
 unfold L8;have h:=Ie GE (λi=>(g,g,(g.length:Int),((i:Nat):Int))) (gI g) false g g.length (λi hi=>by
  unfold GE gI gX wI;dsimp only;rw [iy O,iy O,AkE,D1 hi,AkB];by_cases h1:(gw g i).1 < 0
  .rw [iy h1,decide_eq_false (O:¬ (0<=(gw g i).1/\(gw g i).1 < 160/\¬ (1 < (gw g i).1/\(gw g i).1 < 33)))];rfl
  .rw [ino h1];by_cases h2:(160:Int)<=(gw g i).1
   .rw [iy h2,decide_eq_false (O:¬ (0<=(gw g i).1/\(gw g i).1 < 160/\¬ (1 < (gw g i).1/\(gw g i).1 < 33)))];rfl
   .rw [ino h2];have key:(if decide ((0:Int) < (i:Int))=true then
      (if decide ((0:Int)<=IntKind.wrap .i64 ((i:Int) - 1))=true then
       Option.bind (g[Int.toNat (IntKind.wrap .i64 ((i:Int) - 1))]?) λr2=>
        if decide ((gw g i).1<=r2.1)=true then some (g,g,(g.length:Int),(i:Int),true)else some (g,g,(g.length:Int),(i:Int),decide (¬ (((gw g i).2.length:Nat):Int)=128))
      else none)else some (g,g,(g.length:Int),(i:Int),decide (¬ (((gw g i).2.length:Nat):Int)=128))) =
      some (g,g,(g.length:Int),(i:Int),!((decide (i=0) || decide ((gw g (i - 1)).1 < (gw g i).1)) && decide ((gw g i).2.length=128))):=by
     have e:decide (¬ (((gw g i).2.length:Nat):Int)=128) = !decide ((gw g i).2.length=128):=by
      by_cases h:(gw g i).2.length=128 <;> simp [h];omega
     by_cases h3:i=0
     .subst h3;rw [e];simp
     .rw [iy (show(0:Int) < (i:Int) by omega),im1 O O,iy O,AkE,D1 O,AkB,decide_eq_false h3,e];by_cases h4:(gw g (i - 1)).1 < (gw g i).1
      .rw [decide_eq_true h4,ino O];simp
      .rw [decide_eq_false h4,iy O];simp
    have fin:decide (0<=(gw g i).1/\(gw g i).1 < 160/\¬ (1 < (gw g i).1/\(gw g i).1 < 33)) = !(decide (1 < (gw g i).1) && decide ((gw g i).1 < 33)):=by
     by_cases h3:1 < (gw g i).1 <;> by_cases h4:(gw g i).1 < 33 <;> simp [h3,h4] <;> omega
    rw [fin];by_cases h3:1 < (gw g i).1
    .rw [iy h3,decide_eq_true h3];by_cases h4:(gw g i).1 < 33
     .rw [iy h4,decide_eq_true h4];rfl
     .rw [ino h4,decide_eq_false h4,key,AkB];dsimp only;rw [Ak O];cases ((decide (i=0) || decide ((gw g (i - 1)).1 < (gw g i).1)) && decide ((gw g i).2.length=128)) <;> rfl
    .rw [ino h3,decide_eq_false h3,key,AkB];dsimp only;rw [Ak O];cases ((decide (i=0) || decide ((gw g (i - 1)).1 < (gw g i).1)) && decide ((gw g i).2.length=128)) <;> rfl) (by
  unfold GE gX wI;dsimp only;rw [ino O])
 rw [show Ab GE (g,g,(g.length:Int),0)=_ from h];have e:decide ((1:Int)<=(g.length:Int)/\(g.length:Int)<=30)=decide (1<=g.length/\g.length<=30):=decide_eq_decide.2 O;cases (List.range g.length).all (gI g)with
 | true=>rw [AkH rfl,AkB];dsimp only;rw [AI,e];rfl
 | false=>rfl
theorem Ajr {g:List Wr} {w:Wr} (h:w∈g):∃i,i < g.length/\gw g i=w:=by
 obtain ⟨i,hi,rfl⟩:=Alh h;exact⟨i,hi,by have:=D1 hi;rw [AkD hi]at this;injection this with this;exact this.symm⟩
theorem YN {n:Nat} {g:List Wr} (hn:40<=n) (h:grB n g=true) (hu:∀w∈g,U8s w.2):GrOk n g/\1<=g.length/\g.length<=30:=by
 simp only [grB,AkI,decide_eq_true_eq]at h;obtain ⟨h1,h2⟩:=h;have h3:=all_range.1 h2;have at_:∀w∈g,(0<=w.1/\w.1 < (n:Int))/\w.2.length=128:=λw hw=>by
  obtain ⟨i,hi,rfl⟩:=Ajr hw;have:=h3 i hi;simp only [gG,AkI,decide_eq_true_eq]at this;exact⟨O,this.2.1⟩
 exact⟨⟨O,λw hw=>(at_ w hw).1,λw hw=>(at_ w hw).2,hu⟩,h1⟩
theorem TU {bl:Bls} {wr lf:Int} (on:Bool) {g:List Wr} (hd:gd bl wr lf=true) (hg:g.length<=1048576):JE bl wr on lf g=some (grB bl.length g):=by
 obtain ⟨hb,-⟩:=IA hd;unfold JE gX wI;rw [FP O,hd,AkB,AkH rfl,XV hg,AkB];by_cases hl:1<=g.length/\g.length<=30
 .cases hi:(List.range g.length).all (gI g)with
  | false=>
   rw [Al1];have:grB bl.length g=false:=by
    rw [Bool.eq_false_iff];intro h;simp only [grB,AkI,decide_eq_true_eq]at h;have h3:=all_range.1 h.2;have:(List.range g.length).all (gI g)=true:=all_range.2 λi hi=>by
     have:=h3 i hi;simp only [gG,AkI,decide_eq_true_eq]at this;simp only [gI,AkI,decide_eq_true_eq];exact⟨O,this.2.2,this.2.1⟩
    rw [hi]at this;cases this
   rw [this];rfl
  | true=>
   have h3:=all_range.1 hi;have h4:∀i,i < g.length->(0<=(gw g i).1/\(gw g i).1 < 160/\¬ (1 < (gw g i).1/\(gw g i).1 < 33))/\(i=0\/(gw g (i - 1)).1 < (gw g i).1)/\(gw g i).2.length=128:=λi hi=>by
    have:=h3 i hi;simp only [gI,AkI,AlS,decide_eq_true_eq]at this;exact⟨this.1,this.2.1,this.2.2⟩
   rw [AkS,decide_eq_true hl,AkH rfl,im1 O O,iy O,AkE,D1 O,AkB];unfold NK wI;rw [AI,w64 O O];have up:∀d i,i+d < g.length->(gw g i).1<=(gw g (i+d)).1:=by
    intro d
    induction d with
    | zero=>intro i _;exact AlO _
    | succ d ih=>
     intro i h;have h5:=ih i O;have h6:=(h4 (i+(d+1)) h).2.1;rw [(O:i+(d+1) - 1=i+d)]at h6;rcases h6 with h6 | h6
     .omega
     .omega
   have e:grB bl.length g=decide (0<=(gw g (g.length - 1)).1/\(gw g (g.length - 1)).1<=(bl.length:Int) - 1):=by
    unfold grB;rw [decide_eq_true hl,AkS];have h0:=h4 (g.length - 1) O;by_cases hlast:(gw g (g.length - 1)).1<=(bl.length:Int) - 1
    .rw [decide_eq_true (show 0<=(gw g (g.length - 1)).1/\(gw g (g.length - 1)).1<=(bl.length:Int) - 1 from⟨h0.1.1,hlast⟩)];refine all_range.2 λi hi=>?_
     have h5:=h4 i hi;have h6:=up (g.length - 1 - i) i O;rw [(O:i+(g.length - 1 - i)=g.length - 1)]at h6;simp only [gG,AkI,AlS,decide_eq_true_eq];exact⟨O,h5.2.2,h5.2.1⟩
    .rw [decide_eq_false (λh=>hlast h.2),Bool.eq_false_iff];intro h;have:=all_range.1 h (g.length - 1) O;simp only [gG,AkI,decide_eq_true_eq]at this;omega
   rw [e];rfl
 .have:grB bl.length g=false:=by unfold grB;rw [decide_eq_false hl,Al1]
  rw [this,decide_eq_false hl,AmL];rfl
def wGr (bl:Bls):List Wr:=(List.range (gb (blk bl 2) 4).toNat).map λk=>(num (blk bl 2) (5+2 * k),blk bl (3+k))
theorem Aai (bl:Bls):(wGr bl).length=(gb (blk bl 2) 4).toNat:=by simp [wGr]
theorem WT {bl:Bls} (hu:∀c∈bl,U8s c):∀w∈wGr bl,U8s w.2:=λw hw=>by
 simp only [wGr,AkY]at hw;obtain ⟨k,_,rfl⟩:=hw;intro v hv;by_cases h:3+k < bl.length
 .exact hu _ (BF h) v hv
 .simp only [blk]at hv;rw [Ak2 O]at hv;simp at hv
def wts (bl:Bls):List Wr:=if(decide (1<=gb (blk bl 2) 4/\gb (blk bl 2) 4<=30) && (grB bl.length (wGr bl) && (MB (wGr bl) == blk bl 2)))=true then wGr bl else []
theorem N8 {α:Type} (f:Nat->α) (k:Nat):(List.range (k+1)).map f=(List.range k).map f++[f k]:=by rw [Aml,Alk];rfl
theorem D4 {bl:Bls} {wr lf:Int} (on:Bool) (hd:gd bl wr lf=true) (hu:∀c∈bl,U8s c):HQ bl wr on lf=some (wts bl):=by
 obtain ⟨hb,hk⟩:=IA hd;have u2:=hu _ (BF (O:2 < bl.length));have l2:=hk _ (BF (O:2 < bl.length));have h4:=DV u2 4;unfold HQ wts gX;rw [show bl[Int.toNat 2]?=some (blk bl 2) from Bu O,AkB,show(blk bl 2)[Int.toNat 4]?=some (gb (blk bl 2) 4) from Ai O,AkB,Cf,w64 O O,AkB];by_cases hn:1<=gb (blk bl 2) 4/\gb (blk bl 2) 4<=30
 .rw [decide_eq_true hn];obtain ⟨n,hn'⟩:=Ak6 h4.1;have hwl:=Aai bl;rw [hn',AkE]at hwl;have h:=Am E8 (λk=>(blk bl 2,(n:Int),(List.range k).map (λk=>(num (blk bl 2) (5+2 * k),blk bl (3+k))),((k:Nat):Int),bl,wr,on,lf)) n (blk bl 2,wGr bl,bl,wr,on,lf) (λk hk'=>by
   have e1:IntKind.wrap .i64 (5+(IntKind.wrap .i64 (2 * (k:Int))))=((5+2 * k:Nat):Int):=by rw [w64 (n:=2 * (k:Int)) O O,w64 O O];omega
   have e2:IntKind.wrap .i64 (6+(IntKind.wrap .i64 (2 * (k:Int))))=((5+2 * k+1:Nat):Int):=by rw [w64 (n:=2 * (k:Int)) O O,w64 O O];omega
   have e3:IntKind.wrap .i64 (3+(k:Int))=((3+k:Nat):Int):=by rw [w64 O O];omega
   have l3:=hk _ (BF (O:3+k < bl.length));have q1:=DV u2 (5+2 * k);have q2:=DV u2 (5+2 * k+1);unfold E8 cK gX wI;dsimp only;rw [iy O,e1,e2,e3,iy O,AkE,Ai O,AkB,iy O,AkE,Ai O,AkB,iy O,AkE,Bu O,AkB,
    AkH (by simp only [Aa,decide_eq_true_eq,Alc];omega),AkH (by simp only [Aa,decide_eq_true_eq,Ak8,List.length_range,AkO];omega),Ak O,S7 q1 q2,N8]
   rfl) (by
   unfold E8 cK gX wI;dsimp only;rw [ino O];unfold wGr;rw [hn',AkE])
  rw [hn',show Ab E8 (blk bl 2,(n:Int),[],0,bl,wr,on,lf)=_ from h];simp only [Alt,AkR,Alg,AkB,AkS];rw [Abz O O,AkB];cases hg:grB bl.length (wGr bl)with
  | false=>rfl
  | true=>
   obtain ⟨g1,g2,g3⟩:=YN O hg (WT hu);rw [Y4 g1 O g3];simp only [Alt,AkR,Alg,AkB,AkS];rw [Rg (Aho g3) u2];cases (MB (wGr bl) == blk bl 2) <;> rfl
 .rw [decide_eq_false hn];rfl
theorem I6 {bl:Bls} {wr lf:Int} (on:Bool) (hd:gd bl wr lf=true) (hu:∀c∈bl,U8s c):Fg bl wr on lf=some (wts bl):=by
 obtain ⟨hb,hk⟩:=IA hd;have u2:=hu _ (BF (O:2 < bl.length));have l2:=hk _ (BF (O:2 < bl.length));have h4:=DV u2 4;unfold Fg wts gX;rw [show bl[Int.toNat 2]?=some (blk bl 2) from Bu O,AkB,show(blk bl 2)[Int.toNat 4]?=some (gb (blk bl 2) 4) from Ai O,AkB,AI,w64 O O,AkB];by_cases hn:1<=gb (blk bl 2) 4/\gb (blk bl 2) 4<=30
 .rw [decide_eq_true hn];obtain ⟨n,hn'⟩:=Ak6 h4.1;have hwl:=Aai bl;rw [hn',AkE]at hwl;have h:=Am DK (λk=>(blk bl 2,(List.range k).map (λk=>(num (blk bl 2) (5+2 * k),blk bl (3+k))),(n:Int),((k:Nat):Int),bl,wr,on,lf)) n (blk bl 2,wGr bl,bl,wr,on,lf) (λk hk'=>by
   have e1:IntKind.wrap .i64 (5+(IntKind.wrap .i64 (2 * (k:Int))))=((5+2 * k:Nat):Int):=by rw [w64 (n:=2 * (k:Int)) O O,w64 O O];omega
   have e3:IntKind.wrap .i64 (3+(k:Int))=((3+k:Nat):Int):=by rw [w64 O O];omega
   unfold DK cK gX wI;dsimp only;rw [iy O,e1,e3,Gd u2 O O,AkB,iy O,AkE,Bu O,AkB,
    AkH (by simp only [Aa,decide_eq_true_eq,Ak8,List.length_range,AkO];omega),Ak O,N8]) (by
   unfold DK cK gX wI;dsimp only;rw [ino O];unfold wGr;rw [hn',AkE])
  rw [hn',show Ab DK (blk bl 2,[],(n:Int),0,bl,wr,on,lf)=_ from h];simp only [Alt,AkR,Alg,AkB,AkS];rw [TU on hd O,AkB];cases hg:grB bl.length (wGr bl)with
  | false=>rfl
  | true=>
   obtain ⟨g1,g2,g3⟩:=YN O hg (WT hu);rw [Y6 g1 O g3];simp only [Alt,AkR,Alg,AkB,AkS];rw [U8 (by rw [WO g3];omega),AkB];cases (MB (wGr bl) == blk bl 2) <;> rfl
 .rw [decide_eq_false hn];rfl
end Go.V.G
set_option maxRecDepth 100000
namespace Go.V.G
open Go.V
def MQ (f h e r t:Int):Bool:=decide ((0<=f/\f<=h)/\h<=60) && (decide (1<=e/\e<=30) && (decide (33<=r/\r<=159) && decide (33<=t/\t<=159)))
theorem Abj {f h e r t:Int} (g:MQ f h e r t=true):∃(m n:Nat),r=(m:Int)/\t=(n:Int)/\SupOk f h e m n:=by
 simp only [MQ,AkI,decide_eq_true_eq]at g;obtain ⟨g1,g2,g3,g4⟩:=g;obtain ⟨m,hm⟩:=Ak6 (O:0<=r);obtain ⟨n,hn⟩:=Ak6 (O:0<=t);exact⟨m,n,hm,hn,⟨g1.1,g1.2,g2,O,O⟩⟩
theorem W9 (f h e r t:Int):Mq f h e r t=some (MQ f h e r t):=by
 unfold Mq PU MQ;simp only [Cf,AkB];by_cases h1:0<=f/\f<=h <;> by_cases h2:h<=60 <;> by_cases h3:1<=e/\e<=30 <;> by_cases h4:33<=r/\r<=159 <;> simp [h1,h2,h3,h4]
theorem ZO (f h:Int):HH f h=some (decide ((0<=f/\f<=h)/\h<=60)):=by
 unfold HH;by_cases h1:0<=f <;> by_cases h2:f<=h <;> simp [h1,h2]
theorem AfN {f h e r t:Int} (g:MQ f h e r t=false):EU f h e r t=some ([],false):=by
 unfold EU Ka cK;unfold MQ at g;simp only [ZO,AI,AkB];by_cases h1:(0<=f/\f<=h)/\h<=60
 .rw [decide_eq_true h1]at g ⊢;by_cases h3:1<=e/\e<=30
  .rw [decide_eq_true h3]at g ⊢;by_cases h4:33<=r/\r<=159
   .rw [decide_eq_true h4]at g ⊢;simp only [AkS]at g;rw [g];rfl
   .rw [decide_eq_false h4];rfl
  .rw [decide_eq_false h3];rfl
 .rw [decide_eq_false h1];rfl
abbrev Sup:=Int×(Int×(Int×(Int×Int)))
def T6 (c:List Int):Bool:=decide (c.length=128) && (MQ (gb c 4) (gb c 5) (gb c 6) (num c 8) (num c 10) && (N5 (gb c 4) (gb c 5) (gb c 6) (num c 8) (num c 10) == c))
def MI (c:List Int):Bool×Sup:=if T6 c=true then(true,gb c 4,gb c 5,gb c 6,num c 8,num c 10)else(false,0,0,0,0,0)
theorem IG {c:List Int} (hu:U8s c):Mr c=some (MI c):=by
 unfold Mr MI T6 gX wI;by_cases hl:c.length=128
 .have u:=DV hu;rw [ino O,iy O,show c[Int.toNat 4]?=some (gb c 4) from Ai O,AkB,iy O,show c[Int.toNat 5]?=some (gb c 5) from Ai O,AkB,iy O,show c[Int.toNat 6]?=some (gb c 6) from Ai O,AkB,
   iy O,show c[Int.toNat 8]?=some (gb c 8) from Ai O,AkB,iy O,show c[Int.toNat 9]?=some (gb c 9) from Ai O,AkB,iy O,show c[Int.toNat 10]?=some (gb c 10) from Ai O,AkB,iy O,show c[Int.toNat 11]?=some (gb c 11) from Ai O,AkB,
   S7 (u 8) (u 9),S7 (u 10) (u 11),w64 (n:=gb c 4) (by have:=u 4;omega) (by have:=u 4;omega),w64 (n:=gb c 5) (by have:=u 5;omega) (by have:=u 5;omega),w64 (n:=gb c 6) (by have:=u 6;omega) (by have:=u 6;omega),W9,AkB,decide_eq_true hl,AkS,
   show gb c 8 * 256+gb c 9=num c 8 from rfl,show gb c 10 * 256+gb c 11=num c 10 from rfl]
  cases hg:MQ (gb c 4) (gb c 5) (gb c 6) (num c 8) (num c 10)with
  | false=>rfl
  | true=>
   obtain ⟨m,n,hm,hn,hs⟩:=Abj hg;rw [hm,hn,AbY hs];simp only [Alt,AkR,Alg,AkB,AkS];rw [Rg (Ag3 hs) hu];cases (N5 (gb c 4) (gb c 5) (gb c 6) (m:Int) (n:Int) == c) <;> rfl
 .rw [iy O,decide_eq_false hl];rfl
theorem P1 {c:List Int} (hu:U8s c):Ms c=some (MI c):=by
 unfold Ms MI T6 gX;by_cases hl:c.length=128
 .have u:=DV hu;rw [ino O,iy O,show c[Int.toNat 4]?=some (gb c 4) from Ai O,AkB,iy O,show c[Int.toNat 5]?=some (gb c 5) from Ai O,AkB,iy O,show c[Int.toNat 6]?=some (gb c 6) from Ai O,AkB,
   show CI c 8=some (num c 8) from Gd (i:=8) hu O O,AkB,show CI c 10=some (num c 10) from Gd (i:=10) hu O O,AkB,
   w64 (n:=gb c 4) (by have:=u 4;omega) (by have:=u 4;omega),w64 (n:=gb c 5) (by have:=u 5;omega) (by have:=u 5;omega),w64 (n:=gb c 6) (by have:=u 6;omega) (by have:=u 6;omega),decide_eq_true hl,AkS]
  cases hg:MQ (gb c 4) (gb c 5) (gb c 6) (num c 8) (num c 10)with
  | false=>rw [AfN hg];rfl
  | true=>
   obtain ⟨m,n,hm,hn,hs⟩:=Abj hg;rw [hm,hn,AbA hs];simp only [Alt,AkR,Alg,AkB,AkS];rw [U8 (by rw [Afs];omega),AkB];cases (N5 (gb c 4) (gb c 5) (gb c 6) (m:Int) (n:Int) == c) <;> rfl
 .rw [iy O,decide_eq_false hl];rfl
def opB (bl:Bls):List Int:=(blk bl 1).take 20
def opG (bl:Bls):Bool:=gsp bl (opB bl) [] [] && rz (blk bl 1) 20
def opD (bl:Bls):Bool×(Bls×List Int):=if opG bl=true then(true,bl,opB bl)else(false,[],[])
theorem SR {bl:Bls} (h1:bl.length<=160) (h2:40<=bl.length):SB bl (opB bl) [] []:=by
 exact⟨O,Z,Z⟩
theorem T0 {bl:Bls} {wr lf:Int} (on:Bool) (hd:gd bl wr lf=true) (hu:∀c∈bl,U8s c):JQ bl wr on lf=some (opD bl):=by
 obtain ⟨hb,hk⟩:=IA hd;have l1:=hk _ (BF (O:1 < bl.length));unfold JQ opD opG gX sX;rw [FP O,hd,AkB,AkG Z,iy O,show bl[Int.toNat 1]?=some (blk bl 1) from Bu O,AkB,OO (Abp O hk),AkB,iy O,iy O,iy O,iy O,
  show(List.drop (Int.toNat 0) (blk bl 1)).take (Int.toNat 20 - Int.toNat 0)=opB bl from rfl,PE (by unfold opB;rw [AkL];omega),AkB,Uu (SR O O),AkB]
 cases hg:gsp bl (opB bl) [] []with
 | false=>rfl
 | true=>
  simp only [Alt,AkR,Alg,AkB,AkS];rw [iy O,iy O,iy O,iy O];have hcf:∀{l:List Int},l.length<=1048576->A9 l=some (l.any λv=>decide (¬ v=0)):=λ{l} hl=>by
   unfold A9 BV;obtain ⟨r,hr,h⟩:=Jv Ba (λv=>decide (¬ v=0)) l (λk hk=>by
    unfold Ba Kf gX wI;dsimp only;rw [iy O,iy O,AkE,Ai hk,AkB,AkB,Ak O];by_cases hz:gb l k=0 <;> simp [hz]) (by
    unfold Ba gX wI;dsimp only;rw [ino O])
   rw [hr,AkB];rcases h with⟨rfl,h⟩ | ⟨k,rfl,h⟩
   .rw [h];rfl
   .rw [h];dsimp only;rw [AkB,decide_eq_true O]
  rw [AkE,show Int.toNat 20=20 from rfl,Alr (show(List.drop 20 (blk bl 1)).length<=(blk bl 1).length - 20 by rw [Ak5];omega),hcf (by rw [Ak5];omega),AkB,M4];cases rz (blk bl 1) 20 <;> rfl
theorem G8 {bl:Bls} {wr lf:Int} (on:Bool) (hd:gd bl wr lf=true) (hu:∀c∈bl,U8s c):JL bl wr on lf=some (opD bl):=by
 obtain ⟨hb,hk⟩:=IA hd;have l1:=hk _ (BF (O:1 < bl.length));have e1:bl[0+Int.toNat 1]?=some (blk bl 1):=Bu O;unfold JL opD opG cK cZ sX;rw [Fv O,hd,AkB,AkG Z,Adj (Abp O hk),AkB];dsimp only;rw [iy O,iy O,e1,AkB,AkB,iy O,iy O,iy O,iy O,AkB,
  AkH (by simp only [Aa,decide_eq_true_eq,AkL,Alc];omega),iy O,iy O,AkB,AkB,iy O,iy O,iy O,iy O,AkB,
  Ala,show((blk bl 1).drop (Int.toNat 0)).take (Int.toNat 20 - Int.toNat 0)=opB bl from rfl,AkE,show Int.toNat 20=20 from rfl,Alr (show(List.drop 20 (blk bl 1)).length<=(blk bl 1).length - 20 by rw [Ak5];omega)]
 have hdl:(List.drop 20 (blk bl 1)).length=108:=by rw [Ak5,l1]
 have h:=RF E1 (λk=>(bl,((0+Int.toNat 1:Nat):Int),((20:Nat):Int),(((blk bl 1).length - 20:Nat):Int),(((List.drop 20 (blk bl 1)).length:Nat):Int),((k:Nat):Int),opB bl)) (List.drop 20 (blk bl 1)) (λv=>decide (¬ v=0)) false (bl,opB bl) (λk hk'=>by
  have e3:(blk bl 1)[20+k]?=some (gb (List.drop 20 (blk bl 1)) k):=by
   have:=Ai hk';rw [Alj]at this;exact this
  unfold E1 cK cZ wI;dsimp only;rw [iy O,iy O,show Int.toNat ((0+Int.toNat 1:Nat):Int)=0+Int.toNat 1 from rfl,e1,AkB,iy (by rw [AkL,show Int.toNat ((20:Nat):Int)=20 from rfl,AkE];omega),AkB,show Int.toNat ((20:Nat):Int)=20 from rfl,AkE k,e3,AkB,Ak O];by_cases hz:gb (List.drop 20 (blk bl 1)) k=0 <;> simp [hz]) (by
  unfold E1 cK cZ wI;dsimp only;rw [ino O])
 rw [show Ab E1 (bl,((0+Int.toNat 1:Nat):Int),((20:Nat):Int),(((blk bl 1).length - 20:Nat):Int),(((List.drop 20 (blk bl 1)).length:Nat):Int),0,opB bl)=_ from h,M4];cases hz:rz (blk bl 1) 20 with
 | false=>simp
 | true=>
  simp only [Alt,AkR,Alg,AkB,Amb];rw [Nl (SR O O),AkB];cases gsp bl (opB bl) [] [] <;> rfl
end Go.V.G
set_option maxRecDepth 100000
namespace Go.V.G
open Go.V
def rcC (b:Bls) (x y:List Int) (a:Int) (ch:List Int):Bool:=
 liv b x y a && (!decide (a∈ch) && (!decide (ch.length=9) && (decide (gb (blk b a.toNat) 0=82) && (!decide (124 < gb (blk b a.toNat) 3) && ((decide (num (blk b a.toNat) 1=0) || !decide (gb (blk b a.toNat) 3 < 124)) &&
  ((!decide (gb (blk b a.toNat) 3=0) || decide (ch.length=0)) && rz (blk b a.toNat) (4+(gb (blk b a.toNat) 3).toNat)))))))
def rcO (b:Bls) (a:Int):List Int:=((blk b a.toNat).drop 4).take (gb (blk b a.toNat) 3).toNat
def rcN (b:Bls) (x y:List Int):Nat->Int->List Int->List Int->Option (List Int×List Int)
 | 0,_,_,_=>none
 | f+1,a,d,ch=>if rcC b x y a ch=true then(if num (blk b a.toNat) 1=0 then some (d++rcO b a,ch++[a])else rcN b x y f (num (blk b a.toNat) 1) (d++rcO b a) (ch++[a]))else none
def rcd (b:Bls) (x y:List Int) (a:Int):Option (List Int×List Int):=rcN b x y 10 a [] []
def rcA (o:Option (List Int×List Int)):List Int×(List Int×Bool):=match o with
 | some p=>(p.1,p.2,true)
 | none=>([],[],false)
theorem AaO {b:Bls} {x y z:List Int} (g:RS b x y) {a:Int} (ch:List Int) (hl:liv b x y a=true):∃m n:Nat,a=(m:Int)/\(33<=m/\m < b.length)/\gb (blk b m) 3=(n:Int)/\n<=255:=by
 obtain ⟨m,rfl,h1,h2,_⟩:=Cp hl;have:=g.u8 h2 3;obtain ⟨n,hn⟩:=Ak6 this.1;exact⟨m,n,rfl,⟨h1,h2⟩,hn,O⟩
theorem AdQ {b:Bls} {x y z:List Int} (g:RS b x y) (a:Int) {d ch:List Int} (hd:d.length<=10000) (hc:ch.length<=9) :
  EM ((b,x,y,z),a,d,ch)=some (if rcC b x y a ch=true then(if num (blk b a.toNat) 1=0 then .inr (d++rcO b a,ch++[a],true)else .inl ((b,x,y,z),num (blk b a.toNat) 1,d++rcO b a,ch++[a]))else .inr ([],[],false)):=by
 unfold EM cK gX sX wI;dsimp only;rw [Kk g,AkB];cases hl:liv b x y a with
 | false=>unfold rcC;rw [hl];rfl
 | true=>
  obtain ⟨m,n,rfl,hm,hn,hn2⟩:=AaO (z:=z) g ch hl;have hlen:=g.len hm.2;have hu:=g.hu _ (BF hm.2);have hb:=Bu hm.2;unfold rcC rcO;rw [hl,AkE];rw [Gj O,AkB];by_cases hin:(m:Int)∈ch
  .rw [decide_eq_true hin];rfl
  .rw [decide_eq_false hin];by_cases h9:ch.length=9
   .rw [decide_eq_true (show(ch.length:Int)=9 by omega),decide_eq_true h9];rfl
   .rw [decide_eq_false (O:¬ (ch.length:Int)=9),decide_eq_false h9];have hnum:=Gd hu (i:=1) O O;have hnum':CI (blk b m) 1=some (num (blk b m) 1):=hnum;have g3:(blk b m)[Int.toNat 3]?=some (n:Int):=by rw [<- hn];exact Ai O
    have g0:(blk b m)[Int.toNat 0]?=some (gb (blk b m) 0):=Ai O;have w5:IntKind.wrap .i64 (n:Int)=(n:Int):=w64 O O;have w4:IntKind.wrap .i64 (4+(n:Int))=((4+n:Nat):Int):=by rw [w64 O O];omega
    rw [hn];simp only [AkB,Alt,AkR,Alg,AkS,Amw];rw [iy (show(0:Int)<=(m:Int) by omega),AkE,hb,AkB,hnum',AkB,iy O,g3,AkB,iy O,g0,AkB,w5,w4,AkE,AkE];by_cases h82:gb (blk b m) 0=82
    .rw [ino (by simp [h82]),decide_eq_true h82];by_cases h124:(124:Int) < (n:Int)
     .rw [iy h124,decide_eq_true h124];rfl
     .rw [ino h124,decide_eq_false h124];have htk:List.take (128 - (4+n)) (List.drop (4+n) (blk b m))=(blk b m).drop (4+n):=Alr (by rw [Ak5];omega);have hcf:=Acv (l:=(blk b m).drop (4+n)) (by rw [Ak5];omega);rw [M4]at hcf;have hsub:4+n - Int.toNat 4=n:=by rw [show Int.toNat 4=4 from rfl];omega
      have ht:(List.drop (Int.toNat 4) (blk b m)).take (4+n - Int.toNat 4)=((blk b m).drop 4).take n:=by rw [hsub];rfl
      have htl:(((blk b m).drop 4).take n).length=n:=by rw [AkL,Ak5];omega
      have hroom:Aa (d.length+(((blk b m).drop 4).take n).length) 1=true:=by rw [htl];simp only [Aa,decide_eq_true_eq];omega
      have hroom2:Aa (ch.length+([(m:Int)]:List Int).length) 8=true:=by simp only [Aa,decide_eq_true_eq,AkO];omega
      have hlc:(((blk b m).length:Nat):Int)=128:=O
      rw [hlen];have j1:(0:Int)<=((4+n:Nat):Int):=O
      have j2:((4+n:Nat):Int)<=((128:Nat):Int):=O
      have j3:((128:Nat):Int)<=((128:Nat):Int):=O
      have j4:(0:Int)<=4:=O
      have j5:(4:Int)<=((4+n:Nat):Int):=O
      have k1:((n:Int) < 124)↔n < 124:=O
      have k2:((n:Int)=0)↔n=0:=O
      have k3:((ch.length:Int)=0)↔ch.length=0:=O
      simp only [iy j1,iy j2,iy j3,iy j4,iy j5,AkE,htk,hcf,AkB,ht,hroom,hroom2,Ak4,k1,k2,k3,decide_eq_true h82];have hz3:∀w:Bool,decide (n=0)=w\/decide (n=0) = !w:=by intro w;cases w <;> cases decide (n=0) <;> simp
      rcases hz3 true with hz | hz <;> rcases AmK (decide (ch.length=0))with hch | hch <;> rcases AmK (decide (n < 124))with hq | hq <;> cases hr:rz (blk b m) (4+n) <;> by_cases h0:num (blk b m) 1=0 <;>
       (first
        | (exfalso;simp only [decide_eq_true_eq,decide_eq_false_iff_not,Alt]at hz hq;omega)
        | simp only [h0,hz,hch,hq,hr,w4,iy j1,iy j2,iy j3,iy j4,iy j5,hlen,AkE,AkB,ht,hroom,hroom2,Ak4,Alg,Alt,Amw,AkS,Al1,Amb,AmL,AmY,Bool.or_false,Bool.true_or,AlT,decide_true,decide_false,not_true_eq_false,not_false_eq_true,AkR])
    .rw [iy h82,decide_eq_false h82];rfl
theorem AdZ {b:Bls} {x y z:List Int} (h:SB b x y z) (g:RS b x y) {a:Int} (ha:¬ a=0) {d ch:List Int} (hd:d.length<=10000) (hc:ch.length<=9) :
  DD (a,d,ch,b,x,y,z)=some (if rcC b x y a ch=true then .inl (num (blk b a.toNat) 1,d++rcO b a,ch++[a],b,x,y,z)else .inr (.inr false)):=by
 unfold DD cK gX sX wI;dsimp only;rw [iy ha,Mf g,AkB];cases hl:liv b x y a with
 | false=>unfold rcC;rw [hl];rfl
 | true=>
  obtain ⟨m,n,rfl,hm,hn,hn2⟩:=AaO (z:=z) g ch hl;have hlen:=g.len hm.2;have hu:=g.hu _ (BF hm.2);have hb:=Bu hm.2;unfold rcC rcO;rw [hl,AkE];rw [GW O,AkB];by_cases hin:(m:Int)∈ch
  .rw [decide_eq_true hin];rfl
  .rw [decide_eq_false hin];by_cases h9:ch.length=9
   .rw [decide_eq_true (show(ch.length:Int)=9 by omega),decide_eq_true h9];rfl
   .rw [decide_eq_false (O:¬ (ch.length:Int)=9),decide_eq_false h9];have g3:(blk b m)[Int.toNat 3]?=some (n:Int):=by rw [<- hn];exact Ai O
    have g0:(blk b m)[Int.toNat 0]?=some (gb (blk b m) 0):=Ai O;have g1:(blk b m)[Int.toNat 1]?=some (gb (blk b m) 1):=Ai O;have g2:(blk b m)[Int.toNat 2]?=some (gb (blk b m) 2):=Ai O;have u1:=DV hu 1;have u2:=DV hu 2;have w1:IntKind.wrap .i64 (IntKind.wrap .i64 (IntKind.wrap .i64 (gb (blk b m) 1) * 256)+IntKind.wrap .i64 (gb (blk b m) 2))=num (blk b m) 1:=by
     rw [w64 (n:=gb (blk b m) 1) O O,w64 (n:=gb (blk b m) 1 * 256) O O,w64 (n:=gb (blk b m) 2) O O,w64 O O];rfl
    have w5:IntKind.wrap .i64 (n:Int)=(n:Int):=w64 O O;have w4:IntKind.wrap .i64 (4+(n:Int))=((4+n:Nat):Int):=by rw [w64 O O];omega
    rw [hn];simp only [AkB,Alt,AkR,Alg,AkS,Amw];rw [iy (show(0:Int)<=(m:Int) by omega),AkE,hb,AkB,iy O,g1,AkB,iy O,g2,AkB,iy O,g3,AkB,iy O,g0,AkB,w1,w5,w4,AkE];by_cases h82:gb (blk b m) 0=82
    .rw [ino (by simp [h82]),decide_eq_true h82];by_cases h124:(124:Int) < (n:Int)
     .rw [iy h124,decide_eq_true h124];rfl
     .rw [ino h124,decide_eq_false h124];have hcf:=Pe (c:=blk b m) (n:=4+n) O O;have hsub:4+n - Int.toNat 4=n:=by rw [show Int.toNat 4=4 from rfl];omega
      have ht:(List.drop (Int.toNat 4) (blk b m)).take (4+n - Int.toNat 4)=((blk b m).drop 4).take n:=by rw [hsub];rfl
      have htl:(((blk b m).drop 4).take n).length=n:=by rw [AkL,Ak5];omega
      have hroom:Aa (d.length+(((blk b m).drop 4).take n).length) 1=true:=by rw [htl];simp only [Aa,decide_eq_true_eq];omega
      have hroom2:Aa (ch.length+([(m:Int)]:List Int).length) 8=true:=by simp only [Aa,decide_eq_true_eq,AkO];omega
      rw [hcf];have j2:((4+n:Nat):Int)<=((128:Nat):Int):=O
      have j3:((128:Nat):Int)<=((128:Nat):Int):=O
      have j4:(0:Int)<=4:=O
      have j5:(4:Int)<=((4+n:Nat):Int):=O
      have k1:((n:Int)=124)↔¬ n < 124:=O
      have k4:((n:Int) < 124)↔n < 124:=O
      have k2:((n:Int)=0)↔n=0:=O
      have k3:((0:Int) < (ch.length:Int))↔¬ ch.length=0:=O
      simp only [k1,k2,k3,k4,Classical.not_not,decide_not,decide_eq_true h82];rcases AmK (decide (n=0))with hz | hz <;> rcases AmK (decide (ch.length=0))with hch | hch <;> rcases AmK (decide (n < 124))with hq | hq <;> cases hr:rz (blk b m) (4+n) <;> by_cases h0:num (blk b m) 1=0 <;>
       (first
        | (exfalso;simp only [decide_eq_true_eq,decide_eq_false_iff_not,Alt]at hz hq;omega)
        | simp only [h0,hz,hch,hq,hr,w4,iy j2,iy j3,iy j4,iy j5,hlen,AkE,AkB,ht,hroom,hroom2,Ak4,Alg,Alt,Amw,AkS,Al1,Amb,AmL,AmY,Bool.or_false,Bool.true_or,AlT,decide_true,decide_false,not_true_eq_false,not_false_eq_true,AkR])
    .rw [iy h82,decide_eq_false h82];rfl
theorem TF {b:Bls} {x y:List Int} {a:Int} {ch:List Int} (h:rcC b x y a ch=true):(rcO b a).length<=124:=by
 unfold rcC at h;simp only [AkI,AkP,decide_eq_false_iff_not]at h;unfold rcO;rw [AkL];have:=h.2.2.2.2.1;omega
theorem Agc {b:Bls} {x y:List Int} {a:Int} {ch:List Int} (h:rcC b x y a ch=true):¬ a=0:=by
 unfold rcC at h;rw [AkI]at h;obtain ⟨m,rfl,h1,_⟩:=Cp h.1;omega
theorem AaQ {b:Bls} {x y:List Int} {a:Int} {ch:List Int} (h:rcC b x y a ch=true):¬ ch.length=9:=by
 unfold rcC at h;simp only [AkI,AkP,decide_eq_false_iff_not]at h;exact h.2.2.1
theorem UA {b:Bls} {x y z:List Int} (g:RS b x y):∀(f:Nat) (a:Int) (d ch:List Int),d.length<=124 * ch.length->ch.length+f=10->ch.length<=9->
  Ab EM ((b,x,y,z),a,d,ch)=some (rcA (rcN b x y f a d ch))
 | 0,a,d,ch,hd,hf,hc=>by omega
 | f+1,a,d,ch,hd,hf,hc=>by
  rw [Ax,AdQ g a O hc];unfold rcN;by_cases h:rcC b x y a ch=true
  .rw [AkH h,AkH h];have h9:=AaQ h;have h1:=TF h;by_cases h0:num (blk b a.toNat) 1=0
   .rw [AkH h0,AkH h0];rfl
   .rw [AkG h0,AkG h0];exact UA g f _ _ _ (by simp only [AkJ,AkO];omega) (by simp only [AkJ,AkO];omega) (by simp only [AkJ,AkO];omega)
  .rw [AkG h,AkG h];rfl
theorem ZQ {b:Bls} {x y z:List Int} (g:RS b x y) (a:Int):G5 (b,x,y,z) a=some (rcA (rcd b x y a)):=by
 unfold G5 rcd;rw [UA (z:=z) g 10 a [] [] Z rfl Z];rfl
theorem Vv {b:Bls} {x y z:List Int} (h:SB b x y z) (g:RS b x y):∀(f:Nat) (a:Int) (d ch:List Int),d.length<=124 * ch.length->ch.length+f=10->ch.length<=9->¬ a=0->
  Ab DD (a,d,ch,b,x,y,z)=some (match rcN b x y f a d ch with | some p=>.inl p | none=>.inr false)
 | 0,a,d,ch,hd,hf,hc,ha=>by omega
 | f+1,a,d,ch,hd,hf,hc,ha=>by
  rw [Ax,AdZ h g ha O hc];unfold rcN;by_cases hC:rcC b x y a ch=true
  .rw [AkH hC,AkH hC];have h9:=AaQ hC;have h1:=TF hC;by_cases h0:num (blk b a.toNat) 1=0
   .rw [AkH h0,h0];dsimp only;rw [Ax];unfold DD cK gX sX wI;dsimp only;rw [ino Z]
   .rw [AkG h0];exact Vv h g f _ _ _ (by simp only [AkJ,AkO];omega) (by simp only [AkJ,AkO];omega) (by simp only [AkJ,AkO];omega) h0
  .rw [AkG hC,AkG hC]
theorem Adr {b:Bls} {x y:List Int}:∀(f:Nat) (a:Int) (d ch:List Int) {p:List Int×List Int},rcN b x y f a d ch=some p->ch.length < p.2.length
 | 0,_,_,_,p,h=>by cases h
 | f+1,a,d,ch,p,h=>by
  unfold rcN at h;split at h
  .split at h
   .injection h with h;subst h;simp
   .have:=Adr f _ _ _ h;simp only [AkJ,AkO]at this;omega
  .cases h
theorem ZJ {b:Bls} {x y z:List Int} (h:SB b x y z) (g:RS b x y) (a:Int):Kw b x y z a=some (rcA (rcd b x y a)):=by
 unfold Kw;by_cases ha:a=0
 .subst ha;rw [Ax];have e1:DD (0,[],[],b,x,y,z)=some (.inr (.inl ([],[]))):=by
   unfold DD cK gX sX wI;dsimp only;rw [ino Z]
  rw [e1];have:rcd b x y 0=none:=by
   unfold rcd rcN;rw [AkG (λq=>Agc q rfl)]
  rw [this];rfl
 .rw [Vv h g 10 a [] [] Z rfl Z ha];unfold rcd;cases e:rcN b x y 10 a [] []with
  | none=>rfl
  | some p=>
   have:=Adr _ _ _ _ e;simp only [AkB];rw [decide_eq_true (show(0:Int) < (p.2.length:Int) by simp only [Alc]at this;omega)];rfl
end Go.V.G
set_option maxRecDepth 100000
namespace Go.V.G
open Go.V
def vl (b:Bls) (top:List Int) (k:Nat):Int:=gb (lfv b (gb top (k / 32))) (k % 32)
theorem PL {b:Bls} {top:List Int} (ht:top.length=32) (root:Int) {k:Nat} (hk:k < 1024):EW root top (top.map (lfv b)) (k:Int)=some (vl b top k):=by
 obtain ⟨e1,e2⟩:=Ag6 (n:=(k:Int)) O;obtain ⟨e3,_⟩:=Ahg (n:=(k:Int)) O;rw [AkE]at e1 e2 e3;unfold EW cK gX wI;rw [iy O,e1,iy O,AkE,Ali,Ai O,Aly,AkB,iy O,e3,iy O,AkE,Ai (by rw [AaW];omega),AkB];rfl
def ksT (b:Bls) (top:List Int) (n:Nat):List Kv:=((List.range n).filter λk=>decide (¬ vl b top k=0)).map λk=>(((k:Nat):Int),vl b top k)
theorem Qv (b:Bls) (top:List Int) (n:Nat):(ksT b top n).length<=n:=by
 unfold ksT;rw [Ak8];exact Ale (AlV _ _) Z
theorem Oz (b:Bls) (top:List Int) (n:Nat):ksT b top (n+1)=ksT b top n++(if vl b top n=0 then []else [((n:Int),vl b top n)]):=by
 unfold ksT;rw [Aml,Al8,Alk];by_cases h:vl b top n=0 <;> simp [h]
theorem Aca {b:Bls} {top:List Int} (ht:top.length=32) (root:Int):JJ root top (top.map (lfv b))=some (ksT b top 1024):=by
 unfold JJ;have h:=Am Fk (λk=>(ksT b top k,((k:Nat):Int),root,top,top.map (lfv b))) 1024 (ksT b top 1024) (λk hk=>by
  have hl:=Qv b top k;unfold Fk cK wI;dsimp only;rw [iy O,PL ht root hk,AkB,Oz];by_cases hz:vl b top k=0
  .rw [ino (by simp [hz]),AkB,AkH hz,AkT,Ak O]
  .rw [iy hz,AkH (by simp only [Aa,decide_eq_true_eq,AkO];omega),AkB,AkG hz,Ak O]) (by
  unfold Fk cK wI;dsimp only;rw [ino O])
 rw [show Ab Fk ([],0,root,top,top.map (lfv b))=_ from h];rfl
def kL (b:Bls) (top:List Int) (k m:Nat):List Kv:=((List.range m).filter λi=>decide (¬ gb (lfs b (gb top k)) i=0)).map λi=>(((32 * k+i:Nat):Int),gb (lfs b (gb top k)) i)
theorem Ui (b:Bls) (top:List Int) (k m:Nat):kL b top k (m+1)=kL b top k m++(if gb (lfs b (gb top k)) m=0 then []else [(((32 * k+m:Nat):Int),gb (lfs b (gb top k)) m)]):=by
 unfold kL;rw [Aml,Al8,Alk];by_cases h:gb (lfs b (gb top k)) m=0 <;> simp [h]
theorem Adn (b:Bls) (top:List Int) (k m:Nat):(kL b top k m).length<=m:=by
 unfold kL;rw [Ak8];exact Ale (AlV _ _) Z
theorem Abh (b:Bls) (a:Int):(lfs b a).length<=32:=by
 unfold lfs;split
 .simp
 .rw [Fs];exact Ak9 _
def kS (b:Bls) (top:List Int) (n:Nat):List Kv:=(List.range n).flatMap λk=>kL b top k (lfs b (gb top k)).length
theorem Uq (b:Bls) (top:List Int) (n:Nat):kS b top (n+1)=kS b top n++kL b top n (lfs b (gb top n)).length:=by
 unfold kS;rw [Aml,AlW];simp
theorem AcS (b:Bls) (top:List Int):∀n,(kS b top n).length<=32 * n
 | 0=>by simp [kS]
 | n+1=>by
  rw [Uq,AkJ];have h1:=AcS b top n;have h2:=Adn b top n (lfs b (gb top n)).length;have h3:=Abh b (gb top n);omega
theorem Ain {b:Bls} {top:List Int} {k i:Nat} (hi:i < 32):vl b top (32 * k+i)=gb (lfs b (gb top k)) i:=by
 unfold vl;rw [show(32 * k+i) / 32=k by omega,show(32 * k+i) % 32=i by omega];unfold lfv lfs;split
 .unfold gb zer;rw [List.getElem?_replicate_of_lt hi];simp
 .rfl
theorem UZ (b:Bls) (top:List Int) (n:Nat):∀m,m<=32->ksT b top (32 * n+m)=ksT b top (32 * n)++kL b top n m
 | 0,_=>by simp [kL]
 | m+1,h=>by
  rw [(O:32 * n+(m+1)=32 * n+m+1),Oz,UZ b top n m O,Ui,AkN,Ain O]
theorem AgT (b:Bls) (top:List Int) (k:Nat):kL b top k 32=kL b top k (lfs b (gb top k)).length:=by
 by_cases h:gb top k=0
 .have e:lfs b (gb top k)=[]:=by unfold lfs;rw [AkH h]
  have:∀m,kL b top k m=[]:=by
   intro m
   induction m with
   | zero=>rfl
   | succ m ih=>rw [Ui,ih,e];simp [gb]
  rw [this,this]
 .have e:(lfs b (gb top k)).length=32:=by unfold lfs;rw [AkG h,Fs]
  rw [e]
theorem Ada (b:Bls) (top:List Int):∀n,kS b top n=ksT b top (32 * n)
 | 0=>rfl
 | n+1=>by rw [Uq,Ada b top n,(O:32 * (n+1)=32 * n+32),UZ b top n 32 O,AgT]
theorem Adv {b:Bls} {x y z top:List Int} {root:Int} (h:SB b x y z) (hg:gsp b x y z=true) (hu:∀c∈b,U8s c) (ht:tre b x y root=some top):NN b x y z root=some (ksT b top 1024,true):=by
 have hl:=In ht;have gs:=Qx hg;unfold NN;rw [HZ h hu,hg,ht,AkB];simp only [Option.isSome_some,Bool.and_self,Alt,AkR,Alg];rw [PB (gs.rs h hu),ht,AkB];dsimp only [trS];have h2:=Am HF (λk=>(kS b top k,top.map (lfs b),((32:Nat):Int),((k:Nat):Int))) 32 (kS b top 32) (λk hk=>by
  have hgk:(top.map (lfs b))[k]?=some (lfs b (gb top k)):=by rw [Ali,Ai O];rfl
  have hll:=Abh b (gb top k);have h1:=Am Hw (λi=>(kS b top k++kL b top k i,(k:Int),top.map (lfs b),((32:Nat):Int),(k:Int),((0+Int.toNat (k:Int):Nat):Int),(((lfs b (gb top k)).length:Nat):Int),((i:Nat):Int))) (lfs b (gb top k)).length (kS b top (k+1),top.map (lfs b),((32:Nat):Int),(k:Int)) (λi hi=>by
   have hkl:=Adn b top k i;have hks:=AcS b top k;have ew:IntKind.wrap .i64 ((IntKind.wrap .i64 (32 * (k:Int)))+(i:Int))=((32 * k+i:Nat):Int):=by rw [w64 (n:=32 * (k:Int)) O O,w64 O O];omega
   unfold Hw cK cZ wI;dsimp only;rw [iy O,iy O,AkE,AkE,AkZ,hgk,AkB,iy O,AkB,AkE,AkZ,Ai hi,AkB,ew,Ui];by_cases hz:gb (lfs b (gb top k)) i=0
   .rw [ino (by simp [hz]),AkB,AkH hz,AkT];dsimp only;rw [Ak O,AkE]
   .rw [iy hz,AkH (by simp only [Aa,decide_eq_true_eq,AkO,AkJ];omega),AkB,AkG hz];dsimp only;rw [Ak O,AkE,AkN]) (by
   unfold Hw cK cZ wI;dsimp only;rw [ino O,Uq])
  have e0:kS b top k++kL b top k 0=kS b top k:=by simp [kL]
  rw [e0]at h1;unfold HF cK cZ wI;dsimp only;rw [iy O,iy O,iy (by rw [Ak8];omega),AkE,AkZ,hgk,AkB,AkB];rw [show Ab Hw (kS b top k,(k:Int),top.map (lfs b),((32:Nat):Int),(k:Int),(k:Int),(((lfs b (gb top k)).length:Nat):Int),0)=some (kS b top (k+1),top.map (lfs b),((32:Nat):Int),(k:Int)) by
   rw [AkE,AkZ]at h1;exact h1,AkB]
  dsimp only;rw [Ak O]) (by
  unfold HF cK cZ wI;dsimp only;rw [ino O])
 rw [Ak8,hl,show Ab HF ([],top.map (lfs b),((32:Nat):Int),0)=_ from h2,AkB,Ada]
theorem AeY {l:List Kv} (hl:l.length<=1048576) (key:Int) (a1 a2 a3 a4 a5:Int) (b:Bls) (x y z:List Int) (f:Int) (t:List UInt8) (r:List (Int×Int)) (cs:List (List Prt)) (rc:List Int) :
  DS a1 a2 a3 a4 a5 b x y z l f t r cs rc key=some (((l.find? λp=>decide (p.1=key)).map (·.2)).getD 0):=by
 unfold DS;rcases BW Ek (λi=>(key,l,(l.length:Int),((i:Nat):Int))) (λi=>!decide ((sg l i).1=key)) (λi=>(sg l i).2) () l.length (λi hi=>by
  unfold Ek gX wI;dsimp only;rw [iy O,iy O,AkE,Jj hi,AkB,Ak O];by_cases h:(sg l i).1=key <;> simp [h]) (by
  unfold Ek gX wI;dsimp only;rw [ino O])with⟨ha,h⟩ | ⟨k,hk,hp,ha,h⟩
 .rw [show Ab Ek (key,l,(l.length:Int),0)=_ from h];have:l.find? (λp=>decide (p.1=key))=none:=by
   rw [List.find?_eq_none];intro p hp;obtain ⟨i,hi,rfl⟩:=Alh hp;have h1:=ha i hi;have h2:=Jj hi;rw [AkD hi]at h2;injection h2 with h2
   rw [h2];simpa using h1
  rw [this];rfl
 .rw [show Ab Ek (key,l,(l.length:Int),0)=_ from h];have:l.find? (λp=>decide (p.1=key))=some (sg l k):=by
   rw [List.find?_eq_some_iff_getElem];have h2:=Jj hk;rw [AkD hk]at h2;injection h2 with h2
   refine⟨by simpa using hp,k,hk,h2,λj hj=>?_⟩;have h3:=Jj (O:j < l.length);rw [AkD (O:j < l.length)]at h3;injection h3 with h3
   rw [h3];exact ha j hj
  rw [this];rfl
theorem XT (b:Bls) (top:List Int) (key:Nat):∀n,((ksT b top n).find? λp=>decide (p.1=(key:Int)))=if key < n/\¬ vl b top key=0 then some ((key:Int),vl b top key)else none
 | 0=>by simp [ksT]
 | n+1=>by
  rw [Oz,List.find?_append,XT b top key n];by_cases hn:key=n
  .subst hn;rw [AkG O];by_cases hz:vl b top key=0
   .rw [AkH hz,AkG (λq=>q.2 hz)];rfl
   .rw [AkG hz,AkH ⟨O,hz⟩];simp
  .have hne:¬ (n:Int)=(key:Int):=O
   have e:List.find? (λp:Kv=>decide (p.1=(key:Int))) (if vl b top n=0 then []else [((n:Int),vl b top n)])=none:=by
    split
    .rfl
    .rw [List.find?_cons];simp [hne]
   rw [e,Option.or_none];by_cases hk:key < n/\¬ vl b top key=0
   .rw [AkH hk,AkH ⟨O,hk.2⟩]
   .rw [AkG hk,AkG (λq=>hk ⟨O,q.2⟩)]
theorem AiW (b:Bls) (top:List Int) {key:Nat} (hk:key < 1024):(((ksT b top 1024).find? λp=>decide (p.1=(key:Int))).map (·.2)).getD 0=vl b top key:=by
 rw [XT];by_cases h:vl b top key=0
 .rw [AkG (λq=>q.2 h),h];rfl
 .rw [AkH ⟨hk,h⟩];rfl
end Go.V.G
set_option maxRecDepth 100000
namespace Go.V.G
open Go.V
def skn (f k n:Nat):List (Int×Int):=((List.range n).filter λi=>decide (f<=i * 2 ^ k)).map λi=>((k:Int),((i:Nat):Int))
def stk (f h:Nat):Nat->List (Int×Int)
 | 0=>[]
 | k+1=>stk f h k++skn f k (h / 2 ^ k)
def sts (f h:Nat):List (Int×Int):=stk f h 6
theorem Jn (f k n:Nat):skn f k (n+1)=skn f k n++(if f<=n * 2 ^ k then [((k:Int),(n:Int))]else []):=by
 unfold skn;rw [Aml,Al8,Alk];by_cases h:f<=n * 2 ^ k <;> simp [h]
theorem TJ (f k n:Nat):(skn f k n).length<=n:=by
 unfold skn;rw [Ak8];exact Ale (AlV _ _) Z
theorem Qp (f h:Nat):∀k,(stk f h k).length<=k * h
 | 0=>by simp [stk]
 | k+1=>by
  unfold stk;rw [AkJ,AmC];have h1:=Qp f h k;have h2:=TJ f k (h / 2 ^ k);have h3:=AmW h (2 ^ k);omega
theorem NS (f k:Nat):∀n,n<=(f+2 ^ k - 1) / 2 ^ k->skn f k n=[]
 | 0,_=>rfl
 | n+1,hn=>by
  rw [Jn,NS f k n O,AkG,AkT];have hp:0 < 2 ^ k:=Amf Z;have:=(Nat.le_div_iff_mul_le hp).1 hn;rw [AmC]at this;omega
theorem Agr {f k n:Nat} (hn:(f+2 ^ k - 1) / 2 ^ k<=n):f<=n * 2 ^ k:=by
 have hp:0 < 2 ^ k:=Amf Z;have:¬ n+1<=(f+2 ^ k - 1) / 2 ^ k:=O
 rw [Nat.le_div_iff_mul_le hp,AmC]at this;omega
theorem AcA:∀{k:Nat},k < 6->(2:Int) ^ (min (Int.toNat (k:Int)) (IntKind.bits .i64))=((2 ^ k:Nat):Int)/\2 ^ k<=32/\(2:Int) ^ (min (Int.toNat (IntKind.wrap .u64 (k:Int))) (IntKind.bits .i64))=((2 ^ k:Nat):Int)/\IntKind.wrap .u64 (k:Int)=(k:Int)
 | 0,_=>by decide
 | 1,_=>by decide
 | 2,_=>by decide
 | 3,_=>by decide
 | 4,_=>by decide
 | 5,_=>by decide
 | k+6,h=>by omega
theorem NA {k i:Nat} (hk:k < 6) (hi:i<=1000):IntKind.wrap .i64 ((i:Int) * (2:Int) ^ (min (Int.toNat (k:Int)) (IntKind.bits .i64)))=((i * 2 ^ k:Nat):Int):=by
 obtain ⟨h1,h2,_⟩:=AcA hk;rw [h1,<- Int.natCast_mul];have:i * 2 ^ k<=1000 * 32:=Nat.mul_le_mul hi h2;rw [w64 O O]
theorem lt_dv {h k i:Nat}:(i+1) * 2 ^ k<=h↔i < h / 2 ^ k:=by
 have hp:0 < 2 ^ k:=Amf Z;rw [<- Nat.le_div_iff_mul_le hp];omega
theorem N6 {f h:Nat} (hh:h<=60):KQ (f:Int) (h:Int)=some (sts f h):=by
 unfold KQ;have h2:=Am IQ (λk=>((f:Int),(h:Int),stk f h k,((k:Nat):Int))) 6 (sts f h) (λk hk=>by
  obtain ⟨p1,p2,p3,p4⟩:=AcA hk;have hp:0 < 2 ^ k:=Amf Z;have hdl:=AmW h (2 ^ k);have hsk:=Qp f h k;have hkh:k * h<=6 * 60:=Nat.mul_le_mul O hh;have h1:=Am I8 (λi=>((f:Int),(h:Int),stk f h k++skn f k i,(k:Int),((i:Nat):Int))) (h / 2 ^ k) ((f:Int),(h:Int),stk f h (k+1),(k:Int)) (λi hi=>by
   have hl:=TJ f k i;have hm:=(lt_dv (h:=h) (k:=k) (i:=i)).2 hi;unfold I8 cK cZ wI;dsimp only;rw [p4,iy O,Ak O,NA hk O,iy O,iy O,NA hk O];by_cases hz:f<=i * 2 ^ k
   .rw [iy O,AkH (by simp only [Aa,decide_eq_true_eq,AkO,AkJ];omega),AkB,Jn,AkH hz,AkN];dsimp only;rw [Ak O]
   .rw [ino O,AkB,Jn,AkG hz,AkT];dsimp only;rw [Ak O]) (by
   have hm:¬ (h / 2 ^ k+1) * 2 ^ k<=h:=λq=>Nat.lt_irrefl _ (lt_dv.1 q)
   unfold I8 cK cZ wI;dsimp only;rw [p4,iy O,Ak O,NA hk O,ino O];rfl)
  have e0:stk f h k++skn f k 0=stk f h k:=by simp [skn]
  rw [e0]at h1;unfold IQ wI;dsimp only;rw [iy O,show Ab I8 ((f:Int),(h:Int),stk f h k,(k:Int),0)=_ from h1,AkB];dsimp only;rw [Ak O]) (by
  unfold IQ wI;dsimp only;rw [ino O];rfl)
 rw [show Ab IQ ((f:Int),(h:Int),[],0)=_ from h2];rfl
theorem TP {f h:Nat} (hf:f<=h) (hh:h<=60):JR (f:Int) (h:Int)=some (sts f h):=by
 unfold JR;have h2:=Am Fi (λk=>((f:Int),(h:Int),stk f h k,((k:Nat):Int))) 6 (sts f h) (λk hk=>by
  obtain ⟨p1,p2,p3,p4⟩:=AcA hk;have hp:0 < 2 ^ k:=Amf Z;have hdl:=AmW h (2 ^ k);have hsk:=Qp f h k;have hkh:k * h<=6 * 60:=Nat.mul_le_mul O hh;have he0:(f+2 ^ k - 1) / 2 ^ k<=f+2 ^ k - 1:=AmW _ _;have h1:=Am Hj (λj=>((f:Int),(h:Int),stk f h k++skn f k ((f+2 ^ k - 1) / 2 ^ k+j),(k:Int),(((f+2 ^ k - 1) / 2 ^ k+j:Nat):Int),(k:Int))) (h / 2 ^ k - (f+2 ^ k - 1) / 2 ^ k) ((f:Int),(h:Int),stk f h (k+1),(k:Int)) (λj hj=>by
   have hl:=TJ f k ((f+2 ^ k - 1) / 2 ^ k+j);have hm:=(lt_dv (h:=h) (k:=k) (i:=(f+2 ^ k - 1) / 2 ^ k+j)).2 O;unfold Hj cK cZ wI;dsimp only;rw [iy O,Ak O,NA hk O,iy O,AkH (by simp only [Aa,decide_eq_true_eq,AkO,AkJ];omega),<- AlU,Jn,AkH (Agr O),AkN]) (by
   have hm:¬ ((f+2 ^ k - 1) / 2 ^ k+(h / 2 ^ k - (f+2 ^ k - 1) / 2 ^ k)+1) * 2 ^ k<=h:=λq=>by have:=lt_dv.1 q;omega
   have es:skn f k ((f+2 ^ k - 1) / 2 ^ k+(h / 2 ^ k - (f+2 ^ k - 1) / 2 ^ k))=skn f k (h / 2 ^ k):=by
    by_cases hq:(f+2 ^ k - 1) / 2 ^ k<=h / 2 ^ k
    .rw [show(f+2 ^ k - 1) / 2 ^ k+(h / 2 ^ k - (f+2 ^ k - 1) / 2 ^ k)=h / 2 ^ k by omega]
    .rw [NS f k _ O,NS f k _ O]
   unfold Hj cK cZ wI;dsimp only;rw [iy O,Ak O,NA hk O,ino O,es];rfl)
  rw [Al4,NS f k _ (Ak9 _),AkT]at h1;have e1:IntKind.wrap .i64 (1 * ((2 ^ k:Nat):Int))=((2 ^ k:Nat):Int):=by rw [Int.one_mul,w64 O O]
  have e2:IntKind.wrap .i64 ((f:Int)+((2 ^ k:Nat):Int))=((f+2 ^ k:Nat):Int):=by rw [w64 O O];omega
  have e3:IntKind.wrap .i64 (((f+2 ^ k:Nat):Int) - 1)=((f+2 ^ k - 1:Nat):Int):=by rw [w64 O O];omega
  unfold Fi cZ wI;dsimp only;rw [iy O,iy O,iy O,p1,e1,e2,e3,AmF _ O,<- Int.natCast_ediv,h1,AkB];dsimp only;rw [Ak O]) (by
  unfold Fi cZ wI;dsimp only;rw [ino O];rfl)
 rw [show Ab Fi ((f:Int),(h:Int),[],0)=_ from h2];rfl
def ky (s:Int×Int):Nat:=64 * s.1.toNat+s.2.toNat
structure St8 (f h:Nat) (s:Int×Int) (k i:Nat):Prop where
 e:s=((k:Int),(i:Int))
 hk:k < 6
 lo:f<=i * 2 ^ k
 hi:(i+1) * 2 ^ k<=h
theorem skn_mem {f k n:Nat} {s:Int×Int}:s∈skn f k n↔∃i,i < n/\f<=i * 2 ^ k/\s=((k:Int),((i:Nat):Int)):=by
 unfold skn;simp only [AkY,Ams,Amd,decide_eq_true_eq];constructor
 .rintro ⟨i,⟨h1,h2⟩,rfl⟩;exact⟨i,h1,h2,rfl⟩
 .rintro ⟨i,h1,h2,rfl⟩;exact⟨i,⟨h1,h2⟩,rfl⟩
theorem Aba {f h:Nat} {s:Int×Int}:∀{n:Nat},s∈stk f h n↔∃k i,k < n/\i < h / 2 ^ k/\f<=i * 2 ^ k/\s=(((k:Nat):Int),((i:Nat):Int))
 | 0=>by simp [stk]
 | n+1=>by
  unfold stk;rw [AkK,Aba,skn_mem];constructor
  .rintro (⟨k,i,h1,h2⟩ | ⟨i,h1,h2⟩)
   .exact⟨k,i,O,h2⟩
   .exact⟨n,i,O,h1,h2⟩
  .rintro ⟨k,i,h1,h2⟩;by_cases hk:k=n
   .subst hk;exact .inr ⟨i,h2⟩
   .exact .inl ⟨k,i,O,h2⟩
theorem sts_mem {f h:Nat} {s:Int×Int}:s∈sts f h↔∃k i,St8 f h s k i:=by
 unfold sts;rw [Aba];constructor
 .rintro ⟨k,i,h1,h2,h3,h4⟩;exact⟨k,i,h4,h1,h3,lt_dv.2 h2⟩
 .rintro ⟨k,i,h⟩;exact⟨k,i,h.hk,lt_dv.1 h.hi,h.lo,h.e⟩
theorem St8.lt {f h k i:Nat} {s:Int×Int} (g:St8 f h s k i) (hh:h<=60):i < 60/\ky s=64 * k+i/\64 * k+i < 384:=by
 have h1:=lt_dv.1 g.hi;have h2:=AmW h (2 ^ k);have h3:=g.hk;refine⟨O,?_,O⟩;unfold ky;rw [g.e];simp
theorem Tc (a b c:Int):BD a b c=some (decide (b<=a) && decide (a<=c)):=by
 unfold BD;by_cases h:b<=a <;> simp [h]
theorem KE {k i:Nat} (hk:k < 6) (hi:i < 64):Gg (k:Int) (i:Int)=some ((64 * k+i:Nat):Int):=by
 unfold Gg wI;rw [Tc,AkB,decide_eq_true (show(0:Int)<=(k:Int) by omega),decide_eq_true (show(k:Int)<=5 by omega),Tc,AkB,decide_eq_true (show(0:Int)<=(i:Int) by omega),decide_eq_true (show(i:Int)<=63 by omega)];simp only [Bool.and_self,Alt,AkR,Alg,AkB];rw [w64 (n:=64 * (k:Int)) O O,w64 O O]
 congr 1
theorem Abv {k i:Nat} (hk:k < 6) (hi:i < 64):Nj (k:Int) (i:Int)=some ((64 * k+i:Nat):Int):=by
 unfold Nj wI;rw [AI,AkB,decide_eq_true (show(0:Int)<=(k:Int)/\(k:Int)<=5 by omega),AI,AkB,decide_eq_true (show(0:Int)<=(i:Int)/\(i:Int)<=63 by omega)];simp only [Bool.and_self,Alt,AkR,Alg,AkB];rw [w64 (n:=64 * (k:Int)) O O,w64 O O]
 congr 1
theorem Ac2 {k i:Nat} (hk:k < 6) (hi:i < 64):ES (k:Int) (i:Int)=some ((i * 2 ^ k:Nat):Int):=by
 unfold ES cZ wI;rw [iy O,NA hk O]
theorem Aht {k i:Nat} (hk:k < 6) (hi:i < 64):Gu (k:Int) (i:Int)=some (((i+1) * 2 ^ k:Nat):Int):=by
 unfold Gu cZ wI;rw [iy O,Ak O,NA hk O]
def ckn (f e n:Nat):List Nat:=((List.range n).map (f+1 + ·)).filter λr=>decide (r % e=0)
theorem Rk (f e n:Nat):ckn f e (n+1)=ckn f e n++(if(f+1+n) % e=0 then [f+1+n]else []):=by
 unfold ckn;rw [Aml,Alk,Al8];by_cases h:(f+1+n) % e=0 <;> simp [h]
theorem QB (f e n:Nat):(ckn f e n).length<=n:=by
 unfold ckn;exact Ale (AlV _ _) Z
def cks (f h e:Nat):List Nat:=ckn f e (h - f)
theorem cks_mem {f h e r:Nat}:r∈cks f h e↔f < r/\r<=h/\r % e=0:=by
 unfold cks ckn;simp only [Ams,AkY,Amd,decide_eq_true_eq];constructor
 .rintro ⟨⟨a,h1,rfl⟩,h2⟩;exact⟨O,O,h2⟩
 .rintro ⟨h1,h2,h3⟩;exact⟨⟨r - (f+1),O,O⟩,h3⟩
theorem Xr {a e:Nat}:Int.tmod (a:Int) (e:Int)=((a % e:Nat):Int):=by
 rw [Amc O];rfl
theorem ZC {f h e:Nat} (hf:f<=h) (hh:h<=60) (he:0 < e) (he2:e<=30):NG (f:Int) (h:Int) (e:Int)=some ((cks f h e).map λr=>((r:Nat):Int)):=by
 unfold NG wI;have h2:=Am HN (λn=>((h:Int),(e:Int),(ckn f e n).map (λr=>((r:Nat):Int)),((f+1+n:Nat):Int))) (h - f) ((cks f h e).map λr=>((r:Nat):Int)) (λn hn=>by
  have hl:=QB f e n;unfold HN cK wI;dsimp only;rw [iy O,iy O,Xr,Rk];by_cases hz:(f+1+n) % e=0
  .rw [iy O,AkH (by simp only [Aa,decide_eq_true_eq,AkO,Ak8];omega),AkB,AkH hz,Alk];dsimp only;rw [Ak O];rfl
  .rw [ino O,AkB,AkG hz,AkT];dsimp only;rw [Ak O];rfl) (by
  unfold HN cK wI;dsimp only;rw [ino O];rfl)
 rw [Ak O,show Ab HN ((h:Int),(e:Int),[],((f+1:Nat):Int))=_ from h2];rfl
end Go.V.G
set_option maxRecDepth 100000
namespace Go.V.G
open Go.V
theorem Ahl:Ris ([]:List Int):=by rw [ris_iff];exact List.Pairwise.nil
noncomputable abbrev srt (l:List Int):List Int:=pts [] l
theorem J5 {l:List Int} (h:l.length<=1000000):Ris (srt l)/\(srt l).length<=l.length/\∀v,v∈srt l↔v∈l:=by
 obtain ⟨h1,h2,h3⟩:=AcE Ahl (l:=l) (by simp only [Alc];omega);refine⟨h1,by simpa using h2,λv=>by rw [h3 v];simp⟩
theorem Gh {l:List Int} (h:l.length<=1000000) (v:Int):Dc (srt l) v=some (srt (l++[v]))/\H5 (srt l) v=some (srt (l++[v])):=by
 obtain ⟨h1,h2,h3⟩:=J5 h;obtain ⟨p1,p2,_⟩:=Mu (z:=srt l) O h1 v;have e:srt (l++[v])=pt (srt l) v:=Afo [] l v;rw [e];exact⟨p1,p2⟩
theorem SC {l:List Int} {i:Nat} {v:Int} (h:l[i]?=some v):(l.take (i+1)).filter (λv=>decide (¬ v=0))=(l.take i).filter (λv=>decide (¬ v=0))++(if v=0 then []else [v]):=by
 rw [CE h,Al8];by_cases h0:v=0 <;> simp [h0]
def pgl (top:List Int) (root:Int):List Int:=(top++[root]).filter (λv=>decide (¬ v=0))
theorem Aa3 {top:List Int} {root:Int} (h:top.length=32):(pgl top root).length<=33:=by
 unfold pgl;have:=AlV (λv=>decide (¬ v=0)) (top++[root]);rw [AkJ,AkO,h]at this;omega
theorem AeS {b:Bls} {x y z top:List Int} {root:Int} (h:SB b x y z) (hu:∀c∈b,U8s c) (hg:gsp b x y z=true) (ht:tre b x y root=some top):LW b x y z root=some (srt (pgl top root),true):=by
 have htl:=In ht;unfold LW pgl cK;rw [HZ h hu,hg,ht,AkB,AkG Z,PB ((Qx hg).rs h hu),ht,AkB];unfold trS;dsimp only;rw [AkH (Aal O _)];generalize hL:top++[root]=L;have hLl:L.length=33:=by rw [<- hL];simp [htl]
 have hl:=Am GI (λi=>(srt ((L.take i).filter (λv=>decide (¬ v=0))),L,(L.length:Int),((i:Nat):Int))) L.length (srt ((L.take L.length).filter (λv=>decide (¬ v=0)))) (λi hi=>by
  have hgi:=Ai hi;have hfl:=AlV (λv=>decide (¬ v=0)) (L.take i);rw [AkL]at hfl;have hput:=(Gh (l:=(L.take i).filter (λv=>decide (¬ v=0))) O (gb L i)).1;unfold GI cK cZ wI;dsimp only;rw [iy O,iy O,iy O,AkZ,AkE,hgi,AkB,SC hgi];by_cases h0:gb L i=0
  .rw [ino (not_not_intro h0),AkB,AkH h0,AkT];dsimp only;rw [Ak O]
  .rw [iy h0,hput,AkB,AkB,AkG h0];dsimp only;rw [Ak O]) (by
  unfold GI cK cZ wI;dsimp only;rw [ino O])
 rw [show Ab GI ([],L,(L.length:Int),0)=_ from hl,Alq];rfl
theorem Ae3 {top:List Int} (htl:top.length=32) (root:Int) (v:List (List Int)):IC root top v=some (srt (pgl top root)):=by
 unfold IC pgl cK;rw [Ab6 O,AkB,AkH (Aal O _)];generalize hL:top++[root]=L;have hLl:L.length=33:=by rw [<- hL];simp [htl]
 have hl:=Am Ey (λi=>(srt ((L.take i).filter (λv=>decide (¬ v=0))),L,(L.length:Int),((i:Nat):Int))) L.length (srt ((L.take L.length).filter (λv=>decide (¬ v=0)))) (λi hi=>by
  have hgi:=Ai hi;have hfl:=AlV (λv=>decide (¬ v=0)) (L.take i);rw [AkL]at hfl;have hput:=(Gh (l:=(L.take i).filter (λv=>decide (¬ v=0))) O (gb L i)).2;unfold Ey cK cZ wI;dsimp only;rw [iy O,iy O,iy O,AkZ,AkE,hgi,AkB,SC hgi];by_cases h0:gb L i=0
  .rw [ino (not_not_intro h0),AkB,AkH h0,AkT];dsimp only;rw [Ak O]
  .rw [iy h0,hput,AkB,AkB,AkG h0];dsimp only;rw [Ak O]) (by
  unfold Ey cK cZ wI;dsimp only;rw [ino O])
 rw [show Ab Ey ([],L,(L.length:Int),0)=_ from hl,Alq];rfl
def kyI (s:Int×Int):Int:=(ky s:Int)
def ckI (r:Nat):Int:=((384+r:Nat):Int)
def ID (f h e:Nat):List Int:=(sts f h).map kyI++((cks f h e).map ckI++[448])
noncomputable def wnt (f h e:Nat):List Int:=srt (ID f h e)
theorem Il {f h:Nat} (hh:h<=60):(sts f h).length<=360:=by
 have:=Qp f h 6;unfold sts;omega
theorem Nn {f h e:Nat} (hh:h<=60):(cks f h e).length<=60:=by
 have:=QB f e (h - f);unfold cks;omega
theorem Ad2 {f h e:Nat} (hh:h<=60):(ID f h e).length<=421:=by
 have h1:=Il (f:=f) hh;have h2:=Nn (f:=f) (e:=e) hh;unfold ID;simp only [AkJ,Ak8,AkO];omega
theorem P5 {f h:Nat} {i:Nat} (hi:i < (sts f h).length):∃k j,St8 f h (sts f h)[i] k j:=sts_mem.1 (Ak1 hi)
theorem ZS {f h e:Nat} (hf:f<=h) (hh:h<=60) (he:0 < e) (he2:e<=30):JF (f:Int) (h:Int) (e:Int)=some (wnt f h e):=by
 have hsl:=Il (f:=f) hh;unfold JF wI;rw [N6 hh,AkB];have h1:=Am E6 (λi=>((f:Int),(h:Int),(e:Int),srt (((sts f h).map kyI).take i),sts f h,(((sts f h).length:Nat):Int),((i:Nat):Int))) (sts f h).length ((f:Int),(h:Int),(e:Int),srt ((sts f h).map kyI)) (λi hi=>by
  obtain ⟨k,j,g⟩:=P5 hi;obtain ⟨l1,l2,l3⟩:=g.lt hh;have hk:=g.hk;have hget:(sts f h)[i]?=some ((sts f h)[i]):=AkD hi;have hml:((sts f h).map kyI)[i]?=some (((64 * k+j:Nat):Nat):Int):=by rw [Ali,hget];show some (kyI _)=_;unfold kyI;rw [l2]
  have hput:=(Gh (l:=((sts f h).map kyI).take i) (by rw [AkL,Ak8];omega) ((64 * k+j:Nat):Int)).1;unfold E6 cK cZ wI;dsimp only;rw [iy O,iy O,iy O,AkZ,AkE,hget,AkB,AkB];simp only [g.e];rw [KE hk O,AkB,hput,AkB,Ak O,CE hml]) (by
  unfold E6 cK cZ wI;dsimp only;rw [ino O,Alr Z])
 rw [show Ab E6 ((f:Int),(h:Int),(e:Int),[],sts f h,(((sts f h).length:Nat):Int),0)=_ from h1,AkB];dsimp only;have h2:=Am E5 (λn=>((h:Int),(e:Int),srt ((sts f h).map kyI++(ckn f e n).map ckI),((f+1+n:Nat):Int))) (h - f) (srt ((sts f h).map kyI++(cks f h e).map ckI)) (λn hn=>by
  have hl:=QB f e n;unfold E5 cK wI;dsimp only;rw [iy O,iy O,Xr,Rk];by_cases hz:(f+1+n) % e=0
  .have hput:=(Gh (l:=(sts f h).map kyI++(ckn f e n).map ckI) (by rw [AkJ,Ak8,Ak8];omega) (ckI (f+1+n))).1;have ew:IntKind.wrap .i64 (384+((f+1+n:Nat):Int))=ckI (f+1+n):=by rw [w64 O O];unfold ckI;omega
   rw [iy O,ew,hput,AkB,AkB,AkH hz,Alk,<- AkN];dsimp only;rw [Ak O];rfl
  .rw [ino O,AkB,AkG hz,AkT];dsimp only;rw [Ak O];rfl) (by
  unfold E5 cK wI;dsimp only;rw [ino O];rfl)
 have e0:(sts f h).map kyI++(ckn f e 0).map ckI=(sts f h).map kyI:=by simp [ckn]
 rw [e0]at h2;have hcl:=Nn (f:=f) (e:=e) hh;rw [Ak O,show Ab E5 ((h:Int),(e:Int),srt ((sts f h).map kyI),((f+1:Nat):Int))=_ from h2,AkB,
  (Gh (l:=(sts f h).map kyI++(cks f h e).map ckI) (by rw [AkJ,Ak8,Ak8];omega) 448).1,AkN]
 rfl
theorem AdS {f h e:Nat} (hh:h<=60):Ris (wnt f h e)/\(wnt f h e).length<=421/\∀v,v∈wnt f h e↔v∈ID f h e:=by
 have hl:=Ad2 (f:=f) (e:=e) hh;obtain ⟨h1,h2,h3⟩:=J5 (l:=ID f h e) O;exact⟨h1,by unfold wnt;omega,h3⟩
theorem AaE (b:Bls) (top:List Int):∀n,((ksT b top n).map (·.1)).Pairwise (· < ·)/\∀v∈(ksT b top n).map (·.1),v < ((n:Nat):Int)
 | 0=>by simp [ksT]
 | n+1=>by
  obtain ⟨h1,h2⟩:=AaE b top n;rw [Oz,Alk];by_cases hz:vl b top n=0
  .rw [AkH hz];refine⟨by simpa using h1,λv hv=>?_⟩;have:=h2 v (by simpa using hv);omega
  .rw [AkG hz];refine⟨?_,λv hv=>?_⟩
   .rw [Amm];refine⟨h1,Z,λa ha c hc=>?_⟩;simp only [Alo,AmS,AkM]at hc;rw [hc];exact h2 a ha
   .rcases AkK.1 hv with hv | hv
    .have:=h2 v hv;omega
    .simp only [Alo,AmS,AkM]at hv;omega
theorem ksT_mem {b:Bls} {top:List Int} {n:Nat} {v:Int}:v∈(ksT b top n).map (·.1)↔∃k:Nat,k < n/\¬ vl b top k=0/\v=(k:Int):=by
 unfold ksT;simp only [AlA,AkY,Ams,Amd,decide_eq_true_eq,Function.comp];constructor
 .rintro ⟨k,⟨h1,h2⟩,rfl⟩;exact⟨k,h1,h2,rfl⟩
 .rintro ⟨k,h1,h2,rfl⟩;exact⟨k,⟨h1,h2⟩,rfl⟩
noncomputable def kok (b:Bls) (top:List Int) (f h e:Nat):Bool:=decide ((ksT b top 1024).map (·.1)=wnt f h e)
theorem Aae {b:Bls} {top:List Int} {f h e:Nat} (hh:h<=60):kok b top f h e=true↔(∀k:Nat,k < 1024->¬ vl b top k=0->(k:Int)∈ID f h e)/\∀k:Nat,k < 1024->(k:Int)∈ID f h e->¬ vl b top k=0:=by
 obtain ⟨w1,_,w3⟩:=AdS (f:=f) (e:=e) hh;unfold kok;rw [decide_eq_true_eq];constructor
 .intro q;refine⟨λk hk hv=>?_,λk hk hm=>?_⟩
  .rw [<- w3,<- q];exact ksT_mem.2 ⟨k,hk,hv,rfl⟩
  .rw [<- w3,<- q]at hm;obtain ⟨k',h1,h2,h3⟩:=ksT_mem.1 hm;have:k'=k:=O
   rw [<- this];exact h2
 .rintro ⟨q1,q2⟩;refine Aah (ris_iff.2 (AaE b top 1024).1) w1 λv=>?_
  rw [w3,ksT_mem];constructor
  .rintro ⟨k,h1,h2,rfl⟩;exact q1 k h1 h2
  .intro hm;have hb:∃k:Nat,k < 1024/\v=(k:Int):=by
    unfold ID at hm;rcases AkK.1 hm with hm | hm
    .obtain ⟨s,hs,rfl⟩:=AkY.1 hm;obtain ⟨k,j,g⟩:=sts_mem.1 hs;obtain ⟨l1,l2,l3⟩:=g.lt hh;exact⟨ky s,O,rfl⟩
    .rcases AkK.1 hm with hm | hm
     .obtain ⟨r,hr,rfl⟩:=AkY.1 hm;have:=cks_mem.1 hr;exact⟨384+r,O,rfl⟩
     .exact⟨448,O,by simpa using hm⟩
   obtain ⟨k,hk,rfl⟩:=hb;exact⟨k,hk,q2 k hk hm,rfl⟩
end Go.V.G
set_option maxRecDepth 100000
namespace Go.V.G
open Go.V
theorem AeP {σ α:Type} {f:σ->α->Option σ} {xs:List α} {x y:σ} (h:∀l:List α,l.Perm xs->l.foldlM f x=some y):N2 f xs x=some y:=by
 have hx:∃y,∀l:List α,l.Perm xs->l.foldlM f x=some y:=⟨y,h⟩
 unfold N2;rw [dif_pos hx];have h1:=hx.choose_spec xs (List.Perm.refl _);rw [h xs (List.Perm.refl _)]at h1;exact h1.symm
def ndb (l:List Int):Bool:=decide l.Nodup
theorem Kq {l:List Int} {v:Int}:(l++[v]).Nodup↔l.Nodup/\v∉l:=by
 rw [AkX];constructor
 .rintro ⟨h1,_,h3⟩;exact⟨h1,λhv=>h3 v hv v Z rfl⟩
 .rintro ⟨h1,h2⟩;refine⟨h1,Z,λa ha c hc=>?_⟩;rw [AkM.1 hc];rintro rfl;exact h2 ha
theorem Xu (l:List Int) (v:Int):ndb (l++[v])=(ndb l && !decide (v∈l)):=by
 unfold ndb;by_cases h1:l.Nodup <;> by_cases h2:v∈l <;> simp [Kq,h1,h2]
def bd (fn:Bool) (l:List Int):Bool:=!(fn && ndb l)
theorem Aap (fn:Bool) (l:List Int) (v:Int):bd fn (l++[v])=if bd fn l=true then true else decide (v∈l):=by
 unfold bd;rw [Xu];cases fn <;> cases ndb l <;> simp
structure Led (C P bl:List Int):Prop where
 mem:∀v,v∈bl↔v∈C\/v∈P
 nd:bl.Nodup↔C.Nodup/\∀v∈P,v∉C
theorem Led.nil:Led [] [] []:=⟨Z,Z⟩
theorem Led.claim {C P bl:List Int} (h:Led C P bl) (v:Int):Led (C++[v]) P (bl++[v]):=by
 refine⟨λw=>?_,?_⟩
 .simp only [AkK,AkM,h.mem w];constructor
  .rintro ((h | h) | h)
   .exact .inl (.inl h)
   .exact .inr h
   .exact .inl (.inr h)
  .rintro ((h | h) | h)
   .exact .inl (.inl h)
   .exact .inr h
   .exact .inl (.inr h)
 .rw [Kq,Kq,h.nd,h.mem];constructor
  .rintro ⟨⟨h1,h2⟩,h3⟩;refine⟨⟨h1,λq=>h3 (.inl q)⟩,λw hw hm=>?_⟩;rcases AkK.1 hm with hm | hm
   .exact h2 w hw hm
   .rw [AkM.1 hm]at hw;exact h3 (.inr hw)
  .rintro ⟨⟨h1,h2⟩,h3⟩;refine⟨⟨h1,λw hw hm=>h3 w hw (Al5 _ hm)⟩,?_⟩;rintro (q | q)
   .exact h2 q
   .exact h3 v q Z
theorem Led.claims {P:List Int}:∀{l C bl:List Int},Led C P bl->Led (C++l) P (bl++l)
 | [],C,bl,h=>by simpa using h
 | v::l,C,bl,h=>by
  have:=Led.claims (l:=l) (h.claim v);simpa using this
theorem Led.piece {C P bl:List Int} (h:Led C P bl) (v:Int):Led C (P++[v]) (if v∈P then bl else bl++[v]):=by
 by_cases hv:v∈P
 .rw [AkH hv];refine⟨λw=>?_,?_⟩
  .rw [h.mem w,AkK,AkM];constructor
   .rintro (q | q)
    .exact .inl q
    .exact .inr (.inl q)
   .rintro (q | q | q)
    .exact .inl q
    .exact .inr q
    .exact .inr (by rw [q];exact hv)
  .rw [h.nd];constructor
   .rintro ⟨h1,h2⟩;refine⟨h1,λw hw=>?_⟩;rcases AkK.1 hw with hw | hw
    .exact h2 w hw
    .rw [AkM.1 hw];exact h2 v hv
   .rintro ⟨h1,h2⟩;exact⟨h1,λw hw=>h2 w (Al5 _ hw)⟩
 .rw [AkG hv];refine⟨λw=>?_,?_⟩
  .rw [AkK,h.mem w,AkK,AkM];constructor
   .rintro ((q | q) | q)
    .exact .inl q
    .exact .inr (.inl q)
    .exact .inr (.inr q)
   .rintro (q | q | q)
    .exact .inl (.inl q)
    .exact .inl (.inr q)
    .exact .inr q
  .rw [Kq,h.nd,h.mem];constructor
   .rintro ⟨⟨h1,h2⟩,h3⟩;refine⟨h1,λw hw=>?_⟩;rcases AkK.1 hw with hw | hw
    .exact h2 w hw
    .rw [AkM.1 hw];exact λq=>h3 (.inl q)
   .rintro ⟨h1,h2⟩;refine⟨⟨h1,λw hw=>h2 w (Al5 _ hw)⟩,?_⟩;rintro (q | q)
    .exact h2 v Z q
    .exact hv q
def bpn (P bl l:List Int):Nat->List Int
 | 0=>bl
 | i+1=>if gb l i∈P++l.take i then bpn P bl l i else bpn P bl l i++[gb l i]
theorem AaH {C P bl l:List Int} (h:Led C P bl):∀n,n<=l.length->Led C (P++l.take n) (bpn P bl l n)
 | 0,_=>by simpa [bpn] using h
 | n+1,hn=>by
  have h1:=(AaH (l:=l) h n O).piece (gb l n);rw [CE (Ai (O:n < l.length)),<- AkN];exact h1
theorem T1 (P bl l:List Int):∀n,(bpn P bl l n).length<=bl.length+n
 | 0=>by simp [bpn]
 | n+1=>by
  have:=T1 P bl l n;unfold bpn;split
  .omega
  .rw [AkJ,AkO];omega
theorem Afd (m:List (Int×Int)) (k v w:Int):CN (Du m k v) w=if w=k then v else CN m w:=by
 induction m with
 | nil=>
  unfold Du CN CN;by_cases h:k=w
  .subst h;simp
  .rw [AkG h,AkG (λq=>h q.symm)]
 | cons p m ih=>
  unfold Du;by_cases h:p.1=k
  .rw [AkH h];unfold CN;by_cases hw:k=w
   .subst hw;simp
   .rw [AkG hw,AkG (λq=>hw q.symm),AkG (by rw [h];exact hw)]
  .rw [AkG h];unfold CN;by_cases hw:p.1=w
   .rw [AkH hw,AkH hw,AkG (by rw [<- hw];exact h)]
   .rw [AkG hw,AkG hw];exact ih
theorem UW (m:List (Int×Int)) (k v:Int):∀w,w∈(Du m k v).map (·.1)↔w∈m.map (·.1)\/w=k:=by
 induction m with
 | nil=>intro w;simp [Du]
 | cons p m ih=>
  intro w;unfold Du;by_cases h:p.1=k
  .rw [AkH h];simp only [Alo,AkU,h];constructor
   .rintro (q | q)
    .exact .inr q
    .exact .inl (.inr q)
   .rintro ((q | q) | q)
    .exact .inl q
    .exact .inr q
    .exact .inl q
  .rw [AkG h];simp only [Alo,AkU,ih w];constructor
   .rintro (q | q | q)
    .exact .inl (.inl q)
    .exact .inl (.inr q)
    .exact .inr q
   .rintro ((q | q) | q)
    .exact .inl q
    .exact .inr (.inl q)
    .exact .inr (.inr q)
theorem Agt (m:List (Int×Int)) (k v:Int) (h:(m.map (·.1)).Nodup):((Du m k v).map (·.1)).Nodup:=by
 induction m with
 | nil=>simp [Du]
 | cons p m ih=>
  rw [Alo,Alv]at h;unfold Du;by_cases hk:p.1=k
  .rw [AkH hk,Alo,Alv];rw [hk]at h;exact h
  .rw [AkG hk,Alo,Alv];refine⟨λq=>?_,ih h.2⟩;rcases (UW m k v p.1).1 q with q | q
   .exact h.1 q
   .exact hk q
theorem WJ {m:List (Int×Int)} (h:(m.map (·.1)).Nodup):∀p∈m,CN m p.1=p.2:=by
 induction m with
 | nil=>intro p hp;cases hp
 | cons q m ih=>
  intro p hp;rw [Alo,Alv]at h;unfold CN;rcases AkU.1 hp with rfl | hp
  .rw [AkH rfl]
  .rw [AkG (λe=>h.1 (by rw [e];exact List.mem_map_of_mem hp))];exact ih h.2 p hp
def std (P:List Int):List (Int×Int):=P.foldl (λm k=>Du m k (CN m k+1)) []
theorem Oh (P:List Int) (v:Int):std (P++[v])=Du (std P) v (CN (std P) v+1):=by unfold std;rw [Ami];rfl
theorem Af0 {p:List Int->Prop} (h0:p []) (h1:∀l v,p l->p (l++[v])) (l:List Int):p l:=by
 have:∀n,∀l:List Int,l.length=n->p l:=by
  intro n
  induction n with
  | zero=>intro l hl;rw [List.length_eq_zero_iff.1 hl];exact h0
  | succ n ih=>
   intro l hl;have e:=List.dropLast_concat_getLast (l:=l) (by intro q;rw [q]at hl;cases hl);rw [<- e];exact h1 _ _ (ih _ (by rw [List.length_dropLast];omega))
 exact this _ l rfl
theorem XW (P:List Int):(∀v,CN (std P) v=(P.count v:Int))/\((std P).map (·.1)).Nodup/\∀v,v∈(std P).map (·.1)↔v∈P:=by
 refine Af0 (p:=λP=>(∀v,CN (std P) v=(P.count v:Int))/\((std P).map (·.1)).Nodup/\∀v,v∈(std P).map (·.1)↔v∈P) ?_ ?_ P
 .refine⟨λv=>by simp [std,CN],by simp [std],by simp [std]⟩
 .rintro P k ⟨h1,h2,h3⟩;refine⟨λv=>?_,?_,λv=>?_⟩
  .rw [Oh,Afd,h1,h1,List.count_append];by_cases h:v=k
   .subst h;rw [AkH rfl];simp
   .rw [AkG h];simp [List.count_cons,show ¬ k=v from λq=>h q.symm]
  .rw [Oh];exact Agt _ _ _ h2
  .rw [Oh,UW,h3,AkK,AkM]
theorem std_zero {P:List Int} {v:Int}:CN (std P) v=0↔v∉P:=by
 rw [(XW P).1 v];have:=List.count_pos_iff (l:=P) (a:=v);constructor
 .intro h q;have:=this.2 q;omega
 .intro h;have:¬ 0 < P.count v:=λq=>h (this.1 q)
  omega
theorem NW {l bl:List Int} (hl:bl.length+l.length<=100000) (fn:Bool) (ks rs:List Int) (d:Bls) (m:List (Int×Int)) :
  BM l ks bl rs (bd fn bl) d m=some (l,ks,bl++l,rs,bd fn (bl++l),d,m):=by
 unfold BM;have h:=Am Ch (λi=>(l,(l.length:Int),((i:Nat):Int),ks,bl++l.take i,rs,bd fn (bl++l.take i),d,m)) l.length (l,ks,bl++l,rs,bd fn (bl++l),d,m) (λi hi=>by
  have hg:=Ai hi;unfold Ch cK cZ wI;dsimp only;rw [iy O,iy O,iy O,AkZ,AkE,hg,AkB,CE hg,<- AkN,Aap];have hr:Aa ((bl++l.take i).length+([gb l i]:List Int).length) 8=true:=by simp only [Aa,decide_eq_true_eq,AkO,AkJ,AkL];omega
  by_cases hb:bd fn (bl++l.take i)=true
  .rw [AkH hb,AkB,AkH hb,AkH hr,Ak O]
  .rw [AkG hb,Gj (by rw [AkJ,AkL];omega),AkB,AkB,AkG hb,AkH hr,Ak O]) (by
  unfold Ch cK cZ wI;dsimp only;rw [ino O,Alq])
 rw [AmQ,AkT]at h;rw [show Ab Ch (l,(l.length:Int),0,ks,bl,rs,bd fn bl,d,m)=_ from h];rfl
theorem Za {l bl:List Int} (hl:bl.length+l.length<=100000) (fn:Bool) (ks rs:List Int) (d:Bls) (m:List (Int×Int)) :
  Eo l ks bl rs (bd fn bl) d m=some (ks,bl++l,rs,bd fn (bl++l),d,m):=by
 unfold Eo;have h:=Am CP (λi=>(l,(l.length:Int),((i:Nat):Int),ks,bl++l.take i,rs,bd fn (bl++l.take i),d,m)) l.length (ks,bl++l,rs,bd fn (bl++l),d,m) (λi hi=>by
  have hg:=Ai hi;unfold CP cK gX wI;dsimp only;rw [iy O,iy O,AkE,hg,AkB,CE hg,<- AkN,Aap];have hr:Aa ((bl++l.take i).length+([gb l i]:List Int).length) 8=true:=by simp only [Aa,decide_eq_true_eq,AkO,AkJ,AkL];omega
  by_cases hb:bd fn (bl++l.take i)=true
  .rw [AkH hb,AkB,AkH hb,AkH hr,Ak O]
  .rw [AkG hb,Gj (by rw [AkJ,AkL];omega),AkB,AkB,AkG hb,AkH hr,Ak O]) (by
  unfold CP cK gX wI;dsimp only;rw [ino O,Alq])
 rw [AmQ,AkT]at h;rw [show Ab CP (l,(l.length:Int),0,ks,bl,rs,bd fn bl,d,m)=_ from h];rfl
theorem Sn {b:Bls} {x y z:List Int} (g:RS b x y) (root:Int):IW (b,x,y,z) root=some (tin b x y root):=by
 unfold IW tin cK;rw [ZH g,AkB];cases hp:ptx b x y root with
 | none=>rfl
 | some l=>
  obtain ⟨⟨hall,hnd,hlen⟩,_⟩:=IV hp;dsimp only;rw [AkG Z];have hL:=Am Ep (λk=>(root,cat b (l.take k),l.take k,l.map (DG b),(l.length:Int),((k:Nat):Int))) l.length (root,cat b l,l) (λk hk=>by
   have hpk:=hall _ (Ak1 hk);have h1:=R9 (b:=b) (x:=x) (y:=y) (l:=l.take k) λv hv=>hall v (Ame hv)
   have h2:=Ab5 b hpk;rw [AkL]at h1;have hg:(l.map (DG b))[k]?=some (DG b l[k]):=by rw [Ali,AkD hk];rfl
   unfold Ep cK cZ wI;dsimp only;rw [iy O,iy O,iy (by rw [Ak8];omega),AkZ,AkE,hg,AkB,AkB,AkB,
    show(DG b l[k]).2.2=GD b l[k] from rfl,show(DG b l[k]).1=l[k] from rfl,iy O,AkH (by simp only [Aa,decide_eq_true_eq,AkO,AkL];omega),Ak O,YX b hk,Ak0 hk]) (by
   unfold Ep cK cZ wI;dsimp only;rw [ino O,Alq])
  have hL':Ab Ep (root,([]:List UInt8),[],l.map (DG b),(l.length:Int),0)=_:=hL;rw [Ak8,hL',AkB];dsimp only;rw [AkH (by simp only [Aa,decide_eq_true_eq,AkO];omega)]
theorem YT {b:Bls} {x y z:List Int} (g:RS b x y) {root:Int} (hp:ptx b x y root=none) (ks bl rs:List Int) (w:Bool) (d:Bls) (a1:Int) (a2:Bool) (a3 a4 a5 a6 a7 a8:Int) (m:List (Int×Int)) :
  Bm root ks bl rs w d a1 a2 a3 a4 a5 a6 a7 a8 b x y z m=some ([],ks,bl,rs,true,d,a1,a2,a3,a4,a5,a6,a7,a8,b,x,y,z,m):=by
 unfold Bm sX wI;rw [Sn g,AkB];unfold tin;rw [hp];rfl
theorem Xc {b:Bls} {x y z:List Int} (g:RS b x y) {root:Int} {l:List Int} (hp:ptx b x y root=some l) {P bl:List Int} (hbl:bl.length<=90000) (hP:P.length<=90000) (fn:Bool) (ks rs:List Int) (d:Bls) (a1:Int) (a2:Bool) (a3 a4 a5 a6 a7 a8:Int) :
  Bm root ks bl rs (bd fn bl) d a1 a2 a3 a4 a5 a6 a7 a8 b x y z (std P) =
   some (cat b l,ks,bpn P (bl++[root]) l l.length,rs,bd fn (bpn P (bl++[root]) l l.length),d,a1,a2,a3,a4,a5,a6,a7,a8,b,x,y,z,std (P++l)):=by
 obtain ⟨⟨hall,hnd,hlen⟩,_⟩:=IV hp;have hw:IntKind.wrap .i64 (((((l++[root]).length:Nat):Int)) - 1)=(l.length:Int):=by rw [AkJ,AkO,w64 O O];omega
 have hle:(l++[root]).length=l.length+1:=by simp
 have e1:(List.drop l.length (l++[root])).take (l.length+1 - l.length)=[root]:=by
  rw [List.drop_left,(O:l.length+1 - l.length=1)];rfl
 have e2:(List.drop (Int.toNat 0) (l++[root])).take (l.length - Int.toNat 0)=l:=by
  rw [show Int.toNat 0=0 from rfl,AlH,Amt,List.take_left]
 unfold Bm sX wI;rw [Sn g,AkB];unfold tin;rw [hp];dsimp only;rw [AkB];dsimp only;rw [AkG Z,hw,hle,iy O,iy O,iy O,iy O,AkE,AkE,e1,Za (by rw [AkO];omega),AkB];dsimp only;rw [iy O,iy O,iy O,iy O,e2];have h:=Am B8 (λi=>(cat b l,l,(l.length:Int),((i:Nat):Int),ks,bpn P (bl++[root]) l i,rs,bd fn (bpn P (bl++[root]) l i),d,a1,a2,a3,a4,a5,a6,a7,a8,b,x,y,z,std (P++l.take i))) l.length
   (cat b l,ks,bpn P (bl++[root]) l l.length,rs,bd fn (bpn P (bl++[root]) l l.length),d,a1,a2,a3,a4,a5,a6,a7,a8,b,x,y,z,std (P++l)) (λi hi=>by
  have hg:=Ai hi;have hbn:=T1 P (bl++[root]) l i;rw [AkJ,AkO]at hbn;have hc:IntKind.wrap .i64 (CN (std (P++l.take i)) (gb l i)+1)=CN (std (P++l.take i)) (gb l i)+1:=by
   rw [(XW _).1];have:=List.count_le_length (l:=P++l.take i) (a:=gb l i);rw [AkJ,AkL]at this;rw [w64 O O]
  have hst:std (P++l.take (i+1))=Du (std (P++l.take i)) (gb l i) (CN (std (P++l.take i)) (gb l i)+1):=by rw [CE hg,<- AkN,Oh]
  unfold B8 gX wI;dsimp only;rw [iy O,iy O,AkE,hg,AkB,hst];by_cases hz:gb l i∈P++l.take i
  .rw [ino (λq=>std_zero.1 q hz),AkB];dsimp only;have e:bpn P (bl++[root]) l (i+1)=bpn P (bl++[root]) l i:=by show(if _ then _ else _)=_;rw [AkH hz]
   rw [e,hc,Ak O]
  .rw [iy (std_zero.2 hz),NW (by rw [AkO];omega),AkB];dsimp only;rw [AkB];dsimp only;have e:bpn P (bl++[root]) l (i+1)=bpn P (bl++[root]) l i++[gb l i]:=by show(if _ then _ else _)=_;rw [AkG hz]
   rw [e,hc,Ak O]) (by
  unfold B8 gX wI;dsimp only;rw [ino O,Alq])
 rw [AmQ,AkT]at h;rw [show Ab B8 (cat b l,l,(l.length:Int),0,ks,bl++[root],rs,bd fn (bl++[root]),d,a1,a2,a3,a4,a5,a6,a7,a8,b,x,y,z,std P)=_ from h];rfl
def rkd (b:Bls) (x y top:List Int) (k:Nat):List Int:=(rcA (rcd b x y (vl b top k))).1
def rkc (b:Bls) (x y top:List Int) (k:Nat):List Int:=(rcA (rcd b x y (vl b top k))).2.1
def rko (b:Bls) (x y top:List Int) (k:Nat):Bool:=(rcA (rcd b x y (vl b top k))).2.2
theorem AaM {b:Bls} {x y:List Int}:∀(f:Nat) (a:Int) (d ch:List Int) {p:List Int×List Int},rcN b x y f a d ch=some p->p.2.length<=ch.length+f/\p.1.length<=d.length+124 * f
 | 0,_,_,_,p,h=>by cases h
 | f+1,a,d,ch,p,h=>by
  unfold rcN at h;split at h
  .rename_i hc;have ho:=TF hc;split at h
   .injection h with h;subst h;simp;omega
   .have:=AaM f _ _ _ h;simp only [AkJ,AkO]at this;omega
  .cases h
theorem HJ (b:Bls) (x y top:List Int) (k:Nat):(rkc b x y top k).length<=10/\(rkd b x y top k).length<=1240:=by
 unfold rkc rkd rcA;split
 .rename_i p hp;have:=AaM _ _ _ _ hp;simp only [Alc]at this;dsimp only;omega
 .simp
theorem Vd {b:Bls} {x y z top:List Int} (g:RS b x y) (ht:top.length=32) {bl ks:List Int} (hbl:bl.length<=90000) (hks:ks.length<=90000) {k:Nat} (hk:k < 1024) (fn:Bool) (rs:List Int) (d:Bls) (a1:Int) (a2:Bool) (a3 a4 a5 a6 a7 a8 rt:Int) (m:List (Int×Int)) :
  Bz (k:Int) ks bl rs (bd fn bl) d a1 a2 a3 a4 a5 a6 a7 a8 b x y z rt top (top.map (lfv b)) m =
   some (rkd b x y top k,ks++[(k:Int)],bl++rkc b x y top k,rs,bd (fn && rko b x y top k) (bl++rkc b x y top k),d,a1,a2,a3,a4,a5,a6,a7,a8,b,x,y,z,rt,top,top.map (lfv b),m):=by
 have hl:=(HJ b x y top k).1;unfold Bz cK;rw [AkH (by simp only [Aa,decide_eq_true_eq,AkO];omega),PL ht rt hk,AkB,ZQ g,AkB];have hb:(if bd fn bl=true then true else !(rko b x y top k))=bd (fn && rko b x y top k) bl:=by
  unfold bd;cases fn <;> cases ndb bl <;> cases rko b x y top k <;> rfl
 unfold rkd rkc rko at *;generalize rcA (rcd b x y (vl b top k))=q at *;obtain ⟨q1,q2,q3⟩:=q;dsimp only at *;have hc:=NW (l:=q2) (bl:=bl) O (fn && q3) (ks++[(k:Int)]) rs d m;rw [<- hb]at hc;by_cases hw:bd fn bl=true
 .rw [AkH hw,AkB];dsimp only;rw [AkH hw]at hc;rw [hc];rfl
 .rw [AkG hw,AkB];dsimp only;rw [AkG hw]at hc;rw [hc];rfl
end Go.V.G
set_option maxRecDepth 100000
namespace Go.V.G
open Go.V
def okb (fn:Bool) (l:List Int):Bool:=fn && ndb l
theorem Xy (fn:Bool) (l:List Int) (v:Int):okb fn (l++[v])=if v∈l then false else okb fn l:=by
 unfold okb;rw [Xu];by_cases h:v∈l <;> simp [h]
def mny (n:Nat) (P:List Int):List Int:=(List.range n).map λk=>(P.count ((k:Nat):Int):Int)
theorem JC (n:Nat) (P:List Int):(mny n P).length=n:=by simp [mny]
theorem Qa {n k:Nat} (P:List Int) (h:k < n):(mny n P)[k]?=some (P.count (k:Int):Int):=by
 unfold mny;rw [Ali,Amz h];rfl
theorem AfC {n k:Nat} (P:List Int) (h:k < n):mny n (P++[(k:Int)])=(mny n P).set k ((P.count (k:Int):Int)+1):=by
 refine Alz λi=>?_
 rw [AmX,JC];by_cases hi:i < n
 .rw [Qa _ hi,Qa _ hi,List.count_append];by_cases hk:k=i
  .subst hk;rw [AkH rfl,AkH h];simp
  .rw [AkG hk];have:¬ (k:Int)=(i:Int):=O
   simp [List.count_cons,this]
 .rw [Ak2 (by rw [JC];omega),Ak2 (by rw [JC];omega)];by_cases hk:k=i
  .rw [AkH hk,AkG O]
  .rw [AkG hk]
theorem Tk {l C:List Int} (hl:C.length+l.length<=100000) (fn:Bool) (b:Bls) (x y z rs m:List Int) :
  BZ l b x y z rs (srt C) m (okb fn C)=some (l,b,x,y,z,rs,srt (C++l),m,okb fn (C++l)):=by
 unfold BZ;have h:=Am B9 (λi=>(l,(l.length:Int),((i:Nat):Int),b,x,y,z,rs,srt (C++l.take i),m,okb fn (C++l.take i))) l.length (l,b,x,y,z,rs,srt (C++l),m,okb fn (C++l)) (λi hi=>by
  have hg:=Ai hi;have hcl:(C++l.take i).length<=1000000:=by rw [AkJ,AkL];omega
  obtain ⟨o1,o2,o3⟩:=J5 hcl;unfold B9 cK cZ wI;dsimp only;rw [iy O,iy O,iy O,AkZ,AkE,hg,AkB,CE hg,<- AkN,Xy,GW O,AkB];by_cases hb:gb l i∈C++l.take i
  .rw [AkH hb,decide_eq_true ((o3 _).2 hb),AkH rfl,AkB];dsimp only;rw [(Gh hcl _).1,AkB,Ak O]
  .rw [AkG hb,decide_eq_false (λq=>hb ((o3 _).1 q)),AkG Z,AkB];dsimp only;rw [(Gh hcl _).1,AkB,Ak O]) (by
  unfold B9 cK cZ wI;dsimp only;rw [ino O,Alq])
 rw [AmQ,AkT]at h;rw [show Ab B9 (l,(l.length:Int),0,b,x,y,z,rs,srt C,m,okb fn C)=_ from h];rfl
theorem ZT {l C:List Int} (hl:C.length+l.length<=100000) (fn:Bool) (b:Bls) (x y z rs m:List Int) :
  DR l b x y z rs (srt C) m (okb fn C)=some (b,x,y,z,rs,srt (C++l),m,okb fn (C++l)):=by
 unfold DR;have h:=Am Ct (λi=>(l,(l.length:Int),((i:Nat):Int),b,x,y,z,rs,srt (C++l.take i),m,okb fn (C++l.take i))) l.length (b,x,y,z,rs,srt (C++l),m,okb fn (C++l)) (λi hi=>by
  have hg:=Ai hi;have hcl:(C++l.take i).length<=1000000:=by rw [AkJ,AkL];omega
  obtain ⟨o1,o2,o3⟩:=J5 hcl;unfold Ct gX wI;dsimp only;rw [iy O,iy O,AkE,hg,AkB,CE hg,<- AkN,Xy,GW O,AkB];by_cases hb:gb l i∈C++l.take i
  .rw [AkH hb,decide_eq_true ((o3 _).2 hb),AkH rfl,AkB];dsimp only;rw [(Gh hcl _).1,AkB,Ak O]
  .rw [AkG hb,decide_eq_false (λq=>hb ((o3 _).1 q)),AkG Z,AkB];dsimp only;rw [(Gh hcl _).1,AkB,Ak O]) (by
  unfold Ct gX wI;dsimp only;rw [ino O,Alq])
 rw [AmQ,AkT]at h;rw [show Ab Ct (l,(l.length:Int),0,b,x,y,z,rs,srt C,m,okb fn C)=_ from h];rfl
theorem Yr {b:Bls} {x y z:List Int} (g:RS b x y) {root:Int} (hp:ptx b x y root=none) (rs c m:List Int) (w:Bool) :
  BK root b x y z rs c m w=some ([],b,x,y,z,rs,c,m,false):=by
 unfold BK sX wI;rw [Re g,AkB];unfold tin;rw [hp];rfl
theorem WQ {b:Bls} {x y z:List Int} (g:RS b x y) {root:Int} {l:List Int} (hp:ptx b x y root=some l) {P C:List Int} (hC:C.length<=90000) (hP:P.length<=90000) (fn:Bool) (rs:List Int) :
  BK root b x y z rs (srt C) (mny b.length P) (okb fn C)=some (cat b l,b,x,y,z,rs,srt (C++[root]),mny b.length (P++l),okb fn (C++[root])):=by
 obtain ⟨⟨hall,hnd,hlen⟩,_⟩:=IV hp;have hw:IntKind.wrap .i64 (((((l++[root]).length:Nat):Int)) - 1)=(l.length:Int):=by rw [AkJ,AkO,w64 O O];omega
 have hle:(l++[root]).length=l.length+1:=by simp
 have e1:(List.drop l.length (l++[root])).take (l.length+1 - l.length)=[root]:=by
  rw [List.drop_left,(O:l.length+1 - l.length=1)];rfl
 have e2:(List.drop (Int.toNat 0) (l++[root])).take (l.length - Int.toNat 0)=l:=by
  rw [show Int.toNat 0=0 from rfl,AlH,Amt,List.take_left]
 unfold BK sX wI;rw [Re g,AkB];unfold tin;rw [hp];dsimp only;rw [AkB];dsimp only;rw [AkG Z,hw,hle,iy O,iy O,iy O,iy O,AkE,AkE,e1,ZT (by rw [AkO];omega),AkB];dsimp only;rw [iy O,iy O,iy O,iy O,e2];have h:=Am CC (λi=>(cat b l,l,(l.length:Int),((i:Nat):Int),b,x,y,z,rs,srt (C++[root]),mny b.length (P++l.take i),okb fn (C++[root]))) l.length
   (cat b l,b,x,y,z,rs,srt (C++[root]),mny b.length (P++l),okb fn (C++[root])) (λi hi=>by
  have hg:=Ai hi;have hmem:gb l i∈l:=by
   have:=Ak1 hi;rw [AkD hi]at hg;injection hg with hg;rw [<- hg];exact this
  obtain ⟨m,hm1,hm2,hm3,_⟩:=QC (hall _ hmem);have hml:=JC b.length (P++l.take i);have hc:=List.count_le_length (l:=P++l.take i) (a:=(m:Int));rw [AkJ,AkL]at hc;unfold CC cK cZ gX wI;dsimp only;rw [iy O,iy O,AkE,hg,AkB,hm1,iy O,iy O,AkE,AkZ,Qa _ hm3,AkB,iy O,iy O,AkB,AkB,w64 (n:=(((P++l.take i).count (m:Int):Nat):Int)+1) O O,
   CE hg,<- AkN,hm1,AfC _ hm3,Ak O]) (by
  unfold CC cK cZ gX wI;dsimp only;rw [ino O,Alq])
 rw [AmQ,AkT]at h;rw [show Ab CC (cat b l,l,(l.length:Int),0,b,x,y,z,rs,srt (C++[root]),mny b.length P,okb fn (C++[root]))=_ from h];rfl
theorem PY {b:Bls} {x y z top:List Int} (h:SB b x y z) (g:RS b x y) {C:List Int} (hC:C.length<=90000) {k:Nat} (fn:Bool) (rs m:List Int) :
  Ce (vl b top k) b x y z rs (srt C) m (okb fn C) =
   some (rkd b x y top k,b,x,y,z,rs,srt (C++rkc b x y top k),m,okb (fn && rko b x y top k) (C++rkc b x y top k)):=by
 have hl:=(HJ b x y top k).1;unfold Ce;rw [ZJ h g,AkB];have hb:(if okb fn C=true then rko b x y top k else false)=okb (fn && rko b x y top k) C:=by
  unfold okb;cases fn <;> cases ndb C <;> cases rko b x y top k <;> rfl
 unfold rkd rkc rko at *;generalize rcA (rcd b x y (vl b top k))=q at *;obtain ⟨q1,q2,q3⟩:=q;dsimp only at *;have hc:=Tk (l:=q2) (C:=C) O (fn && q3) b x y z rs m;rw [<- hb]at hc;by_cases hw:okb fn C=true
 .rw [AkH hw,AkB];dsimp only;rw [AkH hw]at hc;rw [hc];rfl
 .rw [AkG hw,AkB];dsimp only;rw [AkG hw]at hc;rw [hc];rfl
end Go.V.G
set_option maxRecDepth 100000
namespace Go.V.G
open Go.V
theorem T2 {a b c:List Prt} (ha:AH a=true) (hb:AH b=true) (hc:AH c=true) (h1:tgt a=src b) (h2:tgt b=src c):AN (AN a b) c=AN a (AN b c):=by
 obtain ⟨b1,b2,b3,b4⟩:=DH hb hc h2;obtain ⟨a1,a2,a3,a4⟩:=DH ha hb h1;obtain ⟨p1,p2,_⟩:=DH ha b1 O;obtain ⟨r1,r2,_⟩:=DH a1 hc O;refine Mw (Aq r1).1 (Aq p1).1 ?_;rw [p2,r2,a2,b2];exact Abr _ _ _ (KP hb hc h2).1 (KP ha hb h1).1
theorem Vq:∀{cs:List (List Prt)} {a d:List Prt},AH a=true->AH d=true->tgt a=src d->chn (tgt d) cs=true->EL (AN a d) cs=AN a (EL d cs)
 | [],_,_,_,_,_,_=>rfl
 | c::cs,a,d,ha,hd,ht,hc=>by
  obtain ⟨k1,k2,k3⟩:=FW hc;obtain ⟨q1,q2,q3,q4⟩:=DH hd k1 k2.symm;show EL (AN (AN a d) c) cs=AN a (EL (AN d c) cs);rw [T2 ha hd k1 ht k2.symm];exact Vq ha q1 O (by rw [q4];exact k3)
theorem Ahm {n:Int} {xs ys:List (List Prt)} (h:chn n (xs++ys)=true) (h0:0<=n) (h1:n<=120) (hy:ys≠[]):btw n (xs++ys)=AN (btw n xs) (btw (Eg n xs) ys):=by
 rw [NX,AkI]at h;obtain ⟨b1,b2,b3⟩:=YA h.1 h0 h1;cases ys with
 | nil=>exact absurd rfl hy
 | cons c cs=>
  obtain ⟨k1,k2,k3⟩:=FW h.2;rw [RI h.2];have e:btw n (xs++c::cs)=EL (AN (btw n xs) c) cs:=by unfold btw;rw [Ami];rfl
  rw [e];exact Vq b1 k1 O k3
section
variable {f:Int} {t:List UInt8} {r:List Rn} {cs:List (List Prt)}
theorem Zp (g:GH f t r cs) {a b c:Int} (h0:f<=a) (h1:a<=b) (h2:b < c) (h3:c<=f+cs.length):B0 f t cs a c=AN (B0 f t cs a b) (B0 f t cs b c):=by
 obtain ⟨k1,k2⟩:=Yf g (a - f);have es:seg cs (a - f) (c - f)=seg cs (a - f) (b - f)++seg cs (b - f) (c - f):=by
  unfold seg;have:cs.drop (b - f).toNat=(cs.drop (a - f).toNat).drop ((b - f).toNat - (a - f).toNat):=by rw [AmP];congr 1;omega
  rw [this,<- List.take_add]
  congr 1;omega
 have hne:seg cs (b - f) (c - f)≠[]:=by
  intro q;have:=congrArg List.length q;unfold seg at this;rw [AkL,Ak5,Alc]at this;omega
 have hc:=QJ g (a - f) (c - f);rw [es]at hc;unfold B0;rw [es,Ahm hc k1 k2 hne,Aau g O O]
theorem QU (g:GH f t r cs) {a:Int} (h0:f<=a) (h1:a < f+cs.length):cs[(a - f).toNat]?=some (B0 f t cs a (a+1)):=by
 have hl:(a - f).toNat < cs.length:=O
 have es:seg cs (a - f) (a+1 - f)=[cs[(a - f).toNat]]:=by
  unfold seg;rw [show(a+1 - f).toNat - (a - f).toNat=1 by omega,Alb hl];rfl
 have hc:=QJ g (a - f) (a+1 - f);rw [es]at hc;unfold B0;rw [es,RI hc,AkD hl];rfl
end
def frS (s:Int×Int):Nat:=s.2.toNat * 2 ^ s.1.toNat
def toS (s:Int×Int):Nat:=(s.2.toNat+1) * 2 ^ s.1.toNat
def bt (f:Int) (t:List UInt8) (cs:List (List Prt)) (s:Int×Int):List Prt:=B0 f t cs (frS s:Int) (toS s:Int)
theorem St8.ft {f h k i:Nat} {s:Int×Int} (g:St8 f h s k i):frS s=i * 2 ^ k/\toS s=(i+1) * 2 ^ k/\f<=frS s/\frS s < toS s/\toS s<=h:=by
 have h1:=g.lo;have h2:=g.hi;have hp:0 < 2 ^ k:=Amf Z;have e1:frS s=i * 2 ^ k:=by unfold frS;rw [g.e];simp
 have e2:toS s=(i+1) * 2 ^ k:=by unfold toS;rw [g.e];simp
 rw [e1,e2];refine⟨rfl,rfl,h1,?_,h2⟩;rw [AmC];omega
theorem YU (f k:Nat):∀n,(skn f k n).Pairwise (λa c=>ky a < ky c)/\∀s∈skn f k n,64 * k<=ky s/\ky s < 64 * k+n
 | 0=>by simp [skn]
 | n+1=>by
  obtain ⟨h1,h2⟩:=YU f k n;rw [Jn];by_cases h:f<=n * 2 ^ k
  .rw [AkH h];have e:ky ((k:Int),(n:Int))=64 * k+n:=by unfold ky;simp
   refine⟨?_,λs hs=>?_⟩
   .rw [Amm];refine⟨h1,Z,λa ha c hc=>?_⟩;rw [AkM.1 hc,e];exact(h2 a ha).2
   .rcases AkK.1 hs with hs | hs
    .have:=h2 s hs;omega
    .rw [AkM.1 hs,e];omega
  .rw [AkG h,AkT];exact⟨h1,λs hs=>by have:=h2 s hs;omega⟩
theorem XF {f h:Nat} (hh:h<=60):∀k,(stk f h k).Pairwise (λa c=>ky a < ky c)/\∀s∈stk f h k,ky s < 64 * k
 | 0=>by simp [stk]
 | k+1=>by
  obtain ⟨h1,h2⟩:=XF (f:=f) hh k;obtain ⟨g1,g2⟩:=YU f k (h / 2 ^ k);have hd:=AmW h (2 ^ k);unfold stk;refine⟨?_,λs hs=>?_⟩
  .rw [Amm];refine⟨h1,g1,λa ha c hc=>?_⟩;have:=h2 a ha;have:=(g2 c hc).1;omega
  .rcases AkK.1 hs with hs | hs
   .have:=h2 s hs;omega
   .have:=g2 s hs;omega
theorem RX {f h:Nat} (hh:h<=60):(sts f h).Pairwise (λa c=>ky a < ky c):=(XF hh 6).1
theorem SE {f h:Nat} (hh:h<=60) {i:Nat} (hi:i < (sts f h).length) {s:Int×Int} (hs:s∈sts f h) (hk:ky s < ky (sts f h)[i]):s∈(sts f h).take i:=by
 obtain ⟨j,hj,rfl⟩:=Alh hs;have hp:=RX (f:=f) hh;rw [List.pairwise_iff_getElem]at hp;have:j < i:=by
  rcases Nat.lt_trichotomy j i with q | q | q
  .exact q
  .subst q;omega
  .have:=hp i j hi hj q;omega
 rw [List.mem_take_iff_getElem];exact⟨j,O,rfl⟩
def Pa (B:Int×Int->List Prt) (A:List (List Prt)) (L:List (Int×Int)):List (List Prt):=L.foldl (λA s=>A.set (ky s) (B s)) A
theorem Ye (B:Int×Int->List Prt):∀(L:List (Int×Int)) (A:List (List Prt)),(Pa B A L).length=A.length
 | [],A=>rfl
 | s::L,A=>by
  show(Pa B (A.set (ky s) (B s)) L).length=_;rw [Ye B L,AlB]
theorem Yx (B:Int×Int->List Prt):∀(L:List (Int×Int)) (A:List (List Prt)) (k:Nat),(∀s∈L,ky s≠k)->(Pa B A L)[k]?=A[k]?
 | [],A,k,_=>rfl
 | s::L,A,k,h=>by
  show(Pa B (A.set (ky s) (B s)) L)[k]?=_;rw [Yx B L _ k (λc hc=>h c (by simp [hc])),List.getElem?_set_ne (h s Z)]
theorem Qt (B:Int×Int->List Prt):∀(L:List (Int×Int)) (A:List (List Prt)),L.Pairwise (λa c=>ky a < ky c)->∀s∈L,ky s < A.length->(Pa B A L)[ky s]?=some (B s)
 | [],A,_,s,hs,_=>by cases hs
 | c::L,A,hp,s,hs,hl=>by
  rw [List.pairwise_cons]at hp;show(Pa B (A.set (ky c) (B c)) L)[ky s]?=_;rcases AkU.1 hs with rfl | hs
  .rw [Yx B L _ (ky s) (λd hd=>by have:=hp.1 d hd;omega),Al7 hl]
  .exact Qt B L _ hp.2 s hs (by rw [AlB];exact hl)
def GK (f:Int) (t:List UInt8) (cs:List (List Prt)) (L:List (Int×Int)):List (List Prt):=Pa (bt f t cs) (List.replicate 384 []) L
theorem Adf (f:Int) (t:List UInt8) (cs:List (List Prt)) (L:List (Int×Int)) (s:Int×Int):GK f t cs (L++[s])=(GK f t cs L).set (ky s) (bt f t cs s):=by
 unfold GK Pa;rw [Ami];rfl
theorem WN (f:Int) (t:List UInt8) (cs:List (List Prt)) (L:List (Int×Int)):(GK f t cs L).length=384:=by unfold GK;rw [Ye,AlN]
theorem ZA {f:Nat} {t:List UInt8} {r:List Rn} {cs:List (List Prt)} (g:GH (f:Int) t r cs) {h:Nat} (hf:h=f+cs.length) (hh:h<=60) :
  Oj (f:Int) t r cs=some (GK (f:Int) t cs (sts f h)):=by
 have hsl:=Il (f:=f) hh;unfold Oj P2 cK cZ wI;rw [iy O,iy O,AkH Akz,AkB,w64 O O,show(f:Int)+(cs.length:Int)=(h:Int) by omega,N6 hh,AkB];have hL:=Am HK (λi=>(GK (f:Int) t cs ((sts f h).take i),sts f h,(((sts f h).length:Nat):Int),((i:Nat):Int),(f:Int),t,r,cs)) (sts f h).length (GK (f:Int) t cs (sts f h)) (λi hi=>by
  obtain ⟨k,j,g8⟩:=P5 hi;obtain ⟨l1,l2,l3⟩:=g8.lt hh;obtain ⟨f1,f2,f3,f4,f5⟩:=g8.ft;have hk:=g8.hk;have hget:(sts f h)[i]?=some ((sts f h)[i]):=AkD hi;have hal:=WN (f:Int) t cs ((sts f h).take i);unfold HK cK cZ gX wI;dsimp only;rw [iy O,iy O,iy O,AkZ,AkE,hget,AkB,AkB,Ak0 hi,Adf,l2];have ebt:bt (f:Int) t cs (sts f h)[i]=B0 (f:Int) t cs ((j * 2 ^ k:Nat):Int) (((j+1) * 2 ^ k:Nat):Int):=by unfold bt;rw [f1,f2]
  rw [ebt];have hlo:=g8.lo;have hhi:=g8.hi;simp only [g8.e,AkZ];by_cases h0:k=0
  .subst h0;rw [Nat.pow_zero,Nat.mul_one]at hlo hhi;rw [Nat.pow_zero,Nat.mul_one,Nat.mul_one];have h1:=QU g (a:=(j:Int)) O O;rw [iy O,w64 O O,iy O,h1,AkB,iy O,iy O,AkE,AkD (O:j < (GK (f:Int) t cs ((sts f h).take i)).length),AkB,AkB,AkB];dsimp only;rw [Ak O,Nat.mul_zero,AkZ,show(((j+1:Nat)):Int)=(j:Int)+1 by omega]
  .obtain ⟨k',rfl⟩:∃k',k=k' + 1:=⟨k - 1,O⟩
   have hpk:2 ^ (k' + 1)=2 * 2 ^ k':=by rw [Nat.pow_succ];omega
   have hp:0 < 2 ^ k':=Amf Z;have m1:j * 2 ^ (k' + 1)=(2 * j) * 2 ^ k':=by rw [hpk,<- Nat.mul_assoc,Nat.mul_comm j 2]
   have m2:(j+1) * 2 ^ (k' + 1)=(2 * j+1+1) * 2 ^ k':=by rw [hpk,<- Nat.mul_assoc,Nat.mul_comm (j+1) 2];congr 1
   have m3:(2 * j+1) * 2 ^ k'=(2 * j) * 2 ^ k' + 2 ^ k':=AmC _ _;have m4:(2 * j+1+1) * 2 ^ k'=(2 * j+1) * 2 ^ k' + 2 ^ k':=AmC _ _;rw [m1]at hlo;rw [m2]at hhi;have ga:St8 f h ((k':Int),((2 * j:Nat):Int)) k' (2 * j):=⟨rfl,O,hlo,O⟩
   have gb':St8 f h ((k':Int),((2 * j+1:Nat):Int)) k' (2 * j+1):=⟨rfl,O,O,hhi⟩
   obtain ⟨a1,a2,a3⟩:=ga.lt hh;obtain ⟨b1,b2,b3⟩:=gb'.lt hh;obtain ⟨fa1,fa2,_⟩:=ga.ft;obtain ⟨fb1,fb2,_⟩:=gb'.ft;generalize hU:2 * j * 2 ^ k'=U at *;generalize hV:(2 * j+1) * 2 ^ k'=V at *;generalize hW:(2 * j+1+1) * 2 ^ k'=W at *;have pw:=(RX (f:=f) hh).sublist (List.take_sublist i _);have ia:=Qt (bt (f:Int) t cs) _ (List.replicate 384 []) pw _ (SE hh hi (sts_mem.2 ⟨_,_,ga⟩) (by rw [a2,l2];omega)) (by rw [AlN,a2];omega);have ib:=Qt (bt (f:Int) t cs) _ (List.replicate 384 []) pw _ (SE hh hi (sts_mem.2 ⟨_,_,gb'⟩) (by rw [b2,l2];omega)) (by rw [AlN,b2];omega);rw [a2]at ia;rw [b2]at ib;have wk:IntKind.wrap .i64 (((k' + 1:Nat):Int) - 1)=(k':Int):=by rw [w64 O O];omega
   have wa:IntKind.wrap .i64 (IntKind.wrap .i64 (64 * (k':Int))+IntKind.wrap .i64 (2 * (j:Int)))=((64 * k' + 2 * j:Nat):Int):=by
    rw [w64 (n:=64 * (k':Int)) O O,w64 (n:=2 * (j:Int)) O O,w64 O O];omega
   have ga1:=IF g (a:=(U:Int)) (b:=(V:Int)) O O;have gb1:=IF g (a:=(V:Int)) (b:=(W:Int)) O O;have hcmp:=YR ga1.1 gb1.1 (by rw [ga1.2.2,gb1.2.1]);have eA:bt (f:Int) t cs ((k':Int),((2 * j:Nat):Int))=B0 (f:Int) t cs (U:Int) (V:Int):=by unfold bt;rw [fa1,fa2]
   have eB:bt (f:Int) t cs ((k':Int),((2 * j+1:Nat):Int))=B0 (f:Int) t cs (V:Int) (W:Int):=by unfold bt;rw [fb1,fb2]
   rw [eA]at ia;rw [eB]at ib;rw [ino O,KE hk O,AkB,wk,wa,iy (show(0:Int)<=((64 * k' + 2 * j:Nat):Int) by omega),iy (show((64 * k' + 2 * j:Nat):Int) < (((GK (f:Int) t cs ((sts f h).take i)).length:Nat):Int) by omega),AkE,show(GK (f:Int) t cs ((sts f h).take i))[64 * k' + 2 * j]?=_ from ia,AkB,Ak O,iy O,iy O,AkE,
    show(GK (f:Int) t cs ((sts f h).take i))[64 * k' + 2 * j+1]?=_ from ib,AkB,hcmp,AkB,iy O,iy O,AkE,AkD (O:64 * (k' + 1)+j < (GK (f:Int) t cs ((sts f h).take i)).length),AkB,AkB,AkB]
   dsimp only;rw [Ak O,m1,m2,Zp g (a:=(U:Int)) (b:=(V:Int)) (c:=(W:Int)) O O O O]) (by
  unfold HK cK cZ gX wI;dsimp only;rw [ino O,Alq])
 rw [show Ab HK (List.replicate (Int.toNat 384) ([]:List Prt),sts f h,(((sts f h).length:Nat):Int),0,(f:Int),t,r,cs)=_ from hL];rfl
theorem AgV {f:Int} {t:List UInt8} {cs:List (List Prt)} {f' h:Nat} (hh:h<=60) {s:Int×Int} (hs:s∈sts f' h):(GK f t cs (sts f' h))[ky s]?=some (bt f t cs s):=by
 obtain ⟨k,j,g⟩:=sts_mem.1 hs;obtain ⟨l1,l2,l3⟩:=g.lt hh;exact Qt _ _ _ (RX hh) s hs (by rw [AlN];omega)
end Go.V.G
set_option maxRecDepth 100000
namespace Go.V.G
open Go.V
structure HD (t:List UInt8) (r:List Rn) (cs:List (List Prt)):Prop where
 ht:t.length<=130
 hr:r.length<=30
 hn:cs.length<=60
 hc:∀c∈cs,Sm 2000 c
theorem HD.hb {t:List UInt8} {r:List Rn} {cs:List (List Prt)} (h:HD t r cs):HB t r cs:=
 ⟨by have:=h.ht;omega,by have:=h.hr;omega,by have:=h.hn;omega,λc hc=>(h.hc c hc).mono O⟩
end Go.V.G
set_option maxRecDepth 100000
namespace Go.V.G
open Go.V
theorem VC {l:List Rn} {i:Nat} (h:i < l.length):AM (l.take (i+1))=AM (l.take i)+l[i].2:=by
 rw [Ak0 h,MO];simp [AM]
theorem Pi {l:List Rn} (hp:Pos l) (i:Nat):0<=AM (l.take i)/\AM (l.take i)<=AM l:=by
 have h2:AM l=AM (l.take i)+AM (l.drop i):=by rw [<- MO,Als]
 have h3:=DX (l:=l.drop i) λq hq=>hp q (AmJ hq)
 have h4:=DX (l:=l.take i) λq hq=>hp q (Ame hq)
 omega
end Go.V.G
set_option maxRecDepth 100000
namespace Go.V.G
open Go.V
def CL:Nat->List Int->Option (List Prt)
 | 0,x=>if x=[]then some []else none
 | n+1,x=>match x with
  | []=>some []
  | [_]=>none
  | k::m::r=>
   if k=1 then(CL n r).map ((m,0,[]) :: ·)
   else if k=2 then(CL n r).map ((0,m,[]) :: ·)
   else if k=3/\m<=(r.length:Int)then(CL n (r.drop m.toNat)).map ((0,0,AF (r.take m.toNat)) :: ·)
   else none
theorem N7:∀n,CL n []=some []
 | 0=>rfl
 | _+1=>rfl
theorem QA:∀(n:Nat) (x:List Int) (c:List Prt),Byt x->CL n x=some c->c.length<=x.length/\B1 c<=x.length/\∀p∈c,(0<=p.1/\p.1<=255)/\(0<=p.2.1/\p.2.1<=255)
 | 0,x,c,hb,h=>by
  unfold CL at h;split at h
  .injection h with h;subst h;simp [B1]
  .cases h
 | n+1,[],c,hb,h=>by
  rw [N7]at h;injection h with h;subst h;simp [B1]
 | n+1,[a],c,hb,h=>by simp [CL]at h
 | n+1,k::m::r,c,hb,h=>by
  have hm:=hb m Z;have hr:Byt r:=λv hv=>hb v (by simp [hv])
  simp only [CL]at h;split at h
  .obtain ⟨c',h1,rfl⟩:=AlF.1 h;obtain ⟨q1,q2,q3⟩:=QA n r c' hr h1;refine⟨by simp only [AkQ];omega,by simp only [B1,AkQ,Alc]at q2 ⊢;omega,λp hp=>?_⟩;rcases AkU.1 hp with rfl | hp
   .exact⟨hm,AkA⟩
   .exact q3 p hp
  .split at h
   .obtain ⟨c',h1,rfl⟩:=AlF.1 h;obtain ⟨q1,q2,q3⟩:=QA n r c' hr h1;refine⟨by simp only [AkQ];omega,by simp only [B1,AkQ,Alc]at q2 ⊢;omega,λp hp=>?_⟩;rcases AkU.1 hp with rfl | hp
    .exact⟨AkA,hm⟩
    .exact q3 p hp
   .split at h
    .rename_i h3;obtain ⟨c',h1,rfl⟩:=AlF.1 h;obtain ⟨q1,q2,q3⟩:=QA n _ c' (λv hv=>hr v (AmJ hv)) h1;rw [Ak5]at q1 q2;have ht:(AF (r.take m.toNat)).length=m.toNat:=by unfold AF;rw [Ak8,AkL];omega
     refine⟨by simp only [AkQ];omega,by simp only [B1,AkQ,ht]at q2 ⊢;omega,λp hp=>?_⟩;rcases AkU.1 hp with rfl | hp
     .exact⟨AkA,AkA⟩
     .exact q3 p hp
    .cases h
theorem Abi {n:Nat} {x:List Int} {c:List Prt} (hb:Byt x) (h:CL n x=some c):Sm x.length c:=by
 obtain ⟨q1,q2,q3⟩:=QA n x c hb h;exact⟨q1,q2,λp hp=>by obtain ⟨⟨a,b⟩,c,d⟩:=q3 p hp;exact⟨by unfold I64;omega,by unfold I64;omega⟩⟩
theorem Aac {l:List Prt} (h:l.length<=1099511627776) (x:Prt):Aa (List.length l+List.length [x]) 32=true:=by simp [Aa];omega
theorem P9:∀(n:Nat) (rest:List Int) (acc:List Prt),rest.length<=n->Byt rest->n<=1000000000->n+acc.length<=1099511627776->
  Ab AA (rest,acc)=some (match CL n rest with | some c=>.inl (acc++c) | none=>.inr false)
 | n,[],acc,_,_,_,_=>by
  rw [Ax,N7];unfold AA cK gX sX;simp
 | 0,a::r,acc,h,_,_,_=>by simp at h
 | n+1,[a],acc,_,_,_,_=>by
  rw [Ax];unfold AA cK gX sX;simp [CL]
 | n+1,k::m::r,acc,h,hb,hn,ha=>by
  have hm:=hb m Z;have hr:Byt r:=λv hv=>hb v (by simp [hv])
  simp only [AkQ]at h;have hl2:¬ ((List.length (k::m::r):Int)) < 2:=by simp;omega
  have hl0:(0:Int) < ((List.length (k::m::r):Int)):=by simp;omega
  have hl3:(2:Int)<=((List.length (k::m::r):Int)):=by simp;omega
  have g0:(k::m::r)[Int.toNat 0]?=some k:=rfl;have g1:(k::m::r)[Int.toNat 1]?=some m:=rfl;have w:IntKind.wrap .i64 m=m:=w64 O O;have room:=Aac (O:acc.length<=1099511627776);have ih:=λp=>P9 n r (acc++[p]) O hr O (by simp only [AkJ,AkQ,Alc];omega)
  rw [Ax];by_cases k1:k=1
  .subst k1;have hs:AA (1::m::r,acc)=some (.inl (r,acc++[(m,0,[])])):=by
    unfold AA cK gX sX;dsimp only;rw [N4];simp only [hl0,hl2,hl3,g0,g1,decide_true,decide_false,Ak4,AkR,Alg,AkB,AlO,show(0:Int)<=1 from by omega,show(0:Int)<=2 from by omega,w,room]
   rw [hs];dsimp only;rw [ih,CL];simp only [Ak4];cases CL n r with
   | none=>rfl
   | some c=>simp
  .by_cases k2:k=2
   .subst k2;have hs:AA (2::m::r,acc)=some (.inl (r,acc++[(0,m,[])])):=by
     unfold AA cK gX sX;dsimp only;rw [N4];simp only [hl0,hl2,hl3,g0,g1,decide_true,decide_false,Ak4,AkR,Alg,AkB,AlO,show(0:Int)<=1 from by omega,show(0:Int)<=2 from by omega,(O:¬ (2:Int)=1),w,room]
    rw [hs];dsimp only;rw [ih,CL];simp only [(O:¬ (2:Int)=1),Ak4,Alg];cases CL n r with
    | none=>rfl
    | some c=>simp
   .by_cases k3:k=3/\m<=(r.length:Int)
    .obtain ⟨rfl,k4⟩:=k3;have tk:(List.drop (Int.toNat 0) r).take (Int.toNat m - Int.toNat 0)=r.take m.toNat:=rfl;have dr:(List.drop (Int.toNat m) r).take (Int.toNat (List.length r:Int) - Int.toNat m)=r.drop m.toNat:=Alr (by rw [Ak5];omega);have hs:AA (3::m::r,acc)=some (.inl (r.drop m.toNat,acc++[(0,0,AF (r.take m.toNat))])):=by
      unfold AA cK gX sX;dsimp only;rw [N4];simp only [hl0,hl2,hl3,g0,g1,decide_true,decide_false,Ak4,AkR,Alg,AkB,AlO,show(0:Int)<=1 from by omega,show(0:Int)<=2 from by omega,(O:¬ (3:Int)=1),(O:¬ (3:Int)=2),w,k4,hm.1,tk,dr,room]
     rw [hs];dsimp only;rw [P9 n (r.drop m.toNat) _ (by rw [Ak5];omega) (λv hv=>hr v (AmJ hv)) O (by simp only [AkJ,AkQ,Alc];omega),CL];simp only [k4,Ak4,Alg,and_self,(O:¬ (3:Int)=1),(O:¬ (3:Int)=2)];cases CL n (r.drop m.toNat)with
     | none=>rfl
     | some c=>simp
    .have hs:AA (k::m::r,acc)=some (.inr (.inr false)):=by
      unfold AA cK gX sX;dsimp only;rw [N4];by_cases k3':k=3
      .subst k3';have:¬ m<=(r.length:Int):=λh=>k3 ⟨rfl,h⟩
       simp only [hl0,hl2,hl3,g0,g1,decide_true,decide_false,Ak4,AkR,Alg,AkB,AlO,show(0:Int)<=1 from by omega,show(0:Int)<=2 from by omega,(O:¬ (3:Int)=1),(O:¬ (3:Int)=2),w,this]
      .simp only [hl0,hl2,hl3,g0,g1,k1,k2,k3',decide_true,decide_false,Ak4,AkR,Alg,AkB,AlO,show(0:Int)<=1 from by omega,show(0:Int)<=2 from by omega,w]
     rw [hs,CL];simp only [k1,k2,k3,Alg]
def BT (x:List Int):List Prt×Bool:=match CL x.length x with
 | some c=>if AH c=true then(c,true)else([],false)
 | none=>([],false)
theorem RQ (x:List Int):Sm 240 (BT x).1:=by
 unfold BT;split
 .split
  .rename_i h;exact De h
  .exact Sm.nil _
 .exact Sm.nil _
theorem Aav {x:List Int} (hb:Byt x) (hl:x.length<=1000000000):E4 x=some (BT x):=by
 unfold E4 BT;rw [P9 x.length x [] (Ak9 _) hb hl Aky];cases hd:CL x.length x with
 | none=>rfl
 | some c=>
  simp only [AkB,Ala];rw [PM (Abi hb hd) O,AkB];cases hg:AH c <;> simp
theorem UQ {b:List Int} (hb:Byt b) (hl:b.length<=1000000000):∀(n:Nat) (pos:Nat) (acc:List Prt),pos<=b.length->b.length - pos<=n->acc.length<=500->
  Ab Bp (b,acc,(pos:Int))=some (match CL n (b.drop pos)with | some c=>if acc.length+c.length<=500 then .inl (acc++c)else .inr false | none=>.inr false)
 | n,pos,acc,hp,hn,ha=>by
  by_cases he:pos=b.length
  .subst he;rw [Ax,Amn,N7];unfold Bp cK gX sX wI;simp [ha]
  have hlt:pos < b.length:=O
  obtain ⟨n,rfl⟩:∃n',n=n' + 1:=⟨n - 1,O⟩
  have c0:(pos:Int) < (b.length:Int):=O
  have w1:IntKind.wrap .i64 ((pos:Int)+1)=((pos+1:Nat):Int):=by rw [w64 O O];omega
  by_cases he2:pos+1=b.length
  .have hd:b.drop pos=[b[pos]]:=by rw [Alb hlt,he2,Amn]
   have c1:(b.length:Int)<=((pos+1:Nat):Int):=O
   rw [Ax,hd];unfold Bp cK gX sX wI;simp only [w1,c0,c1,decide_true,Ak4,CL]
  have hlt2:pos+1 < b.length:=O
  have hd:b.drop pos=b[pos]::b[pos+1]::b.drop (pos+2):=by rw [Alb hlt,Alb hlt2]
  have c1:¬ (b.length:Int)<=((pos+1:Nat):Int):=O
  have g1:b[Int.toNat ((pos+1:Nat):Int)]?=some b[pos+1]:=by rw [AkE];exact AkD hlt2
  have g0:b[Int.toNat (pos:Int)]?=some b[pos]:=by rw [AkE];exact AkD hlt
  have hm:=hb _ (Ak1 hlt2);have w:IntKind.wrap .i64 b[pos+1]=b[pos+1]:=w64 O O;have room:=Aac (O:acc.length<=1099511627776);have p0:(0:Int)<=(pos:Int):=O
  have p1:(0:Int)<=((pos+1:Nat):Int):=O
  have w2:IntKind.wrap .i64 ((pos:Int)+2)=((pos+2:Nat):Int):=by rw [w64 O O];omega
  have al:∀p:Prt,(List.length (acc++[p]):Int)=(acc.length:Int)+1:=λp=>by simp
  have nx:∀(p:Prt) (q:Nat),q<=b.length->b.length - q<=n->(if decide ((500:Int) < (List.length (acc++[p]):Int))=true then(some (.inr (.inr false)):Option ((List Int×(List Prt×Int))⊕(List Prt⊕Bool)))else some (.inl (b,acc++[p],(q:Int))))=Bp (b,acc,(pos:Int))->
    Ab Bp (b,acc,(pos:Int))=some (match (CL n (b.drop q)).map (p :: ·)with | some c=>if acc.length+c.length<=500 then .inl (acc++c)else .inr false | none=>.inr false):=by
   intro p q hq hqn hs;rw [Ax,<- hs];by_cases h5:acc.length+1<=500
   .have h5':¬ (500:Int) < (List.length (acc++[p]):Int):=by rw [al];omega
    rw [AkG (by simpa using h5')];dsimp only;rw [UQ hb hl n q (acc++[p]) hq hqn Aky];cases CL n (b.drop q)with
    | none=>rfl
    | some c=>
     simp only [Aly,AkJ,AkQ,Alc,AkN,Alp,Ala,AkZ,AlU,Nat.add_comm 1]
   .have h5':(500:Int) < (List.length (acc++[p]):Int):=by rw [al];omega
    rw [AkH (by simpa using h5')];cases CL n (b.drop q)with
    | none=>rfl
    | some c=>
     have:¬ acc.length+(p::c).length<=500:=by simp only [AkQ];omega
     simp only [Aly,this,Alg]
  rw [hd,CL];by_cases k1:b[pos]=1
  .simp only [k1,Ak4];refine nx _ (pos+2) O O ?_;unfold Bp cK gX sX wI;simp only [w1,w2,w,c0,c1,g0,g1,p0,p1,k1,decide_true,decide_false,Ak4,AkR,Alg,AkB,room]
  .by_cases k2:b[pos]=2
   .simp only [k2,(O:¬ (2:Int)=1),Ak4,Alg];refine nx _ (pos+2) O O ?_;unfold Bp cK gX sX wI;simp only [w1,w2,w,c0,c1,g0,g1,p0,p1,k2,decide_true,decide_false,Ak4,AkR,Alg,AkB,room,(O:¬ (2:Int)=1)]
   .by_cases k3:b[pos]=3
    .have w3:IntKind.wrap .i64 ((IntKind.wrap .i64 ((b.length:Int) - (pos:Int))) - 2)=((b.length - (pos+2):Nat):Int):=by rw [w64 (n:=(b.length:Int) - (pos:Int)) O O,w64 O O];omega
     have hdl:(b.drop (pos+2)).length=b.length - (pos+2):=Ak5;by_cases k4:b[pos+1]<=((b.length - (pos+2):Nat):Int)
     .obtain ⟨m,hme⟩:=Ak6 hm.1;have k4':b[pos+1]<=(((b.drop (pos+2)).length:Nat):Int):=by rw [hdl];exact k4
      simp only [k3,k4',(O:¬ (3:Int)=1),(O:¬ (3:Int)=2),and_self,Ak4,Alg,AmP];have hq:pos+2+b[pos+1].toNat<=b.length:=O
      refine nx _ (pos+2+b[pos+1].toNat) hq O ?_;have w4:IntKind.wrap .i64 (((pos+2:Nat):Int)+b[pos+1])=((pos+2+b[pos+1].toNat:Nat):Int):=by rw [w64 O O];omega
      have w5:IntKind.wrap .i64 ((pos:Int)+b[pos+1])=((pos+b[pos+1].toNat:Nat):Int):=by rw [w64 O O];omega
      have w6:IntKind.wrap .i64 (((pos+b[pos+1].toNat:Nat):Int)+2)=((pos+2+b[pos+1].toNat:Nat):Int):=by rw [w64 O O];omega
      have k5:¬ ((b.length - (pos+2):Nat):Int) < b[pos+1]:=O
      have i1:(0:Int)<=((pos+2:Nat):Int):=O
      have i2:((pos+2:Nat):Int)<=((pos+2+b[pos+1].toNat:Nat):Int):=O
      have i3:((pos+2+b[pos+1].toNat:Nat):Int)<=(b.length:Int):=O
      have tk:(List.drop (Int.toNat ((pos+2:Nat):Int)) b).take (Int.toNat ((pos+2+b[pos+1].toNat:Nat):Int) - Int.toNat ((pos+2:Nat):Int))=(b.drop (pos+2)).take b[pos+1].toNat:=by
       rw [AkE,AkE];congr 1;omega
      unfold Bp cK gX sX wI;simp only [w1,w2,w,w3,w4,w5,w6,c0,c1,g0,g1,p0,p1,k3,k5,i1,i2,i3,tk,decide_true,decide_false,Ak4,AkR,Alg,AkB,AlO,room,(O:¬ (3:Int)=1),(O:¬ (3:Int)=2)]
     .have k4':¬ b[pos+1]<=(((b.drop (pos+2)).length:Nat):Int):=by rw [hdl];exact k4
      have k5:((b.length - (pos+2):Nat):Int) < b[pos+1]:=O
      simp only [k3,k4',(O:¬ (3:Int)=1),(O:¬ (3:Int)=2),and_false,Alg];rw [Ax];unfold Bp cK gX sX wI;simp only [w1,w2,w,w3,c0,c1,g0,g1,p0,p1,k3,k5,decide_true,decide_false,Ak4,AkR,Alg,AkB,(O:¬ (3:Int)=1),(O:¬ (3:Int)=2)]
    .simp only [k1,k2,k3,false_and,Alg];rw [Ax];unfold Bp cK gX sX wI;simp only [w1,w2,w,c0,c1,g0,g1,p0,p1,k1,k2,k3,decide_true,decide_false,Ak4,AkR,Alg,AkB]
theorem Ahe {x:List Int} (hb:Byt x) (hl:x.length<=1000000000):IT x=some (BT x):=by
 unfold IT BT;have:=UQ hb hl x.length 0 [] (Al6 _) Z Z;rw [AlH]at this;rw [show Ab Bp (x,[],0)=_ from this];cases hd:CL x.length x with
 | none=>rfl
 | some c=>
  simp only [Alc,AkZ,Ala];by_cases h5:c.length<=500
  .rw [AkH h5];simp only [AkB];rw [LR (Abi hb hd) O,AkB];cases hg:AH c <;> simp
  .rw [AkG h5];have hg:¬ AH c=true:=λh=>by have:=(De h).len;omega
   simp only [AkB,AkG hg]
end Go.V.G
set_option maxRecDepth 100000
namespace Go.V.G
open Go.V
theorem NT {l:List Rn} (h:AO l (AM l) 60=true):Pos l/\AM l<=120:=by
 obtain ⟨⟨q1,_⟩,_,q4⟩:=goodRuns_iff.1 h;exact⟨q4.pos,q1.2⟩
theorem Vs {l:List Rn} (hl:l.length<=1000000000):∀(n i:Nat),i+n=l.length->(∀q∈l.take i,1<=q.2)->AM (l.take i)<=240->
  Ab Cm (l,AM (l.take i),l,(l.length:Int),(i:Int))=some (.inl (l,AM l))\/(Ab Cm (l,AM (l.take i),l,(l.length:Int),(i:Int))=some (.inr false)/\AO l (AM l) 60=false)
 | 0,i,hi,hp,hs=>by
  left;obtain rfl:i=l.length:=O
  rw [Ax];unfold Cm gX wI;dsimp only;rw [AkG Z,Alq]
 | n+1,i,hi,hp,hs=>by
  have hlt:i < l.length:=O
  have h0:0<=AM (l.take i):=DX hp;have e1:=VC hlt;have c0:(i:Int) < (l.length:Int):=O
  have hge:l[Int.toNat (i:Int)]?=some l[i]:=by rw [AkE];exact AkD hlt
  have p0:(0:Int)<=(i:Int):=O
  have bad:(¬ (1<=l[i].2/\l[i].2<=120)\/120 < AM (l.take i))->AO l (AM l) 60=false:=by
   intro h;cases hg:AO l (AM l) 60 with
   | false=>rfl
   | true=>
    obtain ⟨g1,g2⟩:=NT hg;have h1:=g1 _ (Ak1 hlt);have h2:=Xv g1 _ (Ak1 hlt);have h3:=Pi g1 i;omega
  by_cases h1:1<=l[i].2/\l[i].2<=120
  .by_cases h2:120 < AM (l.take i)
   .right;refine⟨?_,bad (.inr h2)⟩;rw [Ax];unfold Cm gX wI;simp only [c0,p0,hge,decide_true,Ak4,AkB,AI,h1,and_self,h2,Alt,AkR,Alg]
   .have w:IntKind.wrap .i64 (AM (l.take i)+l[i].2)=AM (l.take (i+1)):=by rw [w64 O O,e1]
    have hs':Cm (l,AM (l.take i),l,(l.length:Int),(i:Int))=some (.inl (l,AM (l.take (i+1)),l,(l.length:Int),((i+1:Nat):Int))):=by
     unfold Cm gX wI;simp only [c0,p0,hge,decide_true,decide_false,Ak4,AkB,AI,h1,and_self,h2,Alt,AkR,Alg,w,Aw (O:l.length<=1099511627776) hlt]
    rw [Ax,hs'];exact Vs hl n (i+1) O (λq hq=>by
     rw [Ak0 hlt]at hq;rcases AkK.1 hq with hq | hq
     .exact hp q hq
     .rw [AkM.1 hq];exact h1.1) O
  .right;refine⟨?_,bad (.inl h1)⟩;rw [Ax];unfold Cm gX wI;simp only [c0,p0,hge,decide_true,Ak4,AkB,AI,h1,decide_false,Amw]
theorem V9 {l:List Rn} (hl:l.length<=1000000000):I2 l=some (AO l (AM l) 60):=by
 unfold I2;rcases Vs hl l.length 0 O Z (by simp [AM])with h | ⟨h,h2⟩
 .rw [show Ab Cm (l,0,l,(l.length:Int),0)=_ from h,AkB];dsimp only;rw [OQ O];rfl
 .rw [show Ab Cm (l,0,l,(l.length:Int),0)=_ from h,AkB,h2]
theorem Yn {l:List Rn} (hl:l.length<=1000000000):∀(n i:Nat),i+n=l.length->(∀q∈l.take i,1<=q.2)->AM (l.take i)<=120->
  (Ab DU (AM (l.take i),l,(l.length:Int),(i:Int))=some (.inl (AM l))/\0<=AM l)\/(Ab DU (AM (l.take i),l,(l.length:Int),(i:Int))=some (.inr (-1))/\AO l (AM l) 60=false)
 | 0,i,hi,hp,hs=>by
  left;obtain rfl:i=l.length:=O
  have h0:0<=AM (l.take l.length):=DX hp;rw [Alq]at h0 ⊢;refine⟨?_,h0⟩;rw [Ax];unfold DU gX wI;dsimp only;rw [AkG Z]
 | n+1,i,hi,hp,hs=>by
  have hlt:i < l.length:=O
  have h0:0<=AM (l.take i):=DX hp;have e1:=VC hlt;have c0:(i:Int) < (l.length:Int):=O
  have hge:l[Int.toNat (i:Int)]?=some l[i]:=by rw [AkE];exact AkD hlt
  have p0:(0:Int)<=(i:Int):=O
  have w0:IntKind.wrap .i64 (120 - AM (l.take i))=120 - AM (l.take i):=w64 O O;by_cases h1:1<=l[i].2/\l[i].2<=120 - AM (l.take i)
  .have w:IntKind.wrap .i64 (AM (l.take i)+l[i].2)=AM (l.take (i+1)):=by rw [w64 O O,e1]
   have hs':DU (AM (l.take i),l,(l.length:Int),(i:Int))=some (.inl (AM (l.take (i+1)),l,(l.length:Int),((i+1:Nat):Int))):=by
    unfold DU gX wI;simp only [c0,p0,hge,decide_true,decide_false,Ak4,AkB,Cf,w0,h1,and_self,Alt,AkR,Alg,w,Aw (O:l.length<=1099511627776) hlt]
   rw [Ax,hs'];exact Yn hl n (i+1) O (λq hq=>by
    rw [Ak0 hlt]at hq;rcases AkK.1 hq with hq | hq
    .exact hp q hq
    .rw [AkM.1 hq];exact h1.1) O
  .right;refine⟨?_,?_⟩
   .rw [Ax];unfold DU gX wI;simp only [c0,p0,hge,decide_true,Ak4,AkB,Cf,w0,h1,decide_false,Amw]
   .cases hg:AO l (AM l) 60 with
    | false=>rfl
    | true=>
     obtain ⟨g1,g2⟩:=NT hg;have h1:=g1 _ (Ak1 hlt);have h3:=Pi g1 (i+1);omega
theorem Zr {l:List Rn} (hl:l.length<=1000000000):Oy l=some (AO l (AM l) 60):=by
 unfold Oy Uj;rcases Yn hl l.length 0 O Z (by simp [AM])with⟨h,h2⟩ | ⟨h,h2⟩
 .rw [show Ab DU (0,l,(l.length:Int),0)=_ from h];simp only [AkB,h2,decide_true,Ak4];rw [OT O];rfl
 .rw [show Ab DU (0,l,(l.length:Int),0)=_ from h,h2];rfl
theorem LK:∀(xs:List Int),(BC xs).length=xs.length / 2
 | []=>rfl
 | [a]=>by simp [BC]
 | a::b::xs=>by
  have:=LK xs;simp only [BC,AkQ];omega
theorem AdA:∀(xs:List Int) (i:Nat) (h:2 * i+1 < xs.length),(BC xs)[i]?=some (xs[2 * i],xs[2 * i+1])
 | [],i,h=>by simp at h
 | [a],i,h=>by simp at h
 | a::b::xs,0,h=>rfl
 | a::b::xs,i+1,h=>by
  simp only [AkQ]at h;have:=AdA xs i O;simp only [BC,AlJ,this];rfl
def rdR (x:List Int):List Rn×Bool:=if x.length % 2=0/\AO (BC x) (AM (BC x)) 60=true then(BC x,true)else([],false)
theorem Ajc {x:List Int} (hb:Byt x) (hl:x.length<=1048576):Hk x=some (rdR x):=by
 unfold Hk rdR;rw [AkH ⟨hl,hb⟩];by_cases h:x.length % 2=0
 .rw [AkH h,V9 (by rw [LK];omega),AkB];cases AO (BC x) (AM (BC x)) 60 <;> simp [h]
 .rw [AkG h,AkG (λq=>h q.1)]
theorem Aji {x:List Int} (hb:Byt x) (hl:x.length<=1048576):KG x=some (rdR x):=by
 unfold KG cK;have hm:Int.tmod (x.length:Int) 2=((x.length % 2:Nat):Int):=by rw [Amc O];omega
 rw [hm];by_cases h:x.length % 2=0
 .by_cases h2:240 < x.length
  .have hg:¬ AO (BC x) (AM (BC x)) 60=true:=λhg=>by
    obtain ⟨g1,g2⟩:=NT hg;have:=Nt g1;rw [LK]at this;omega
   have hr:rdR x=([],false):=AkG (λq=>hg q.2);rw [hr];have h3:(240:Int) < (x.length:Int):=O
   simp [h,h3]
  .have h3:¬ (240:Int) < (x.length:Int):=O
   have hloop:=Am FX (λi=>(x,(BC x).take i,((2 * i:Nat):Int))) (x.length / 2) (BC x) (λi hi=>by
    have c0:((2 * i:Nat):Int) < (x.length:Int):=O
    have i1:2 * i < x.length:=O
    have i2:2 * i+1 < x.length:=O
    have g0:x[Int.toNat ((2 * i:Nat):Int)]?=some x[2 * i]:=by rw [AkE];exact AkD i1
    have w1:IntKind.wrap .i64 (((2 * i:Nat):Int)+1)=((2 * i+1:Nat):Int):=by rw [w64 O O];omega
    have w2:IntKind.wrap .i64 (((2 * i:Nat):Int)+2)=((2 * (i+1):Nat):Int):=by rw [w64 O O];omega
    have g1:x[Int.toNat ((2 * i+1:Nat):Int)]?=some x[2 * i+1]:=by rw [AkE];exact AkD i2
    have b0:=hb _ (Ak1 i1);have b1:=hb _ (Ak1 i2);have w3:IntKind.wrap .i64 x[2 * i]=x[2 * i]:=w64 O O;have w4:IntKind.wrap .i64 x[2 * i+1]=x[2 * i+1]:=w64 O O;have hpl:i < (BC x).length:=by rw [LK];exact hi
    have hpg:=AdA x i i2;have ht:(BC x).take (i+1)=(BC x).take i++[(x[2 * i],x[2 * i+1])]:=by
     rw [List.take_add_one,hpg];rfl
    unfold FX cK gX wI;simp only [c0,w1,w2,w3,w4,g0,g1,decide_true,Ak4,AkB,show(0:Int)<=((2 * i:Nat):Int) from by omega,show(0:Int)<=((2 * i+1:Nat):Int) from by omega,ht,
     show Aa (List.length ((BC x).take i)+List.length ([(x[2 * i],x[2 * i+1])]:List (Int×Int))) 16=true from Af6 (by rw [AkL,LK];simp;omega) O]) (by
    have c0:¬ ((2 * (x.length / 2):Nat):Int) < (x.length:Int):=O
    unfold FX cK gX wI;simp only [c0,decide_false,AkR,Alg];rw [Alr (by rw [LK];exact Ak9 _)])
   have hl0:Ab FX (x,[],0)=some (BC x):=by simpa using hloop
   simp only [h,h3,(O:¬ (2:Int)=0),not_false_eq_true,decide_true,decide_false,Ak4,AkR,Alg,AkB,hl0,(O:¬ (((0:Nat):Int))=1)];rw [Zr (by rw [LK];omega),AkB];unfold rdR;cases AO (BC x) (AM (BC x)) 60 <;> simp [h]
 .have h1:x.length % 2=1:=O
  have hr:rdR x=([],false):=AkG (λq=>h q.1);rw [hr];simp [h1]
theorem AaC (x:List Int):(rdR x).1.length<=120:=by
 unfold rdR;split
 .rename_i h;obtain ⟨g1,g2⟩:=NT h.2;have:=Nt g1;dsimp only;omega
 .simp
def be (x:List Int):Int:=x.foldl (λa b=>a * 256+b) 0
end Go.V.G
set_option maxRecDepth 100000
namespace Go.V.G
open Go.V
theorem whl {σ τ:Type} (L:σ->Option (σ⊕τ)) (st:Nat->σ) (fin:Nat->τ) (ok:Nat->Bool) (n:Nat)
  (step:∀j,j < n->ok j=true->L (st j)=some (.inl (st (j+1)))) (stop:∀j,j<=n->(j=n\/ok j=false)->L (st j)=some (.inr (fin j))) :
  ∃j,j<=n/\(j=n\/ok j=false)/\Ab L (st 0)=some (fin j):=by
 have:∀d,d<=n->∃j,j<=n/\(j=n\/ok j=false)/\Ab L (st (n - d))=some (fin j):=by
  intro d
  induction d with
  | zero=>intro _;exact⟨n,Ak9 _,.inl rfl,by rw [Ax,Amt,stop n (Ak9 _) (.inl rfl)]⟩
  | succ d ih=>
   intro hd;by_cases h:ok (n - (d+1))=true
   .obtain ⟨j,h1,h2,h3⟩:=ih O;refine⟨j,h1,h2,?_⟩;rw [Ax,step _ O h];rw [(O:n - d=n - (d+1)+1)]at h3;exact h3
   .have h':ok (n - (d+1))=false:=by simpa using h
    exact⟨n - (d+1),O,.inr h',by rw [Ax,stop _ O (.inr h')]⟩
 have h:=this n (Ak9 _);rw [Amj]at h;exact h
theorem AhM {b:Bls} (hu:∀c∈b,U8s c) (a:Int):∀v∈rcO b a,0<=v/\v<=255:=by
 intro v hv;unfold rcO at hv;have hv:=AmJ (Ame hv);by_cases h:a.toNat < b.length
 .exact hu _ (BF h) v hv
 .unfold blk at hv;rw [Ak2 O]at hv;cases hv
theorem Ads {b:Bls} {x y:List Int} (hu:∀c∈b,U8s c):∀(f:Nat) (a:Int) (d ch:List Int) {p:List Int×List Int},(∀v∈d,0<=v/\v<=255)->rcN b x y f a d ch=some p->∀v∈p.1,0<=v/\v<=255
 | 0,_,_,_,p,_,h=>by cases h
 | f+1,a,d,ch,p,hd,h=>by
  have hd':∀v∈d++rcO b a,0<=v/\v<=255:=λv hv=>by
   rcases AkK.1 hv with hv | hv
   .exact hd v hv
   .exact AhM hu a v hv
  unfold rcN at h;split at h
  .split at h
   .injection h with h;subst h;exact hd'
   .exact Ads hu f _ _ _ hd' h
  .cases h
theorem KO {b:Bls} {x y:List Int} (g:RS b x y) (top:List Int) (k:Nat):Byt (rkd b x y top k):=by
 intro v hv;unfold rkd rcA at hv;split at hv
 .rename_i p hp;exact Ads g.hu _ _ _ _ Z hp v hv
 .cases hv
theorem AbL {b:Bls} {top:List Int} (a1 a2 a3 a4 a5:Int) (b':Bls) (x y z:List Int) (f:Int) (t:List UInt8) (r:List (Int×Int)) (cs:List (List Prt)) (rc:List Int) {k:Nat} (hk:k < 1024) :
  DS a1 a2 a3 a4 a5 b' x y z (ksT b top 1024) f t r cs rc (k:Int)=some (vl b top k):=by
 have:=Qv b top 1024;rw [AeY O,AiW b top hk]
theorem AeQ {i:Nat} (hi:i < 64):Gg 0 (i:Int)=some (i:Int):=by
 have:=KE (k:=0) (i:=i) O hi;rw [Nat.mul_zero,AkZ]at this;exact this
def tpc (b:Bls) (x y:List Int) (a:Int):List Int:=(ptx b x y a).getD []
def tcl (b:Bls) (x y:List Int) (a:Int):List Int:=if(ptx b x y a).isSome=true then [a]else []
def tok (b:Bls) (x y:List Int) (a:Int):Bool:=(ptx b x y a).isSome
def ttx (b:Bls) (x y:List Int) (a:Int):List UInt8:=(tin b x y a).1
def btx (b:Bls) (x y:List Int) (P bl:List Int) (a:Int):List Int:=match ptx b x y a with
 | some l=>bpn P (bl++[a]) l l.length
 | none=>bl
theorem S8 (b:Bls) (x y:List Int) (a:Int):(tpc b x y a).length<=3/\(tcl b x y a).length<=1/\(ttx b x y a).length<=120:=by
 unfold tpc tcl ttx tin;cases h:ptx b x y a with
 | none=>simp
 | some l=>
  obtain ⟨⟨hall,_,hlen⟩,_⟩:=IV h;have:=R9 hall;simp;omega
theorem AhH {b:Bls} {x y z:List Int} (g:RS b x y) (a:Int) {P C:List Int} (hC:C.length<=90000) (hP:P.length<=90000) (fn:Bool) (rs:List Int) :
  BK a b x y z rs (srt C) (mny b.length P) (okb fn C)=some (ttx b x y a,b,x,y,z,rs,srt (C++tcl b x y a),mny b.length (P++tpc b x y a),okb (fn && tok b x y a) (C++tcl b x y a)):=by
 unfold ttx tcl tpc tok tin;cases h:ptx b x y a with
 | none=>
  rw [Yr g h];simp [okb]
 | some l=>
  rw [WQ g h hC hP];simp
theorem Ah9 {b:Bls} {x y z:List Int} (g:RS b x y) (a:Int) {P bl:List Int} (hbl:bl.length<=90000) (hP:P.length<=90000) (fn:Bool) (ks rs:List Int) (d:Bls) (a1:Int) (a2:Bool) (a3 a4 a5 a6 a7 a8:Int) :
  Bm a ks bl rs (bd fn bl) d a1 a2 a3 a4 a5 a6 a7 a8 b x y z (std P) =
   some (ttx b x y a,ks,btx b x y P bl a,rs,bd (fn && tok b x y a) (btx b x y P bl a),d,a1,a2,a3,a4,a5,a6,a7,a8,b,x,y,z,std (P++tpc b x y a)):=by
 unfold ttx tpc tok btx tin;cases h:ptx b x y a with
 | none=>
  rw [YT g h];simp [bd]
 | some l=>
  rw [Xc g h hbl hP];simp
theorem AaZ {b:Bls} {x y C P bl:List Int} (h:Led C P bl) (a:Int):Led (C++tcl b x y a) (P++tpc b x y a) (btx b x y P bl a):=by
 unfold tcl tpc btx;cases hp:ptx b x y a with
 | none=>simpa using h
 | some l=>
  have:=AaH (l:=l) (h.claim a) l.length (Ak9 _);rw [Alq]at this;simpa using this
theorem Aaa (b:Bls) (x y P bl:List Int) (a:Int):(btx b x y P bl a).length<=bl.length+4:=by
 unfold btx;split
 .rename_i l hp;obtain ⟨⟨_,_,hlen⟩,_⟩:=IV hp;have:=T1 P (bl++[a]) l l.length;rw [AkJ,AkO]at this;omega
 .omega
section
variable {F H E R T:Int} {b:Bls} {x y z top:List Int}
theorem Ajk {ks:List Kv} {w:List Int} (hl:ks.length=w.length) (hk:ks.length<=100000) (pg:List Int) :
  Ab E2 (ks,pg,w,(ks.length:Int),0,0,0,0,0,0,0,[],F,H,E,R,T,b,x,y,z)=some (if ks.map (·.1)=w then .inl (ks,pg,0,0,0,0,0,0,[],F,H,E,R,T,b,x,y,z)else .inr (false,0,0,0,0,0,0,[])):=by
 have h:=Ie E2 (λi=>(ks,pg,w,(ks.length:Int),((i:Nat):Int),0,0,0,0,0,0,[],F,H,E,R,T,b,x,y,z)) (λi=>decide ((sg ks i).1=gb w i)) (false,0,0,0,0,0,0,[]) (ks,pg,0,0,0,0,0,0,[],F,H,E,R,T,b,x,y,z) ks.length (λi hi=>by
  unfold E2 cK cZ wI;dsimp only;rw [iy O,iy O,iy O,AkZ,AkE,Jj hi,AkB,AkB,iy O,iy O,Ai O,AkB];by_cases hq:(sg ks i).1=gb w i
  .rw [ino (not_not_intro hq),decide_eq_true hq,AkH rfl,Ak O]
  .rw [iy hq,decide_eq_false hq,AkG Z]) (by
  unfold E2 cK cZ wI;dsimp only;rw [ino O])
 rw [show Ab E2 (ks,pg,w,(ks.length:Int),0,0,0,0,0,0,0,[],F,H,E,R,T,b,x,y,z)=_ from h];have e:((List.range ks.length).all λi=>decide ((sg ks i).1=gb w i))=decide (ks.map (·.1)=w):=by
  rw [Amy,all_range,decide_eq_true_eq];constructor
  .intro q;refine Alz λi=>?_
   by_cases hi:i < ks.length
   .have:=q i hi;simp only [decide_eq_true_eq]at this;rw [Ali,Jj hi,Ai O,<- this];rfl
   .rw [Ak2 Aky,Ak2 O]
  .rintro q i hi;have h1:(ks.map (·.1))[i]?=w[i]?:=by rw [q]
   rw [Ali,Jj hi,Ai O]at h1;injection h1 with h1
   exact decide_eq_true h1
 rw [e];by_cases hq:ks.map (·.1)=w <;> simp [hq]
def lod (b:Bls) (x y top:List Int) (f j:Nat):List (List Int):=(List.range j).map λi=>rkd b x y top (f+i)
def Co (b:Bls) (x y top:List Int) (f j:Nat):List Int:=(List.range j).flatMap λi=>rkc b x y top (f+i)
def loo (b:Bls) (x y top:List Int) (f j:Nat):Bool:=(List.range j).all λi=>rko b x y top (f+i) && (BT (rkd b x y top (f+i))).2
theorem Afe (b:Bls) (x y top:List Int) (f j:Nat):lod b x y top f (j+1)=lod b x y top f j++[rkd b x y top (f+j)]:=by unfold lod;rw [N8]
theorem RZ (b:Bls) (x y top:List Int) (f j:Nat):Co b x y top f (j+1)=Co b x y top f j++rkc b x y top (f+j):=by unfold Co;rw [Aml,AlW];simp
theorem Wv (b:Bls) (x y top:List Int) (f j:Nat):loo b x y top f (j+1)=(loo b x y top f j && (rko b x y top (f+j) && (BT (rkd b x y top (f+j))).2)):=by unfold loo;rw [Aml,List.all_append];simp
theorem T5 (b:Bls) (x y top:List Int) (f:Nat):∀j,(Co b x y top f j).length<=10 * j
 | 0=>by simp [Co]
 | j+1=>by
  have h1:=T5 b x y top f j;have h2:=(HJ b x y top (f+j)).1;rw [RZ,AkJ];omega
def chC (l:List (List Int)):List (List Prt):=l.map λc=>(BT c).1
theorem Afu (l:List (List Int)) (c:List Int):chC (l++[c])=chC l++[(BT c).1]:=by unfold chC;rw [Alk];rfl
theorem Ai7 (h:SB b x y z) (g:RS b x y) {f hd:Nat} (hf:f<=hd) (hh:hd<=60) {C rs m:List Int} (hC:C.length<=80000) (fn:Bool) (t:List UInt8) (r:List Rn) :
  ∃j,j<=hd - f/\(j=hd - f\/okb (fn && loo b x y top f j) (C++Co b x y top f j)=false)/\
   Ab GF ((f:Int),0,0,0,0,0,0,[],(f:Int),(hd:Int),E,R,T,b,x,y,z,(f:Int),(hd:Int),E,R,T,b,x,y,z,ksT b top 1024,0,[],(f:Int),t,r,[],b,x,y,z,rs,srt C,m,okb fn C) =
    some (0,0,0,0,0,0,[],(f:Int),(hd:Int),E,R,T,b,x,y,z,(f:Int),(hd:Int),E,R,T,b,x,y,z,ksT b top 1024,0,[],(f:Int),t,r,chC (lod b x y top f j),b,x,y,z,rs,srt (C++Co b x y top f j),m,okb (fn && loo b x y top f j) (C++Co b x y top f j)):=by
 have hw:=whl GF (λj=>(((f+j:Nat):Int),0,0,0,0,0,0,[],(f:Int),(hd:Int),E,R,T,b,x,y,z,(f:Int),(hd:Int),E,R,T,b,x,y,z,ksT b top 1024,0,[],(f:Int),t,r,chC (lod b x y top f j),b,x,y,z,rs,srt (C++Co b x y top f j),m,okb (fn && loo b x y top f j) (C++Co b x y top f j)))
  (λj=>(0,0,0,0,0,0,[],(f:Int),(hd:Int),E,R,T,b,x,y,z,(f:Int),(hd:Int),E,R,T,b,x,y,z,ksT b top 1024,0,[],(f:Int),t,r,chC (lod b x y top f j),b,x,y,z,rs,srt (C++Co b x y top f j),m,okb (fn && loo b x y top f j) (C++Co b x y top f j)))
  (λj=>okb (fn && loo b x y top f j) (C++Co b x y top f j)) (hd - f) (λj hj hok=>by
   have hll:=T5 b x y top f j;have hk:=HJ b x y top (f+j);have hr:=PY (z:=z) (top:=top) h g (C:=C++Co b x y top f j) (by rw [AkJ];omega) (k:=f+j) (fn && loo b x y top f j) rs m;have hcl:(chC (lod b x y top f j)).length=j:=by unfold chC lod;simp
   unfold GF cK wI;dsimp only;rw [iy O,AkB];dsimp only;rw [hok]at hr ⊢;rw [AkH rfl,AeQ O,AkB,AbL _ _ _ _ _ _ _ _ _ _ _ _ _ _ O,AkB,hr,AkB];dsimp only;rw [Ahe (KO g top (f+j)) O,AkB,RZ,Wv,Afe,Afu,<- AkN];have hb:(if okb (fn && loo b x y top f j && rko b x y top (f+j)) (C++Co b x y top f j++rkc b x y top (f+j))=true then(BT (rkd b x y top (f+j))).2 else false)=okb (fn && (loo b x y top f j && (rko b x y top (f+j) && (BT (rkd b x y top (f+j))).2))) (C++Co b x y top f j++rkc b x y top (f+j)):=by
    unfold okb;cases fn <;> cases loo b x y top f j <;> cases rko b x y top (f+j) <;> cases ndb (C++Co b x y top f j++rkc b x y top (f+j)) <;> cases (BT (rkd b x y top (f+j))).2 <;> rfl
   have hro:Aa ((chC (lod b x y top f j)).length+([(BT (rkd b x y top (f+j))).1]:List (List Prt)).length) 24=true:=by simp only [Aa,decide_eq_true_eq,AkO];omega
   rw [<- hb];by_cases hq:okb (fn && loo b x y top f j && rko b x y top (f+j)) (C++Co b x y top f j++rkc b x y top (f+j))=true
   .rw [AkH hq,AkH hq,AkB];dsimp only;rw [AkH hro,Ak O];rfl
   .rw [AkG hq,AkG hq,AkB];dsimp only;rw [AkH hro,Ak O];rfl) (λj hj hok=>by
   unfold GF cK wI;dsimp only;by_cases hlt:j < hd - f
   .rw [iy O,AkB];dsimp only;rcases hok with hok | hok
    .omega
    .rw [hok,AkG Z]
   .rw [ino O,AkB];dsimp only;rw [AkG Z])
 obtain ⟨j,h1,h2,h3⟩:=hw;refine⟨j,h1,h2,?_⟩;have e0:lod b x y top f 0=[]:=rfl;have e1:Co b x y top f 0=[]:=rfl;have e2:loo b x y top f 0=true:=rfl;rw [e0,e1,e2,AkT,Amb]at h3;exact h3
end
end Go.V.G
set_option maxRecDepth 100000
namespace Go.V.G
open Go.V
def upk (L:List (Int×Int)):List (Int×Int):=L.filter λs=>decide (0 < s.1)
def upc (b:Bls) (x y top:List Int) (L:List (Int×Int)):List Int:=(upk L).flatMap λs=>rkc b x y top (ky s)
def upo (b:Bls) (x y top:List Int) (L:List (Int×Int)):Bool:=(upk L).all λs=>rko b x y top (ky s)
theorem Yy (L:List (Int×Int)) (s:Int×Int):upk (L++[s])=upk L++(if 0 < s.1 then [s]else []):=by
 unfold upk;rw [Al8];by_cases h:0 < s.1 <;> simp [h]
theorem AeE (b:Bls) (x y top:List Int) (L:List (Int×Int)) (s:Int×Int):upc b x y top (L++[s])=upc b x y top L++(if 0 < s.1 then rkc b x y top (ky s)else []):=by
 unfold upc;rw [Yy,AlW];by_cases h:0 < s.1 <;> simp [h]
theorem AeL (b:Bls) (x y top:List Int) (L:List (Int×Int)) (s:Int×Int):upo b x y top (L++[s])=(upo b x y top L && (if 0 < s.1 then rko b x y top (ky s)else true)):=by
 unfold upo;rw [Yy,List.all_append];by_cases h:0 < s.1 <;> simp [h]
theorem Z9 (b:Bls) (x y top:List Int) (L:List (Int×Int)):(upc b x y top L).length<=10 * L.length:=by
 unfold upc;have h1:(upk L).length<=L.length:=AlV _ _;have h2:∀M:List (Int×Int),(M.flatMap λs=>rkc b x y top (ky s)).length<=10 * M.length:=by
  intro M
  induction M with
  | nil=>simp
  | cons s M ih=>
   have:=(HJ b x y top (ky s)).1;rw [AlY,AkJ,AkQ];omega
 have:=h2 (upk L);omega
def upe (b:Bls) (x y top:List Int) (f:Int) (t:List UInt8) (cs:List (List Prt)) (s:Int×Int):Bool:=!decide (0 < s.1) || (AF (rkd b x y top (ky s)) == AF (enc (bt f t cs s)))
def ckc (b:Bls) (x y top:List Int) (l:List Nat):List Int:=l.flatMap λr=>tcl b x y (vl b top (384+r))
def ckp (b:Bls) (x y top:List Int) (l:List Nat):List Int:=l.flatMap λr=>tpc b x y (vl b top (384+r))
def cko (b:Bls) (x y top:List Int) (l:List Nat):Bool:=l.all λr=>tok b x y (vl b top (384+r))
def cke (b:Bls) (x y top:List Int) (f:Nat) (t:List UInt8) (cs:List (List Prt)) (r:Nat):Bool:=ttx b x y (vl b top (384+r)) == txt t (cs.take (r - f))
theorem Qq (b:Bls) (x y top:List Int):∀l:List Nat,(ckc b x y top l).length<=l.length/\(ckp b x y top l).length<=3 * l.length
 | []=>by simp [ckc,ckp]
 | r::l=>by
  have h1:=Qq b x y top l;have h2:=S8 b x y (vl b top (384+r));unfold ckc ckp at *;rw [AlY,AlY,AkJ,AkJ,AkQ];omega
def pcn (P:List Int) (n:Nat):List Int:=((List.range n).filter λk=>decide (0 < P.count ((k:Nat):Int))).map λk=>((k:Nat):Int)
theorem AfD (P:List Int) (n:Nat):pcn P (n+1)=pcn P n++(if 0 < P.count (n:Int)then [(n:Int)]else []):=by
 unfold pcn;rw [Aml,Al8,Alk];by_cases h:0 < P.count (n:Int)
 .rw [AkH h,List.filter_cons,AkH (decide_eq_true h)];rfl
 .rw [AkG h,List.filter_cons,AkG (by rw [decide_eq_false h];simp)];rfl
theorem Ah4 (P:List Int) (n:Nat):∀v∈pcn P n,v < ((n:Nat):Int):=by
 intro v hv;unfold pcn at hv;simp only [AkY,Ams,Amd]at hv;obtain ⟨k,⟨h1,_⟩,rfl⟩:=hv;omega
theorem Ahn (P:List Int) (n:Nat):(pcn P n).length<=n:=by
 unfold pcn;rw [Ak8];exact Ale (AlV _ _) Z
def stB (b:Bls) (x C P:List Int) (k:Nat):Bool:=(decide (P.count (k:Int)=0) || (!decide ((k:Int)∈C) && decide (gb (blk b k) 1=(P.count (k:Int):Int)))) && (decide (k < 33) || (bit x k == decide ((k:Int)∈C\/0 < P.count (k:Int))))
section
variable {E R T:Int} {b:Bls} {x y z top:List Int}
theorem Ajm (h:SB b x y z) (g:RS b x y) {f hd:Nat} {t:List UInt8} {r:List Rn} {cs:List (List Prt)} (gh:GH (f:Int) t r cs) (hf:hd=f+cs.length) (hh:hd<=60) {C rs m:List Int} (hC:C.length<=80000) (fn:Bool) :
  (((sts f hd).all (upe b x y top (f:Int) t cs)=true/\
    Ab E3 (GK (f:Int) t cs (sts f hd),sts f hd,(((sts f hd).length:Nat):Int),0,0,0,0,0,0,0,[],(f:Int),(hd:Int),E,R,T,b,x,y,z,(f:Int),(hd:Int),E,R,T,b,x,y,z,ksT b top 1024,0,[],(f:Int),t,r,cs,b,x,y,z,rs,srt C,m,okb fn C) =
     some (.inl (0,0,0,0,0,0,[],(f:Int),(hd:Int),E,R,T,b,x,y,z,(f:Int),(hd:Int),E,R,T,b,x,y,z,ksT b top 1024,0,[],(f:Int),t,r,cs,b,x,y,z,rs,srt (C++upc b x y top (sts f hd)),m,okb (fn && upo b x y top (sts f hd)) (C++upc b x y top (sts f hd)))))\/
   ((sts f hd).all (upe b x y top (f:Int) t cs)=false/\
    Ab E3 (GK (f:Int) t cs (sts f hd),sts f hd,(((sts f hd).length:Nat):Int),0,0,0,0,0,0,0,[],(f:Int),(hd:Int),E,R,T,b,x,y,z,(f:Int),(hd:Int),E,R,T,b,x,y,z,ksT b top 1024,0,[],(f:Int),t,r,cs,b,x,y,z,rs,srt C,m,okb fn C) =
     some (.inr (false,0,0,0,0,0,0,[])))):=by
 have hsl:=Il (f:=f) hh;have hal:=WN (f:Int) t cs (sts f hd);have hL:=BW E3 (λi=>(GK (f:Int) t cs (sts f hd),sts f hd,(((sts f hd).length:Nat):Int),((i:Nat):Int),0,0,0,0,0,0,[],(f:Int),(hd:Int),E,R,T,b,x,y,z,(f:Int),(hd:Int),E,R,T,b,x,y,z,ksT b top 1024,0,[],(f:Int),t,r,cs,b,x,y,z,rs,srt (C++upc b x y top ((sts f hd).take i)),m,okb (fn && upo b x y top ((sts f hd).take i)) (C++upc b x y top ((sts f hd).take i))))
  (λi=>upe b x y top (f:Int) t cs (((sts f hd)[i]?).getD (0,0))) (λ_=>(false,0,0,0,0,0,0,[])) (0,0,0,0,0,0,[],(f:Int),(hd:Int),E,R,T,b,x,y,z,(f:Int),(hd:Int),E,R,T,b,x,y,z,ksT b top 1024,0,[],(f:Int),t,r,cs,b,x,y,z,rs,srt (C++upc b x y top (sts f hd)),m,okb (fn && upo b x y top (sts f hd)) (C++upc b x y top (sts f hd))) (sts f hd).length (λi hi=>by
    obtain ⟨k,j,g8⟩:=P5 hi;obtain ⟨l1,l2,l3⟩:=g8.lt hh;have hk:=g8.hk;have hget:(sts f hd)[i]?=some ((sts f hd)[i]):=AkD hi;have hul:=Z9 b x y top ((sts f hd).take i);rw [AkL]at hul;have hal2:=AgV (f:=(f:Int)) (t:=t) (cs:=cs) hh (Ak1 hi);obtain ⟨f1,f2,f3,f4,f5⟩:=g8.ft;have hbt:AH (bt (f:Int) t cs (sts f hd)[i])=true:=(IF gh (a:=(frS (sts f hd)[i]:Int)) (b:=(toS (sts f hd)[i]:Int)) O O).1;have hrec:=PY (z:=z) (top:=top) h g (C:=C++upc b x y top ((sts f hd).take i)) (by rw [AkJ];omega) (k:=ky (sts f hd)[i]) (fn && upo b x y top ((sts f hd).take i)) rs m;unfold E3 cK cZ wI;dsimp only;rw [iy O,iy O,iy O,AkZ,AkE,hget,AkB,AkB,Ak0 hi,AeE,AeL,Aln];unfold upe;by_cases h0:0 < (sts f hd)[i].1
    .have e1:Gg (sts f hd)[i].1 (sts f hd)[i].2=some (ky (sts f hd)[i]:Int):=by rw [l2];simp only [g8.e];exact KE hk O
     rw [iy h0,e1,AkB,AbL _ _ _ _ _ _ _ _ _ _ _ _ _ _ O,AkB,hrec,AkB];dsimp only;rw [AkB,iy O,iy O,AkZ,AkE,hal2,AkB,AbV (De hbt) O hbt,AkB,AkB,AkH h0,AkH h0,decide_eq_true h0,Alt,AlT,AkN,AmH];dsimp only;cases hq:(AF (rkd b x y top (ky (sts f hd)[i])) == AF (enc (bt (f:Int) t cs (sts f hd)[i])))with
     | true=>rw [AkG Z,AkH rfl,Ak O]
     | false=>rw [AkH Z,AkG Z]
    .rw [ino h0,AkB,AkG h0,AkG h0,decide_eq_false h0,AkT,Amb];dsimp only;rw [AkG Z,AkH Z,Ak O]) (by
    unfold E3 cK cZ wI;dsimp only;rw [ino O,Alq])
 have e0:upc b x y top ((sts f hd).take 0)=[]:=rfl;have e1:upo b x y top ((sts f hd).take 0)=true:=rfl;rw [e0,e1,AkT,Amb]at hL;rcases hL with⟨ha,hl⟩ | ⟨k,hk,hp,_,hl⟩
 .refine .inl ⟨?_,hl⟩;rw [Ak7];intro s hs;obtain ⟨i,hi,rfl⟩:=Alh hs;have:=ha i hi;rw [AkD hi]at this;exact this
 .refine .inr ⟨?_,hl⟩;rw [AkD hk]at hp;cases hq:(sts f hd).all (upe b x y top (f:Int) t cs)with
  | false=>rfl
  | true=>
    have:=Ak7.1 hq _ (Ak1 hk);rw [show upe b x y top (f:Int) t cs (sts f hd)[k]=false from hp]at this;cases this
theorem AjD (g:RS b x y) {f hd e:Nat} {t:List UInt8} {r:List Rn} {cs:List (List Prt)} (gh:GH (f:Int) t r cs) (hf:hd=f+cs.length) (hh:hd<=60) (he:0 < e) {C P rs:List Int} (hC:C.length<=80000) (hP:P.length<=80000) (fn:Bool) :
  ((cks f hd e).all (cke b x y top f t cs)=true/\
    Ab E9 (((f+1:Nat):Int),0,0,0,0,0,0,[],(f:Int),(hd:Int),(e:Int),R,T,b,x,y,z,(f:Int),(hd:Int),(e:Int),R,T,b,x,y,z,ksT b top 1024,0,[],(f:Int),t,r,cs,b,x,y,z,rs,srt C,mny b.length P,okb fn C) =
     some (.inl (0,0,0,0,0,0,[],b,x,y,z,(f:Int),(hd:Int),(e:Int),R,T,b,x,y,z,ksT b top 1024,0,[],(f:Int),t,r,cs,b,x,y,z,rs,srt (C++ckc b x y top (cks f hd e)),mny b.length (P++ckp b x y top (cks f hd e)),okb (fn && cko b x y top (cks f hd e)) (C++ckc b x y top (cks f hd e)))))\/
   ((cks f hd e).all (cke b x y top f t cs)=false/\
    Ab E9 (((f+1:Nat):Int),0,0,0,0,0,0,[],(f:Int),(hd:Int),(e:Int),R,T,b,x,y,z,(f:Int),(hd:Int),(e:Int),R,T,b,x,y,z,ksT b top 1024,0,[],(f:Int),t,r,cs,b,x,y,z,rs,srt C,mny b.length P,okb fn C) =
     some (.inr (false,0,0,0,0,0,0,[]))):=by
 have hL:=BW E9 (λn=>(((f+1+n:Nat):Int),0,0,0,0,0,0,[],(f:Int),(hd:Int),(e:Int),R,T,b,x,y,z,(f:Int),(hd:Int),(e:Int),R,T,b,x,y,z,ksT b top 1024,0,[],(f:Int),t,r,cs,b,x,y,z,rs,srt (C++ckc b x y top (ckn f e n)),mny b.length (P++ckp b x y top (ckn f e n)),okb (fn && cko b x y top (ckn f e n)) (C++ckc b x y top (ckn f e n))))
  (λn=>!decide ((f+1+n) % e=0) || cke b x y top f t cs (f+1+n)) (λ_=>(false,0,0,0,0,0,0,[])) (0,0,0,0,0,0,[],b,x,y,z,(f:Int),(hd:Int),(e:Int),R,T,b,x,y,z,ksT b top 1024,0,[],(f:Int),t,r,cs,b,x,y,z,rs,srt (C++ckc b x y top (cks f hd e)),mny b.length (P++ckp b x y top (cks f hd e)),okb (fn && cko b x y top (cks f hd e)) (C++ckc b x y top (cks f hd e))) (hd - f) (λn hn=>by
    have hnl:=QB f e n;have hcl:=Qq b x y top (ckn f e n);have htx:=Adk gh (x:=((f+1+n:Nat):Int)) O O;rw [show(((f+1+n:Nat):Int) - (f:Int)).toNat=f+1+n - f by omega]at htx;have ew:IntKind.wrap .i64 (384+((f+1+n:Nat):Int))=((384+(f+1+n):Nat):Int):=by rw [w64 O O];omega
    have hrt:=AhH (z:=z) g (vl b top (384+(f+1+n))) (P:=P++ckp b x y top (ckn f e n)) (C:=C++ckc b x y top (ckn f e n)) (by rw [AkJ];omega) (by rw [AkJ];omega) (fn && cko b x y top (ckn f e n)) rs;unfold E9 cK wI;dsimp only;rw [iy O,iy O,Xr,Rk];by_cases hz:(f+1+n) % e=0
    .have a1:ckc b x y top (ckn f e n++[f+1+n])=ckc b x y top (ckn f e n)++tcl b x y (vl b top (384+(f+1+n))):=by unfold ckc;rw [AlW];simp
     have a2:ckp b x y top (ckn f e n++[f+1+n])=ckp b x y top (ckn f e n)++tpc b x y (vl b top (384+(f+1+n))):=by unfold ckp;rw [AlW];simp
     have a3:cko b x y top (ckn f e n++[f+1+n])=(cko b x y top (ckn f e n) && tok b x y (vl b top (384+(f+1+n)))):=by unfold cko;rw [List.all_append];simp
     rw [iy O,ew,AbL _ _ _ _ _ _ _ _ _ _ _ _ _ _ O,AkB,hrt,AkB];dsimp only;rw [htx,AkB,AkB,AkH hz,a1,a2,a3,decide_eq_true hz,Alt,AlT,AkN,AkN,AmH];dsimp only;unfold cke;cases hq:(ttx b x y (vl b top (384+(f+1+n))) == txt t (cs.take (f+1+n - f)))with
     | true=>rw [AkG Z,AkH rfl,Ak O];rfl
     | false=>rw [AkH Z,AkG Z]
    .rw [ino O,AkB,AkG hz,AkT,decide_eq_false hz];dsimp only;rw [AkG Z,AkH Z,Ak O];rfl) (by
    unfold E9 cK wI;dsimp only;rw [ino O];rfl)
 have e0:ckc b x y top (ckn f e 0)=[]:=rfl;have e1:cko b x y top (ckn f e 0)=true:=rfl;have e2:ckp b x y top (ckn f e 0)=[]:=rfl;rw [e0,e1,e2,AkT,AkT,Amb]at hL;rcases hL with⟨ha,hl⟩ | ⟨k,hk,hp,_,hl⟩
 .refine .inl ⟨?_,hl⟩;rw [Ak7];intro q hq;obtain ⟨q1,q2,q3⟩:=cks_mem.1 hq;have:=ha (q - (f+1)) O;rw [(O:f+1+(q - (f+1))=q),decide_eq_true q3]at this;simpa using this
 .refine .inr ⟨?_,hl⟩;cases hq:(cks f hd e).all (cke b x y top f t cs)with
  | false=>rfl
  | true=>
    simp only [Amv,Bool.not_eq_false',decide_eq_true_eq]at hp;have:=Ak7.1 hq _ (cks_mem.2 (⟨O,O,hp.1⟩:f < f+1+k/\f+1+k<=hd/\(f+1+k) % e=0));rw [hp.2]at this;cases this
theorem Ai8 (g:RS b x y) {f hd e:Nat} {t:List UInt8} {r:List Rn} {cs:List (List Prt)} {ks:List Kv} {C P rs:List Int} (hC:C.length<=80000) (hP:P.length<=80000) (ok:Bool) :
  ((List.range b.length).all (stB b x C P)=true/\
    Ab Ff (mny b.length P,(b.length:Int),0,0,0,0,0,0,0,[],b,x,y,z,(f:Int),(hd:Int),(e:Int),R,T,b,x,y,z,ks,0,[],(f:Int),t,r,cs,b,x,y,z,rs,srt C,ok) =
     some (.inl (0,0,0,0,0,0,[],(f:Int),(hd:Int),(e:Int),R,T,b,x,y,z,ks,0,[],(f:Int),t,r,cs,b,x,y,z,rs,srt (C++pcn P b.length),mny b.length P,ok)))\/
   ((List.range b.length).all (stB b x C P)=false/\
    Ab Ff (mny b.length P,(b.length:Int),0,0,0,0,0,0,0,[],b,x,y,z,(f:Int),(hd:Int),(e:Int),R,T,b,x,y,z,ks,0,[],(f:Int),t,r,cs,b,x,y,z,rs,srt C,ok) =
     some (.inr (false,0,0,0,0,0,0,[]))):=by
 have hbl:=g.hn;have hxl:=g.hx;have hml:=JC b.length P;have hL:=BW Ff (λk=>(mny b.length P,(b.length:Int),((k:Nat):Int),0,0,0,0,0,0,[],b,x,y,z,(f:Int),(hd:Int),(e:Int),R,T,b,x,y,z,ks,0,[],(f:Int),t,r,cs,b,x,y,z,rs,srt (C++pcn P k),ok))
  (stB b x C P) (λ_=>(false,0,0,0,0,0,0,[])) (0,0,0,0,0,0,[],(f:Int),(hd:Int),(e:Int),R,T,b,x,y,z,ks,0,[],(f:Int),t,r,cs,b,x,y,z,rs,srt (C++pcn P b.length),mny b.length P,ok) b.length (λk hk=>by
    have hpl:=Ahn P k;have hc1:=List.count_le_length (l:=P) (a:=(k:Int));obtain ⟨o1,o2,o3⟩:=J5 (l:=C++pcn P k) (by rw [AkJ];omega);have hm1:(k:Int)∈srt (C++pcn P k)↔(k:Int)∈C:=by
     rw [o3,AkK];exact⟨λq=>q.elim id λq=>by have:=Ah4 P k _ q;omega,.inl⟩
    have hlen:=g.len hk;have hu:=g.u8 hk 1;have hus:=J0 (bits:=x) (k:=k) O O;have hst:stB b x C P k=((decide (P.count (k:Int)=0) || (!decide ((k:Int)∈C) && decide (gb (blk b k) 1=(P.count (k:Int):Int)))) && (decide (k < 33) || (bit x k == decide ((k:Int)∈C\/0 < P.count (k:Int))))):=rfl;rw [hst];unfold Ff cK cZ gX wI;dsimp only;rw [iy O,iy O,iy O,AkZ,AkE,Qa P hk,AkB,AfD];by_cases h0:0 < P.count (k:Int)
    .rw [iy O,GW (by rw [AkJ]at o2;omega),AkB,decide_eq_false (O:¬ P.count (k:Int)=0),AkH h0];by_cases hin:(k:Int)∈C
     .rw [decide_eq_true (hm1.2 hin),AkH rfl,AkB,decide_eq_true hin];dsimp only;rw [AkH rfl];rfl
     .rw [decide_eq_false (λq=>hin (hm1.1 q)),AkG Z,iy O,Bu hk,AkB,iy O,show Int.toNat 1=1 from rfl,Ai O,AkB,AkB,w64 (n:=gb (blk b k) 1) O O,decide_eq_false hin];dsimp only;by_cases hb:gb (blk b k) 1=(P.count (k:Int):Int)
      .obtain ⟨p1,p2,p3⟩:=J5 (l:=C++pcn P k++[(k:Int)]) (by simp only [AkJ,AkO];omega);rw [decide_eq_false (not_not_intro hb),AkG Z,iy O,(Gh (l:=C++pcn P k) (by rw [AkJ];omega) _).1,AkB,AkB,decide_eq_true hb];dsimp only;rw [<- AkN];by_cases h33:k < 33
       .rw [ino O,AkB,decide_eq_true h33];dsimp only;rw [AkG Z,Ak O];rfl
       .have hm2:(k:Int)∈srt (C++pcn P k++[(k:Int)]):=(p3 _).2 Z;rw [iy O,hus,AkB,GW (by simp only [AkJ,AkO]at p2;omega),AkB,AkB,decide_eq_false h33,decide_eq_true hm2,decide_eq_true (.inr h0:(k:Int)∈C\/0 < P.count (k:Int))];dsimp only;cases bit x k with
        | true=>rw [AkG Z,Ak O];rfl
        | false=>rw [AkH Z];rfl
      .rw [decide_eq_true hb,AkH rfl,decide_eq_false hb];rfl
    .rw [ino O,AkB,decide_eq_true (O:P.count (k:Int)=0),AkG h0,AkT];dsimp only;rw [AkG Z,ino O,AkB];dsimp only;by_cases h33:k < 33
     .rw [ino O,AkB,decide_eq_true h33];dsimp only;rw [AkG Z,Ak O];rfl
     .rw [iy O,hus,AkB,GW (by rw [AkJ]at o2;omega),AkB,AkB,decide_eq_false h33];dsimp only;by_cases hin:(k:Int)∈C
      .rw [decide_eq_true (hm1.2 hin),decide_eq_true (.inl hin:(k:Int)∈C\/0 < P.count (k:Int))];cases bit x k with
       | true=>rw [AkG Z,Ak O];rfl
       | false=>rw [AkH Z];rfl
      .rw [decide_eq_false (λq=>hin (hm1.1 q)),decide_eq_false (λq=>q.elim hin h0:¬ ((k:Int)∈C\/0 < P.count (k:Int)))];cases bit x k with
       | true=>rw [AkH Z];rfl
       | false=>rw [AkG Z,Ak O];rfl) (by
    unfold Ff cK cZ gX wI;dsimp only;rw [ino O])
 have e0:pcn P 0=[]:=rfl;rw [e0,AkT]at hL;rcases hL with⟨ha,hl⟩ | ⟨k,hk,hp,_,hl⟩
 .exact .inl ⟨all_range.2 ha,hl⟩
 .refine .inr ⟨?_,hl⟩;cases hq:(List.range b.length).all (stB b x C P)with
  | false=>rfl
  | true=>rw [all_range.1 hq k hk]at hp;cases hp
end
end Go.V.G