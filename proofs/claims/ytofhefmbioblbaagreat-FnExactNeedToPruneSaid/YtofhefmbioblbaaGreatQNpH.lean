import Derived.Test.YtofhefmbioblbaaGreatQNpA
import Derived.Test.YtofhefmbioblbaaGreatQNpC
import Derived.Test.YtofhefmbioblbaaGreatQNpF
import Derived.Test.YtofhefmbioblbaaGreatQNpG
set_option linter.unusedVariables false
set_option linter.unusedSimpArgs false
set_option maxRecDepth 100000
namespace Go.V.G
open Go.V
theorem AkD {fn c:Bool} {l:List Int}:(if bd fn l=true then true else !c)=bd (fn && c) l:=by
 unfold bd
 grind
section
variable (b:Bls) (x y top:List Int)
def ipt (s:Int×Int):List Prt:=(B1 (rkd b x y top (ky s))).1
def ioc (s:Int×Int):Bool:=rko b x y top (ky s) && (B1 (rkd b x y top (ky s))).2
def ics (L:List (Int×Int)):List Int:=L.flatMap λs=>rkc b x y top (ky s)
def ich (L:List (Int×Int)):List (List Prt):=(L.filter λs=>decide (s.1=0)).map (ipt b x y top)
theorem Ah0 (L:List (Int×Int)) (s:Int×Int):ics b x y top (L++[s])=ics b x y top L++rkc b x y top (ky s):=by unfold ics;simp
theorem AhA (L:List (Int×Int)) (s:Int×Int):ich b x y top (L++[s])=ich b x y top L++(if s.1=0 then [ipt b x y top s]else []):=by
 unfold ich
 grind
theorem V3:∀L:List (Int×Int),(ics b x y top L).length<=10 * L.length
 | []=>by simp [ics]
 | s::L=>by
  have h1:=V3 L;have h2:=(Ij b x y top (ky s)).1;unfold ics at *
  grind
theorem Aka (L:List (Int×Int)):(ich b x y top L).length<=L.length:=by
 unfold ich
 grind
end
section
variable {H E R T:Int} {b d:Bls} {x y z top:List Int} {wr lf rt:Int} {on:Bool}
theorem AmJ (g:RS b x y) (ht:top.length=32) {f hd:Nat} (hf:f<=hd) (hh:hd<=60) {ks bl rs:List Int} {m:List (Int×Int)} (hbl:bl.length<=80000) (hks:ks.length<=80000) (fn:Bool) (tx:List UInt8) :
  Ab Ce (sts f hd,[],(((sts f hd).length:Nat):Int),0,ks,bl,rs,bd fn bl,m,d,wr,on,lf,(f:Int),H,E,R,T,b,x,y,z,rt,top,top.map (lfv b),(f:Int),tx,[],[]) =
   some (sts f hd,(sts f hd).map (ipt b x y top),ks++(sts f hd).map kyI,bl++ics b x y top (sts f hd),rs,bd (fn && (sts f hd).all (ioc b x y top)) (bl++ics b x y top (sts f hd)),m,d,wr,on,lf,(f:Int),H,E,R,T,b,x,y,z,rt,top,top.map (lfv b),(f:Int),tx,[],ich b x y top (sts f hd)):=by
 have hsl:=Fr (f:=f) hh;have hL:=Af Ce (λi=>(sts f hd,((sts f hd).take i).map (ipt b x y top),(((sts f hd).length:Nat):Int),((i:Nat):Int),ks++((sts f hd).take i).map kyI,bl++ics b x y top ((sts f hd).take i),rs,bd (fn && ((sts f hd).take i).all (ioc b x y top)) (bl++ics b x y top ((sts f hd).take i)),m,d,wr,on,lf,(f:Int),H,E,R,T,b,x,y,z,rt,top,top.map (lfv b),(f:Int),tx,[],ich b x y top ((sts f hd).take i))) (sts f hd).length
  (sts f hd,(sts f hd).map (ipt b x y top),ks++(sts f hd).map kyI,bl++ics b x y top (sts f hd),rs,bd (fn && (sts f hd).all (ioc b x y top)) (bl++ics b x y top (sts f hd)),m,d,wr,on,lf,(f:Int),H,E,R,T,b,x,y,z,rt,top,top.map (lfv b),(f:Int),tx,[],ich b x y top (sts f hd)) (λi hi=>by
   obtain ⟨k,j,g8⟩:=MW hi;obtain ⟨l1,l2,l3⟩:=g8.lt hh;have hk:=g8.hk;have hget:(sts f hd)[i]?=some ((sts f hd)[i]):=AoF hi;have hil:=V3 b x y top ((sts f hd).take i);have hcl:=Aka b x y top ((sts f hd).take i);rw [AoQ]at hil hcl;have hrk:=Ij b x y top (ky (sts f hd)[i]);have hrec:=X7 (z:=z) g ht (bl:=bl++ics b x y top ((sts f hd).take i)) (ks:=ks++((sts f hd).take i).map kyI) (by grind) (by grind) (k:=ky (sts f hd)[i]) O (fn && ((sts f hd).take i).all (ioc b x y top)) rs d wr on lf (f:Int) H E R T rt m;have e1:Mm (sts f hd)[i].1 (sts f hd)[i].2=some (ky (sts f hd)[i]:Int):=by rw [l2];simp only [g8.e];exact UP hk O
   have e2:((sts f hd).take i++[(sts f hd)[i]]).all (ioc b x y top)=(((sts f hd).take i).all (ioc b x y top) && (rko b x y top (ky (sts f hd)[i]) && (B1 (rkd b x y top (ky (sts f hd)[i]))).2)):=by rw [List.all_append];simp [ioc]
   unfold Ce cK cZ wI;dsimp only;rw [iy O,iy O,iy O,AoS,AoE,hget,AoC,AoC,e1,AoC,hrec,AoC];dsimp only;rw [Ac6 (Mn g top (ky (sts f hd)[i])) O,AoC,AoC,AoL hi,Ah0,AhA,e2,Ape,Ape,AoN,AoN];dsimp only;have eb:(fn && (((sts f hd).take i).all (ioc b x y top) && (rko b x y top (ky (sts f hd)[i]) && (B1 (rkd b x y top (ky (sts f hd)[i]))).2)))=((fn && (((sts f hd).take i).all (ioc b x y top) && rko b x y top (ky (sts f hd)[i]))) && (B1 (rkd b x y top (ky (sts f hd)[i]))).2):=by grind
   have hb:=AkD (fn:=fn && (((sts f hd).take i).all (ioc b x y top) && rko b x y top (ky (sts f hd)[i]))) (c:=(B1 (rkd b x y top (ky (sts f hd)[i]))).2) (l:=bl++(ics b x y top ((sts f hd).take i)++rkc b x y top (ky (sts f hd)[i])));rw [Aqu,eb];have ro1:Aa ((((sts f hd).take i).map (ipt b x y top)).length+([(B1 (rkd b x y top (ky (sts f hd)[i]))).1]:List (List Prt)).length) 24=true:=by simp only [Aa,decide_eq_true_eq,AoP,Ao9,AoQ];omega
   have ro2:Aa ((ich b x y top ((sts f hd).take i)).length+([(B1 (rkd b x y top (ky (sts f hd)[i]))).1]:List (List Prt)).length) 24=true:=by simp only [Aa,decide_eq_true_eq,AoP];omega
   rw [<- hb];by_cases hq:bd (fn && (((sts f hd).take i).all (ioc b x y top) && rko b x y top (ky (sts f hd)[i]))) (bl++(ics b x y top ((sts f hd).take i)++rkc b x y top (ky (sts f hd)[i])))=true
   .rw [AoJ hq,AoJ hq,AoC];dsimp only;rw [AoJ ro1];by_cases h0:(sts f hd)[i].1=0
    .rw [iy h0,AoJ ro2,AoC,AoJ h0];dsimp only;rw [Ah O];rfl
    .rw [ino h0,AoC,AoH h0,AoW];dsimp only;rw [Ah O];rfl
   .rw [AoH hq,AoH hq,AoC];dsimp only;rw [AoJ ro1];by_cases h0:(sts f hd)[i].1=0
    .rw [iy h0,AoJ ro2,AoC,AoJ h0];dsimp only;rw [Ah O];rfl
    .rw [ino h0,AoC,AoH h0,AoW];dsimp only;rw [Ah O];rfl) (by
   unfold Ce cK cZ wI;simp)
 have e0:ics b x y top ((sts f hd).take 0)=[]:=rfl;have e1:((sts f hd).take 0).all (ioc b x y top)=true:=rfl;have e2:((sts f hd).take 0).map (ipt b x y top)=[]:=rfl;have e3:((sts f hd).take 0).map kyI=[]:=rfl;have e4:ich b x y top ((sts f hd).take 0)=[]:=rfl
 grind
theorem Alm {a c:List Prt} (hn:a.length<=1048576):Av a c=some (decide (a=c)):=by
 unfold Av;by_cases hl:a.length=c.length
 .rw [ino O];have h:=I7 As (λi=>(a,c,(a.length:Int),((i:Nat):Int))) (λi=>decide (a[i]?=c[i]?)) false () a.length (λi hi=>by
   have hc:i < c.length:=O
   unfold As gX wI;dsimp only;rw [iy O,iy O,AoE,AoF hi,AoC,iy O,AoF hc,AoC,Ah O]
   grind) (by
   unfold As gX wI;simp)
  have e:((List.range a.length).all λi=>decide (a[i]?=c[i]?))=decide (a=c):=by
   rw [Aqq,all_range,decide_eq_true_eq];constructor
   .intro q;refine Apq λi=>?_
    grind
   grind
  grind
 .rw [iy O,decide_eq_false (λq=>hl (by rw [q]))]
theorem AlW {a c:List Int} (hn:a.length<=1048576):Eb a c=some (decide (a=c)):=by
 unfold Eb;by_cases hl:a.length=c.length
 .rw [ino O];have h:=I7 Dq (λi=>(a,c,(a.length:Int),((i:Nat):Int))) (λi=>decide (a[i]?=c[i]?)) false () a.length (λi hi=>by
   have hc:i < c.length:=O
   unfold Dq gX wI;dsimp only;rw [iy O,iy O,AoE,AoF hi,AoC,iy O,AoF hc,AoC,Ah O]
   grind) (by
   unfold Dq gX wI;simp)
  have e:((List.range a.length).all λi=>decide (a[i]?=c[i]?))=decide (a=c):=by
   rw [Aqq,all_range,decide_eq_true_eq];constructor
   .intro q;refine Apq λi=>?_
    grind
   grind
  grind
 .rw [iy O,decide_eq_false (λq=>hl (by rw [q]))]
theorem AdX {a c:List Prt} (hn:a.length<=1048576):Kb a c=some (decide (a=c)):=by
 unfold Kb;rw [Alm hn];rfl
def ieq (b:Bls) (x y top:List Int) (f:Int) (t:List UInt8) (cs:List (List Prt)) (s:Int×Int):Bool:=decide (ipt b x y top s=bt f t cs s)
theorem AmS {f hd:Nat} {t:List UInt8} {r:List Rn} {cs:List (List Prt)} (gh:GH (f:Int) t r cs) (hf:hd=f+cs.length) (hh:hd<=60) {ks bl rs:List Int} {m:List (Int×Int)} (bad:Bool) :
  Ab BH ((sts f hd).map (ipt b x y top),sts f hd,(((sts f hd).length:Nat):Int),0,ks,bl,rs,bad,m,d,wr,on,lf,(f:Int),H,E,R,T,b,x,y,z,rt,top,top.map (lfv b),(f:Int),t,r,cs) =
   some (if(sts f hd).all (ieq b x y top (f:Int) t cs)=true then .inl (ks,bl,rs,bad,m,d,wr,on,lf,(f:Int),H,E,R,T,b,x,y,z,rt,top,top.map (lfv b),(f:Int),t,r,cs)
    else .inr (false,d,wr,on,lf,(f:Int),H,E,R,T,b,x,y,z,rt,top,top.map (lfv b),(f:Int),t,r,cs)):=by
 have hsl:=Fr (f:=f) hh;have hL:=I7 BH (λi=>((sts f hd).map (ipt b x y top),sts f hd,(((sts f hd).length:Nat):Int),((i:Nat):Int),ks,bl,rs,bad,m,d,wr,on,lf,(f:Int),H,E,R,T,b,x,y,z,rt,top,top.map (lfv b),(f:Int),t,r,cs))
  (λi=>ieq b x y top (f:Int) t cs (((sts f hd)[i]?).getD (0,0))) (false,d,wr,on,lf,(f:Int),H,E,R,T,b,x,y,z,rt,top,top.map (lfv b),(f:Int),t,r,cs) (ks,bl,rs,bad,m,d,wr,on,lf,(f:Int),H,E,R,T,b,x,y,z,rt,top,top.map (lfv b),(f:Int),t,r,cs) (sts f hd).length (λi hi=>by
   obtain ⟨k,j,g8⟩:=MW hi;obtain ⟨l1,l2,l3⟩:=g8.lt hh;obtain ⟨f1,f2,f3,f4,f5⟩:=g8.ft;have hk:=g8.hk;have hget:(sts f hd)[i]?=some ((sts f hd)[i]):=AoF hi;have hml:((sts f hd).map (ipt b x y top))[i]?=some (ipt b x y top (sts f hd)[i]):=by grind
   have e1:El (sts f hd)[i].1 (sts f hd)[i].2=some (frS (sts f hd)[i]:Int):=by rw [f1];simp only [g8.e];exact XW hk O
   have e2:HE (sts f hd)[i].1 (sts f hd)[i].2=some (toS (sts f hd)[i]:Int):=by rw [f2];simp only [g8.e];exact Akf hk O
   have hsm:=(T6 (rkd b x y top (ky (sts f hd)[i]))).len;have hip:(ipt b x y top (sts f hd)[i]).length<=1048576:=by unfold ipt;omega
   unfold BH cK cZ wI;dsimp only;rw [iy O,iy O,iy O,AoS,AoE,hget,AoC,AoC,iy O,iy (by grind),hml,AoC,e1,AoC,e2,AoC,Za gh O O O,AoC,AdX hip,AoC,Apo];have he:ieq b x y top (f:Int) t cs (sts f hd)[i]=decide (ipt b x y top (sts f hd)[i]=B3 (f:Int) t cs (frS (sts f hd)[i]:Int) (toS (sts f hd)[i]:Int)):=rfl;rw [he];by_cases hq:ipt b x y top (sts f hd)[i]=B3 (f:Int) t cs (frS (sts f hd)[i]:Int) (toS (sts f hd)[i]:Int)
   .rw [decide_eq_true hq,AoH Z,AoJ rfl,Ah O]
   grind) (by
   unfold BH cK cZ wI;simp)
 have e:((List.range (sts f hd).length).all λi=>ieq b x y top (f:Int) t cs (((sts f hd)[i]?).getD (0,0)))=(sts f hd).all (ieq b x y top (f:Int) t cs):=by
  rw [Aqq,all_range,Apb];constructor
  .intro q s hs;obtain ⟨i,hi,rfl⟩:=Ao3 hs
   grind
  grind
 grind
def btl (b:Bls) (x y top:List Int):List Nat->List Int->List Int->List Int
 | [],P,bl=>bl
 | r::l,P,bl=>btl b x y top l (P++tpc b x y (vl b top (384+r))) (btx b x y P bl (vl b top (384+r)))
theorem Zb (b:Bls) (x y top:List Int):∀(l:List Nat) (P bl:List Int) (r:Nat),btl b x y top (l++[r]) P bl=btx b x y (P++ckp b x y top l) (btl b x y top l P bl) (vl b top (384+r))
 | [],P,bl,r=>by simp [btl,ckp]
 | a::l,P,bl,r=>by
  have h:=Zb b x y top l (P++tpc b x y (vl b top (384+a))) (btx b x y P bl (vl b top (384+a))) r;have e:ckp b x y top (a::l)=tpc b x y (vl b top (384+a))++ckp b x y top l:=by rfl
  rw [e,<- AoN];exact h
theorem Adt {b:Bls} {x y top:List Int}:∀(l:List Nat) {C P bl:List Int},Led C P bl->Led (C++ckc b x y top l) (P++ckp b x y top l) (btl b x y top l P bl)
 | [],C,P,bl,h=>by simpa [ckc,ckp,btl] using h
 | a::l,C,P,bl,h=>by
  have h1:=Adt (b:=b) (x:=x) (y:=y) (top:=top) l (Adw (b:=b) (x:=x) (y:=y) h (vl b top (384+a)));have e1:ckp b x y top (a::l)=tpc b x y (vl b top (384+a))++ckp b x y top l:=by rfl
  have e2:ckc b x y top (a::l)=tcl b x y (vl b top (384+a))++ckc b x y top l:=by rfl
  rw [e1,e2,<- AoN,<- AoN];exact h1
theorem V8 (b:Bls) (x y top:List Int):∀(l:List Nat) (P bl:List Int),(btl b x y top l P bl).length<=bl.length+4 * l.length
 | [],P,bl=>by simp [btl]
 | a::l,P,bl=>by
  have h1:=V8 b x y top l (P++tpc b x y (vl b top (384+a))) (btx b x y P bl (vl b top (384+a)));have h2:=Adb b x y P bl (vl b top (384+a));rw [AoV];show(btl b x y top l _ _).length<=_;omega
theorem AmL (g:RS b x y) (ht:top.length=32) {f hd e:Nat} {t:List UInt8} {r:List Rn} {cs:List (List Prt)} (gh:GH (f:Int) t r cs) (hf:hd=f+cs.length) (hh:hd<=60) {ks bl rs P:List Int} (hbl:bl.length<=80000) (hks:ks.length<=80000) (hP:P.length<=80000) (fn:Bool) :
  Ab BF ((cks f hd e).map (λr=>((r:Nat):Int)),((((cks f hd e).map (λr=>((r:Nat):Int))).length:Nat):Int),0,ks,bl,rs,bd fn bl,std P,d,wr,on,lf,(f:Int),H,E,R,T,b,x,y,z,rt,top,top.map (lfv b),(f:Int),t,r,cs) =
   some (if(cks f hd e).all (cke b x y top f t cs)=true then .inl (ks++(cks f hd e).map ckI,btl b x y top (cks f hd e) P bl,rs,bd (fn && cko b x y top (cks f hd e)) (btl b x y top (cks f hd e) P bl),std (P++ckp b x y top (cks f hd e)),d,wr,on,lf,(f:Int),H,E,R,T,b,x,y,z,rt,top,top.map (lfv b),(f:Int),t,r,cs)
    else .inr (false,d,wr,on,lf,(f:Int),H,E,R,T,b,x,y,z,rt,top,top.map (lfv b),(f:Int),t,r,cs)):=by
 have hcl:=KF (f:=f) (e:=e) hh;have hL:=I7 BF (λi=>((cks f hd e).map (λr=>((r:Nat):Int)),((((cks f hd e).map (λr=>((r:Nat):Int))).length:Nat):Int),((i:Nat):Int),ks++((cks f hd e).take i).map ckI,btl b x y top ((cks f hd e).take i) P bl,rs,bd (fn && cko b x y top ((cks f hd e).take i)) (btl b x y top ((cks f hd e).take i) P bl),std (P++ckp b x y top ((cks f hd e).take i)),d,wr,on,lf,(f:Int),H,E,R,T,b,x,y,z,rt,top,top.map (lfv b),(f:Int),t,r,cs))
  (λi=>cke b x y top f t cs (((cks f hd e)[i]?).getD 0)) (false,d,wr,on,lf,(f:Int),H,E,R,T,b,x,y,z,rt,top,top.map (lfv b),(f:Int),t,r,cs) (ks++(cks f hd e).map ckI,btl b x y top (cks f hd e) P bl,rs,bd (fn && cko b x y top (cks f hd e)) (btl b x y top (cks f hd e) P bl),std (P++ckp b x y top (cks f hd e)),d,wr,on,lf,(f:Int),H,E,R,T,b,x,y,z,rt,top,top.map (lfv b),(f:Int),t,r,cs) (cks f hd e).length (λi hi=>by
   have hget:(cks f hd e)[i]?=some ((cks f hd e)[i]):=AoF hi;have hml:((cks f hd e).map (λr=>((r:Nat):Int)))[i]?=some (((cks f hd e)[i]:Nat):Int):=by grind
   obtain ⟨q1,q2,q3⟩:=cks_mem.1 (AoR hi);have htl:=(Sr b x y top ((cks f hd e).take i)).2;have hbn:=V8 b x y top ((cks f hd e).take i) P bl;rw [AoQ]at htl hbn;have ew:IntKind.wrap .i64 (384+(((cks f hd e)[i]:Nat):Int))=((384+(cks f hd e)[i]:Nat):Int):=by rw [w64 O O];omega
   have htx:=R7 gh (x:=(((cks f hd e)[i]:Nat):Int)) O O;rw [show((((cks f hd e)[i]:Nat):Int) - (f:Int)).toNat=(cks f hd e)[i] - f by omega]at htx;have hrt:=AlA (z:=z) g (vl b top (384+(cks f hd e)[i])) (P:=P++ckp b x y top ((cks f hd e).take i)) (bl:=btl b x y top ((cks f hd e).take i) P bl) O (by grind) (fn && cko b x y top ((cks f hd e).take i)) (ks++((cks f hd e).take i).map ckI++[ckI (cks f hd e)[i]]) rs d wr on lf (f:Int) H E R T;have a2:ckp b x y top ((cks f hd e).take i++[(cks f hd e)[i]])=ckp b x y top ((cks f hd e).take i)++tpc b x y (vl b top (384+(cks f hd e)[i])):=by unfold ckp;grind
   have a3:cko b x y top ((cks f hd e).take i++[(cks f hd e)[i]])=(cko b x y top ((cks f hd e).take i) && tok b x y (vl b top (384+(cks f hd e)[i]))):=by unfold cko;grind
   unfold BF cK cZ wI;dsimp only;rw [iy (by grind),iy O,iy (by grind),AoS,AoE,hml,AoC,ew,AoJ (by simp only [Aa,decide_eq_true_eq,AoP,AoM,Ao9,AoQ];omega),Rf ht rt O,AoC,
    show((384+(cks f hd e)[i]:Nat):Int)=ckI (cks f hd e)[i] from rfl,hrt,AoC]
   rw [htx,AoC,hget,Apo,AoL hi,Zb,a2,a3,Ape,AoN,AoN,Aqu];unfold cke;cases hq:(ttx b x y (vl b top (384+(cks f hd e)[i])) == txt t (cs.take ((cks f hd e)[i] - f)))with
   | true=>rw [AoH Z,AoJ rfl,Ah O];rfl
   | false=>rfl) (by
   unfold BF cK cZ wI;simp)
 have eq9:((List.range (cks f hd e).length).all λi=>cke b x y top f t cs (((cks f hd e)[i]?).getD 0))=(cks f hd e).all (cke b x y top f t cs):=by
  rw [Aqq,all_range,Apb];constructor
  .intro q s hs;obtain ⟨i,hi,rfl⟩:=Ao3 hs
   grind
  grind
 have e1:cko b x y top ((cks f hd e).take 0)=true:=rfl;have e2:ckp b x y top ((cks f hd e).take 0)=[]:=rfl;have e3:btl b x y top ((cks f hd e).take 0) P bl=bl:=rfl
 grind
end
end Go.V.G
set_option maxRecDepth 100000
namespace Go.V.G
open Go.V
def pst (b:Bls) (x y:List Int) (a:Int):Int:=if pcB b x y a=true then gb (blk b a.toNat) 1 else 0
def usd (x:List Int) (n:Nat):List Int:=(((List.range n).map (33 + ·)).filter λk=>bit x k).map λk=>((k:Nat):Int)
theorem ZG (x:List Int) (n:Nat):usd x (n+1)=usd x n++(if bit x (33+n)=true then [((33+n:Nat):Int)]else []):=by
 unfold usd;rw [Aqb,Ape,ApV,Ape];by_cases h:bit x (33+n)=true <;> simp [h]
theorem AjY (x:List Int) (n:Nat):(usd x n).length<=n:=by
 unfold usd
 grind
theorem usd_mem {x:List Int} {n:Nat} {v:Int}:v∈usd x n↔∃k:Nat,33<=k/\k < 33+n/\bit x k=true/\v=(k:Int):=by
 unfold usd;simp only [Ao0,Aqe,Aqw];constructor
 .grind
 .rintro ⟨k,h1,h2,h3,rfl⟩;exact⟨k,⟨⟨k - 33,O,O⟩,h3⟩,rfl⟩
theorem SO (x:List Int):∀n,(usd x n).Pairwise (· < ·)
 | 0=>by simp [usd]
 | n+1=>by
  rw [ZG];split
  .rw [Aqp];refine⟨SO x n,Z,λa ha c hc=>?_⟩;obtain ⟨k,_,h2,_,rfl⟩:=usd_mem.1 ha
   grind
  .rw [AoW];exact SO x n
section
variable {F H E R T:Int} {b d:Bls} {x y z top:List Int} {wr lf rt:Int} {on:Bool}
theorem AiB (g:RS b x y):F7 (b,x,y,z)=some (usd x (b.length - 33)):=by
 have hbl:=g.hn;have hxl:=g.hx;unfold F7;have h:=Af Ds (λn=>((b,x,y,z),usd x n,((33+n:Nat):Int))) (b.length - 33) (usd x (b.length - 33)) (λn hn=>by
  have hl:=AjY x n;unfold Ds cK wI;dsimp only;rw [iy O,UD O O,AoC,ZG];by_cases hq:bit x (33+n)=true
  .rw [AoJ hq,AoJ (by simp only [Aa,decide_eq_true_eq,AoP];omega),AoC,AoJ hq];rw [Ah O];rfl
  .rw [AoH hq,AoC,AoH hq,AoW];rw [Ah O];rfl) (by
  unfold Ds cK wI
  grind)
 rw [show Ab Ds ((b,x,y,z),[],33)=_ from h];rfl
theorem Ajz (g:RS b x y) {ks bl rs:List Int} {h1:Int} {h2:List UInt8} {h3:List Rn} {h4:List (List Prt)} {vs:List (List Int)}:∀(l:List (Int×Int)) (bad:Bool),
  l.foldlM Cd (ks,bl,rs,bad,d,wr,on,lf,F,H,E,R,T,b,x,y,z,rt,top,vs,h1,h2,h3,h4) =
   some (ks,bl,rs,bad || l.any (λp=>!decide (pst b x y p.1=p.2)),d,wr,on,lf,F,H,E,R,T,b,x,y,z,rt,top,vs,h1,h2,h3,h4)
 | [],bad=>by simp
 | p::l,bad=>by
  have hs:Cd (ks,bl,rs,bad,d,wr,on,lf,F,H,E,R,T,b,x,y,z,rt,top,vs,h1,h2,h3,h4) p=some (ks,bl,rs,bad || !decide (pst b x y p.1=p.2),d,wr,on,lf,F,H,E,R,T,b,x,y,z,rt,top,vs,h1,h2,h3,h4):=by
   unfold Cd;dsimp only;rw [Vv g,AoC];have e:(if pcB b x y p.1=true then(true,CQ b p.1)else(false,0,0,[])).2.2.1=pst b x y p.1:=by
    unfold pst CQ;split <;> rfl
   grind
  rw [List.foldlM_cons,hs];show l.foldlM Cd _=_;rw [Ajz g l,List.any_cons,Bool.or_assoc]
theorem AhB {l m:List (Int×Int)} (h:l.Perm m) (p:Int×Int->Bool):l.any p=m.any p:=by
 grind
theorem AmN {tk:List Kv} {ks bl rs:List Int} {h1:Int} {h2:List UInt8} {h3:List Rn} {h4:List (List Prt)} {vs:List (List Int)} (htk:tk.length<=100000) (hks:ks.length<=1000000) (bad:Bool) :
  Ab Cb (tk,(tk.length:Int),0,ks,bl,rs,bad,d,wr,on,lf,F,H,E,R,T,b,x,y,z,rt,top,vs,h1,h2,h3,h4) =
   some (ks,bl,rs,bad || tk.any (λp=>!decide (p.1∈ks)),d,wr,on,lf,F,H,E,R,T,b,x,y,z,rt,top,vs,h1,h2,h3,h4):=by
 have h:=Af Cb (λi=>(tk,(tk.length:Int),((i:Nat):Int),ks,bl,rs,bad || (tk.take i).any (λp=>!decide (p.1∈ks)),d,wr,on,lf,F,H,E,R,T,b,x,y,z,rt,top,vs,h1,h2,h3,h4)) tk.length (ks,bl,rs,bad || tk.any (λp=>!decide (p.1∈ks)),d,wr,on,lf,F,H,E,R,T,b,x,y,z,rt,top,vs,h1,h2,h3,h4) (λi hi=>by
  unfold Cb cK cZ wI;dsimp only;rw [iy O,iy O,iy O,AoS,AoE,AoF hi,AoC,AoC,AoL hi,List.any_append];cases hq:(bad || (tk.take i).any (λp=>!decide (p.1∈ks)))with
  | true=>
   rw [AoJ rfl,AoC,<- Bool.or_assoc,hq];rw [Ah O];rfl
  | false=>
   rw [AoH Z,GO O,AoC,AoC,<- Bool.or_assoc,hq];rw [Ah O];simp) (by
  unfold Cb cK cZ wI;simp)
 grind
end
section defs
variable (b:Bls) (x top:List Int) (R T:Int) (f h e:Nat)
noncomputable def bB2:List Int:=btx b x [] [] (srt (pgl top R)) T
noncomputable def bB4:List Int:=bB2 b x top R T++ics b x [] top (sts f h)++rkc b x [] top 448
noncomputable def bB5:List Int:=btl b x [] top (cks f h e) (aP2 b x T) (bB4 b x top R T f h)
def bf4:Bool:=(tok b x [] T && (sts f h).all (ioc b x [] top)) && rko b x [] top 448
def bf5:Bool:=bf4 b x top T f h && cko b x [] top (cks f h e)
def bKs:List Int:=((sts f h).map kyI++[448])++(cks f h e).map ckI
def bL:List (List Prt):=ich b x [] top (sts f h)
noncomputable def bG1:Bool:=(rdR (rkd b x [] top 448)).2 && (!bd (bf4 b x top T f h) (bB4 b x top R T f h) && F6 (f:Int) (aT b x T) (aR b x top) (bL b x top f h))
def bE:Bool:=(sts f h).all (ieq b x [] top (f:Int) (aT b x T) (bL b x top f h))
def bK:Bool:=(cks f h e).all (cke b x [] top f (aT b x T) (bL b x top f h))
noncomputable def Aeh:Bool:=(bd (bf5 b x top T f h e) (bB5 b x top R T f h e) || (std (aP6 b x top T f h e)).any (λp=>!decide (pst b x [] p.1=p.2))) || (ksT b top 1024).any (λp=>!decide (p.1∈bKs f h e))
noncomputable def iC:Bool:=bG1 b x top R T f h && (bE b x top T f h && (bK b x top T f h e && (!Aeh b x top R T f h e && decide ((bB5 b x top R T f h e).mergeSort (λx y=>decide (x<=y))=usd x (b.length - 33)))))
end defs
theorem Ad0 {α:Type} (F:Int×Int->α) (f:Nat):∀n,(skn f 0 n).map F=(List.range (n - f)).map λi=>F (0,((f+i:Nat):Int))
 | 0=>by simp [skn]
 | n+1=>by
  rw [I6,Ape,Ad0 F f n,Nat.pow_zero,Nat.mul_one];by_cases h:f<=n
  .rw [AoJ h,(O:n+1 - f=n - f+1),PN,(O:f+(n - f)=n)];rfl
  grind
theorem Ald {f h:Nat}:∀k,(stk f h (k+1)).filter (λs=>decide (s.1=0))=skn f 0 h
 | 0=>by
  show(([]++skn f 0 (h / 2 ^ 0):List (Int×Int))).filter _=_;rw [Ao6,Nat.pow_zero,Nat.div_one,List.filter_eq_self];intro s hs;obtain ⟨i,_,_,rfl⟩:=skn_mem.1 hs;simp
 | k+1=>by
  show(stk f h (k+1)++skn f (k+1) (h / 2 ^ (k+1))).filter _=_;rw [ApV,Ald k];have:(skn f (k+1) (h / 2 ^ (k+1))).filter (λs=>decide (s.1=0))=[]:=by
   rw [List.filter_eq_nil_iff];intro s hs;obtain ⟨i,_,_,rfl⟩:=skn_mem.1 hs
   grind
  grind
theorem UA (b:Bls) (x top:List Int) (f h:Nat):bL b x top f h=aL b x top f h:=by
 unfold bL aL ich chC lod sts;rw [Ald,Ad0,ApF];refine Aps λi _=>?_
 show(B1 (rkd b x [] top (64 * Int.toNat 0+Int.toNat ((f+i:Nat):Int)))).1=(B1 (rkd b x [] top (f+i))).1
 grind
theorem Afs {bl:Bls} {wr lf:Int} (on:Bool) {f h e:Nat} {R T:Int} {top:List Int} (hn:bl.length<=1048576) (g:RS bl (opB bl) []) (htl:top.length=32) (hf:f<=h) (hh:h<=60) (he:0 < e) (he2:e<=30) :
  ∃q,CI bl wr on lf (f:Int) (h:Int) (e:Int) R T bl (opB bl) [] [] R top (top.map (lfv bl)) 0 [] [] []=some q/\q.1=iC bl (opB bl) top R T f h e/\(iC bl (opB bl) top R T f h e=true->
   q=(true,bl,wr,on,lf,(f:Int),(h:Int),(e:Int),R,T,bl,opB bl,[],[],R,top,top.map (lfv bl),(f:Int),aT bl (opB bl) T,aR bl (opB bl) top,aL bl (opB bl) top f h)):=by
 obtain ⟨l1,l2,l3,l4,l5,l6,l7,l8⟩:=Ag8 (b:=bl) (x:=opB bl) (top:=top) (R:=R) (T:=T) (f:=f) (h:=h) (e:=e) htl hh;have hpl:(srt (pgl top R)).length<=33:=l1;have hb2:(bB2 bl (opB bl) top R T).length<=37:=by
  have:=Adb bl (opB bl) [] [] (srt (pgl top R)) T;unfold bB2;omega
 have hsl:=Fr (f:=f) hh;have hcl:=KF (f:=f) (e:=e) hh;have hil:=V3 bl (opB bl) [] top (sts f h);have hrk:=Ij bl (opB bl) [] top 448;have hb4:(bB4 bl (opB bl) top R T f h).length<=3700:=by unfold bB4;grind
 have hb5:(bB5 bl (opB bl) top R T f h e).length<=4000:=by
  have:=V8 bl (opB bl) [] top (cks f h e) (aP2 bl (opB bl) T) (bB4 bl (opB bl) top R T f h);unfold bB5;omega
 have hLl:(bL bl (opB bl) top f h).length=h - f:=by rw [UA];unfold aL chC lod;simp
 unfold CI cK;rw [Aic htl,AoC];have e1:=Qa (l:=srt (pgl top R)) (bl:=[]) (by grind) true [] [] bl [];rw [Ao6]at e1;rw [show BO (srt (pgl top R)) [] [] [] false bl []=_ from e1,AoC];dsimp only;rw [show([]:List (Int×Int))=std [] from rfl,AlA g T O Z true [] [],AoC];dsimp only;rw [iy rfl,OM hf hh,AoC,AoT,Ao6,show btx bl (opB bl) [] [] (srt (pgl top R)) T=bB2 bl (opB bl) top R T from rfl,show tpc bl (opB bl) [] T=aP2 bl (opB bl) T from rfl];rw [show(std []:List (Int×Int))=[] from rfl,AmJ g htl hf hh O Z,AoC];dsimp only;have er:=X7 (z:=[]) g htl (bl:=bB2 bl (opB bl) top R T++ics bl (opB bl) [] top (sts f h)) (ks:=[]++(sts f h).map kyI) (by grind) (by grind) (k:=448) O (tok bl (opB bl) [] T && (sts f h).all (ioc bl (opB bl) [] top)) [] bl wr on lf (f:Int) (h:Int) (e:Int) R T R (std (aP2 bl (opB bl) T));rw [show BC 448 _ _ _ _ _ _ _ _ _ _ _ _ _ _ _ _ _ _ _ _ _=_ from er,AoC];dsimp only;rw [AmP (Mn g top 448) O,AoC,show bB2 bl (opB bl) top R T++ics bl (opB bl) [] top (sts f h)++rkc bl (opB bl) [] top 448=bB4 bl (opB bl) top R T f h from rfl,
  show((tok bl (opB bl) [] T && (sts f h).all (ioc bl (opB bl) [] top)) && rko bl (opB bl) [] top 448)=bf4 bl (opB bl) top T f h from rfl,show ich bl (opB bl) [] top (sts f h)=bL bl (opB bl) top f h from rfl]
 unfold iC;have hG1:bG1 bl (opB bl) top R T f h=((rdR (rkd bl (opB bl) [] top 448)).2 && (!bd (bf4 bl (opB bl) top T f h) (bB4 bl (opB bl) top R T f h) && F6 (f:Int) (aT bl (opB bl) T) (aR bl (opB bl) top) (bL bl (opB bl) top f h))):=rfl;rw [hG1];cases hr2:(rdR (rkd bl (opB bl) [] top 448)).2 with
 | false=>
  simp
 | true=>
  rw [AoH Z];cases hbd:bd (bf4 bl (opB bl) top T f h) (bB4 bl (opB bl) top R T f h)with
  | true=>
   simp
  | false=>
   have hHB:HB (ttx bl (opB bl) [] T) (rdR (rkd bl (opB bl) [] top 448)).1 (bL bl (opB bl) top f h):=by
    have:=Ac4 (rkd bl (opB bl) [] top 448);have:=Vw bl (opB bl) [] T;refine⟨O,O,O,λc hc=>?_⟩;rw [UA]at hc;obtain ⟨x',_,rfl⟩:=Ao0.1 hc;exact(T6 x').mono O
   rw [AoH Z,TF hHB,AoC,AoC,show F6 (f:Int) (aT bl (opB bl) T) (aR bl (opB bl) top) (bL bl (opB bl) top f h)=F6 (f:Int) (ttx bl (opB bl) [] T) (rdR (rkd bl (opB bl) [] top 448)).1 (bL bl (opB bl) top f h) from rfl];dsimp only;cases hgh:F6 (f:Int) (ttx bl (opB bl) [] T) (rdR (rkd bl (opB bl) [] top 448)).1 (bL bl (opB bl) top f h)with
   | false=>
    simp
   | true=>
    have gh:=goodH_iff.1 hgh;rw [AoH Z];have e2:=AmS (b:=bl) (d:=bl) (x:=opB bl) (y:=[]) (z:=[]) (top:=top) (wr:=wr) (lf:=lf) (on:=on) (H:=(h:Int)) (E:=(e:Int)) (R:=R) (T:=T) (rt:=R) gh (hd:=h) O hh (ks:=[]++(sts f h).map kyI++[((448:Nat):Int)]) (bl:=bB4 bl (opB bl) top R T f h) (rs:=[]) (m:=std (aP2 bl (opB bl) T)) false;rw [show Ab BH _=_ from e2,AoC];simp only [Aqx,AoT];cases hE:bE bl (opB bl) top T f h with
    | false=>
     have hE':(sts f h).all (ieq bl (opB bl) [] top (f:Int) (ttx bl (opB bl) [] T) (bL bl (opB bl) top f h))=false:=hE;simp [*]
    | true=>
     have hE':(sts f h).all (ieq bl (opB bl) [] top (f:Int) (ttx bl (opB bl) [] T) (bL bl (opB bl) top f h))=true:=hE;rw [hE',AoJ rfl];dsimp only;unfold Kh wI;rw [AoC,w64 O O,show(f:Int)+(((bL bl (opB bl) top f h).length:Nat):Int)=(h:Int) by omega,Tz hf hh he he2,AoC];have e3:=AmL (b:=bl) (d:=bl) (x:=opB bl) (y:=[]) (z:=[]) (top:=top) (wr:=wr) (lf:=lf) (on:=on) (H:=(h:Int)) (E:=(e:Int)) (R:=R) (T:=T) (rt:=R) g htl gh (hd:=h) (e:=e) O hh (ks:=[]++(sts f h).map kyI++[((448:Nat):Int)]) (bl:=bB4 bl (opB bl) top R T f h) (rs:=[]) (P:=aP2 bl (opB bl) T) O Aoz O (bf4 bl (opB bl) top T f h);rw [hbd]at e3;rw [show Ab BF _=_ from e3,AoC];simp only [AoT];cases hK:bK bl (opB bl) top T f h e with
     | false=>
      have hK':(cks f h e).all (cke bl (opB bl) [] top f (ttx bl (opB bl) [] T) (bL bl (opB bl) top f h))=false:=hK;simp [*]
     | true=>
      have hK':(cks f h e).all (cke bl (opB bl) [] top f (ttx bl (opB bl) [] T) (bL bl (opB bl) top f h))=true:=hK;rw [hK',AoJ rfl];dsimp only;rw [show aP2 bl (opB bl) T++ckp bl (opB bl) [] top (cks f h e)=aP6 bl (opB bl) top T f h e from rfl,show btl bl (opB bl) [] top (cks f h e) (aP2 bl (opB bl) T) (bB4 bl (opB bl) top R T f h)=bB5 bl (opB bl) top R T f h e from rfl,show(bf4 bl (opB bl) top T f h && cko bl (opB bl) [] top (cks f h e))=bf5 bl (opB bl) top T f h e from rfl,
       Ait (λl hl=>by rw [Ajz g l,AhB hl]),AoC]
      dsimp only;have hkt:=Si bl top 1024;rw [Aer htl,AoC,AmN O Aoz,AoC];dsimp only;have hkk:[]++(sts f h).map kyI++[((448:Nat):Int)]++(cks f h e).map ckI=bKs f h e:=by rfl
      rw [hkk,show((bd (bf5 bl (opB bl) top T f h e) (bB5 bl (opB bl) top R T f h e) || (std (aP6 bl (opB bl) top T f h e)).any (λp=>!decide (pst bl (opB bl) [] p.1=p.2))) || (ksT bl top 1024).any (λp=>!decide (p.1∈bKs f h e)))=Aeh bl (opB bl) top R T f h e from rfl];unfold GQ;rw [AoJ O,AoC];cases hB:Aeh bl (opB bl) top R T f h e with
      | true=>
       simp
      | false=>
       rw [AoJ Z,AiB g,AoC,AlW (by rw [List.length_mergeSort];omega),AoC,AoC];refine⟨_,rfl,Z,λq=>?_⟩;have q':decide ((bB5 bl (opB bl) top R T f h e).mergeSort (λx y=>decide (x<=y))=usd (opB bl) (bl.length - 33))=true:=by simpa using q
       rw [q',UA];rfl
end Go.V.G
set_option maxRecDepth 100000
namespace Go.V.G
open Go.V
theorem Sw:∀(n:Nat) (x:List Int) (c:List Prt),Byt x->CV n x=some c->(∀p∈c,kd p≠0)->enc c=x
 | 0,x,c,hb,h,hk=>by
  unfold CV at h;split at h
  .rename_i hx;injection h with h;subst h;rw [hx];rfl
  .cases h
 | n+1,[],c,hb,h,hk=>by
  rw [Pq]at h;injection h with h;subst h;rfl
 | n+1,[a],c,hb,h,hk=>by simp [CV]at h
 | n+1,k::m::r,c,hb,h,hk=>by
  have hm:=hb m Z;have hr:Byt r:=λv hv=>hb v (by simp [hv])
  simp only [CV]at h;split at h
  .rename_i h1;obtain ⟨c',q1,rfl⟩:=Apx.1 h;have ih:=Sw n r c' hr q1 (λp hp=>hk p (by simp [hp]));have h0:=hk (m,0,[]) Z;rcases Dx h0 with⟨a,ha,e,hkd⟩ | ⟨a,ha,e,hkd⟩ | ⟨s,hs,e,hkd⟩
   .show Gk (m,0,[])++enc c'=_;rw [ih];unfold Gk;rw [hkd,h1];simp [AA]
   .injection e with e1 e2;injection e2 with e2 e3;omega
   .injection e with e1 e2;injection e2 with e2 e3;exact absurd e3.symm hs
  .split at h
   .rename_i _ h1;obtain ⟨c',q1,rfl⟩:=Apx.1 h;have ih:=Sw n r c' hr q1 (λp hp=>hk p (by simp [hp]));have h0:=hk (0,m,[]) Z;rcases Dx h0 with⟨a,ha,e,hkd⟩ | ⟨a,ha,e,hkd⟩ | ⟨s,hs,e,hkd⟩
    .injection e with e1 e2;omega
    .show Gk (0,m,[])++enc c'=_;rw [ih];unfold Gk;rw [hkd,h1];simp [AA]
    .injection e with e1 e2;injection e2 with e2 e3;exact absurd e3.symm hs
   .split at h
    .rename_i _ _ h1;obtain ⟨c',q1,rfl⟩:=Apx.1 h;have ih:=Sw n (r.drop m.toNat) c' (λv hv=>hr v (Ap2 hv)) q1 (λp hp=>hk p (by simp [hp]));have h0:=hk (0,0,AL (r.take m.toNat)) Z;rcases Dx h0 with⟨a,ha,e,hkd⟩ | ⟨a,ha,e,hkd⟩ | ⟨s,hs,e,hkd⟩
     .injection e with e1 e2;omega
     .injection e with e1 e2;injection e2 with e2 e3;omega
     .show Gk (0,0,AL (r.take m.toNat))++enc c'=_;have hbt:AA (AL (r.take m.toNat))=r.take m.toNat:=Ad7 (λv hv=>hr v (ApL hv));have hln:(AL (r.take m.toNat)).length=m.toNat:=by unfold AL;rw [Ao9,AoQ];omega
      rw [ih];unfold Gk;dsimp only;rw [hkd,hbt,hln,h1.1];simp only [Apj,Ao6,AoN,Apm]
      congr 2
      omega
    .cases h
theorem Ae8 {c:List Prt} (hg:AK c=true):B1 (enc c)=(c,true):=by
 have h1:=AhG (CG hg) O hg;have hs:=AgM hg;rw [Ac6 (AcQ hg) O]at h1;injection h1
theorem AfM {x:List Int} (hb:Byt x) {c:List Prt} (h:B1 x=(c,true)):enc c=x:=by
 unfold B1 at h;split at h
 .rename_i c' hd;split at h
  .rename_i hg;injection h with h1 h2;subst h1
   exact Sw _ _ _ hb hd λp hp=>(A9 (Aq hg).1 p hp).ne
  .injection h with h1 h2;cases h2
 .injection h with h1 h2;cases h2
theorem Agn {x:List Int} (hb:Byt x) {c:List Prt} (hg:AK c=true):(AL x == AL (enc c))=true↔B1 x=(c,true):=by
 rw [T8 hb (AcQ hg),beq_iff_eq];constructor
 .rintro rfl;exact Ae8 hg
 .intro h;exact(AfM hb h).symm
section
variable {b:Bls} {x y top:List Int}
theorem AdT:∀(f:Nat) (a:Int) (d ch:List Int) {p:List Int×List Int},(∀v∈ch,liv b x y v=true)->rcN b x y f a d ch=some p->∀v∈p.2,liv b x y v=true
 | 0,_,_,_,p,_,h=>by cases h
 | f+1,a,d,ch,p,hd,h=>by
  unfold rcN at h;split at h
  .rename_i hc;have hl:liv b x y a=true:=by unfold rcC at hc;rw [AoI]at hc;exact hc.1
   have hd':∀v∈ch++[a],liv b x y v=true:=λv hv=>by
    rcases AoK.1 hv with hv | hv
    .exact hd v hv
    .rw [AoZ.1 hv];exact hl
   split at h
   .injection h with h;subst h;exact hd'
   .exact AdT f _ _ _ hd' h
  .cases h
theorem WO (k:Nat):∀v∈rkc b x y top k,liv b x y v=true:=by
 intro v hv;unfold rkc rcA at hv;split at hv
 .rename_i p hp;exact AdT _ _ _ _ Z hp v hv
 .cases hv
theorem AcJ (a:Int):∀v∈tcl b x y a,liv b x y v=true:=by
 intro v hv;unfold tcl at hv;split at hv
 .rename_i h;obtain ⟨l,hl⟩:=Ap0.1 h;rw [AoZ.1 hv];exact(Hz hl).2.1
 .cases hv
theorem AcH (a:Int):∀v∈tpc b x y a,pcB b x y v=true:=by
 intro v hv;unfold tpc at hv;cases hp:ptx b x y a with
 | none=>rw [hp]at hv;cases hv
 | some l=>rw [hp]at hv;exact(Hz hp).1.all v hv
theorem AjD {v:Int} (h:pcB b x y v=true):liv b x y v=true:=by
 unfold pcB at h;rw [AoI]at h;exact h.1
theorem AjO {root:Int} (ht:tre b x y root=some top):∀v∈pgl top root,liv b x y v=true:=by
 intro v hv;unfold pgl at hv;simp only [Aqe,AoK,AoZ,decide_eq_true_eq]at hv;obtain ⟨hv,h0⟩:=hv;rcases hv with hv | hv
 .obtain ⟨j,hj,rfl⟩:=Ao3 hv;have hg:=Ai hj;rw [AoF hj]at hg;injection hg with hg
  rw [hg]at h0 ⊢;rcases Al9 ht j (by rw [<- HK ht];exact hj)with q | q
  .exact absurd q h0
  .have:=q.1;unfold pgB at this;rw [AoI]at this;exact this.1
 .subst hv;exact(Z4 ht h0).1
theorem AfL {k:Nat} (h:rko b x y top k=true):vl b top k≠0:=by
 intro q;unfold rko rcA rcd rcN at h;rw [AoH (λw=>Ana w q)]at h;cases h
theorem Afq {a:Int} (h:tok b x y a=true):a≠0:=by
 rintro rfl;unfold tok at h;obtain ⟨l,hl⟩:=Ap0.1 h;obtain ⟨m,h1,h2,_⟩:=Cy (Hz hl).2.1;omega
end
end Go.V.G
set_option maxRecDepth 100000
namespace Go.V.G
open Go.V
theorem Adm {l U:List Int} (hn:l.Nodup) (hU:U.Pairwise (· < ·)):l.mergeSort (λx y=>decide (x<=y))=U↔∀v,v∈l↔v∈U:=by
 have hp:=List.mergeSort_perm l (λx y=>decide (x<=y));constructor
 .rintro rfl v;exact hp.mem_iff.symm
 .intro h;have h1:(l.mergeSort (λx y=>decide (x<=y))).Pairwise (λx y=>decide (x<=y)=true):=List.pairwise_mergeSort (λa b c p q=>by simp only [decide_eq_true_eq]at *;omega) (λa b=>by simp only [Aqc,decide_eq_true_eq];omega) l;have h2:(l.mergeSort (λx y=>decide (x<=y))).Nodup:=hp.nodup_iff.2 hn;have h3:(l.mergeSort (λx y=>decide (x<=y))).Pairwise (· < ·):=by
   have h2':(l.mergeSort (λx y=>decide (x<=y))).Pairwise (·≠·):=h2;exact(h1.and h2').imp λ⟨p,q⟩=>by simp only [decide_eq_true_eq]at p;omega
  exact WI (ris_iff.2 h3) (ris_iff.2 hU) λv=>by rw [hp.mem_iff];exact h v
section
variable {b:Bls} {x y top:List Int}
theorem AlV {C P:List Int} (hP:∀v∈P,pcB b x y v=true):(List.range b.length).all (stB b x C P)=true↔(∀v∈P,v∉C/\gb (blk b v.toNat) 1=(P.count v:Int))/\∀k:Nat,33<=k->k < b.length->(bit x k=true↔(((k:Nat):Int)∈C\/((k:Nat):Int)∈P)):=by
 rw [all_range];constructor
 .intro q;refine⟨λv hv=>?_,λk h1 h2=>?_⟩
  .obtain ⟨m,rfl,h33,hm,_⟩:=Mj (hP v hv);have:=q m hm;have hc:=List.count_pos_iff.2 hv;unfold stB at this;simp only [AoI,Aqc,decide_eq_true_eq,Ao7,decide_eq_false_iff_not]at this;rcases this.1 with w | w
   .omega
   .rw [AoE];exact w
  .have:=q k h2;unfold stB at this;simp only [AoI,Aqc,decide_eq_true_eq,beq_iff_eq]at this;rcases this.2 with w | w
   .omega
   .rw [w,decide_eq_true_eq,List.count_pos_iff]
 .rintro ⟨q1,q2⟩ k hk;unfold stB;rw [AoI];constructor
  .by_cases hv:((k:Nat):Int)∈P
   .obtain ⟨w1,w2⟩:=q1 _ hv;rw [AoE]at w2;rw [decide_eq_false w1,decide_eq_true w2];simp
   .have:P.count ((k:Nat):Int)=0:=List.count_eq_zero.2 hv;rw [decide_eq_true this];rfl
  .by_cases h33:k < 33
   .rw [decide_eq_true h33];rfl
   .have:=q2 k O hk;rw [decide_eq_false h33,ApR,beq_iff_eq,Aqq,this,decide_eq_true_eq,List.count_pos_iff]
theorem Aj2 {P:List Int} (hP:∀v∈P,pcB b x y v=true):(std P).any (λp=>!decide (pst b x y p.1=p.2))=false↔∀v∈P,gb (blk b v.toNat) 1=(P.count v:Int):=by
 obtain ⟨s1,s2,s3⟩:=Aao P;rw [Ap8];constructor
 .intro q v hv;obtain ⟨p,hp,rfl⟩:=Ao0.1 ((s3 v).2 hv);have h1:=q p hp;have h2:=ZV s2 p hp;rw [s1]at h2;simp only [Ao7,decide_eq_false_iff_not,Classical.not_not]at h1;unfold pst at h1;rw [AoJ (hP _ hv)]at h1;rw [h1,h2]
 .intro q p hp;have hv:p.1∈P:=(s3 _).1 (List.mem_map_of_mem hp);have h2:=ZV s2 p hp;rw [s1]at h2;have h3:=q _ hv;simp only [Ao7,decide_eq_false_iff_not,Classical.not_not];unfold pst;rw [AoJ (hP _ hv),h3,h2]
theorem AjV (A B:List (Int×Int)):upk (A++B)=upk A++upk B:=by unfold upk;exact ApV ..
theorem W5 {f h:Nat}:∀k,stk f h (k+1)=skn f 0 h++upk (stk f h (k+1))
 | 0=>by
  have e:stk f h 1=skn f 0 h:=by
   show([]++skn f 0 (h / 2 ^ 0):List (Int×Int))=_;rw [Ao6,Nat.pow_zero,Nat.div_one]
  have:upk (skn f 0 h)=[]:=by
   unfold upk;rw [List.filter_eq_nil_iff];intro s hs;obtain ⟨i,_,_,rfl⟩:=skn_mem.1 hs;simp
  rw [e,this,AoW]
 | k+1=>by
  have ih:=W5 (f:=f) (h:=h) k;have e:stk f h (k+1+1)=stk f h (k+1)++skn f (k+1) (h / 2 ^ (k+1)):=rfl;have hu:upk (skn f (k+1) (h / 2 ^ (k+1)))=skn f (k+1) (h / 2 ^ (k+1)):=by
   unfold upk;rw [List.filter_eq_self];intro s hs;obtain ⟨i,_,_,rfl⟩:=skn_mem.1 hs;simp only [decide_eq_true_eq];omega
  rw [e,AjV,hu,<- AoN,<- ih]
theorem Rz (f h:Nat):sts f h=skn f 0 h++upk (sts f h):=W5 5
theorem ky0 (i:Nat):ky (0,(i:Int))=i:=by unfold ky;simp
theorem Af0 (f h:Nat):ics b x y top (sts f h)=CB b x y top f (h - f)++upc b x y top (sts f h):=by
 have e:ics b x y top (skn f 0 h)=CB b x y top f (h - f):=by
  unfold ics CB;rw [List.flatMap_def,List.flatMap_def,Ad0]
  congr 1
  refine Aps λi _=>?_
  show rkc b x y top (ky (0,((f+i:Nat):Int)))=_;rw [ky0]
 have e2:ics b x y top (upk (sts f h))=upc b x y top (sts f h):=rfl;have e3:∀A B,ics b x y top (A++B)=ics b x y top A++ics b x y top B:=λA B=>by unfold ics;exact ApY ..
 conv=>lhs;rw [Rz]
 rw [e3,e,e2]
theorem AfG (f h:Nat):(sts f h).all (ioc b x y top)=(loo b x y top f (h - f) && (upk (sts f h)).all (ioc b x y top)):=by
 have e:(skn f 0 h).all (ioc b x y top)=loo b x y top f (h - f):=by
  have:=congrArg (λl=>l.all id) (Ad0 (ioc b x y top) f h);simp only [List.all_map]at this;unfold loo;rw [show((skn f 0 h).all (ioc b x y top))=(skn f 0 h).all (id ∘ ioc b x y top) from rfl,this]
  congr 1
  funext i
  show ioc b x y top (0,((f+i:Nat):Int))=_;unfold ioc;rw [ky0]
 conv=>lhs;rw [Rz]
 rw [List.all_append,e]
theorem Alp {f h:Nat} {t:List UInt8} {r:List Rn} (hf:f<=h) (gh:GH (f:Int) t r (chC (lod b x y top f (h - f)))) {s:Int×Int} (hs:s∈skn f 0 h):ipt b x y top s=bt (f:Int) t (chC (lod b x y top f (h - f))) s:=by
 obtain ⟨i,h1,h2,rfl⟩:=skn_mem.1 hs;rw [Nat.pow_zero,Nat.mul_one]at h2;have hl:(chC (lod b x y top f (h - f))).length=h - f:=by unfold chC lod;simp
 have hb:=Tj gh (a:=(i:Int)) O O;have e1:bt (f:Int) t (chC (lod b x y top f (h - f))) (0,(i:Int))=B3 (f:Int) t (chC (lod b x y top f (h - f))) (i:Int) ((i:Int)+1):=by
  unfold bt frS toS;simp
 have e2:(chC (lod b x y top f (h - f)))[((i:Int) - (f:Int)).toNat]?=some (B1 (rkd b x y top i)).1:=by
  rw [show((i:Int) - (f:Int)).toNat=i - f by omega];unfold chC lod;rw [Apl,Apl,List.getElem?_range O];show some (B1 (rkd b x y top (f+(i - f)))).1=_;rw [(O:f+(i - f)=i)]
 rw [hb]at e2;injection e2 with e2
 show ipt b x y top (0,(i:Int))=bt _ _ _ (0,(i:Int));rw [e1,e2];unfold ipt;rw [ky0]
theorem Akl {f h:Nat} {s:Int×Int} (hs:s∈upk (sts f h)):s∈sts f h/\0 < s.1:=by
 unfold upk at hs;simpa using hs
theorem Adn {f h:Nat} {t:List UInt8} {r:List Rn} {cs:List (List Prt)} (gh:GH (f:Int) t r cs) {s:Int×Int} (hs:s∈sts f h):AK (bt (f:Int) t cs s)=true:=by
 obtain ⟨k,j,g8⟩:=sts_mem.1 hs;obtain ⟨f1,f2,f3,f4,f5⟩:=g8.ft;exact(JH gh (a:=(frS s:Int)) (b:=(toS s:Int)) O O).1
theorem AcA (g:RS b x y) {f h:Nat} {t:List UInt8} {r:List Rn} (hf:f<=h) (gh:GH (f:Int) t r (chC (lod b x y top f (h - f)))) :
  ((sts f h).all (upe b x y top (f:Int) t (chC (lod b x y top f (h - f)))) && upo b x y top (sts f h))=((sts f h).all (ieq b x y top (f:Int) t (chC (lod b x y top f (h - f)))) && (upk (sts f h)).all (ioc b x y top)):=by
 rw [Aqq,AoI,AoI];unfold upo;simp only [Apb];constructor
 .rintro ⟨q1,q2⟩;have hr:∀s∈upk (sts f h),B1 (rkd b x y top (ky s))=(bt (f:Int) t (chC (lod b x y top f (h - f))) s,true):=λs hs=>by
   obtain ⟨m1,m2⟩:=Akl hs;have:=q1 s m1;unfold upe at this;rw [decide_eq_true m2,Apv,ApR]at this;exact(Agn (Mn g top (ky s)) (Adn gh m1)).1 this
  refine⟨λs hs=>?_,λs hs=>?_⟩
  .rw [Rz]at hs;unfold ieq;rcases AoK.1 hs with hs | hs
   .exact decide_eq_true (Alp hf gh hs)
   .unfold ipt;rw [hr s hs];simp
  .unfold ioc;rw [q2 s hs,hr s hs];rfl
 .rintro ⟨q1,q2⟩;refine⟨λs hs=>?_,λs hs=>?_⟩
  .unfold upe;by_cases h0:0 < s.1
   .have hm:s∈upk (sts f h):=by unfold upk;simp [hs,h0]
    have h1:=q1 s hs;have h2:=q2 s hm;unfold ieq at h1;unfold ioc at h2;rw [AoI]at h2;rw [decide_eq_true_eq]at h1;rw [(Agn (Mn g top (ky s)) (Adn gh hs)).2 (Prod.ext h1 h2.2)];simp
   .rw [decide_eq_false h0];rfl
  .have h2:=q2 s hs;unfold ioc at h2;rw [AoI]at h2;exact h2.1
end
end Go.V.G
set_option maxRecDepth 100000
namespace Go.V.G
open Go.V
section
variable {b:Bls} {x top:List Int} {R T:Int} {f h e:Nat}
noncomputable def cI (b:Bls) (x top:List Int) (R T:Int) (f h e:Nat):List Int:=((aC2 b x top R T++ics b x [] top (sts f h))++rkc b x [] top 448)++ckc b x [] top (cks f h e)
theorem Amr:Led ((aC2 b x top R T++ics b x [] top (sts f h))++rkc b x [] top 448) (aP2 b x T) (bB4 b x top R T f h):=by
 have h1:Led ([]++srt (pgl top R)) [] ([]++srt (pgl top R)):=Led.claims Led.nil;rw [Ao6]at h1;have h2:=Adw (x:=x) (y:=[]) (b:=b) h1 T;rw [Ao6]at h2;exact Led.claims (Led.claims h2)
theorem Aot:Led (cI b x top R T f h e) (aP6 b x top T f h e) (bB5 b x top R T f h e):=Adt (cks f h e) Amr
theorem Akv:(cI b x top R T f h e).Perm (aC6 b x top R T f h e):=by
 unfold cI aC6 aC5 aC4 aC3;rw [Af0];refine List.Perm.append_right _ ?_;have e1:aC2 b x top R T++(CB b x [] top f (h - f)++upc b x [] top (sts f h))++rkc b x [] top 448=aC2 b x top R T++((CB b x [] top f (h - f)++upc b x [] top (sts f h))++rkc b x [] top 448):=by simp
 have e2:aC2 b x top R T++rkc b x [] top 448++CB b x [] top f (h - f)++upc b x [] top (sts f h)=aC2 b x top R T++(rkc b x [] top 448++(CB b x [] top f (h - f)++upc b x [] top (sts f h))):=by simp
 rw [e1,e2];exact List.Perm.append_left _ List.perm_append_comm
theorem Ala (ht:tre b x [] R=some top):∀v∈aC6 b x top R T f h e,liv b x [] v=true:=by
 intro v hv;have hpl:=AcS (root:=R) (HK ht);unfold aC6 aC5 aC4 aC3 aC2 aC1 at hv;simp only [AoK]at hv;rcases hv with((((((hv | hv) | hv) | hv) | hv)) | hv)
 .exact AjO ht v (((J1 O).2.2 v).1 hv)
 .exact AcJ T v hv
 .exact WO 448 v hv
 .unfold CB at hv;obtain ⟨i,_,hi⟩:=Aqj.1 hv;exact WO _ v hi
 .unfold upc at hv;obtain ⟨i,_,hi⟩:=Aqj.1 hv;exact WO _ v hi
 .unfold ckc at hv;obtain ⟨i,_,hi⟩:=Aqj.1 hv;exact AcJ _ v hi
theorem Am3:∀v∈aP6 b x top T f h e,pcB b x [] v=true:=by
 intro v hv;unfold aP6 aP2 at hv;rcases AoK.1 hv with hv | hv
 .exact AcH T v hv
 .unfold ckp at hv;obtain ⟨i,_,hi⟩:=Aqj.1 hv;exact AcH _ v hi
theorem AdR {v:Int}:v∈bKs f h e↔v∈J5 f h e:=by
 unfold bKs J5;simp only [AoK];constructor
 .rintro ((q | q) | q)
  .exact .inl q
  .exact .inr (.inr q)
  .exact .inr (.inl q)
 .rintro (q | q | q)
  .exact .inl (.inl q)
  .exact .inr q
  .exact .inl (.inr q)
theorem Akt {fn:Bool} {l:List Int}:okb fn l=true↔fn=true/\l.Nodup:=by unfold okb ndb;simp
theorem AgD {fn:Bool} {l:List Int}:bd fn l=false↔fn=true/\l.Nodup:=by unfold bd ndb;simp
theorem Anc (g:RS b x []) (ht:tre b x [] R=some top) (hf:f<=h) (hh:h<=60):sC b x top R T f h e=iC b x top R T f h e:=by
 have hP:=Am3 (b:=b) (x:=x) (top:=top) (T:=T) (f:=f) (h:=h) (e:=e);have hC:=Ala (T:=T) (f:=f) (h:=h) (e:=e) ht;have L5:=Aot (b:=b) (x:=x) (top:=top) (R:=R) (T:=T) (f:=f) (h:=h) (e:=e);have L4:=Amr (b:=b) (x:=x) (top:=top) (R:=R) (T:=T) (f:=f) (h:=h);have hperm:=Akv (b:=b) (x:=x) (top:=top) (R:=R) (T:=T) (f:=f) (h:=h) (e:=e);have hmem:∀v,v∈bB5 b x top R T f h e↔v∈aC6 b x top R T f h e\/v∈aP6 b x top T f h e:=λv=>by rw [L5.mem,hperm.mem_iff]
 have hnd:(bB5 b x top R T f h e).Nodup↔(aC6 b x top R T f h e).Nodup/\∀v∈aP6 b x top T f h e,v∉aC6 b x top R T f h e:=by
  rw [L5.nd,hperm.nodup_iff];exact⟨λq=>⟨q.1,λv hv w=>q.2 v hv (hperm.mem_iff.2 w)⟩,λq=>⟨q.1,λv hv w=>q.2 v hv (hperm.mem_iff.1 w)⟩⟩
 have hn54:(bB5 b x top R T f h e).Nodup->(bB4 b x top R T f h).Nodup:=λq=>by
  rw [L5.nd]at q;rw [L4.nd];refine⟨(Apc.1 q.1).1,λv hv w=>q.2 v (List.mem_append_left _ hv) (List.mem_append_left _ w)⟩
 have hn64:(aC6 b x top R T f h e).Nodup->(aC4 b x top R T f h).Nodup:=λq=>(Apc.1 (Apc.1 q).1).1
 have hioc:=AfG (b:=b) (x:=x) (y:=[]) (top:=top) f h;have hbl:bL b x top f h=aL b x top f h:=UA b x top f h;have hset:(∀v,v∈bB5 b x top R T f h e↔v∈usd x (b.length - 33))↔∀k:Nat,33<=k->k < b.length->(bit x k=true↔(((k:Nat):Int)∈aC6 b x top R T f h e\/((k:Nat):Int)∈aP6 b x top T f h e)):=by
  have hn:=g.hn;constructor
  .intro q k h1 h2;rw [<- hmem,q,usd_mem];constructor
   .intro w;exact⟨k,h1,O,w,rfl⟩
   .rintro ⟨k',_,_,w,he⟩;have:k'=k:=O
    rw [<- this];exact w
  .intro q v;rw [hmem,usd_mem];constructor
   .intro w;have hl:liv b x [] v=true:=w.elim (hC v) (λw=>AjD (hP v w));obtain ⟨m,rfl,h1,h2,h3,_⟩:=Cy hl;exact⟨m,h1,O,h3,rfl⟩
   .rintro ⟨k,h1,h2,h3,rfl⟩;exact(q k h1 O).1 h3
 rw [Aqq];unfold sC iC bG1 Aeh;simp only [AoI,Ao7,Bool.or_eq_false_iff,Akt,AgD,decide_eq_true_eq];unfold aS;rw [AlV hP,Aj2 hP,hbl];have hKK:bK b x top T f h e=aK b x top T f h e:=by unfold bK aK;rw [hbl]
 rw [hKK];constructor
 .rintro ⟨k1,⟨k2,k3⟩,k4,k5,k6,⟨k7,k8⟩,k9,k10⟩;have gh:=goodH_iff.1 k4;unfold af6 af5 af4 af3 at k9;simp only [AoI]at k9;obtain ⟨⟨⟨⟨⟨t1,t2⟩,t3⟩,t4⟩,t5⟩,t6⟩:=k9;have hub:=AcA (top:=top) g hf gh;have hU:(sts f h).all (upe b x [] top (f:Int) (aT b x T) (chC (lod b x [] top f (h - f))))=true:=k5;rw [hU,t5,Ap4]at hub;have hub:=hub.symm;rw [AoI]at hub;have hb5:=hnd.2 ⟨k10,λv hv=>(k7 v hv).1⟩;have hio:(sts f h).all (ioc b x [] top)=true:=by rw [hioc,t4,hub.2];rfl
  have hf4:bf4 b x top T f h=true:=by unfold bf4;rw [t1,hio,t2];rfl
  refine⟨⟨t3,⟨hf4,hn54 hb5⟩,k4⟩,?_,k6,⟨⟨⟨?_,hb5⟩,λv hv=>(k7 v hv).2⟩,?_⟩,(Adm hb5 (SO x _)).2 (hset.2 k8)⟩
  .unfold bE;rw [hbl];exact hub.1
  .unfold bf5;rw [hf4,t6];rfl
  .rw [Ap8];intro p hp;have hk:=(Adx hh).1 k1;obtain ⟨k,w1,w2,w3⟩:=ksT_mem.1 (List.mem_map_of_mem hp);have:=hk.1 k w1 w2;rw [<- w3,<- AdR]at this;simp only [Ao7,decide_eq_false_iff_not,Classical.not_not];exact this
 .rintro ⟨⟨t3,⟨hf4,hn4⟩,k4⟩,hE,k6,⟨⟨⟨hf5,hb5⟩,hst⟩,hky⟩,hso⟩;have gh:=goodH_iff.1 k4;unfold bf5 at hf5;rw [hf4,AoT]at hf5;unfold bf4 at hf4;simp only [AoI]at hf4;obtain ⟨⟨t1,hio⟩,t2⟩:=hf4;have hio2:=hio;rw [hioc,AoI]at hio;obtain ⟨t4,hup⟩:=hio;have hub:=AcA (top:=top) g hf gh;unfold bE at hE;rw [hbl]at hE;have hE':(sts f h).all (ieq b x [] top (f:Int) (aT b x T) (chC (lod b x [] top f (h - f))))=true:=hE;rw [hE',hup,Ap4,AoI]at hub;obtain ⟨c1,c2⟩:=hnd.1 hb5;have hf3:af3 b x top T=true:=by unfold af3;rw [t1,t2,t3];rfl
  have hf4:af4 b x top T f h=true:=by unfold af4;rw [hf3,t4];rfl
  refine⟨?_,⟨hf4,hn64 c1⟩,k4,hub.1,k6,⟨λv hv=>⟨c2 v hv,hst v hv⟩,hset.1 ((Adm hb5 (SO x _)).1 hso)⟩,?_,c1⟩
  .rw [Adx hh];refine⟨λk hk hv=>?_,λk hk hm=>?_⟩
   .obtain ⟨p,hp,hpe⟩:=Ao0.1 (ksT_mem.2 ⟨k,hk,hv,rfl⟩);have:=Ap8.1 hky p hp;simp only [Ao7,decide_eq_false_iff_not,Classical.not_not]at this;rw [<- hpe,<- AdR];exact this
   .unfold J5 at hm;simp only [AoK]at hm;rcases hm with hm | hm | hm
    .obtain ⟨s,hs,he⟩:=Ao0.1 hm;have:=Apb.1 hio2 s hs;unfold ioc at this;rw [AoI]at this;have hkk:ky s=k:=by unfold kyI at he;omega
     rw [<- hkk];exact AfL this.1
    .obtain ⟨r,hr,he⟩:=Ao0.1 hm;have:=Apb.1 hf5 r hr;have hkk:384+r=k:=by unfold ckI at he;omega
     rw [<- hkk];exact Afq this
    .have hkk:k=448:=by have:=AoZ.1 hm;omega
     rw [hkk];exact AfL t2
  .unfold af6 af5;rw [hf4,hub.2,hf5];rfl
end
end Go.V.G
set_option maxRecDepth 100000
namespace Go.V.G
open Go.V
structure Sto (bl:Bls) (wr lf:Int) (f h e:Nat) (R T:Int) (top:List Int):Prop where
 gd:gd bl wr lf=true
 wt:wts bl=[]
 su:Ol (blk bl 0)=(true,(f:Int),(h:Int),(e:Int),R,T)
 op:opG bl=true
 tr:tre bl (opB bl) [] R=some top
 hf:f<=h
 hh:h<=60
 he:0 < e
 he2:e<=30
theorem Ai5 {c:List Int} (h:WL c=true):∃f m e:Nat,Ol c=(true,(f:Int),(m:Int),(e:Int),num c 8,num c 10)/\f<=m/\m<=60/\0 < e/\e<=30:=by
 have h2:=h;unfold WL OE at h2;simp only [AoI,decide_eq_true_eq]at h2;obtain ⟨_,⟨⟨h3,h4⟩,h5,_⟩,_⟩:=h2;refine⟨(gb c 4).toNat,(gb c 5).toNat,(gb c 6).toNat,?_,O,O,O,O⟩;unfold Ol;rw [AoJ h,Int.toNat_of_nonneg O,Int.toNat_of_nonneg O,Int.toNat_of_nonneg O]
theorem AfZ {bl:Bls} {wr lf:Int} (on:Bool) (hn:bl.length<=1048576) (hu:∀c∈bl,U8s c) :
  (∃w,DK bl wr on lf=some w/\w.1=false/\DA bl wr on lf=some (none,false))\/
  ∃(f h e:Nat) (R T:Int) (top:List Int),Sto bl wr lf f h e R T top/\iC bl (opB bl) top R T f h e=true/\
   DK bl wr on lf=some (true,(f:Int),(h:Int),(e:Int),R,T,bl,opB bl,[],[],ksT bl top 1024,(f:Int),aT bl (opB bl) T,aR bl (opB bl) top,aL bl (opB bl) top f h,srt (aC6 bl (opB bl) top R T f h e++pcn (aP6 bl (opB bl) top T f h e) bl.length))/\
   DA bl wr on lf=some (some (bl,wr,on,lf,(f:Int),(h:Int),(e:Int),R,T,bl,opB bl,[],[],R,top,top.map (lfv bl),(f:Int),aT bl (opB bl) T,aR bl (opB bl) top,aL bl (opB bl) top f h),true):=by
 cases hd:gd bl wr lf with
 | false=>
  left;unfold DK DA cK cZ gX wI;rw [I4 hn,hd,AoC,Kj hn,hd,AoC,AoJ Z,AoJ Z,AoC,AoC];dsimp only;rw [AoJ rfl,AoJ rfl];exact⟨_,rfl,rfl,rfl⟩
 | true=>
  obtain ⟨hb,hk⟩:=Lp hd;by_cases hw:wts bl=[]
  .cases hs:WL (blk bl 0)with
   | false=>
    left;have hsd:Ol (blk bl 0)=(false,0,0,0,0,0):=by unfold Ol;rw [hs];rfl
    refine⟨(false,0,0,0,0,0,[],[],[],[],[],0,[],[],[],[]),?_,rfl,?_⟩
    .unfold DK cK cZ gX wI;rw [I4 hn,hd,AoC,AoH Z,Hx on hd hu,hw,AoC,AoC];dsimp only;rw [AoH Z,iy O,show Int.toNat 0=0 from rfl,Bj (O:0 < bl.length),AoC,JI (hu _ (BG O)),hsd,AoC];dsimp only;rw [H1 on hd hu,AoC,AoC];dsimp only;rw [AoJ Z,AoC];dsimp only;rw [AoJ rfl]
    .unfold DA gX;rw [Kj hn,hd,AoC,AoH Z,Mz on hd hu,hw,AoC,AoC];dsimp only;rw [AoH Z,iy O,show Int.toNat 0=0 from rfl,Bj (O:0 < bl.length),AoC,RN (hu _ (BG O)),hsd,AoC];dsimp only;rw [AoJ Z]
   | true=>
    obtain ⟨f,h,e,hsd,hf,hh,he,he2⟩:=Ai5 hs;have hi:DA bl wr on lf=Option.bind (some (opD bl)) λ(l,m,n)=>
      if(!l)=true then some (none,false)
      else Option.bind (Hi (m,(n,([],[]))) (num (blk bl 0) 8)) λ(o,p,q,r)=>
       if(!o)=true then some (none,false)
       else Option.bind (CI bl wr on lf (f:Int) (h:Int) (e:Int) (num (blk bl 0) 8) (num (blk bl 0) 10) m n [] [] p q r 0 [] [] []) λ(s,t,u,v,w,x,y,z,a0,b0,c0,d0,e0,f0,g0,h0,i0,j0,k0,l0,m0)=>
        if(!s)=true then some (none,false)
        else some (some (t,(u,(v,(w,(x,(y,(z,(a0,(b0,(c0,(d0,(e0,(f0,(g0,(h0,(i0,(j0,(k0,(l0,m0))))))))))))))))))),true):=by
     unfold DA gX;rw [Kj hn,hd,AoC,AoH Z,Mz on hd hu,hw,AoC,AoC];dsimp only;rw [AoH Z,iy O,show Int.toNat 0=0 from rfl,Bj (O:0 < bl.length),AoC,RN (hu _ (BG O)),hsd,AoC];dsimp only;rw [AoH Z,Wg on hd hu]
    cases ho:opG bl with
    | false=>
     left;have hod:opD bl=(false,[],[]):=by unfold opD;rw [ho];rfl
     refine⟨(false,0,0,0,0,0,[],[],[],[],[],0,[],[],[],[]),?_,rfl,?_⟩
     .unfold DK cK cZ gX wI;rw [I4 hn,hd,AoC,AoH Z,Hx on hd hu,hw,AoC,AoC];dsimp only;rw [AoH Z,iy O,show Int.toNat 0=0 from rfl,Bj (O:0 < bl.length),AoC,JI (hu _ (BG O)),hsd,AoC];dsimp only;rw [H1 on hd hu,hod,AoC,AoC];dsimp only;rw [AoH Z,AoJ Z,AoC];dsimp only;rw [AoJ rfl]
     .rw [hi,hod,AoC];dsimp only;rw [AoJ Z]
    | true=>
     have hod:opD bl=(true,bl,opB bl):=by unfold opD;rw [ho];rfl
     have sb:=SH (bl:=bl) O O;have hog:gsp bl (opB bl) [] []=true:=by unfold opG at ho;rw [AoI]at ho;exact ho.1
     have g:=(Po hog).rs sb hu;cases ht:tre bl (opB bl) [] (num (blk bl 0) 8)with
     | none=>
      left;refine⟨(false,0,0,0,0,0,[],[],[],[],[],0,[],[],[],[]),?_,rfl,?_⟩
      .unfold DK cK cZ gX wI;rw [I4 hn,hd,AoC,AoH Z,Hx on hd hu,hw,AoC,AoC];dsimp only;rw [AoH Z,iy O,show Int.toNat 0=0 from rfl,Bj (O:0 < bl.length),AoC,JI (hu _ (BG O)),hsd,AoC];dsimp only;rw [H1 on hd hu,hod,AoC,AoC];dsimp only;rw [AoH Z,AoH Z,IM sb hu,hog,ht,AoC,AoC];dsimp only;rw [AoJ Z]
      .rw [hi,hod,AoC];dsimp only;rw [AoH Z,XP g,ht];unfold trI;dsimp only;rw [AoC];dsimp only;rw [AoJ Z]
     | some top=>
      have htl:=HK ht;obtain ⟨w,w1,w2,w3⟩:=Ahw on hn hd hu hw hsd ho ht hf hh he he2;obtain ⟨q,q1,q2,q3⟩:=Afs (wr:=wr) (lf:=lf) (R:=num (blk bl 0) 8) (T:=num (blk bl 0) 10) on hn g htl hf hh he he2;have hsc:=Anc (b:=bl) (x:=opB bl) (T:=num (blk bl 0) 10) (f:=f) (h:=h) (e:=e) g ht hf hh;rw [hi,hod,AoC];dsimp only;rw [AoH Z,XP g,ht];unfold trI;dsimp only;rw [AoC];dsimp only;rw [AoH Z,q1,AoC];cases hc:iC bl (opB bl) top (num (blk bl 0) 8) (num (blk bl 0) 10) f h e with
      | false=>
       left;rw [hc]at q2;rw [hsc,hc]at w2;refine⟨w,w1,w2,?_⟩;rw [q2];rfl
      | true=>
       right;refine⟨f,h,e,num (blk bl 0) 8,num (blk bl 0) 10,top,⟨hd,hw,hsd,ho,ht,hf,hh,he,he2⟩,hc,?_,?_⟩
       .rw [w1,w3 (by rw [hsc];exact hc)]
       .rw [q3 hc];rfl
  .left;have hlen:0 < (wts bl).length:=Aqs.2 hw;unfold DK DA cK cZ gX wI;rw [I4 hn,hd,AoC,AoH Z,Hx on hd hu,AoC,AoC,Kj hn,hd,AoC,AoH Z,Mz on hd hu,AoC,AoC];dsimp only;rw [decide_eq_true (show(0:Int) < (((wts bl).length:Nat):Int) by omega),AoJ rfl,AoJ rfl];exact⟨_,rfl,rfl,rfl⟩
end Go.V.G
set_option maxRecDepth 100000
namespace Go.V.G
open Go.V
theorem AiZ {n:Nat} {l:Int} (h:¬ lft l n < 0):(n:Int)<=l:=by
 unfold lft at h;split at h
 .assumption
 .exact absurd O h
theorem Ak3 {n:Int} (h:Kf (.int .u8) n):0<=n/\n<=255:=by
 have h2:(Lit.int .u8 n).wf=true:=h;simp [Lit.wf,IntKind.min,IntKind.max,IntKind.bits,IntKind.signed]at h2;omega
theorem Sto.rs {bl:Bls} {wr lf:Int} {f h e:Nat} {R T:Int} {top:List Int} (S:Sto bl wr lf f h e R T top) (hu:∀c∈bl,U8s c):RS bl (opB bl) []:=by
 obtain ⟨hb,hk⟩:=Lp S.gd;have hog:gsp bl (opB bl) [] []=true:=by have:=S.op;unfold opG at this;rw [AoI]at this;exact this.1
 exact(Po hog).rs (SH O O) hu
end Go.V.G
set_option maxRecDepth 100000
namespace Go.V.G
open Go.V
theorem Ak1 (b:Bls) (x top:List Int) (f h:Nat):(aL b x top f h).length=h - f:=by unfold aL chC lod;simp
theorem AmO {bl:Bls} {x top:List Int} {R T:Int} {f h e:Nat} (hc:iC bl x top R T f h e=true):GH (f:Int) (aT bl x T) (aR bl x top) (aL bl x top f h):=by
 unfold iC bG1 at hc;simp only [AoI]at hc;obtain ⟨⟨_,_,h3⟩,_⟩:=hc;rw [UA]at h3;exact goodH_iff.1 h3
theorem Afy {bl:Bls} {wr lf:Int} (on:Bool) (hn:bl.length<=1048576) (hu:∀c∈bl,U8s c) (a b:Int) :
  (∃c w,c≠0/\EG bl wr on lf a b=some (c,w)/\c<=2/\Ea bl wr on lf=some (none,c))\/
  ∃(f h e:Nat) (R T:Int) (top:List Int),Sto bl wr lf f h e R T top/\iC bl (opB bl) top R T f h e=true/\wr<=999999900/\on=true/\
   EG bl wr on lf a b=some (if decide ((f:Int)<=a) && decide (a<=b) && decide (b<=(h:Int))then 0 else 3,(f:Int),(h:Int),(e:Int),R,T,bl,opB bl,[],[],ksT bl top 1024,(f:Int),aT bl (opB bl) T,aR bl (opB bl) top,aL bl (opB bl) top f h,srt (aC6 bl (opB bl) top R T f h e++pcn (aP6 bl (opB bl) top T f h e) bl.length))/\
   Ea bl wr on lf=some (some (bl,wr,on,lf,(f:Int),(h:Int),(e:Int),R,T,bl,opB bl,[],[],R,top,top.map (lfv bl),(f:Int),aT bl (opB bl) T,aR bl (opB bl) top,aL bl (opB bl) top f h),0):=by
 rcases AfZ (bl:=bl) (wr:=wr) (lf:=lf) on hn hu with⟨w,w1,w2,w3⟩ | ⟨f,h,e,R,T,top,S,hc,w1,w2⟩
 .left;obtain ⟨k,w⟩:=w;dsimp only at w2;subst w2;refine⟨1,w,O,?_,O,?_⟩
  .unfold EG
   grind
  .unfold Ea
   grind
 .by_cases hwr:999999900 < wr
  .left;refine⟨1,?_,O,?_,O,?_⟩
   rotate_left
   .unfold EG;rw [w1,AoC];dsimp only;rw [AoH Z,AoC];rw [iy hwr]
   .unfold Ea
    grind
  .cases on with
   | false=>
    left;refine⟨2,?_,O,?_,O,?_⟩
    rotate_left
    .unfold EG;rw [w1,AoC];dsimp only;rw [AoH Z,AoC];rw [ino hwr,AoJ (show(!false)=true from rfl)]
    .unfold Ea
     grind
   | true=>
    right;refine⟨f,h,e,R,T,top,S,hc,O,rfl,?_,?_⟩
    .unfold EG;rw [w1,AoC];dsimp only;rw [AoH Z,AoC];rw [ino hwr,AoH Z,Qd,AoC]
     grind
    .unfold Ea
     grind
end Go.V.G
set_option maxRecDepth 100000
namespace Go.V.G
open Go.V
theorem Vm {α:Type} {p:α->Bool} {l:List α} {i:Nat} {v:α} (h:l[i]?=some v):(l.take (i+1)).filter p=(l.take i).filter p++(if p v=true then [v]else []):=by
 rw [Bq h,ApV]
 grind
def BM (f h r:Nat):List (Int×Int):=(sts f h).filter λs=>decide (s.2.toNat * 2 ^ s.1.toNat < r)
theorem ZZ {f h r i:Nat} (hi:i < (BM f h r).length):∃k j,St8 f h (BM f h r)[i] k j:=sts_mem.1 (Aqe.1 (AoR hi)).1
theorem Q6 {f h r:Nat} (hh:h<=60):(BM f h r).length<=360:=Ao2 (ApO _ _) (Fr hh)
theorem AgG {f h r:Nat} (hh:h<=60):PJ (f:Int) (h:Int) (r:Int)=some (BM f h r):=by
 have hsl:=Fr (f:=f) hh;unfold PJ;rw [LS hh,AoC];have h1:=Af KM (λi=>((r:Int),((sts f h).take i).filter (λs=>decide (s.2.toNat * 2 ^ s.1.toNat < r)),sts f h,(((sts f h).length:Nat):Int),((i:Nat):Int))) (sts f h).length (BM f h r) (λi hi=>by
  obtain ⟨k,j,g⟩:=MW hi;obtain ⟨l1,l2,l3⟩:=g.lt hh;obtain ⟨p1,p2,p3,p4⟩:=YN g.hk;have hget:(sts f h)[i]?=some ((k:Int),(j:Int)):=by rw [AoF hi,g.e]
  have hfl:=ApO (λs:Int×Int=>decide (s.2.toNat * 2 ^ s.1.toNat < r)) ((sts f h).take i);rw [AoQ]at hfl;unfold KM cK cZ wI;dsimp only;rw [iy O,iy O,iy O,AoS,AoE,hget,AoC,AoC];dsimp only;rw [p4,iy O,NC g.hk O,Vm hget];dsimp only;rw [AoE,AoE];by_cases hc:j * 2 ^ k < r
  .rw [iy O,AoJ (by simp only [Aa,decide_eq_true_eq,AoP];omega),AoC,AoJ (by grind)];dsimp only;rw [Ah O]
  .rw [ino O,AoC,AoH (by grind),AoW];dsimp only;rw [Ah O]) (by
  unfold KM cK cZ wI;dsimp only;rw [ino O,Apy];rfl)
 grind
theorem AfQ {f h r:Nat} (hf:f<=h) (hh:h<=60):UN (f:Int) (h:Int) (r:Int)=some (BM f h r):=by
 have hsl:=Fr (f:=f) hh;unfold UN;rw [OM hf hh,AoC];have h1:=Af N1 (λi=>((r:Int),((sts f h).take i).filter (λs=>decide (s.2.toNat * 2 ^ s.1.toNat < r)),sts f h,(((sts f h).length:Nat):Int),((i:Nat):Int))) (sts f h).length (BM f h r) (λi hi=>by
  obtain ⟨k,j,g⟩:=MW hi;obtain ⟨l1,l2,l3⟩:=g.lt hh;have hget:(sts f h)[i]?=some ((k:Int),(j:Int)):=by rw [AoF hi,g.e]
  have hfl:=ApO (λs:Int×Int=>decide (s.2.toNat * 2 ^ s.1.toNat < r)) ((sts f h).take i);rw [AoQ]at hfl;unfold N1 cK cZ wI;dsimp only;rw [iy O,iy O,iy O,AoS,AoE,hget,AoC,AoC];dsimp only;rw [XW g.hk O,AoC,Vm hget];dsimp only;rw [AoE,AoE];by_cases hc:j * 2 ^ k < r
  .rw [iy O,AoJ (by simp only [Aa,decide_eq_true_eq,AoP];omega),AoC,AoJ (by grind)];dsimp only;rw [Ah O]
  .rw [ino O,AoC,AoH (by grind),AoW];dsimp only;rw [Ah O]) (by
  unfold N1 cK cZ wI;dsimp only;rw [ino O,Apy];rfl)
 grind
def Ff (f h e r:Nat):List Int:=(BM f h r).map kyI++(cks f r e).map ckI
theorem Af5 {f h k j:Nat} {s:Int×Int} (g:St8 f h s k j) (hh:h<=60):kyI s=((64 * k+j:Nat):Int):=by unfold kyI;rw [(g.lt hh).2.1]
theorem AdQ {f h:Nat} (hh:h<=60):∀n,n<=6->((stk f h n).map kyI).Pairwise (· < ·)/\∀v∈(stk f h n).map kyI,v < ((64 * n:Nat):Int)
 | 0,_=>by unfold stk;simp
 | n+1,hn=>by
  obtain ⟨i1,i2⟩:=AdQ hh n O;show((stk f h n++skn f n (h / 2 ^ n)).map kyI).Pairwise (· < ·)/\∀v∈(stk f h n++skn f n (h / 2 ^ n)).map kyI,v < ((64 * (n+1):Nat):Int);have hd:h / 2 ^ n<=60:=Ao2 (Aqn _ _) hh;have sk:∀m,m<=60->((skn f n m).map kyI).Pairwise (· < ·)/\∀v∈(skn f n m).map kyI,((64 * n:Nat):Int)<=v/\v < ((64 * n+m:Nat):Int):=by
   intro m
   induction m with
   | zero=>intro _;unfold skn;simp
   | succ m ih=>
    intro hm;obtain ⟨j1,j2⟩:=ih O;rw [I6,Ape];have e:kyI (((n:Nat):Int),((m:Nat):Int))=((64 * n+m:Nat):Int):=by rfl
    grind
  obtain ⟨k1,k2⟩:=sk _ hd;rw [Ape];constructor
  .rw [Aqp];exact⟨i1,k1,λa ha c hc=>by grind⟩
  grind
theorem AdP (f e:Nat):∀n,((ckn f e n).map ckI).Pairwise (· < ·)/\∀v∈(ckn f e n).map ckI,(384:Int)<=v/\v < ((384+f+1+n:Nat):Int)
 | 0=>by unfold ckn;simp
 | n+1=>by
  obtain ⟨i1,i2⟩:=AdP f e n;rw [M4,Ape];split
  .constructor
   .rw [Aqp];refine⟨i1,Z,λa ha c hc=>?_⟩;rw [List.map_singleton,AoZ]at hc;rw [hc];have:=i2 a ha;unfold ckI;omega
   .intro v hv;rcases AoK.1 hv with hv | hv
    .grind
    .rw [List.map_singleton,AoZ]at hv;rw [hv];unfold ckI;omega
  grind
theorem W2 {f h e r:Nat} (hh:h<=60) (hr:r<=h):(Ff f h e r).Pairwise (· < ·)/\∀v∈Ff f h e r,0<=v/\v < 448:=by
 obtain ⟨i1,i2⟩:=AdQ (f:=f) hh 6 (Ao4 _);have hs:((BM f h r).map kyI).Sublist ((sts f h).map kyI):=List.Sublist.map _ List.filter_sublist;obtain ⟨k1,k2⟩:=AdP f e (r - f);have hb:∀v∈(BM f h r).map kyI,0<=v/\v < 384:=λv hv=>by
  have h1:=i2 v (hs.subset hv);obtain ⟨s,_,rfl⟩:=Ao0.1 hv;refine⟨by unfold kyI;omega,h1⟩
 unfold Ff cks;constructor
 .rw [Aqp];exact⟨i1.sublist hs,k1,λa ha c hc=>by grind⟩
 .intro v hv;rcases AoK.1 hv with hv | hv
  .grind
  .have:=k2 v hv;obtain ⟨q,hq,rfl⟩:=Ao0.1 hv;have:=(cks_mem (f:=f) (h:=r) (e:=e)).1 hq;omega
theorem Xo {f h e r:Nat} (hh:h<=60) (hr:r<=h):(Ff f h e r).length<=420:=by
 have h1:=Q6 (f:=f) (r:=r) hh;have h2:=KF (f:=f) (e:=e) (O:r<=60);unfold Ff
 grind
theorem AfV {f h e r:Nat} (hh:h<=60) (hr:r<=h):srt (Ff f h e r)=Ff f h e r:=by
 have hl:=Xo (f:=f) (e:=e) hh hr;obtain ⟨o1,_,o3⟩:=J1 (l:=Ff f h e r) O;exact WI o1 (ris_iff.2 (W2 hh hr).1) o3
theorem AeA {f h e r:Nat} (hf:f<=r) (hr:r<=h) (hh:h<=60) (he:0 < e) {R T f2:Int} {bl:Bls} {a b c u:List Int} {ks:List Kv} {t:List UInt8} {rn:List Rn} {cs:List (List Prt)} :
  NZ (f:Int) (h:Int) (e:Int) R T bl a b c ks f2 t rn cs u (r:Int)=some (Ff f h e r):=by
 have hll:=Q6 (f:=f) (r:=r) hh;unfold NZ wI;rw [AgG hh,AoC];have h1:=Af HH (λi=>((r:Int),((BM f h r).map kyI).take i,BM f h r,(((BM f h r).length:Nat):Int),((i:Nat):Int),(f:Int),(h:Int),(e:Int),R,T,bl,a,b,c,ks,f2,t,rn,cs,u)) (BM f h r).length
  ((r:Int),(BM f h r).map kyI,(f:Int),(h:Int),(e:Int),R,T,bl,a,b,c,ks,f2,t,rn,cs,u) (λi hi=>by
  obtain ⟨k,j,g⟩:=ZZ hi;obtain ⟨l1,l2,l3⟩:=g.lt hh;have hget:(BM f h r)[i]?=some ((k:Int),(j:Int)):=by rw [AoF hi,g.e]
  have hml:((BM f h r).map kyI)[i]?=some (((64 * k+j:Nat):Nat):Int):=by rw [Apl,AoF hi];show some (kyI _)=_;rw [Af5 g hh]
  unfold HH cK cZ wI;dsimp only;rw [iy O,iy O,iy O,AoS,AoE,hget,AoC,AoC];dsimp only;rw [JO g.hk O,AoC,AoJ (by simp only [Aa,decide_eq_true_eq,AoP,AoQ,Ao9];omega),Ah O,Bq hml]) (by
  unfold HH cK cZ wI;dsimp only;rw [ino O,Ao5 Z])
 rw [show Ab HH ((r:Int),[],BM f h r,(((BM f h r).length:Nat):Int),0,(f:Int),(h:Int),(e:Int),R,T,bl,a,b,c,ks,f2,t,rn,cs,u)=_ from h1,AoC];dsimp only;have h2:=Af Hr (λn=>((r:Int),(BM f h r).map kyI++(ckn f e n).map ckI,((f+1+n:Nat):Int),(f:Int),(h:Int),(e:Int),R,T,bl,a,b,c,ks,f2,t,rn,cs,u)) (r - f) (Ff f h e r) (λn hn=>by
  have hl:=Pf f e n;unfold Hr cK wI;dsimp only;rw [iy O,iy O,UB,M4];by_cases hz:(f+1+n) % e=0
  .have ew:IntKind.wrap .i64 (384+((f+1+n:Nat):Int))=ckI (f+1+n):=by rw [w64 O O];rfl
   rw [iy O,ew,AoJ (by simp only [Aa,decide_eq_true_eq,AoP,AoM,Ao9];omega),AoC,AoJ hz,Ape,<- AoN];dsimp only;rw [Ah O];rfl
  .rw [ino O,AoC,AoH hz,AoW];dsimp only;rw [Ah O];rfl) (by
  unfold Hr cK wI;dsimp only;rw [ino O];rfl)
 have e0:(BM f h r).map kyI++(ckn f e 0).map ckI=(BM f h r).map kyI:=by simp [ckn]
 rw [e0]at h2;rw [Ah O,show Ab Hr ((r:Int),(BM f h r).map kyI,((f+1:Nat):Int),(f:Int),(h:Int),(e:Int),R,T,bl,a,b,c,ks,f2,t,rn,cs,u)=_ from h2];rfl
def prS (L:List Int) (v:Int):List Kv:=L.map (λk=>(k,0))++[(448,v)]
theorem AhR {L:List Int} (hL:L.length<=500) (hs:srt L=L) (v:Int):HW L v=some (prS L v):=by
 unfold HW cK;have h1:=Af D1 (λi=>(v,srt (L.take i),L,(L.length:Int),((i:Nat):Int))) L.length (v,L) (λi hi=>by
  have hget:L[i]?=some L[i]:=AoF hi;unfold D1 gX wI;dsimp only;rw [iy O,iy O,AoE,hget,AoC,(Fm (l:=L.take i) (by grind) L[i]).1,AoC,Ah O,Bq hget]) (by
  unfold D1 gX wI
  grind)
 rw [show Ab D1 (v,[],L,(L.length:Int),0)=_ from h1,AoC];have h2:=Af D6 (λi=>(v,(L.map (λk=>(k,(0:Int)))).take i,L,(L.length:Int),((i:Nat):Int))) L.length (v,L.map λk=>(k,0)) (λi hi=>by
  have hget:L[i]?=some L[i]:=AoF hi;have hml:(L.map λk=>(k,(0:Int)))[i]?=some (L[i],0):=by simp
  unfold D6 cK cZ wI;dsimp only;rw [iy O,iy O,iy O,AoS,AoE,hget,AoC,AoJ (by simp only [Aa,decide_eq_true_eq,AoP,AoQ,Ao9];omega),Ah O,Bq hml]) (by
  unfold D6 cK cZ wI;dsimp only;rw [ino O,Ao5 Z])
 rw [show Ab D6 (v,[],L,(L.length:Int),0)=_ from h2,AoC];rw [AoJ (by simp only [Aa,decide_eq_true_eq,AoP,Ao9];omega)];rfl
theorem AfJ {L:List Int} (h:∀v∈L,0<=v/\v < 448) (v:Int):Ks (prS L v):=λs hs=>by
 unfold prS at hs
 grind
theorem Sv (L:List Int) (v:Int):(prS L v).length=L.length+1:=by unfold prS;simp
theorem AhH {L:List Int} (hL:L.length<=500) (h1:L.Pairwise (· < ·)) (h2:∀v∈L,0<=v/\v < 448) (v:Int) :
  An ((448,v)::L.map λk=>(k,0))=some (prS L v):=by
 have hp:((448,v)::L.map λk=>(k,(0:Int))).Perm (prS L v):=List.perm_append_comm (l₁:=[(448,v)]);have hst:((prS L v).map (·.1)).Pairwise (· < ·):=by
  have e:(prS L v).map (·.1)=L++[448]:=by unfold prS;rw [Ape,ApF];exact congrArg (·++[448]) ((Aps λ_ _=>rfl).trans (List.map_id L))
  grind
 have hnd:(((448,v)::L.map λk=>(k,(0:Int))).map (·.1)).Nodup:=(hp.map _).nodup_iff.2 (hst.imp λq=>by omega);unfold An;rw [AoJ ⟨by grind,λp hq=>by grind,hnd⟩];have hm:=List.mergeSort_perm ((448,v)::L.map λk=>(k,(0:Int))) (λa b=>decide (a.1<=b.1));have hpw:=List.pairwise_mergeSort (le:=λ(a b:Int×Int)=>decide (a.1<=b.1)) (λa b c p q=>by grind) (λa b=>by grind) ((448,v)::L.map λk=>(k,(0:Int)));have hst2:(prS L v).Pairwise λa b=>a.1 < b.1:=List.pairwise_map.1 hst
 refine congrArg some (List.Perm.eq_of_pairwise (le:=λa b:Int×Int=>decide (a.1<=b.1)=true) (λa c ha hc p q=>?_) hpw (hst2.imp λq=>by grind) (hm.trans hp))
 grind
theorem AgF (b:Bls) (top:List Int) (L:List Int) {v w:Int} (hv:v≠0) (hw:w≠0) (k:Nat):nz (av b top (prS L v) k)=nz (av b top (prS L w) k):=by
 have e:∀u:Int,av b top (prS L u) k=upd k (av b top (L.map λk=>(k,0)) k) (448,u):=λu=>by unfold av prS;simp
 have hl:=JE b top (L.map λk=>(k,0)) k;rw [e,e];generalize av b top (L.map λk=>(k,0)) k=a at hl;unfold upd;by_cases hk:Int.toNat 448 / 32=k
 .rw [AoJ hk,AoJ hk];have:∀u:Int,u≠0->nz (a.set (Int.toNat 448 % 32) u)=true:=λu hu=>by
   unfold nz;rw [List.any_eq_true];exact⟨u,List.mem_iff_getElem?.2 ⟨Int.toNat 448 % 32,by grind⟩,by grind⟩
  grind
 grind
theorem Akn (L:List Int) (v w:Int) (k:Nat):oth (prS L v) k=oth (prS L w) k:=by unfold oth prS;simp
theorem AkO (b:Bls) (top:List Int) (L:List Int) {v w:Int} (hv:v≠0) (hw:w≠0):ndK b top (prS L v)=ndK b top (prS L w):=by
 have hn:∀k,nwC b top (prS L v) k=nwC b top (prS L w) k:=by
  intro k
  induction k with
  | zero=>rfl
  | succ k ih=>simp only [nwC];rw [ih,Akn L v w,AgF b top L hv hw]
 have ha:anC b top (prS L v) 32=anC b top (prS L w) 32:=by
  exact congrArg (List.any _) (funext λj=>AgF b top L hv hw j)
 unfold ndK;rw [Sv,Sv,hn,ha]
end Go.V.G
set_option maxRecDepth 100000
namespace Go.V.G
open Go.V
abbrev Aly:=Bls×(Int×(Bool×(Int×(Int×(Int×(Int×(Int×(Int×(Bls×(List Int×(List Int×(List Int×(Int×(List Int×(Bls×(Int×(List UInt8×(List Rn×List (List Prt)))))))))))))))))))
theorem AdU {o:Option Aly} {b:Bls} {x y z:List Int} {l:List Kv} {full:Bool} {nw k:Int} (hk:k≠448) (hl:l.length<=1000):Dk k o b x y z l full nw true=some (o,b,x,y,z,l++[(k,0)],full,nw,true):=by
 unfold Dk cK;rw [iy hk,AoJ (by simp only [Aa,decide_eq_true_eq,AoP];omega),AoC];rfl
theorem AeT {o:Option Aly} {b:Bls} {x y z:List Int} {l:List Kv} {full:Bool} {nw:Int}:Dk 448 o b x y z l full nw true=some (o,b,x,y,z,l,full,nw,true):=by
 rfl
theorem Aeu {b:Bls} {x y z hv:List Int} {near:Int} {t:List UInt8} {l:List Kv} {full:Bool} {nw:Nat} (g:RS b x y) (h:JB b x y near=some hv) (ht:t.length<=120) (hn:nw<=1000) :
  Dr t near b x y z l full (nw:Int) true=some (33,b,x,y,z,l,full,((nw+(zs (shs b hv (CT 3 t))+1):Nat):Int),true):=by
 have hz:zs (shs b hv (CT 3 t))<=3:=Ao2 List.countP_le_length (by rw [H8];exact Gf _ _);unfold Dr wI;rw [Yx g h ht,AoC,AoJ rfl,w64 O O];rfl
theorem Afx {b:Bls} {x y z d:List Int} {k:Int} {l:List Kv} {full:Bool} {nw:Nat} (hd:d.length<=1000) (hl:l.length<=1000) (hn:nw<=1000) :
  DP k d b x y z l full (nw:Int) true=some (b,x,y,z,l++[(k,33)],full,((nw+nd d.length:Nat):Int),true):=by
 have:=Ajs hd;unfold DP cK wI;rw [Afp hd,AoC,AoJ rfl,AoJ (by simp only [Aa,decide_eq_true_eq,AoP];omega),w64 O O];rfl
theorem AfE {b:Bls} {x y z top:List Int} {R:Int} {l l2:List Kv} {nw:Nat} (htl:top.length=32) (hs:An l=some l2) (hk:Ks l2) (hl:l2.length<=1000) (hn:nw<=1000) :
  DO R top (top.map (lfv b)) b x y z l false (nw:Int) true=some (0,b,x,y,z,l2,false,((nw+ndK b top l2:Nat):Int),true):=by
 have h1:ndK b top l2<=33:=by
  have:=MM b top l2 32;unfold ndK
  grind
 unfold DO wI;rw [hs,AoC,Aeo htl hk hl,AoC,AoJ rfl,AoC];rw [AoJ rfl,w64 O O];rfl
theorem Alz {bl:Bls} {x top:List Int} {R T:Int} {f h e:Nat} (hc:iC bl x top R T f h e=true):tok bl x [] T=true:=by
 unfold iC bG1 at hc;simp only [AoI,Ao7,AgD]at hc;have h4:=hc.1.2.1.1;unfold bf4 at h4
 grind
theorem Aec {bl:Bls} {wr lf:Int} {on:Bool} {f h e:Nat} {R T:Int} {top:List Int} (S:Sto bl wr lf f h e R T top) (hu:∀c∈bl,U8s c) (hc:iC bl (opB bl) top R T f h e=true) {r:Nat} (hf:f < r) (hr:r<=h) {u:List Int}
  (hcall:Ea bl wr on lf=some (some (bl,wr,on,lf,(f:Int),(h:Int),(e:Int),R,T,bl,opB bl,[],[],R,top,top.map (lfv bl),(f:Int),aT bl (opB bl) T,aR bl (opB bl) top,aL bl (opB bl) top f h),0)) :
  ∃n:Int,Fw (f:Int) (h:Int) (e:Int) R T bl (opB bl) [] [] (ksT bl top 1024) (f:Int) (aT bl (opB bl) T) (aR bl (opB bl) top) (aL bl (opB bl) top f h) u ((r:Nat):Int)=some n/\
   Dc bl wr on lf ((r:Nat):Int) [] [] [] [] [] false 0 true=some (true,0,((r:Nat):Int),(h:Int),(e:Int),0,33,bl,opB bl,[],[],prS (Ff f h e r) 33,false,n,true):=by
 have hh:=S.hh;have he:=S.he;have he2:=S.he2;have g:=S.rs hu;have hog:gsp bl (opB bl) [] []=true:=by have:=S.op;unfold opG at this;grind
 have gh:=AmO hc;have hll:=Ak1 bl (opB bl) top f h;have htok:=Alz hc;have hT0:=Afq htok;obtain ⟨hv,hhv⟩:=Ap0.1 htok;have hhf:JB bl (opB bl) [] T=some hv:=by unfold JB;grind
 have hfr:(f:Int)<=((r:Nat):Int):=O
 have hrh:((r:Nat):Int)<=(f:Int)+(((aL bl (opB bl) top f h).length:Nat):Int):=O
 obtain ⟨t1,t2⟩:=ZE gh hfr (ApI _) hrh;have htx:=Xm gh hfr hrh;have hti:=R7 gh hfr hrh;have hbs:=AeY gh hfr hrh;have hbi:=Aen gh hfr hrh;generalize txt (aT bl (opB bl) T) ((aL bl (opB bl) top f h).take (((r:Nat):Int) - (f:Int)).toNat)=tx at t1 htx hti;generalize blm ((f:Int)+1) (aR bl (opB bl) top) ((aL bl (opB bl) top f h).take (((r:Nat):Int) - (f:Int)).toNat)=rn at t2 hbs hbi;obtain ⟨q1,q2⟩:=W2 (f:=f) (e:=e) hh hr;have hL:=Xo (f:=f) (e:=e) hh hr;have htl:=HK S.tr;have hz:zs (shs bl hv (CT 3 tx))<=3:=Ao2 List.countP_le_length (by rw [H8];exact Gf _ _);have hnd:=Ajs (n:=2 * rn.length) O;have hnk:ndK bl top (prS (Ff f h e r) T)<=33:=by
  have:=MM bl top (prS (Ff f h e r) T) 32;unfold ndK
  grind
 have hel:=TK rn;refine⟨((zs (shs bl hv (CT 3 tx))+1+nd (2 * rn.length)+ndK bl top (prS (Ff f h e r) T):Nat):Int),?_,?_⟩
 .unfold Fw wI;rw [ino O,htx,AoC,Yl g hhf t1,AoC,hbs,AoC,show IntKind.wrap .i64 (2 * (rn.length:Int))=((2 * rn.length:Nat):Int) by rw [w64 O O];omega,Agf O,AoC,
   AeA O hr hh he,AoC,AhR O (AfV hh hr),AoC,AeK g S.tr htl (AfJ q2 _) (by rw [Sv];omega),AoC,w64 (n:=((zs (shs bl hv (CT 3 tx))+1:Nat):Int)+(nd (2 * rn.length):Int)) O O,w64 O O]
  rfl
 .have hl8:=Q6 (f:=f) (r:=r) hh;have hck:=KF (f:=f) (e:=e) (O:r<=60);unfold Dc;rw [hcall,AoC];dsimp only;rw [ino Z,AoC,AoC];dsimp only;rw [AE,decide_eq_true (⟨O,O⟩:(f:Int)<=((r:Nat):Int)/\((r:Nat):Int)<=(h:Int)),AoC,AoH Z,AoC];dsimp only;rw [ino O,AoC];dsimp only;rw [Aaq (Po hog) (SH (by have:=g.hn;omega) (by have:=g.hn;omega)),AoC];dsimp only;rw [AoC];dsimp only;rw [hti,AoC,AoC];dsimp only;rw [show Dr tx T bl (opB bl) [] [] [] false 0 true=_ from Aeu (nw:=0) g hhf t1 O,AoC];dsimp only;rw [AoC];dsimp only;rw [hbi,AoC,VZ O,AoC,Afx O Z O,AoC,hel];dsimp only;rw [AoC,AoC];dsimp only;rw [AfQ S.hf hh,AoC,Ao6];generalize hnw:0+(zs (shs bl hv (CT 3 tx))+1)+nd (2 * rn.length)=nw;have h1:=Af ES (λi=>(((r:Nat):Int),33,BM f h r,(((BM f h r).length:Nat):Int),((i:Nat):Int),0,0,0,0,0,
    some (bl,wr,on,lf,(f:Int),(h:Int),(e:Int),R,T,bl,opB bl,[],[],R,top,top.map (lfv bl),(f:Int),aT bl (opB bl) T,aR bl (opB bl) top,aL bl (opB bl) top f h),
    bl,opB bl,[],[],[(448,33)]++((BM f h r).map λs=>(kyI s,(0:Int))).take i,false,(nw:Int),true)) (BM f h r).length
    (((r:Nat):Int),33,0,0,0,0,0,some (bl,wr,on,lf,(f:Int),(h:Int),(e:Int),R,T,bl,opB bl,[],[],R,top,top.map (lfv bl),(f:Int),aT bl (opB bl) T,aR bl (opB bl) top,aL bl (opB bl) top f h),
    bl,opB bl,[],[],[(448,33)]++((BM f h r).map λs=>(kyI s,(0:Int))),false,(nw:Int),true) (λi hi=>by
   obtain ⟨k,j,S8⟩:=ZZ hi;obtain ⟨l1,l2,l3⟩:=S8.lt hh;have hget:(BM f h r)[i]?=some (((k:Nat):Int),(j:Int)):=by rw [AoF hi,S8.e]
   have hml:((BM f h r).map λs=>(kyI s,(0:Int)))[i]?=some (((64 * k+j:Nat):Int),0):=by rw [Apl,AoF hi];show some (kyI _,(0:Int))=_;rw [Af5 S8 hh]
   unfold ES cK cZ wI;dsimp only;rw [iy O,iy O,iy O,AoS,AoE,hget,AoC,AoC];dsimp only;rw [UP S8.hk O,AoC,AdU O (by grind),AoC];dsimp only;rw [Ah O,Bq hml,AoN]) (by
   unfold ES cK cZ wI;dsimp only;rw [ino O,Ao5 Z])
  rw [AqA,AoW,show((0:Nat):Int)=0 from rfl]at h1;rw [h1,AoC];dsimp only;rw [AoC,AoC];dsimp only;rw [Tz O O he he2,AoC];have hcl:((cks f r e).map λr=>((r:Nat):Int)).length=(cks f r e).length:=by simp
  have h2:=Af EM (λi=>(((r:Nat):Int),33,(cks f r e).map (λr=>((r:Nat):Int)),((((cks f r e).map λr=>((r:Nat):Int)).length:Nat):Int),((i:Nat):Int),0,0,0,0,0,
    some (bl,wr,on,lf,(f:Int),(h:Int),(e:Int),R,T,bl,opB bl,[],[],R,top,top.map (lfv bl),(f:Int),aT bl (opB bl) T,aR bl (opB bl) top,aL bl (opB bl) top f h),
    bl,opB bl,[],[],([(448,33)]++((BM f h r).map λs=>(kyI s,(0:Int))))++((cks f r e).map λq=>(ckI q,(0:Int))).take i,false,(nw:Int),true)) (cks f r e).length
    (((r:Nat):Int),33,0,0,0,0,0,some (bl,wr,on,lf,(f:Int),(h:Int),(e:Int),R,T,bl,opB bl,[],[],R,top,top.map (lfv bl),(f:Int),aT bl (opB bl) T,aR bl (opB bl) top,aL bl (opB bl) top f h),
    bl,opB bl,[],[],([(448,33)]++((BM f h r).map λs=>(kyI s,(0:Int))))++((cks f r e).map λq=>(ckI q,(0:Int))),false,(nw:Int),true) (λi hi=>by
   have hget:((cks f r e).map λr=>((r:Nat):Int))[i]?=some (((cks f r e)[i]:Nat):Int):=by grind
   have hml:((cks f r e).map λq=>(ckI q,(0:Int)))[i]?=some (ckI (cks f r e)[i],0):=by grind
   have hm:=(cks_mem (f:=f) (h:=r) (e:=e)).1 (AoR hi);have ew:IntKind.wrap .i64 (384+(((cks f r e)[i]:Nat):Int))=ckI (cks f r e)[i]:=by rw [w64 O O];rfl
   unfold EM cK cZ wI;dsimp only;rw [hcl,iy O,iy O,iy O,AoS,AoE,hget,AoC,ew,AoJ (by simp only [Aa,decide_eq_true_eq,AoP,AoM,AoQ,Ao9];omega),AoH (show ¬ ((!true)=true) by simp),AoC];dsimp only;rw [AoH Z,AoC];dsimp only;rw [Ah O,Bq hml,AoN]) (by
   unfold EM cK cZ wI;dsimp only;rw [hcl,ino O,Ao5 Z])
  rw [AqA,AoW,show((0:Nat):Int)=0 from rfl]at h2;rw [h2,AoC];dsimp only;rw [AeT,AoC];dsimp only;rw [AoH (show ¬ ((!true)=true) by simp),AoC];dsimp only;rw [AoH Z,AoC];dsimp only;rw [AoC];dsimp only;have hsets:([(448,33)]++((BM f h r).map λs=>(kyI s,(0:Int))))++((cks f r e).map λq=>(ckI q,(0:Int)))=(448,33)::(Ff f h e r).map λk=>(k,(0:Int)):=by
   unfold Ff;rw [Ape,ApF,ApF];rfl
  rw [hsets,AfE htl (AhH O q1 q2 33) (AfJ q2 33) (by rw [Sv];omega) O,AoC];dsimp only;rw [AoC,AoC,AkO bl top _ (show(33:Int)≠0 by omega) hT0]
  grind
theorem Wd {bl:Bls} {wr lf:Int} (on:Bool) (hn:bl.length<=1048576) (hu:∀c∈bl,U8s c) (x:Int):∃r:Int×Int,DY bl wr on lf x=some r/\DS bl wr on lf x=some r:=by
 rcases Afy (bl:=bl) (wr:=wr) (lf:=lf) on hn hu x x with⟨c,w,hc,w1,_,w2⟩ | ⟨f,h,e,R,T,top,S,hc,hwr,hon,w1,w2⟩
 .refine⟨(0,c),?_,?_⟩
  .unfold DY
   grind
  .unfold DS Dc
   grind
 .by_cases h1:(f:Int)<=x/\x<=(h:Int)
  .rw [decide_eq_true h1.1,decide_eq_true (ApI x),decide_eq_true h1.2,AoJ (show(true && true && true)=true from rfl)]at w1;obtain ⟨x,rfl⟩:=AoX (O:0<=x);by_cases h2:x=f
   .subst h2;refine⟨(0,0),?_,?_⟩
    .unfold DY;rw [w1,AoC];dsimp only;rw [ino Z];unfold Fw wI;simp
    .unfold DS Dc;rw [w2,AoC];dsimp only;rw [ino Z,AoC,AoC];dsimp only;rw [AE,decide_eq_true h1,AoC,AoH Z,AoC];simp
   .obtain ⟨n,n1,n2⟩:=Aec S hu hc (r:=x) O O (u:=srt (aC6 bl (opB bl) top R T f h e++pcn (aP6 bl (opB bl) top T f h e) bl.length)) w2;refine⟨(n,0),?_,?_⟩
    .unfold DY
     grind
    .unfold DS
     grind
  .have hz:(decide ((f:Int)<=x) && decide (x<=x) && decide (x<=(h:Int)))=false:=by
    grind
   refine⟨(0,3),?_,?_⟩
   .unfold DY
    grind
   .unfold DS Dc;rw [w2,AoC];rw [ino Z,AoC,AoC];rw [AE,decide_eq_false h1,AoC,AoJ (show(!false)=true from rfl),AoC];rfl
end Go.V.G
set_option maxRecDepth 100000
namespace Go.V.G
open Go.V
theorem VA {b:Bls} (f2:Md b) (hu:∀c∈b,U8s c) (wr:Int) (on:Bool) (lf x:Int):Df b wr on lf x=some true:=by
 unfold Df;rw [Ako f2 O O,AoC];by_cases hs:lft 1048576 (CP b) < 0
 .rw [AoJ (by simpa using hs)]
 rw [AoH (by simpa using hs)];have hw:=AiZ hs;have hbl:=MJ b;have htd:I3 b wr on lf=some (b,wr,on,lf):=AjK O;have hed:M7 b wr on lf b wr on lf=some true:=Aj1 O;obtain ⟨⟨u,v⟩,r1,r2⟩:=Wd (bl:=b) (wr:=wr) (lf:=lf) on O hu x;simp only [htd,r1,r2,hed,AoC,Apv,AoO,Apa,not_true_eq_false,decide_false]
end Go.V.G
namespace Go.Proofs.YtofhefmbioblbaaGreat
open Go.V
theorem Nm {e1 e2:TypeId} (x0:List (List Int)) (x1:Int) (x2:Bool) (x3 x4:Int)
  (g0:∀l∈([⟨.sl false e1 (.sl false e2 (.int .u8)),x0⟩,⟨.int .i64,x1⟩,⟨.bool,x2⟩,⟨.int .i64,x3⟩]:List Ae),Kf l.1 l.2) (g1:Kf (.int .i64) x4):G.Df x0 x1 x2 x3 x4=some true:=by
 have h1:=g0 ⟨.sl false e1 (.sl false e2 (.int .u8)),x0⟩ Z;exact G.VA ⟨h1.1,λx hx=>(h1.2 x hx).1⟩ (λx hx y hy=>G.Ak3 ((h1.2 x hx).2 y hy)) x1 x2 x3 x4
end Go.Proofs.YtofhefmbioblbaaGreat
namespace Go.V
structure Rs where
 s:Nat
 h:Nat
 k:Nat
 o:List (Nat×Nat)
abbrev Rd (α:Type):=Rs->α×Rs
def rn:Nat->Rd Nat
 | 0,q=>(0,q)
 | f+1,⟨s,h,k,o⟩=>bif Nat.blt (s % 16) 8 then(s % 16,⟨s / 16,h,k,o⟩)else match rn f ⟨s / 16,h,k,o⟩with
  | (r,q)=>(s % 16 - 8+8 * r,q)
def rnb:Rd Nat:=rn 9
def nib:Rd Nat
 | ⟨s,h,k,o⟩=>(s % 16,⟨s / 16,h,k,o⟩)
def rl {α:Type} (p:Rd α):Nat->Rd (List α)
 | 0,q=>([],q)
 | n+1,q=>match p q with
  | (a,q)=>match rl p n q with
   | (l,q)=>(a::l,q)
def rls {α:Type} (p:Rd α):Rd (List α):=λq=>match rnb q with
 | (n,q)=>rl p n q
def r2 {α:Type} (c:Nat->Nat->α):Rd α:=λq=>match rnb q with
 | (a,q)=>match rnb q with
  | (b,q)=>(c a b,q)
def r1 {α:Type} (c:Nat->α):Rd α:=λq=>match rnb q with
 | (a,q)=>(c a,q)
def rTL (b:Nat):Rd TL:=λq=>match nib q with
 | (0,⟨s,h,k,o⟩)=>(.h h,⟨s,h+1,k,o⟩)
 | (1,⟨s,h,k,o⟩)=>(.vw (k+1),⟨s,h+1,k+1,(k+1,h)::o⟩)
 | (2,q)=>r1 (λa=>.vw (b+a)) q
 | (3,q)=>match rnb q with
  | (a,⟨s,h,k,o⟩)=>(.vw (b+a),⟨s,h+1,b+a,(b+a,h)::o⟩)
 | (4,q)=>(.nil,q)
 | (5,q)=>(.no,q)
 | (6,q)=>r1 .h q
 | (7,q)=>(.np,q)
 | (8,q)=>r2 .p q
 | (9,q)=>match rnb q with
  | (a,q)=>r2 (λi j=>.vs (b+a) i j) q
 | (10,q)=>match rnb q with
  | (a,q)=>r2 (λi j=>.ww (b+a) i j) q
 | (11,q)=>match rnb q with
  | (a,q)=>match rnb q with
   | (i,q)=>match rnb q with
    | (f,q)=>r2 (λx y=>.vq (b+a) i f x y) q
 | (12,q)=>r1 .mh q
 | (13,⟨s,h,k,o⟩)=>(.md h,⟨s,h+1,k,o⟩)
 | (14,q)=>r1 .md q
 | (_,q)=>(.no,q)
def rTS (b:Nat):Rd TS:=λq=>match nib q with
 | (0,⟨s,h,k,o⟩)=>(.one (.h h),⟨s,h+1,k,o⟩)
 | (1,⟨s,h,k,o⟩)=>(.one (.vw (k+1)),⟨s,h+1,k+1,(k+1,h)::o⟩)
 | (2,q)=>r2 .pl q
 | (3,q)=>match rTL b q with
  | (l,q)=>(.one l,q)
 | (4,q)=>match rls (rTL b) q with
  | (l,q)=>(.ag l,q)
 | (5,q)=>match rnb q with
  | (a,⟨s,h,k,o⟩)=>(.rp h a,⟨s,h+1,k,o⟩)
 | (6,q)=>match rnb q with
  | (f,q)=>match rls (r2 Prod.mk) q with
   | (l,q)=>(.fv f l,q)
 | (7,q)=>r2 .rp q
 | (_,q)=>(.one .nil,q)
def rT (qs:List Ty):Rd Ty:=r1 λi=>qs.getD i .unit
def rPl (qs:List Ty):Rd Pl:=λq=>match nib q with
 | (0,q)=>r1 .sl q
 | (1,q)=>r2 .ag q
 | (2,q)=>r2 .mc q
 | (_,q)=>match rnb q with
  | (i,q)=>match rls (rT qs) q with
   | (l,q)=>(.pt i l,q)
def rSl (b:Nat):Nat->Nat->Rd (List (Nat×TS))
 | 0,_,q=>([],q)
 | n+1,i,q=>match rnb q with
  | (d,q)=>match rTS b q with
   | (t,q)=>match rSl b n (i+d+1) q with
    | (l,q)=>((i+d,t)::l,q)
def Aoe (b:Nat):Rd (Nat×List TL):=λq=>match rnb q with
 | (k,q)=>match rls (rTL b) q with
  | (l,q)=>((k,l),q)
def AiW (qs:List Ty) (b:Nat):Rd Tpl:=λ⟨s,_,k,_⟩=>match nib ⟨s,0,k,[]⟩with
 | (e,q)=>match rls (rT qs) q with
  | (ho,q)=>match rnb q with
   | (n,q)=>match rSl b n 0 q with
    | (sl,q)=>match (bif Nat.testBit e 0 then rls (Aoe b) q else([],q))with
     | (me,q)=>match (bif Nat.testBit e 1 then rls (r2 λx y=>(b+x,y)) q else(q.o.reverse,q))with
      | (ow,q)=>match (bif Nat.testBit e 2 then rls (rPl qs) q else([],q))with
       | (nw,q)=>match (bif Nat.testBit e 3 then rls (rPl qs) q else([],q))with
        | (fz,q)=>(⟨ho,sl,me,ow,nw,fz⟩,q)
def rEx:Rd Ex:=λq=>match rnb q with
 | (0,q)=>(.n,q)
 | (1,q)=>(.r,q)
 | (n+2,q)=>(.x n,q)
def rJ (qs:List Ty) (b:Nat):Rd Joins:=rls λq=>match rEx q with
 | (e,q)=>match AiW qs b q with
  | (t,q)=>((e,t),q)
def GV (qs:List Ty) (b:Nat):Nat->Rd Ann
 | 0,q=>(.nil,q)
 | f+1,q=>match nib q with
  | (1,q)=>match GV qs b f q with
   | (x,q)=>match GV qs b f q with
    | (y,q)=>(.seq x y,q)
  | (2,q)=>match rJ qs b q with
   | (J,q)=>match GV qs b f q with
    | (x,q)=>match GV qs b f q with
     | (y,q)=>(.cond J x y,q)
  | (3,q)=>match rJ qs b q with
   | (J,q)=>match GV qs b f q with
    | (x,q)=>(.block J x,q)
  | (4,q)=>match AiW qs b q with
   | (t,q)=>match rJ qs b q with
    | (J,q)=>match GV qs b f q with
     | (x,q)=>(.loop t J x,q)
  | (5,q)=>match rJ qs b q with
   | (J,q)=>(.reg J,q)
  | (6,q)=>match rJ qs b q with
   | (J,q)=>match GV qs b f q with
    | (r,q)=>match GV qs b f q with
     | (x,q)=>match GV qs b f q with
      | (y,q)=>match GV qs b f q with
       | (z,q)=>match GV qs b f q with
        | (w,q)=>(.both J r x y z w,q)
  | (7,q)=>match AiW qs b q with
   | (t,q)=>match GV qs b f q with
    | (x,q)=>(.mloop t x,q)
  | (8,q)=>match GV qs b f q with
   | (x,q)=>(.seq .nil x,q)
  | (9,q)=>match GV qs b f q with
   | (x,q)=>(.seq x .nil,q)
  | (10,q)=>match GV qs b f q with
   | (x,q)=>(.seq .nil (.seq .nil x),q)
  | (11,q)=>match GV qs b f q with
   | (x,q)=>(.seq (.seq .nil x) .nil,q)
  | (12,q)=>match rJ qs b q with
   | (J,q)=>(.cond J .nil .nil,q)
  | (13,q)=>match GV qs b f q with
   | (x,q)=>(.block [] x,q)
  | (_,q)=>(.nil,q)
def AeN (qs:List Ty) (c:Nat):Joins×Ann:=match rnb ⟨c,0,0,[]⟩with
 | (b,⟨s,_,_,_⟩)=>match rJ qs b ⟨s,0,b - 1,[]⟩with
  | (J,q)=>match GV qs b 400 q with
   | (a,_)=>(J,a)
structure Kp (P:Program) where
 k:Kn
 ok:JX P k
def Kp.l {P:Program}:List (Kp P)->List Kn
 | []=>[]
 | a::l=>a.k::Kp.l l
theorem Kp.all {P:Program}:∀l:List (Kp P),∀k∈Kp.l l,JX P k
 | [],_,h=>by cases h
 | a::l,k,h=>by
  rcases AoY.1 h with rfl | h
  .exact a.ok
  .exact Kp.all l k h
end Go.V