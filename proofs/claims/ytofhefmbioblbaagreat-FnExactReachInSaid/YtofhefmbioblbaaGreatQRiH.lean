import Derived.Test.YtofhefmbioblbaaGreatQRiA
import Derived.Test.YtofhefmbioblbaaGreatQRiC
import Derived.Test.YtofhefmbioblbaaGreatQRiF
import Derived.Test.YtofhefmbioblbaaGreatQRiG
set_option linter.unusedVariables false
set_option linter.unusedSimpArgs false
set_option maxRecDepth 100000
namespace Go.V.G
open Go.V
section defs
variable (b:Bls) (x top:List Int) (R T:Int) (f h e:Nat)
noncomputable def aC1:List Int:=srt (pgl top R)
noncomputable def aC2:List Int:=aC1 top R++tcl b x [] T
def aP2:List Int:=tpc b x [] T
noncomputable def aC3:List Int:=aC2 b x top R T++rkc b x [] top 448
noncomputable def aC4:List Int:=aC3 b x top R T++Cp b x [] top f (h - f)
noncomputable def aC5:List Int:=aC4 b x top R T f h++upc b x [] top (sts f h)
noncomputable def aC6:List Int:=aC5 b x top R T f h++ckc b x [] top (cks f h e)
def aP6:List Int:=aP2 b x T++ckp b x [] top (cks f h e)
def af3:Bool:=(tok b x [] T && rko b x [] top 448) && (rdR (rkd b x [] top 448)).2
def af4:Bool:=af3 b x top T && loo b x [] top f (h - f)
def af5:Bool:=af4 b x top T f h && upo b x [] top (sts f h)
def af6:Bool:=af5 b x top T f h && cko b x [] top (cks f h e)
def aT:List UInt8:=ttx b x [] T
def aR:List Rn:=(rdR (rkd b x [] top 448)).1
def aL:List (List Prt):=chC (lod b x [] top f (h - f))
noncomputable def aG:Bool:=Fl (f:Int) (aT b x T) (aR b x top) (aL b x top f h)
def aU:Bool:=(sts f h).all (upe b x [] top (f:Int) (aT b x T) (aL b x top f h))
def aK:Bool:=(cks f h e).all (cke b x [] top f (aT b x T) (aL b x top f h))
noncomputable def aS:Bool:=(List.range b.length).all (stB b x (aC6 b x top R T f h e) (aP6 b x top T f h e))
noncomputable def sC:Bool:=kok b top f h e && (okb (af4 b x top T f h) (aC4 b x top R T f h) && (aG b x top T f h && (aU b x top T f h && (aK b x top T f h e && (aS b x top R T f h e && okb (af6 b x top T f h e) (aC6 b x top R T f h e))))))
end defs
theorem WY {b:Bls} {x top:List Int} {R T:Int} {f h e:Nat} (ht:top.length=32) (hh:h<=60):(aC1 top R).length<=33/\(aC2 b x top R T).length<=34/\(aC3 b x top R T).length<=44/\(aC4 b x top R T f h).length<=644/\(aC5 b x top R T f h).length<=4244/\(aC6 b x top R T f h e).length<=4304/\(aP2 b x T).length<=3/\(aP6 b x top T f h e).length<=183:=by
 have h1:=Z5 (root:=R) ht;have h2:=(IU (l:=pgl top R) O).2.1;have h3:=Se b x [] T;have h4:=(Hp b x [] top 448).1;have h5:=TG b x [] top f (h - f);have h6:=ZF b x [] top (sts f h);have h7:=Ia (f:=f) hh;have h8:=Qf b x [] top (cks f h e);have h9:=MN (f:=f) (e:=e) hh;unfold aC6 aC5 aC4 aC3 aC2 aC1 aP6 aP2;simp only [Aj9];omega
theorem Ad1 {fn c:Bool} {l:List Int}:(if okb fn l=true then c else false)=okb (fn && c) l:=by
 unfold okb;cases fn <;> cases c <;> cases ndb l <;> rfl
theorem WD {b:Bls} {x y top:List Int} {f j:Nat}:∀{n:Nat},j<=n->loo b x y top f n=true->loo b x y top f j=true
 | 0,h,q=>by rw [(O:j=0)];exact q
 | n+1,h,q=>by
  by_cases hj:j=n+1
  .rw [hj];exact q
  .rw [X2,Aj8]at q;exact WD O q.1
theorem Aaz {b:Bls} {x y top:List Int} {f j:Nat}:∀{n:Nat},j<=n->∃r,Cp b x y top f n=Cp b x y top f j++r
 | 0,h=>⟨[],by rw [(O:j=0)];simp⟩
 | n+1,h=>by
  by_cases hj:j=n+1
  .exact⟨[],by rw [hj];simp⟩
  .obtain ⟨r,hr⟩:=Aaz (b:=b) (x:=x) (y:=y) (top:=top) (f:=f) (j:=j) (n:=n) O;exact⟨r++rkc b x y top (f+n),by rw [RB,hr,Akd]⟩
theorem Ae8 {b:Bls} {x top:List Int} {R T:Int} {f h j:Nat} (q:okb (af3 b x top T && loo b x [] top f j) (aC3 b x top R T++Cp b x [] top f j)=false) (hj:j<=h - f):okb (af4 b x top T f h) (aC4 b x top R T f h)=false:=by
 cases hh:okb (af4 b x top T f h) (aC4 b x top R T f h)with
 | false=>rfl
 | true=>
  exfalso;unfold okb af4 aC4 ndb at *;simp only [Aj8,decide_eq_true_eq]at hh;obtain ⟨⟨h1,h2⟩,h3⟩:=hh;obtain ⟨r,hr⟩:=Aaz (b:=b) (x:=x) (y:=[]) (top:=top) (f:=f) hj;rw [hr,<- Akd,Akn]at h3;rw [h1,WD hj h2,decide_eq_true h3.1]at q;cases q
theorem Ad0 {bl:Bls} {wr lf:Int} (on:Bool) {f h e:Nat} {R T:Int} {top:List Int} (hn:bl.length<=1048576) (hd:gd bl wr lf=true) (hu:∀c∈bl,U8s c) (hw:wts bl=[])
  (hs:Mn (blk bl 0)=(true,(f:Int),(h:Int),(e:Int),R,T)) (ho:opG bl=true) (ht:tre bl (opB bl) [] R=some top) (hf:f<=h) (hh:h<=60) (he:0 < e) (he2:e<=30) :
  ∃q,Do bl wr on lf=some q/\q.1=sC bl (opB bl) top R T f h e/\(sC bl (opB bl) top R T f h e=true->
   q=(true,(f:Int),(h:Int),(e:Int),R,T,bl,opB bl,[],[],ksT bl top 1024,(f:Int),aT bl (opB bl) T,aR bl (opB bl) top,aL bl (opB bl) top f h,srt (aC6 bl (opB bl) top R T f h e++pcn (aP6 bl (opB bl) top T f h e) bl.length))):=by
 obtain ⟨hb,hk⟩:=J0 hd;have sb:=Sw (bl:=bl) O O;have hog:gsp bl (opB bl) [] []=true:=by unfold opG at ho;rw [Aj8]at ho;exact ho.1
 have g:=(P4 hog).rs sb hu;have htl:=G4 ht;obtain ⟨l1,l2,l3,l4,l5,l6,l7,l8⟩:=WY (b:=bl) (x:=opB bl) (top:=top) (R:=R) (T:=T) (f:=f) (h:=h) (e:=e) htl hh;have hkl:=Qc bl top 1024;obtain ⟨w1,w2,w3⟩:=AcJ (f:=f) (e:=e) hh;unfold Do cK cZ gX wI;rw [HV hn,hd,Aj1,Aj6 Z,Gd on hd hu,hw,Aj1,Aj1];dsimp only;rw [Aj6 Z,iy O,show Int.toNat 0=0 from rfl,Bp (O:0 < bl.length),Aj1,Iq (hu _ (BB O)),hs,Aj1];dsimp only;rw [GO on hd hu,Aj1];unfold opD;rw [Aj7 ho];dsimp only;rw [Aj1];dsimp only;rw [Aj6 Z,Aj6 Z,HM sb hu,hog,ht,Aj1,Aj1];dsimp only;rw [Aj6 Z,Acw sb hog hu ht,Aj1,Aek sb hu hog ht,Aj1,Y2 hf hh he he2,Aj1];dsimp only;unfold sC;have hkok:kok bl top f h e=decide ((ksT bl top 1024).map (·.1)=wnt f h e):=rfl;by_cases hlen:(ksT bl top 1024).length=(wnt f h e).length
 .rw [ino (O:¬ ¬ (((ksT bl top 1024).length:Nat):Int)=(((wnt f h e).length:Nat):Int)),AiW hlen O,Aj1];by_cases hkq:(ksT bl top 1024).map (·.1)=wnt f h e
  .rw [Aj7 hkq];rw [hkok,decide_eq_true hkq,Akj];dsimp only;rw [iy O,iy O,Aj7 (by simp only [Aa,decide_eq_true_eq,Aj4];omega),Aj4];have em:List.replicate bl.length (0:Int)=mny bl.length []:=by
    refine AkZ λi=>?_
    by_cases hi:i < bl.length
    .rw [OV _ hi,List.getElem?_replicate_of_lt hi];simp
    .rw [Akr AjY,Akr (by rw [I4];omega)]
   have ea:=RK (l:=srt (pgl top R)) (C:=[]) (by have:(srt (pgl top R)).length<=33:=l1;simp only [AkB];omega) true bl (opB bl) [] [] [] (mny bl.length []);rw [AkC]at ea;rw [em,show BX (srt (pgl top R)) bl (opB bl) [] [] [] [] (mny bl.length []) true=_ from ea,Aj1];dsimp only;rw [show okb true (srt (pgl top R))=okb true (aC1 top R) from rfl,show srt (srt (pgl top R))=srt (aC1 top R) from rfl,Aic g T O Z true [],Aj1];dsimp only;rw [AkC,Akj,show aC1 top R++tcl bl (opB bl) [] T=aC2 bl (opB bl) top R T from rfl,show tpc bl (opB bl) [] T=aP2 bl (opB bl) T from rfl];have hg448:=Abi (b:=bl) (top:=top) (f:Int) (h:Int) (e:Int) R T bl (opB bl) [] [] 0 [] [] [] [] (k:=448) O;have hr448:=Pj (z:=[]) (top:=top) sb g (C:=aC2 bl (opB bl) top R T) O (k:=448) (tok bl (opB bl) [] T) [] (mny bl.length (aP2 bl (opB bl) T));have hlk:=Hp bl (opB bl) [] top 448;rw [show DI (f:Int) (h:Int) (e:Int) R T bl (opB bl) [] [] (ksT bl top 1024) 0 [] [] [] [] 448=_ from hg448,Aj1,hr448,Aj1];dsimp only;rw [AiS (KF g top 448) O,Aj1,show aC2 bl (opB bl) top R T++rkc bl (opB bl) [] top 448=aC3 bl (opB bl) top R T from rfl];have eif:∀{α:Type} (F:Bool->Option α),(if okb (tok bl (opB bl) [] T && rko bl (opB bl) [] top 448) (aC3 bl (opB bl) top R T)=true then F (rdR (rkd bl (opB bl) [] top 448)).2 else F false)=F (okb (af3 bl (opB bl) top T) (aC3 bl (opB bl) top R T)):=by
    intro α F;have:=Ad1 (fn:=tok bl (opB bl) [] T && rko bl (opB bl) [] top 448) (c:=(rdR (rkd bl (opB bl) [] top 448)).2) (l:=aC3 bl (opB bl) top R T);unfold af3;rw [<- this];split <;> rfl
   rw [eif (λw=>some (0,0,0,0,0,0,[],(f:Int),(h:Int),(e:Int),R,T,bl,opB bl,[],[],(f:Int),(h:Int),(e:Int),R,T,bl,opB bl,[],[],ksT bl top 1024,0,[],(f:Int),ttx bl (opB bl) [] T,(rdR (rkd bl (opB bl) [] top 448)).1,bl,opB bl,[],[],[],srt (aC3 bl (opB bl) top R T),mny bl.length (aP2 bl (opB bl) T),w)),Aj1];dsimp only;obtain ⟨j,j1,j2,j3⟩:=Ai3 (E:=(e:Int)) (R:=R) (T:=T) (top:=top) sb g hf hh (C:=aC3 bl (opB bl) top R T) (rs:=[]) (m:=mny bl.length (aP2 bl (opB bl) T)) O (af3 bl (opB bl) top T) (ttx bl (opB bl) [] T) (rdR (rkd bl (opB bl) [] top 448)).1;rw [j3,Aj1];dsimp only;by_cases hok:okb (af3 bl (opB bl) top T && loo bl (opB bl) [] top f j) (aC3 bl (opB bl) top R T++Cp bl (opB bl) [] top f j)=true
   .have hj:j=h - f:=by
         rcases j2 with q | q
         .exact q
         .rw [hok]at q;cases q
    subst hj;have hok4:okb (af4 bl (opB bl) top T f h) (aC4 bl (opB bl) top R T f h)=true:=hok;rw [hok,Aj6 Z,hok4,Akj];have hcl:(chC (lod bl (opB bl) [] top f (h - f))).length=h - f:=by unfold chC lod;simp
    have hHB:HB (ttx bl (opB bl) [] T) (rdR (rkd bl (opB bl) [] top 448)).1 (chC (lod bl (opB bl) [] top f (h - f))):=by
     have:=Aar (rkd bl (opB bl) [] top 448);have:=Se bl (opB bl) [] T;refine⟨O,O,O,λc hc=>?_⟩;obtain ⟨x',_,rfl⟩:=Ako.1 hc;exact(QZ x').mono O
    rw [Q4 hHB,Aj1,Aj1];dsimp only;have hG:aG bl (opB bl) top T f h=Fl (f:Int) (ttx bl (opB bl) [] T) (rdR (rkd bl (opB bl) [] top 448)).1 (chC (lod bl (opB bl) [] top f (h - f))):=rfl;rw [<- hG];cases hgh:aG bl (opB bl) top T f h with
    | false=>
     rw [Aj7 Z];exact⟨_,rfl,rfl,λq=>by simp at q⟩
    | true=>
     rw [hgh]at hG;have gh:=goodH_iff.1 hG.symm;rw [Aj6 Z,YB gh (h:=h) O hh,Aj1,Of hh,Aj1,Akj];have e4:aC3 bl (opB bl) top R T++Cp bl (opB bl) [] top f (h - f)=aC4 bl (opB bl) top R T f h:=rfl;have e4':(af3 bl (opB bl) top T && loo bl (opB bl) [] top f (h - f))=af4 bl (opB bl) top T f h:=rfl;have r3:=AiI (E:=(e:Int)) (R:=R) (T:=T) (top:=top) sb g gh (hd:=h) O hh (C:=aC4 bl (opB bl) top R T f h) (rs:=[]) (m:=mny bl.length (aP2 bl (opB bl) T)) O (af4 bl (opB bl) top T f h);rw [hok4]at r3;rw [e4];rcases r3 with⟨u1,u2⟩ | ⟨u1,u2⟩
     .have hU:aU bl (opB bl) top T f h=true:=u1;rw [u2,Aj1,hU,Akj];dsimp only;have r4:=AiU (R:=R) (T:=T) (top:=top) (z:=[]) g gh (hd:=h) (e:=e) O hh he (C:=aC5 bl (opB bl) top R T f h) (P:=aP2 bl (opB bl) T) (rs:=[]) O O (af5 bl (opB bl) top T f h);rw [Ak O];rcases r4 with⟨v1,v2⟩ | ⟨v1,v2⟩
      .have hK:aK bl (opB bl) top T f h e=true:=v1;rw [show aC4 bl (opB bl) top R T f h++upc bl (opB bl) [] top (sts f h)=aC5 bl (opB bl) top R T f h from rfl,show(af4 bl (opB bl) top T f h && upo bl (opB bl) [] top (sts f h))=af5 bl (opB bl) top T f h from rfl,v2,Aj1,hK,Akj];dsimp only;have r5:=AiB (R:=R) (T:=T) (z:=[]) g (f:=f) (hd:=h) (e:=e) (t:=ttx bl (opB bl) [] T) (r:=(rdR (rkd bl (opB bl) [] top 448)).1) (cs:=chC (lod bl (opB bl) [] top f (h - f))) (ks:=ksT bl top 1024) (C:=aC6 bl (opB bl) top R T f h e) (P:=aP6 bl (opB bl) top T f h e) (rs:=[]) O O (okb (af6 bl (opB bl) top T f h e) (aC6 bl (opB bl) top R T f h e));rw [I4,show aC5 bl (opB bl) top R T f h++ckc bl (opB bl) [] top (cks f h e)=aC6 bl (opB bl) top R T f h e from rfl,show(af5 bl (opB bl) top T f h && cko bl (opB bl) [] top (cks f h e))=af6 bl (opB bl) top T f h e from rfl,show aP2 bl (opB bl) T++ckp bl (opB bl) [] top (cks f h e)=aP6 bl (opB bl) top T f h e from rfl];rcases r5 with⟨t1,t2⟩ | ⟨t1,t2⟩
       .have hS:aS bl (opB bl) top R T f h e=true:=t1;rw [t2,Aj1,hS,Akj];exact⟨_,rfl,rfl,λq=>by rw [q];rfl⟩
       .have hS:aS bl (opB bl) top R T f h e=false:=t1;rw [t2,Aj1,hS];exact⟨_,rfl,rfl,λq=>by simp at q⟩
      .have hK:aK bl (opB bl) top T f h e=false:=v1;rw [show aC4 bl (opB bl) top R T f h++upc bl (opB bl) [] top (sts f h)=aC5 bl (opB bl) top R T f h from rfl,show(af4 bl (opB bl) top T f h && upo bl (opB bl) [] top (sts f h))=af5 bl (opB bl) top T f h from rfl,v2,Aj1,hK];exact⟨_,rfl,rfl,λq=>by simp at q⟩
     .have hU:aU bl (opB bl) top T f h=false:=u1;rw [u2,Aj1,hU];exact⟨_,rfl,rfl,λq=>by simp at q⟩
   .have hok':okb (af3 bl (opB bl) top T && loo bl (opB bl) [] top f j) (aC3 bl (opB bl) top R T++Cp bl (opB bl) [] top f j)=false:=by simpa using hok
    have h4:okb (af4 bl (opB bl) top T f h) (aC4 bl (opB bl) top R T f h)=false:=Ae8 hok' j1;rw [hok',Aj7 Z,Aj1,h4];dsimp only;rw [Aj7 rfl];exact⟨_,rfl,rfl,λq=>by simp at q⟩
  .rw [Aj6 hkq,hkok,decide_eq_false hkq];exact⟨_,rfl,rfl,λq=>by simp at q⟩
 .rw [iy (O:¬ (((ksT bl top 1024).length:Nat):Int)=(((wnt f h e).length:Nat):Int)),hkok,decide_eq_false (λq=>hlen (by rw [<- q,Aky]))];exact⟨_,rfl,rfl,λq=>by simp at q⟩
end Go.V.G
set_option maxRecDepth 100000
namespace Go.V.G
open Go.V
theorem Agf {fn c:Bool} {l:List Int}:(if bd fn l=true then true else !c)=bd (fn && c) l:=by
 unfold bd;cases fn <;> cases c <;> cases ndb l <;> rfl
section
variable (b:Bls) (x y top:List Int)
def ipt (s:Int×Int):List Prt:=(BT (rkd b x y top (ky s))).1
def ioc (s:Int×Int):Bool:=rko b x y top (ky s) && (BT (rkd b x y top (ky s))).2
def ics (L:List (Int×Int)):List Int:=L.flatMap λs=>rkc b x y top (ky s)
def ich (L:List (Int×Int)):List (List Prt):=(L.filter λs=>decide (s.1=0)).map (ipt b x y top)
theorem Ae3 (L:List (Int×Int)) (s:Int×Int):ics b x y top (L++[s])=ics b x y top L++rkc b x y top (ky s):=by unfold ics;rw [Alm];simp
theorem AeS (L:List (Int×Int)) (s:Int×Int):ich b x y top (L++[s])=ich b x y top L++(if s.1=0 then [ipt b x y top s]else []):=by
 unfold ich;rw [Alr,AkJ];by_cases h:s.1=0 <;> simp [h]
theorem Tk:∀L:List (Int×Int),(ics b x y top L).length<=10 * L.length
 | []=>by simp [ics]
 | s::L=>by
  have h1:=Tk L;have h2:=(Hp b x y top (ky s)).1;unfold ics at *;rw [Alo,Aj9,Akg];omega
theorem AgK (L:List (Int×Int)):(ich b x y top L).length<=L.length:=by
 unfold ich;rw [Aky];exact Alg _ _
end
section
variable {H E R T:Int} {b d:Bls} {x y z top:List Int} {wr lf rt:Int} {on:Bool}
theorem AiT (g:RS b x y) (ht:top.length=32) {f hd:Nat} (hf:f<=hd) (hh:hd<=60) {ks bl rs:List Int} {m:List (Int×Int)} (hbl:bl.length<=80000) (hks:ks.length<=80000) (fn:Bool) (tx:List UInt8) :
  Ab B2 (sts f hd,[],(((sts f hd).length:Nat):Int),0,ks,bl,rs,bd fn bl,m,d,wr,on,lf,(f:Int),H,E,R,T,b,x,y,z,rt,top,top.map (lfv b),(f:Int),tx,[],[]) =
   some (sts f hd,(sts f hd).map (ipt b x y top),ks++(sts f hd).map kyI,bl++ics b x y top (sts f hd),rs,bd (fn && (sts f hd).all (ioc b x y top)) (bl++ics b x y top (sts f hd)),m,d,wr,on,lf,(f:Int),H,E,R,T,b,x,y,z,rt,top,top.map (lfv b),(f:Int),tx,[],ich b x y top (sts f hd)):=by
 have hsl:=Ia (f:=f) hh;have hL:=Am B2 (λi=>(sts f hd,((sts f hd).take i).map (ipt b x y top),(((sts f hd).length:Nat):Int),((i:Nat):Int),ks++((sts f hd).take i).map kyI,bl++ics b x y top ((sts f hd).take i),rs,bd (fn && ((sts f hd).take i).all (ioc b x y top)) (bl++ics b x y top ((sts f hd).take i)),m,d,wr,on,lf,(f:Int),H,E,R,T,b,x,y,z,rt,top,top.map (lfv b),(f:Int),tx,[],ich b x y top ((sts f hd).take i))) (sts f hd).length
  (sts f hd,(sts f hd).map (ipt b x y top),ks++(sts f hd).map kyI,bl++ics b x y top (sts f hd),rs,bd (fn && (sts f hd).all (ioc b x y top)) (bl++ics b x y top (sts f hd)),m,d,wr,on,lf,(f:Int),H,E,R,T,b,x,y,z,rt,top,top.map (lfv b),(f:Int),tx,[],ich b x y top (sts f hd)) (λi hi=>by
   obtain ⟨k,j,g8⟩:=Pm hi;obtain ⟨l1,l2,l3⟩:=g8.lt hh;have hk:=g8.hk;have hget:(sts f hd)[i]?=some ((sts f hd)[i]):=Aj3 hi;have hil:=Tk b x y top ((sts f hd).take i);have hcl:=AgK b x y top ((sts f hd).take i);rw [Akb]at hil hcl;have hrk:=Hp b x y top (ky (sts f hd)[i]);have hrec:=U7 (z:=z) g ht (bl:=bl++ics b x y top ((sts f hd).take i)) (ks:=ks++((sts f hd).take i).map kyI) (by rw [Aj9];omega) (by rw [Aj9,Aky,Akb];omega) (k:=ky (sts f hd)[i]) O (fn && ((sts f hd).take i).all (ioc b x y top)) rs d wr on lf (f:Int) H E R T rt m;have e1:MQ (sts f hd)[i].1 (sts f hd)[i].2=some (ky (sts f hd)[i]:Int):=by rw [l2];simp only [g8.e];exact Abp hk O
   have e2:((sts f hd).take i++[(sts f hd)[i]]).all (ioc b x y top)=(((sts f hd).take i).all (ioc b x y top) && (rko b x y top (ky (sts f hd)[i]) && (BT (rkd b x y top (ky (sts f hd)[i]))).2)):=by rw [List.all_append];simp [ioc]
   unfold B2 cK cZ wI;dsimp only;rw [iy O,iy O,iy O,Akt,Aj4,hget,Aj1,Aj1,e1,Aj1,hrec,Aj1];dsimp only;rw [Aas (KF g top (ky (sts f hd)[i])) O,Aj1,Aj1,Akp hi,Ae3,AeS,e2,AkJ,AkJ,Akd,Akd];dsimp only;have eb:(fn && (((sts f hd).take i).all (ioc b x y top) && (rko b x y top (ky (sts f hd)[i]) && (BT (rkd b x y top (ky (sts f hd)[i]))).2)))=((fn && (((sts f hd).take i).all (ioc b x y top) && rko b x y top (ky (sts f hd)[i]))) && (BT (rkd b x y top (ky (sts f hd)[i]))).2):=by simp [Al7]
   have hb:=Agf (fn:=fn && (((sts f hd).take i).all (ioc b x y top) && rko b x y top (ky (sts f hd)[i]))) (c:=(BT (rkd b x y top (ky (sts f hd)[i]))).2) (l:=bl++(ics b x y top ((sts f hd).take i)++rkc b x y top (ky (sts f hd)[i])));rw [Al7,eb];have ro1:Aa ((((sts f hd).take i).map (ipt b x y top)).length+([(BT (rkd b x y top (ky (sts f hd)[i]))).1]:List (List Prt)).length) 24=true:=by simp only [Aa,decide_eq_true_eq,Ake,Aky,Akb];omega
   have ro2:Aa ((ich b x y top ((sts f hd).take i)).length+([(BT (rkd b x y top (ky (sts f hd)[i]))).1]:List (List Prt)).length) 24=true:=by simp only [Aa,decide_eq_true_eq,Ake];omega
   rw [<- hb];by_cases hq:bd (fn && (((sts f hd).take i).all (ioc b x y top) && rko b x y top (ky (sts f hd)[i]))) (bl++(ics b x y top ((sts f hd).take i)++rkc b x y top (ky (sts f hd)[i])))=true
   .rw [Aj7 hq,Aj7 hq,Aj1];dsimp only;rw [Aj7 ro1];by_cases h0:(sts f hd)[i].1=0
    .rw [iy h0,Aj7 ro2,Aj1,Aj7 h0];dsimp only;rw [Ak O];rfl
    .rw [ino h0,Aj1,Aj6 h0,Aki];dsimp only;rw [Ak O];rfl
   .rw [Aj6 hq,Aj6 hq,Aj1];dsimp only;rw [Aj7 ro1];by_cases h0:(sts f hd)[i].1=0
    .rw [iy h0,Aj7 ro2,Aj1,Aj7 h0];dsimp only;rw [Ak O];rfl
    .rw [ino h0,Aj1,Aj6 h0,Aki];dsimp only;rw [Ak O];rfl) (by
   unfold B2 cK cZ wI;dsimp only;rw [ino O,AkR])
 have e0:ics b x y top ((sts f hd).take 0)=[]:=rfl;have e1:((sts f hd).take 0).all (ioc b x y top)=true:=rfl;have e2:((sts f hd).take 0).map (ipt b x y top)=[]:=rfl;have e3:((sts f hd).take 0).map kyI=[]:=rfl;have e4:ich b x y top ((sts f hd).take 0)=[]:=rfl;rw [e0,e1,e2,e3,e4,Aki,Aki,AlB]at hL;exact hL
theorem AhY {a c:List Prt} (hn:a.length<=1048576):Au a c=some (decide (a=c)):=by
 unfold Au;by_cases hl:a.length=c.length
 .rw [ino O];have h:=H0 An (λi=>(a,c,(a.length:Int),((i:Nat):Int))) (λi=>decide (a[i]?=c[i]?)) false () a.length (λi hi=>by
   have hc:i < c.length:=O
   unfold An gX wI;dsimp only;rw [iy O,iy O,Aj4,Aj3 hi,Aj1,iy O,Aj3 hc,Aj1,Ak O];by_cases hq:a[i]=c[i]
   .rw [hq];simp
   .have:¬ (a[i].1=c[i].1/\a[i].2.1=c[i].2.1/\a[i].2.2=c[i].2.2):=λq=>hq (Prod.ext q.1 (Prod.ext q.2.1 q.2.2))
    have h2:(decide (a[i].1=c[i].1) && (decide (a[i].2.1=c[i].2.1) && ((a[i].2.2 == c[i].2.2) && true)))=false:=by
     cases h3:(decide (a[i].1=c[i].1) && (decide (a[i].2.1=c[i].2.1) && ((a[i].2.2 == c[i].2.2) && true)))with
     | false=>rfl
     | true=>
      simp only [Aj8,decide_eq_true_eq,beq_iff_eq,and_true]at h3;exact absurd h3 this
    rw [h2];simp [hq]) (by
   unfold An gX wI;dsimp only;rw [ino O])
  rw [show Ab An (a,c,(a.length:Int),0)=_ from h,Aj1];have e:((List.range a.length).all λi=>decide (a[i]?=c[i]?))=decide (a=c):=by
   rw [AlY,all_range,decide_eq_true_eq];constructor
   .intro q;refine AkZ λi=>?_
    by_cases hi:i < a.length
    .simpa using q i hi
    .rw [Akr O,Akr O]
   .rintro rfl i _;simp
  rw [e];by_cases hq:a=c <;> simp [hq]
 .rw [iy O,decide_eq_false (λq=>hl (by rw [q]))]
theorem Aim {a c:List Int} (hn:a.length<=1048576):DF a c=some (decide (a=c)):=by
 unfold DF;by_cases hl:a.length=c.length
 .rw [ino O];have h:=H0 Cs (λi=>(a,c,(a.length:Int),((i:Nat):Int))) (λi=>decide (a[i]?=c[i]?)) false () a.length (λi hi=>by
   have hc:i < c.length:=O
   unfold Cs gX wI;dsimp only;rw [iy O,iy O,Aj4,Aj3 hi,Aj1,iy O,Aj3 hc,Aj1,Ak O];by_cases hq:a[i]=c[i]
   .rw [hq];simp
   .simp [hq]) (by
   unfold Cs gX wI;dsimp only;rw [ino O])
  rw [show Ab Cs (a,c,(a.length:Int),0)=_ from h,Aj1];have e:((List.range a.length).all λi=>decide (a[i]?=c[i]?))=decide (a=c):=by
   rw [AlY,all_range,decide_eq_true_eq];constructor
   .intro q;refine AkZ λi=>?_
    by_cases hi:i < a.length
    .simpa using q i hi
    .rw [Akr O,Akr O]
   .rintro rfl i _;simp
  rw [e];by_cases hq:a=c <;> simp [hq]
 .rw [iy O,decide_eq_false (λq=>hl (by rw [q]))]
theorem Aba {a c:List Prt} (hn:a.length<=1048576):IZ a c=some (decide (a=c)):=by
 unfold IZ;rw [AhY hn];rfl
def ieq (b:Bls) (x y top:List Int) (f:Int) (t:List UInt8) (cs:List (List Prt)) (s:Int×Int):Bool:=decide (ipt b x y top s=bt f t cs s)
theorem AiQ {f hd:Nat} {t:List UInt8} {r:List Rn} {cs:List (List Prt)} (gh:GH (f:Int) t r cs) (hf:hd=f+cs.length) (hh:hd<=60) {ks bl rs:List Int} {m:List (Int×Int)} (bad:Bool) :
  Ab BC ((sts f hd).map (ipt b x y top),sts f hd,(((sts f hd).length:Nat):Int),0,ks,bl,rs,bad,m,d,wr,on,lf,(f:Int),H,E,R,T,b,x,y,z,rt,top,top.map (lfv b),(f:Int),t,r,cs) =
   some (if(sts f hd).all (ieq b x y top (f:Int) t cs)=true then .inl (ks,bl,rs,bad,m,d,wr,on,lf,(f:Int),H,E,R,T,b,x,y,z,rt,top,top.map (lfv b),(f:Int),t,r,cs)
    else .inr (false,d,wr,on,lf,(f:Int),H,E,R,T,b,x,y,z,rt,top,top.map (lfv b),(f:Int),t,r,cs)):=by
 have hsl:=Ia (f:=f) hh;have hL:=H0 BC (λi=>((sts f hd).map (ipt b x y top),sts f hd,(((sts f hd).length:Nat):Int),((i:Nat):Int),ks,bl,rs,bad,m,d,wr,on,lf,(f:Int),H,E,R,T,b,x,y,z,rt,top,top.map (lfv b),(f:Int),t,r,cs))
  (λi=>ieq b x y top (f:Int) t cs (((sts f hd)[i]?).getD (0,0))) (false,d,wr,on,lf,(f:Int),H,E,R,T,b,x,y,z,rt,top,top.map (lfv b),(f:Int),t,r,cs) (ks,bl,rs,bad,m,d,wr,on,lf,(f:Int),H,E,R,T,b,x,y,z,rt,top,top.map (lfv b),(f:Int),t,r,cs) (sts f hd).length (λi hi=>by
   obtain ⟨k,j,g8⟩:=Pm hi;obtain ⟨l1,l2,l3⟩:=g8.lt hh;obtain ⟨f1,f2,f3,f4,f5⟩:=g8.ft;have hk:=g8.hk;have hget:(sts f hd)[i]?=some ((sts f hd)[i]):=Aj3 hi;have hml:((sts f hd).map (ipt b x y top))[i]?=some (ipt b x y top (sts f hd)[i]):=by rw [AkH,hget];rfl
   have e1:E2 (sts f hd)[i].1 (sts f hd)[i].2=some (frS (sts f hd)[i]:Int):=by rw [f1];simp only [g8.e];exact Ac2 hk O
   have e2:GA (sts f hd)[i].1 (sts f hd)[i].2=some (toS (sts f hd)[i]:Int):=by rw [f2];simp only [g8.e];exact AgW hk O
   have hsm:=(QZ (rkd b x y top (ky (sts f hd)[i]))).len;have hip:(ipt b x y top (sts f hd)[i]).length<=1048576:=by unfold ipt;omega
   unfold BC cK cZ wI;dsimp only;rw [iy O,iy O,iy O,Akt,Aj4,hget,Aj1,Aj1,iy O,iy (by rw [Aky];omega),hml,Aj1,e1,Aj1,e2,Aj1,Wm gh O O O,Aj1,Aba hip,Aj1,AkM];have he:ieq b x y top (f:Int) t cs (sts f hd)[i]=decide (ipt b x y top (sts f hd)[i]=BW (f:Int) t cs (frS (sts f hd)[i]:Int) (toS (sts f hd)[i]:Int)):=rfl;rw [he];by_cases hq:ipt b x y top (sts f hd)[i]=BW (f:Int) t cs (frS (sts f hd)[i]:Int) (toS (sts f hd)[i]:Int)
   .rw [decide_eq_true hq,Aj6 Z,Aj7 rfl,Ak O]
   .rw [decide_eq_false hq,Aj7 Z,Aj6 Z]) (by
   unfold BC cK cZ wI;dsimp only;rw [ino O])
 have e:((List.range (sts f hd).length).all λi=>ieq b x y top (f:Int) t cs (((sts f hd)[i]?).getD (0,0)))=(sts f hd).all (ieq b x y top (f:Int) t cs):=by
  rw [AlY,all_range,Akx];constructor
  .intro q s hs;obtain ⟨i,hi,rfl⟩:=AkG hs;have:=q i hi;rw [Aj3 hi]at this;exact this
  .intro q i hi;rw [Aj3 hi];exact q _ (Akq hi)
 rw [e]at hL;exact hL
def btl (b:Bls) (x y top:List Int):List Nat->List Int->List Int->List Int
 | [],P,bl=>bl
 | r::l,P,bl=>btl b x y top l (P++tpc b x y (vl b top (384+r))) (btx b x y P bl (vl b top (384+r)))
theorem Xc (b:Bls) (x y top:List Int):∀(l:List Nat) (P bl:List Int) (r:Nat),btl b x y top (l++[r]) P bl=btx b x y (P++ckp b x y top l) (btl b x y top l P bl) (vl b top (384+r))
 | [],P,bl,r=>by simp [btl,ckp]
 | a::l,P,bl,r=>by
  have h:=Xc b x y top l (P++tpc b x y (vl b top (384+a))) (btx b x y P bl (vl b top (384+a))) r;have e:ckp b x y top (a::l)=tpc b x y (vl b top (384+a))++ckp b x y top l:=by unfold ckp;rw [Alo]
  rw [e,<- Akd];exact h
theorem Z3 {b:Bls} {x y top:List Int}:∀(l:List Nat) {C P bl:List Int},Led C P bl->Led (C++ckc b x y top l) (P++ckp b x y top l) (btl b x y top l P bl)
 | [],C,P,bl,h=>by simpa [ckc,ckp,btl] using h
 | a::l,C,P,bl,h=>by
  have h1:=Z3 (b:=b) (x:=x) (y:=y) (top:=top) l (Aap (b:=b) (x:=x) (y:=y) h (vl b top (384+a)));have e1:ckp b x y top (a::l)=tpc b x y (vl b top (384+a))++ckp b x y top l:=by unfold ckp;rw [Alo]
  have e2:ckc b x y top (a::l)=tcl b x y (vl b top (384+a))++ckc b x y top l:=by unfold ckc;rw [Alo]
  rw [e1,e2,<- Akd,<- Akd];exact h1
theorem T2 (b:Bls) (x y top:List Int):∀(l:List Nat) (P bl:List Int),(btl b x y top l P bl).length<=bl.length+4 * l.length
 | [],P,bl=>by simp [btl]
 | a::l,P,bl=>by
  have h1:=T2 b x y top l (P++tpc b x y (vl b top (384+a))) (btx b x y P bl (vl b top (384+a)));have h2:=Aah b x y P bl (vl b top (384+a));rw [Akg];show(btl b x y top l _ _).length<=_;omega
theorem AiJ (g:RS b x y) (ht:top.length=32) {f hd e:Nat} {t:List UInt8} {r:List Rn} {cs:List (List Prt)} (gh:GH (f:Int) t r cs) (hf:hd=f+cs.length) (hh:hd<=60) {ks bl rs P:List Int} (hbl:bl.length<=80000) (hks:ks.length<=80000) (hP:P.length<=80000) (fn:Bool) :
  Ab BA ((cks f hd e).map (λr=>((r:Nat):Int)),((((cks f hd e).map (λr=>((r:Nat):Int))).length:Nat):Int),0,ks,bl,rs,bd fn bl,std P,d,wr,on,lf,(f:Int),H,E,R,T,b,x,y,z,rt,top,top.map (lfv b),(f:Int),t,r,cs) =
   some (if(cks f hd e).all (cke b x y top f t cs)=true then .inl (ks++(cks f hd e).map ckI,btl b x y top (cks f hd e) P bl,rs,bd (fn && cko b x y top (cks f hd e)) (btl b x y top (cks f hd e) P bl),std (P++ckp b x y top (cks f hd e)),d,wr,on,lf,(f:Int),H,E,R,T,b,x,y,z,rt,top,top.map (lfv b),(f:Int),t,r,cs)
    else .inr (false,d,wr,on,lf,(f:Int),H,E,R,T,b,x,y,z,rt,top,top.map (lfv b),(f:Int),t,r,cs)):=by
 have hcl:=MN (f:=f) (e:=e) hh;have hL:=H0 BA (λi=>((cks f hd e).map (λr=>((r:Nat):Int)),((((cks f hd e).map (λr=>((r:Nat):Int))).length:Nat):Int),((i:Nat):Int),ks++((cks f hd e).take i).map ckI,btl b x y top ((cks f hd e).take i) P bl,rs,bd (fn && cko b x y top ((cks f hd e).take i)) (btl b x y top ((cks f hd e).take i) P bl),std (P++ckp b x y top ((cks f hd e).take i)),d,wr,on,lf,(f:Int),H,E,R,T,b,x,y,z,rt,top,top.map (lfv b),(f:Int),t,r,cs))
  (λi=>cke b x y top f t cs (((cks f hd e)[i]?).getD 0)) (false,d,wr,on,lf,(f:Int),H,E,R,T,b,x,y,z,rt,top,top.map (lfv b),(f:Int),t,r,cs) (ks++(cks f hd e).map ckI,btl b x y top (cks f hd e) P bl,rs,bd (fn && cko b x y top (cks f hd e)) (btl b x y top (cks f hd e) P bl),std (P++ckp b x y top (cks f hd e)),d,wr,on,lf,(f:Int),H,E,R,T,b,x,y,z,rt,top,top.map (lfv b),(f:Int),t,r,cs) (cks f hd e).length (λi hi=>by
   have hget:(cks f hd e)[i]?=some ((cks f hd e)[i]):=Aj3 hi;have hml:((cks f hd e).map (λr=>((r:Nat):Int)))[i]?=some (((cks f hd e)[i]:Nat):Int):=by rw [AkH,hget];rfl
   obtain ⟨q1,q2,q3⟩:=cks_mem.1 (Akq hi);have htl:=(Qf b x y top ((cks f hd e).take i)).2;have hbn:=T2 b x y top ((cks f hd e).take i) P bl;rw [Akb]at htl hbn;have ew:IntKind.wrap .i64 (384+(((cks f hd e)[i]:Nat):Int))=((384+(cks f hd e)[i]:Nat):Int):=by rw [w64 O O];omega
   have htx:=Vf gh (x:=(((cks f hd e)[i]:Nat):Int)) O O;rw [show((((cks f hd e)[i]:Nat):Int) - (f:Int)).toNat=(cks f hd e)[i] - f by omega]at htx;have hrt:=Aif (z:=z) g (vl b top (384+(cks f hd e)[i])) (P:=P++ckp b x y top ((cks f hd e).take i)) (bl:=btl b x y top ((cks f hd e).take i) P bl) O (by rw [Aj9];omega) (fn && cko b x y top ((cks f hd e).take i)) (ks++((cks f hd e).take i).map ckI++[ckI (cks f hd e)[i]]) rs d wr on lf (f:Int) H E R T;have a2:ckp b x y top ((cks f hd e).take i++[(cks f hd e)[i]])=ckp b x y top ((cks f hd e).take i)++tpc b x y (vl b top (384+(cks f hd e)[i])):=by unfold ckp;rw [Alm];simp
   have a3:cko b x y top ((cks f hd e).take i++[(cks f hd e)[i]])=(cko b x y top ((cks f hd e).take i) && tok b x y (vl b top (384+(cks f hd e)[i]))):=by unfold cko;rw [List.all_append];simp
   unfold BA cK cZ wI;dsimp only;rw [iy (by rw [Aky];omega),iy O,iy (by rw [Aky];omega),Akt,Aj4,hml,Aj1,ew,Aj7 (by simp only [Aa,decide_eq_true_eq,Ake,Aj9,Aky,Akb];omega),OW ht rt O,Aj1,
    show((384+(cks f hd e)[i]:Nat):Int)=ckI (cks f hd e)[i] from rfl,hrt,Aj1]
   dsimp only;rw [htx,Aj1,hget,AkM,Akp hi,Xc,a2,a3,AkJ,Akd,Akd,Al7];unfold cke;cases hq:(ttx b x y (vl b top (384+(cks f hd e)[i])) == txt t (cs.take ((cks f hd e)[i] - f)))with
   | true=>rw [Aj6 Z,Aj7 rfl,Ak O];rfl
   | false=>rw [Aj7 Z,Aj6 Z]) (by
   unfold BA cK cZ wI;dsimp only;rw [ino (by rw [Aky];omega),AkR])
 have eq9:((List.range (cks f hd e).length).all λi=>cke b x y top f t cs (((cks f hd e)[i]?).getD 0))=(cks f hd e).all (cke b x y top f t cs):=by
  rw [AlY,all_range,Akx];constructor
  .intro q s hs;obtain ⟨i,hi,rfl⟩:=AkG hs;have:=q i hi;rw [Aj3 hi]at this;exact this
  .intro q i hi;rw [Aj3 hi];exact q _ (Akq hi)
 rw [eq9]at hL;have e0:((cks f hd e).take 0).map ckI=[]:=rfl;have e1:cko b x y top ((cks f hd e).take 0)=true:=rfl;have e2:ckp b x y top ((cks f hd e).take 0)=[]:=rfl;have e3:btl b x y top ((cks f hd e).take 0) P bl=bl:=rfl;rw [e0,e1,e2,e3,Aki,Aki,AlB]at hL;exact hL
end
end Go.V.G
set_option maxRecDepth 100000
namespace Go.V.G
open Go.V
def pst (b:Bls) (x y:List Int) (a:Int):Int:=if pcB b x y a=true then gb (blk b a.toNat) 1 else 0
def usd (x:List Int) (n:Nat):List Int:=(((List.range n).map (33 + ·)).filter λk=>bit x k).map λk=>((k:Nat):Int)
theorem WV (x:List Int) (n:Nat):usd x (n+1)=usd x n++(if bit x (33+n)=true then [((33+n:Nat):Int)]else []):=by
 unfold usd;rw [AlF,AkJ,Alr,AkJ];by_cases h:bit x (33+n)=true <;> simp [h]
theorem AaO (x:List Int) (n:Nat):(usd x n).length<=n:=by
 unfold usd;rw [Aky];exact AkE (Alg _ _) Z
theorem usd_mem {x:List Int} {n:Nat} {v:Int}:v∈usd x n↔∃k:Nat,33<=k/\k < 33+n/\bit x k=true/\v=(k:Int):=by
 unfold usd;simp only [Ako,AlL,AlD];constructor
 .rintro ⟨k,⟨⟨i,h1,rfl⟩,h2⟩,rfl⟩;exact⟨33+i,O,O,h2,rfl⟩
 .rintro ⟨k,h1,h2,h3,rfl⟩;exact⟨k,⟨⟨k - 33,O,O⟩,h3⟩,rfl⟩
theorem Nh (x:List Int):∀n,(usd x n).Pairwise (· < ·)
 | 0=>by simp [usd]
 | n+1=>by
  rw [WV];split
  .rw [AlM];refine⟨Nh x n,Z,λa ha c hc=>?_⟩;obtain ⟨k,_,h2,_,rfl⟩:=usd_mem.1 ha;rw [Akc.1 hc];omega
  .rw [Aki];exact Nh x n
section
variable {F H E R T:Int} {b d:Bls} {x y z top:List Int} {wr lf rt:Int} {on:Bool}
theorem Yb (g:RS b x y):DX (b,x,y,z)=some (usd x (b.length - 33)):=by
 have hbl:=g.hn;have hxl:=g.hx;unfold DX;have h:=Am Da (λn=>((b,x,y,z),usd x n,((33+n:Nat):Int))) (b.length - 33) (usd x (b.length - 33)) (λn hn=>by
  have hl:=AaO x n;unfold Da cK wI;dsimp only;rw [iy O,SO O O,Aj1,WV];by_cases hq:bit x (33+n)=true
  .rw [Aj7 hq,Aj7 (by simp only [Aa,decide_eq_true_eq,Ake];omega),Aj1,Aj7 hq];dsimp only;rw [Ak O];rfl
  .rw [Aj6 hq,Aj1,Aj6 hq,Aki];dsimp only;rw [Ak O];rfl) (by
  unfold Da cK wI;dsimp only;rw [ino O])
 rw [show Ab Da ((b,x,y,z),[],33)=_ from h];rfl
theorem AfP (g:RS b x y) {ks bl rs:List Int} {h1:Int} {h2:List UInt8} {h3:List Rn} {h4:List (List Prt)} {vs:List (List Int)}:∀(l:List (Int×Int)) (bad:Bool),
  l.foldlM B8 (ks,bl,rs,bad,d,wr,on,lf,F,H,E,R,T,b,x,y,z,rt,top,vs,h1,h2,h3,h4) =
   some (ks,bl,rs,bad || l.any (λp=>!decide (pst b x y p.1=p.2)),d,wr,on,lf,F,H,E,R,T,b,x,y,z,rt,top,vs,h1,h2,h3,h4)
 | [],bad=>by simp
 | p::l,bad=>by
  have hs:B8 (ks,bl,rs,bad,d,wr,on,lf,F,H,E,R,T,b,x,y,z,rt,top,vs,h1,h2,h3,h4) p=some (ks,bl,rs,bad || !decide (pst b x y p.1=p.2),d,wr,on,lf,F,H,E,R,T,b,x,y,z,rt,top,vs,h1,h2,h3,h4):=by
   unfold B8;dsimp only;rw [SZ g,Aj1];have e:(if pcB b x y p.1=true then(true,Dw b p.1)else(false,0,0,[])).2.2.1=pst b x y p.1:=by
    unfold pst Dw;split <;> rfl
   generalize (if pcB b x y p.1=true then(true,Dw b p.1)else(false,0,0,[]))=w at *;obtain ⟨w1,w2,w3,w4⟩:=w;dsimp only at e ⊢;subst e;cases bad with
   | true=>rfl
   | false=>
    rw [Aj6 Z,Aj1];dsimp only;by_cases hq:pst b x y p.1=p.2 <;> simp [hq]
  rw [List.foldlM_cons,hs];show l.foldlM B8 _=_;rw [AfP g l,List.any_cons,Bool.or_assoc]
theorem Ae6 {l m:List (Int×Int)} (h:l.Perm m) (p:Int×Int->Bool):l.any p=m.any p:=by
 rw [AlY,Amc,Amc];constructor
 .rintro ⟨v,h1,h2⟩;exact⟨v,h.mem_iff.1 h1,h2⟩
 .rintro ⟨v,h1,h2⟩;exact⟨v,h.mem_iff.2 h1,h2⟩
theorem Ai1 {tk:List Kv} {ks bl rs:List Int} {h1:Int} {h2:List UInt8} {h3:List Rn} {h4:List (List Prt)} {vs:List (List Int)} (htk:tk.length<=100000) (hks:ks.length<=1000000) (bad:Bool) :
  Ab B6 (tk,(tk.length:Int),0,ks,bl,rs,bad,d,wr,on,lf,F,H,E,R,T,b,x,y,z,rt,top,vs,h1,h2,h3,h4) =
   some (ks,bl,rs,bad || tk.any (λp=>!decide (p.1∈ks)),d,wr,on,lf,F,H,E,R,T,b,x,y,z,rt,top,vs,h1,h2,h3,h4):=by
 have h:=Am B6 (λi=>(tk,(tk.length:Int),((i:Nat):Int),ks,bl,rs,bad || (tk.take i).any (λp=>!decide (p.1∈ks)),d,wr,on,lf,F,H,E,R,T,b,x,y,z,rt,top,vs,h1,h2,h3,h4)) tk.length (ks,bl,rs,bad || tk.any (λp=>!decide (p.1∈ks)),d,wr,on,lf,F,H,E,R,T,b,x,y,z,rt,top,vs,h1,h2,h3,h4) (λi hi=>by
  unfold B6 cK cZ wI;dsimp only;rw [iy O,iy O,iy O,Akt,Aj4,Aj3 hi,Aj1,Aj1,Akp hi,List.any_append];cases hq:(bad || (tk.take i).any (λp=>!decide (p.1∈ks)))with
  | true=>
   rw [Aj7 rfl,Aj1,<- Bool.or_assoc,hq];dsimp only;rw [Ak O];rfl
  | false=>
   rw [Aj6 Z,FW O,Aj1,Aj1,<- Bool.or_assoc,hq];dsimp only;rw [Ak O];simp) (by
  unfold B6 cK cZ wI;dsimp only;rw [ino O,AkR])
 have e0:(bad || (tk.take 0).any (λp=>!decide (p.1∈ks)))=bad:=by simp
 rw [e0]at h;exact h
end
section defs
variable (b:Bls) (x top:List Int) (R T:Int) (f h e:Nat)
noncomputable def bB2:List Int:=btx b x [] [] (srt (pgl top R)) T
noncomputable def bB4:List Int:=bB2 b x top R T++ics b x [] top (sts f h)++rkc b x [] top 448
noncomputable def bB5:List Int:=btl b x [] top (cks f h e) (aP2 b x T) (bB4 b x top R T f h)
def bf4:Bool:=(tok b x [] T && (sts f h).all (ioc b x [] top)) && rko b x [] top 448
def bf5:Bool:=bf4 b x top T f h && cko b x [] top (cks f h e)
def bKs:List Int:=((sts f h).map kyI++[448])++(cks f h e).map ckI
def bL:List (List Prt):=ich b x [] top (sts f h)
noncomputable def bG1:Bool:=(rdR (rkd b x [] top 448)).2 && (!bd (bf4 b x top T f h) (bB4 b x top R T f h) && Fl (f:Int) (aT b x T) (aR b x top) (bL b x top f h))
def bE:Bool:=(sts f h).all (ieq b x [] top (f:Int) (aT b x T) (bL b x top f h))
def bK:Bool:=(cks f h e).all (cke b x [] top f (aT b x T) (bL b x top f h))
noncomputable def Aa9:Bool:=(bd (bf5 b x top T f h e) (bB5 b x top R T f h e) || (std (aP6 b x top T f h e)).any (λp=>!decide (pst b x [] p.1=p.2))) || (ksT b top 1024).any (λp=>!decide (p.1∈bKs f h e))
noncomputable def iC:Bool:=bG1 b x top R T f h && (bE b x top T f h && (bK b x top T f h e && (!Aa9 b x top R T f h e && decide ((bB5 b x top R T f h e).mergeSort (λx y=>decide (x<=y))=usd x (b.length - 33)))))
end defs
theorem AaZ {α:Type} (F:Int×Int->α) (f:Nat):∀n,(skn f 0 n).map F=(List.range (n - f)).map λi=>F (0,((f+i:Nat):Int))
 | 0=>by simp [skn]
 | n+1=>by
  rw [Je,AkJ,AaZ F f n,Nat.pow_zero,Nat.mul_one];by_cases h:f<=n
  .rw [Aj7 h,(O:n+1 - f=n - f+1),NV,(O:f+(n - f)=n)];rfl
  .rw [Aj6 h,(O:n+1 - f=n - f)];simp
theorem AhN {f h:Nat}:∀k,(stk f h (k+1)).filter (λs=>decide (s.1=0))=skn f 0 h
 | 0=>by
  show(([]++skn f 0 (h / 2 ^ 0):List (Int×Int))).filter _=_;rw [AkC,Nat.pow_zero,Nat.div_one,List.filter_eq_self];intro s hs;obtain ⟨i,_,_,rfl⟩:=skn_mem.1 hs;simp
 | k+1=>by
  show(stk f h (k+1)++skn f (k+1) (h / 2 ^ (k+1))).filter _=_;rw [Alr,AhN k];have:(skn f (k+1) (h / 2 ^ (k+1))).filter (λs=>decide (s.1=0))=[]:=by
   rw [List.filter_eq_nil_iff];intro s hs;obtain ⟨i,_,_,rfl⟩:=skn_mem.1 hs;simp only [decide_eq_true_eq];omega
  rw [this,Aki]
theorem VY (b:Bls) (x top:List Int) (f h:Nat):bL b x top f h=aL b x top f h:=by
 unfold bL aL ich chC lod sts;rw [AhN,AaZ,Ak0];refine Ak1 λi _=>?_
 show(BT (rkd b x [] top (64 * Int.toNat 0+Int.toNat ((f+i:Nat):Int)))).1=(BT (rkd b x [] top (f+i))).1;rw [Aj4,show 64 * Int.toNat 0+(f+i)=f+i by simp]
theorem AcZ {bl:Bls} {wr lf:Int} (on:Bool) {f h e:Nat} {R T:Int} {top:List Int} (hn:bl.length<=1048576) (g:RS bl (opB bl) []) (htl:top.length=32) (hf:f<=h) (hh:h<=60) (he:0 < e) (he2:e<=30) :
  ∃q,Cv bl wr on lf (f:Int) (h:Int) (e:Int) R T bl (opB bl) [] [] R top (top.map (lfv bl)) 0 [] [] []=some q/\q.1=iC bl (opB bl) top R T f h e/\(iC bl (opB bl) top R T f h e=true->
   q=(true,bl,wr,on,lf,(f:Int),(h:Int),(e:Int),R,T,bl,opB bl,[],[],R,top,top.map (lfv bl),(f:Int),aT bl (opB bl) T,aR bl (opB bl) top,aL bl (opB bl) top f h)):=by
 obtain ⟨l1,l2,l3,l4,l5,l6,l7,l8⟩:=WY (b:=bl) (x:=opB bl) (top:=top) (R:=R) (T:=T) (f:=f) (h:=h) (e:=e) htl hh;have hpl:(srt (pgl top R)).length<=33:=l1;have hb2:(bB2 bl (opB bl) top R T).length<=37:=by
  have:=Aah bl (opB bl) [] [] (srt (pgl top R)) T;unfold bB2;omega
 have hsl:=Ia (f:=f) hh;have hcl:=MN (f:=f) (e:=e) hh;have hil:=Tk bl (opB bl) [] top (sts f h);have hrk:=Hp bl (opB bl) [] top 448;have hb4:(bB4 bl (opB bl) top R T f h).length<=3700:=by unfold bB4;rw [Aj9,Aj9];omega
 have hb5:(bB5 bl (opB bl) top R T f h e).length<=4000:=by
  have:=T2 bl (opB bl) [] top (cks f h e) (aP2 bl (opB bl) T) (bB4 bl (opB bl) top R T f h);unfold bB5;omega
 have hLl:(bL bl (opB bl) top f h).length=h - f:=by rw [VY];unfold aL chC lod;simp
 unfold Cv cK;rw [Aeh htl,Aj1];have e1:=N6 (l:=srt (pgl top R)) (bl:=[]) (by simp only [AkB];omega) true [] [] bl [];rw [AkC]at e1;rw [show BK (srt (pgl top R)) [] [] [] false bl []=_ from e1,Aj1];dsimp only;rw [show([]:List (Int×Int))=std [] from rfl,Aif g T O Z true [] [],Aj1];dsimp only;rw [iy rfl,T3 hf hh,Aj1,Akj,AkC,show btx bl (opB bl) [] [] (srt (pgl top R)) T=bB2 bl (opB bl) top R T from rfl,show tpc bl (opB bl) [] T=aP2 bl (opB bl) T from rfl];rw [show(std []:List (Int×Int))=[] from rfl,AiT g htl hf hh O Z,Aj1];dsimp only;have er:=U7 (z:=[]) g htl (bl:=bB2 bl (opB bl) top R T++ics bl (opB bl) [] top (sts f h)) (ks:=[]++(sts f h).map kyI) (by rw [Aj9];omega) (by rw [Aj9,Aky];simp;omega) (k:=448) O (tok bl (opB bl) [] T && (sts f h).all (ioc bl (opB bl) [] top)) [] bl wr on lf (f:Int) (h:Int) (e:Int) R T R (std (aP2 bl (opB bl) T));rw [show Bw 448 _ _ _ _ _ _ _ _ _ _ _ _ _ _ _ _ _ _ _ _ _=_ from er,Aj1];dsimp only;rw [Aiv (KF g top 448) O,Aj1,show bB2 bl (opB bl) top R T++ics bl (opB bl) [] top (sts f h)++rkc bl (opB bl) [] top 448=bB4 bl (opB bl) top R T f h from rfl,
  show((tok bl (opB bl) [] T && (sts f h).all (ioc bl (opB bl) [] top)) && rko bl (opB bl) [] top 448)=bf4 bl (opB bl) top T f h from rfl,show ich bl (opB bl) [] top (sts f h)=bL bl (opB bl) top f h from rfl]
 unfold iC;have hG1:bG1 bl (opB bl) top R T f h=((rdR (rkd bl (opB bl) [] top 448)).2 && (!bd (bf4 bl (opB bl) top T f h) (bB4 bl (opB bl) top R T f h) && Fl (f:Int) (aT bl (opB bl) T) (aR bl (opB bl) top) (bL bl (opB bl) top f h))):=rfl;rw [hG1];cases hr2:(rdR (rkd bl (opB bl) [] top 448)).2 with
 | false=>
  rw [Aj7 Z,Aj1];dsimp only;rw [Aj7 rfl];exact⟨_,rfl,rfl,λq=>by simp at q⟩
 | true=>
  rw [Aj6 Z];cases hbd:bd (bf4 bl (opB bl) top T f h) (bB4 bl (opB bl) top R T f h)with
  | true=>
   rw [Aj7 rfl,Aj1];dsimp only;rw [Aj7 rfl];exact⟨_,rfl,rfl,λq=>by simp at q⟩
  | false=>
   have hHB:HB (ttx bl (opB bl) [] T) (rdR (rkd bl (opB bl) [] top 448)).1 (bL bl (opB bl) top f h):=by
    have:=Aar (rkd bl (opB bl) [] top 448);have:=Se bl (opB bl) [] T;refine⟨O,O,O,λc hc=>?_⟩;rw [VY]at hc;obtain ⟨x',_,rfl⟩:=Ako.1 hc;exact(QZ x').mono O
   rw [Aj6 Z,Rj hHB,Aj1,Aj1,show Fl (f:Int) (aT bl (opB bl) T) (aR bl (opB bl) top) (bL bl (opB bl) top f h)=Fl (f:Int) (ttx bl (opB bl) [] T) (rdR (rkd bl (opB bl) [] top 448)).1 (bL bl (opB bl) top f h) from rfl];dsimp only;cases hgh:Fl (f:Int) (ttx bl (opB bl) [] T) (rdR (rkd bl (opB bl) [] top 448)).1 (bL bl (opB bl) top f h)with
   | false=>
    rw [Aj7 Z];exact⟨_,rfl,rfl,λq=>by simp at q⟩
   | true=>
    have gh:=goodH_iff.1 hgh;rw [Aj6 Z];have e2:=AiQ (b:=bl) (d:=bl) (x:=opB bl) (y:=[]) (z:=[]) (top:=top) (wr:=wr) (lf:=lf) (on:=on) (H:=(h:Int)) (E:=(e:Int)) (R:=R) (T:=T) (rt:=R) gh (hd:=h) O hh (ks:=[]++(sts f h).map kyI++[((448:Nat):Int)]) (bl:=bB4 bl (opB bl) top R T f h) (rs:=[]) (m:=std (aP2 bl (opB bl) T)) false;rw [show Ab BC _=_ from e2,Aj1];simp only [AlW,Akj];cases hE:bE bl (opB bl) top T f h with
    | false=>
     have hE':(sts f h).all (ieq bl (opB bl) [] top (f:Int) (ttx bl (opB bl) [] T) (bL bl (opB bl) top f h))=false:=hE;rw [hE',Aj6 Z];exact⟨_,rfl,rfl,λq=>by simp at q⟩
    | true=>
     have hE':(sts f h).all (ieq bl (opB bl) [] top (f:Int) (ttx bl (opB bl) [] T) (bL bl (opB bl) top f h))=true:=hE;rw [hE',Aj7 rfl];dsimp only;unfold I6 wI;rw [Aj1,w64 O O,show(f:Int)+(((bL bl (opB bl) top f h).length:Nat):Int)=(h:Int) by omega,YL hf hh he he2,Aj1];have e3:=AiJ (b:=bl) (d:=bl) (x:=opB bl) (y:=[]) (z:=[]) (top:=top) (wr:=wr) (lf:=lf) (on:=on) (H:=(h:Int)) (E:=(e:Int)) (R:=R) (T:=T) (rt:=R) g htl gh (hd:=h) (e:=e) O hh (ks:=[]++(sts f h).map kyI++[((448:Nat):Int)]) (bl:=bB4 bl (opB bl) top R T f h) (rs:=[]) (P:=aP2 bl (opB bl) T) O AjY O (bf4 bl (opB bl) top T f h);rw [hbd]at e3;rw [show Ab BA _=_ from e3,Aj1];simp only [Akj];cases hK:bK bl (opB bl) top T f h e with
     | false=>
      have hK':(cks f h e).all (cke bl (opB bl) [] top f (ttx bl (opB bl) [] T) (bL bl (opB bl) top f h))=false:=hK;rw [hK',Aj6 Z];exact⟨_,rfl,rfl,λq=>by simp at q⟩
     | true=>
      have hK':(cks f h e).all (cke bl (opB bl) [] top f (ttx bl (opB bl) [] T) (bL bl (opB bl) top f h))=true:=hK;rw [hK',Aj7 rfl];dsimp only;rw [show aP2 bl (opB bl) T++ckp bl (opB bl) [] top (cks f h e)=aP6 bl (opB bl) top T f h e from rfl,show btl bl (opB bl) [] top (cks f h e) (aP2 bl (opB bl) T) (bB4 bl (opB bl) top R T f h)=bB5 bl (opB bl) top R T f h e from rfl,show(bf4 bl (opB bl) top T f h && cko bl (opB bl) [] top (cks f h e))=bf5 bl (opB bl) top T f h e from rfl,
       AeR (λl hl=>by rw [AfP g l,Ae6 hl]),Aj1]
      dsimp only;have hkt:=Qc bl top 1024;rw [Aa3 htl,Aj1,Ai1 O AjY,Aj1];dsimp only;have hkk:[]++(sts f h).map kyI++[((448:Nat):Int)]++(cks f h e).map ckI=bKs f h e:=by unfold bKs;rw [AkC];rfl
      rw [hkk,show((bd (bf5 bl (opB bl) top T f h e) (bB5 bl (opB bl) top R T f h e) || (std (aP6 bl (opB bl) top T f h e)).any (λp=>!decide (pst bl (opB bl) [] p.1=p.2))) || (ksT bl top 1024).any (λp=>!decide (p.1∈bKs f h e)))=Aa9 bl (opB bl) top R T f h e from rfl];unfold F6;rw [Aj7 O,Aj1];cases hB:Aa9 bl (opB bl) top R T f h e with
      | true=>
       rw [Aj6 Z,Aj1];exact⟨_,rfl,rfl,λq=>by simp at q⟩
      | false=>
       rw [Aj7 Z,Yb g,Aj1,Aim (by rw [List.length_mergeSort];omega),Aj1,Aj1];refine⟨_,rfl,Z,λq=>?_⟩;have q':decide ((bB5 bl (opB bl) top R T f h e).mergeSort (λx y=>decide (x<=y))=usd (opB bl) (bl.length - 33))=true:=by simpa using q
       rw [q',VY];rfl
end Go.V.G
set_option maxRecDepth 100000
namespace Go.V.G
open Go.V
theorem Qi:∀(n:Nat) (x:List Int) (c:List Prt),Byt x->CH n x=some c->(∀p∈c,kd p≠0)->enc c=x
 | 0,x,c,hb,h,hk=>by
  unfold CH at h;split at h
  .rename_i hx;injection h with h;subst h;rw [hx];rfl
  .cases h
 | n+1,[],c,hb,h,hk=>by
  rw [Nx]at h;injection h with h;subst h;rfl
 | n+1,[a],c,hb,h,hk=>by simp [CH]at h
 | n+1,k::m::r,c,hb,h,hk=>by
  have hm:=hb m Z;have hr:Byt r:=λv hv=>hb v (by simp [hv])
  simp only [CH]at h;split at h
  .rename_i h1;obtain ⟨c',q1,rfl⟩:=Ak3.1 h;have ih:=Qi n r c' hr q1 (λp hp=>hk p (by simp [hp]));have h0:=hk (m,0,[]) Z;rcases Dd h0 with⟨a,ha,e,hkd⟩ | ⟨a,ha,e,hkd⟩ | ⟨s,hs,e,hkd⟩
   .show Fv (m,0,[])++enc c'=_;rw [ih];unfold Fv;rw [hkd,h1];simp [Ax]
   .injection e with e1 e2;injection e2 with e2 e3;omega
   .injection e with e1 e2;injection e2 with e2 e3;exact absurd e3.symm hs
  .split at h
   .rename_i _ h1;obtain ⟨c',q1,rfl⟩:=Ak3.1 h;have ih:=Qi n r c' hr q1 (λp hp=>hk p (by simp [hp]));have h0:=hk (0,m,[]) Z;rcases Dd h0 with⟨a,ha,e,hkd⟩ | ⟨a,ha,e,hkd⟩ | ⟨s,hs,e,hkd⟩
    .injection e with e1 e2;omega
    .show Fv (0,m,[])++enc c'=_;rw [ih];unfold Fv;rw [hkd,h1];simp [Ax]
    .injection e with e1 e2;injection e2 with e2 e3;exact absurd e3.symm hs
   .split at h
    .rename_i _ _ h1;obtain ⟨c',q1,rfl⟩:=Ak3.1 h;have ih:=Qi n (r.drop m.toNat) c' (λv hv=>hr v (Al9 hv)) q1 (λp hp=>hk p (by simp [hp]));have h0:=hk (0,0,AF (r.take m.toNat)) Z;rcases Dd h0 with⟨a,ha,e,hkd⟩ | ⟨a,ha,e,hkd⟩ | ⟨s,hs,e,hkd⟩
     .injection e with e1 e2;omega
     .injection e with e1 e2;injection e2 with e2 e3;omega
     .show Fv (0,0,AF (r.take m.toNat))++enc c'=_;have hbt:Ax (AF (r.take m.toNat))=r.take m.toNat:=AbU (λv hv=>hr v (AlE hv));have hln:(AF (r.take m.toNat)).length=m.toNat:=by unfold AF;rw [Aky,Akb];omega
      rw [ih];unfold Fv;dsimp only;rw [hkd,hbt,hln,h1.1];simp only [AkP,AkC,Akd,AkS]
      congr 2
      omega
    .cases h
theorem Abc {c:List Prt} (hg:AH c=true):BT (enc c)=(c,true):=by
 have h1:=AeV (C6 hg) O hg;have hs:=AcN hg;rw [Aas (ZZ hg) O]at h1;injection h1
theorem AdE {x:List Int} (hb:Byt x) {c:List Prt} (h:BT x=(c,true)):enc c=x:=by
 unfold BT at h;split at h
 .rename_i c' hd;split at h
  .rename_i hg;injection h with h1 h2;subst h1
   exact Qi _ _ _ hb hd λp hp=>(Bi (Aq hg).1 p hp).ne
  .injection h with h1 h2;cases h2
 .injection h with h1 h2;cases h2
theorem Ab7 {x:List Int} (hb:Byt x) {c:List Prt} (hg:AH c=true):(AF x == AF (enc c))=true↔BT x=(c,true):=by
 rw [Rf hb (ZZ hg),beq_iff_eq];constructor
 .rintro rfl;exact Abc hg
 .intro h;exact(AdE hb h).symm
section
variable {b:Bls} {x y top:List Int}
theorem Z2:∀(f:Nat) (a:Int) (d ch:List Int) {p:List Int×List Int},(∀v∈ch,liv b x y v=true)->rcN b x y f a d ch=some p->∀v∈p.2,liv b x y v=true
 | 0,_,_,_,p,_,h=>by cases h
 | f+1,a,d,ch,p,hd,h=>by
  unfold rcN at h;split at h
  .rename_i hc;have hl:liv b x y a=true:=by unfold rcC at hc;rw [Aj8]at hc;exact hc.1
   have hd':∀v∈ch++[a],liv b x y v=true:=λv hv=>by
    rcases Aka.1 hv with hv | hv
    .exact hd v hv
    .rw [Akc.1 hv];exact hl
   split at h
   .injection h with h;subst h;exact hd'
   .exact Z2 f _ _ _ hd' h
  .cases h
theorem TW (k:Nat):∀v∈rkc b x y top k,liv b x y v=true:=by
 intro v hv;unfold rkc rcA at hv;split at hv
 .rename_i p hp;exact Z2 _ _ _ _ Z hp v hv
 .cases hv
theorem Aac (a:Int):∀v∈tcl b x y a,liv b x y v=true:=by
 intro v hv;unfold tcl at hv;split at hv
 .rename_i h;obtain ⟨l,hl⟩:=AlU.1 h;rw [Akc.1 hv];exact(Ir hl).2.1
 .cases hv
theorem Aaq (a:Int):∀v∈tpc b x y a,pcB b x y v=true:=by
 intro v hv;unfold tpc at hv;cases hp:ptx b x y a with
 | none=>rw [hp]at hv;cases hv
 | some l=>rw [hp]at hv;exact(Ir hp).1.all v hv
theorem Z1 {v:Int} (h:pcB b x y v=true):liv b x y v=true:=by
 unfold pcB at h;rw [Aj8]at h;exact h.1
theorem Agp {root:Int} (ht:tre b x y root=some top):∀v∈pgl top root,liv b x y v=true:=by
 intro v hv;unfold pgl at hv;simp only [AlL,Aka,Akc,decide_eq_true_eq]at hv;obtain ⟨hv,h0⟩:=hv;rcases hv with hv | hv
 .obtain ⟨j,hj,rfl⟩:=AkG hv;have hg:=Ai hj;rw [Aj3 hj]at hg;injection hg with hg
  rw [hg]at h0 ⊢;rcases AhI ht j (by rw [<- G4 ht];exact hj)with q | q
  .exact absurd q h0
  .have:=q.1;unfold pgB at this;rw [Aj8]at this;exact this.1
 .subst hv;exact(Xa ht h0).1
theorem AcF {k:Nat} (h:rko b x y top k=true):vl b top k≠0:=by
 intro q;unfold rko rcA rcd rcN at h;rw [Aj6 (λw=>AfI w q)]at h;cases h
theorem AhO {a:Int} (h:tok b x y a=true):a≠0:=by
 rintro rfl;unfold tok at h;obtain ⟨l,hl⟩:=AlU.1 h;obtain ⟨m,h1,h2,_⟩:=Cd (Ir hl).2.1;omega
end
end Go.V.G
set_option maxRecDepth 100000
namespace Go.V.G
open Go.V
theorem AaH {l U:List Int} (hn:l.Nodup) (hU:U.Pairwise (· < ·)):l.mergeSort (λx y=>decide (x<=y))=U↔∀v,v∈l↔v∈U:=by
 have hp:=List.mergeSort_perm l (λx y=>decide (x<=y));constructor
 .rintro rfl v;exact hp.mem_iff.symm
 .intro h;have h1:(l.mergeSort (λx y=>decide (x<=y))).Pairwise (λx y=>decide (x<=y)=true):=List.pairwise_mergeSort (λa b c p q=>by simp only [decide_eq_true_eq]at *;omega) (λa b=>by simp only [Alj,decide_eq_true_eq];omega) l;have h2:(l.mergeSort (λx y=>decide (x<=y))).Nodup:=hp.nodup_iff.2 hn;have h3:(l.mergeSort (λx y=>decide (x<=y))).Pairwise (· < ·):=by
   have h2':(l.mergeSort (λx y=>decide (x<=y))).Pairwise (·≠·):=h2;exact(h1.and h2').imp λ⟨p,q⟩=>by simp only [decide_eq_true_eq]at p;omega
  exact Tf (ris_iff.2 h3) (ris_iff.2 hU) λv=>by rw [hp.mem_iff];exact h v
section
variable {b:Bls} {x y top:List Int}
theorem AcE {C P:List Int} (hP:∀v∈P,pcB b x y v=true):(List.range b.length).all (stB b x C P)=true↔(∀v∈P,v∉C/\gb (blk b v.toNat) 1=(P.count v:Int))/\∀k:Nat,33<=k->k < b.length->(bit x k=true↔((k:Int)∈C\/(k:Int)∈P)):=by
 rw [all_range];constructor
 .intro q;refine⟨λv hv=>?_,λk h1 h2=>?_⟩
  .obtain ⟨m,rfl,h33,hm,_⟩:=P7 (hP v hv);have:=q m hm;have hc:=List.count_pos_iff.2 hv;unfold stB at this;simp only [Aj8,Alj,decide_eq_true_eq,Akf,decide_eq_false_iff_not]at this;rcases this.1 with w | w
   .omega
   .rw [Aj4];exact w
  .have:=q k h2;unfold stB at this;simp only [Aj8,Alj,decide_eq_true_eq,beq_iff_eq]at this;rcases this.2 with w | w
   .omega
   .rw [w,decide_eq_true_eq,List.count_pos_iff]
 .rintro ⟨q1,q2⟩ k hk;unfold stB;rw [Aj8];constructor
  .by_cases hv:(k:Int)∈P
   .obtain ⟨w1,w2⟩:=q1 _ hv;rw [Aj4]at w2;rw [decide_eq_false w1,decide_eq_true w2];simp
   .have:P.count (k:Int)=0:=List.count_eq_zero.2 hv;rw [decide_eq_true this];rfl
  .by_cases h33:k < 33
   .rw [decide_eq_true h33];rfl
   .have:=q2 k O hk;rw [decide_eq_false h33,Alk,beq_iff_eq,AlY,this,decide_eq_true_eq,List.count_pos_iff]
theorem Agg {P:List Int} (hP:∀v∈P,pcB b x y v=true):(std P).any (λp=>!decide (pst b x y p.1=p.2))=false↔∀v∈P,gb (blk b v.toNat) 1=(P.count v:Int):=by
 obtain ⟨s1,s2,s3⟩:=Xv P;rw [Ala];constructor
 .intro q v hv;obtain ⟨p,hp,rfl⟩:=Ako.1 ((s3 v).2 hv);have h1:=q p hp;have h2:=X0 s2 p hp;rw [s1]at h2;simp only [Akf,decide_eq_false_iff_not,Classical.not_not]at h1;unfold pst at h1;rw [Aj7 (hP _ hv)]at h1;rw [h1,h2]
 .intro q p hp;have hv:p.1∈P:=(s3 _).1 (List.mem_map_of_mem hp);have h2:=X0 s2 p hp;rw [s1]at h2;have h3:=q _ hv;simp only [Akf,decide_eq_false_iff_not,Classical.not_not];unfold pst;rw [Aj7 (hP _ hv),h3,h2]
theorem AgX (A B:List (Int×Int)):upk (A++B)=upk A++upk B:=by unfold upk;exact Alr ..
theorem Ui {f h:Nat}:∀k,stk f h (k+1)=skn f 0 h++upk (stk f h (k+1))
 | 0=>by
  have e:stk f h 1=skn f 0 h:=by
   show([]++skn f 0 (h / 2 ^ 0):List (Int×Int))=_;rw [AkC,Nat.pow_zero,Nat.div_one]
  have:upk (skn f 0 h)=[]:=by
   unfold upk;rw [List.filter_eq_nil_iff];intro s hs;obtain ⟨i,_,_,rfl⟩:=skn_mem.1 hs;simp
  rw [e,this,Aki]
 | k+1=>by
  have ih:=Ui (f:=f) (h:=h) k;have e:stk f h (k+1+1)=stk f h (k+1)++skn f (k+1) (h / 2 ^ (k+1)):=rfl;have hu:upk (skn f (k+1) (h / 2 ^ (k+1)))=skn f (k+1) (h / 2 ^ (k+1)):=by
   unfold upk;rw [List.filter_eq_self];intro s hs;obtain ⟨i,_,_,rfl⟩:=skn_mem.1 hs;simp only [decide_eq_true_eq];omega
  rw [e,AgX,hu,<- Akd,<- ih]
theorem PS (f h:Nat):sts f h=skn f 0 h++upk (sts f h):=Ui 5
theorem ky0 (i:Nat):ky (0,(i:Int))=i:=by unfold ky;simp
theorem Adt (f h:Nat):ics b x y top (sts f h)=Cp b x y top f (h - f)++upc b x y top (sts f h):=by
 have e:ics b x y top (skn f 0 h)=Cp b x y top f (h - f):=by
  unfold ics Cp;rw [List.flatMap_def,List.flatMap_def,AaZ]
  congr 1
  refine Ak1 λi _=>?_
  show rkc b x y top (ky (0,((f+i:Nat):Int)))=_;rw [ky0]
 have e2:ics b x y top (upk (sts f h))=upc b x y top (sts f h):=rfl;have e3:∀A B,ics b x y top (A++B)=ics b x y top A++ics b x y top B:=λA B=>by unfold ics;exact Alm ..
 conv=>lhs;rw [PS]
 rw [e3,e,e2]
theorem AdT (f h:Nat):(sts f h).all (ioc b x y top)=(loo b x y top f (h - f) && (upk (sts f h)).all (ioc b x y top)):=by
 have e:(skn f 0 h).all (ioc b x y top)=loo b x y top f (h - f):=by
  have:=congrArg (λl=>l.all id) (AaZ (ioc b x y top) f h);simp only [List.all_map]at this;unfold loo;rw [show((skn f 0 h).all (ioc b x y top))=(skn f 0 h).all (id ∘ ioc b x y top) from rfl,this]
  congr 1
  funext i
  show ioc b x y top (0,((f+i:Nat):Int))=_;unfold ioc;rw [ky0]
 conv=>lhs;rw [PS]
 rw [List.all_append,e]
theorem Ah4 {f h:Nat} {t:List UInt8} {r:List Rn} (hf:f<=h) (gh:GH (f:Int) t r (chC (lod b x y top f (h - f)))) {s:Int×Int} (hs:s∈skn f 0 h):ipt b x y top s=bt (f:Int) t (chC (lod b x y top f (h - f))) s:=by
 obtain ⟨i,h1,h2,rfl⟩:=skn_mem.1 hs;rw [Nat.pow_zero,Nat.mul_one]at h2;have hl:(chC (lod b x y top f (h - f))).length=h - f:=by unfold chC lod;simp
 have hb:=QN gh (a:=(i:Int)) O O;have e1:bt (f:Int) t (chC (lod b x y top f (h - f))) (0,(i:Int))=BW (f:Int) t (chC (lod b x y top f (h - f))) (i:Int) ((i:Int)+1):=by
  unfold bt frS toS;simp
 have e2:(chC (lod b x y top f (h - f)))[((i:Int) - (f:Int)).toNat]?=some (BT (rkd b x y top i)).1:=by
  rw [show((i:Int) - (f:Int)).toNat=i - f by omega];unfold chC lod;rw [AkH,AkH,AlZ O];show some (BT (rkd b x y top (f+(i - f)))).1=_;rw [(O:f+(i - f)=i)]
 rw [hb]at e2;injection e2 with e2
 show ipt b x y top (0,(i:Int))=bt _ _ _ (0,(i:Int));rw [e1,e2];unfold ipt;rw [ky0]
theorem AgS {f h:Nat} {s:Int×Int} (hs:s∈upk (sts f h)):s∈sts f h/\0 < s.1:=by
 unfold upk at hs;simpa using hs
theorem AaI {f h:Nat} {t:List UInt8} {r:List Rn} {cs:List (List Prt)} (gh:GH (f:Int) t r cs) {s:Int×Int} (hs:s∈sts f h):AH (bt (f:Int) t cs s)=true:=by
 obtain ⟨k,j,g8⟩:=sts_mem.1 hs;obtain ⟨f1,f2,f3,f4,f5⟩:=g8.ft;exact(Iz gh (a:=(frS s:Int)) (b:=(toS s:Int)) O O).1
theorem Aax (g:RS b x y) {f h:Nat} {t:List UInt8} {r:List Rn} (hf:f<=h) (gh:GH (f:Int) t r (chC (lod b x y top f (h - f)))) :
  ((sts f h).all (upe b x y top (f:Int) t (chC (lod b x y top f (h - f)))) && upo b x y top (sts f h))=((sts f h).all (ieq b x y top (f:Int) t (chC (lod b x y top f (h - f)))) && (upk (sts f h)).all (ioc b x y top)):=by
 rw [AlY,Aj8,Aj8];unfold upo;simp only [Akx];constructor
 .rintro ⟨q1,q2⟩;have hr:∀s∈upk (sts f h),BT (rkd b x y top (ky s))=(bt ((f:Nat):Int) t (chC (lod b x y top f (h - f))) s,true):=λs hs=>by
   obtain ⟨m1,m2⟩:=AgS hs;have:=q1 s m1;unfold upe at this;rw [decide_eq_true m2,AkT,Alk]at this;exact(Ab7 (KF g top (ky s)) (AaI gh m1)).1 this
  refine⟨λs hs=>?_,λs hs=>?_⟩
  .rw [PS]at hs;unfold ieq;rcases Aka.1 hs with hs | hs
   .exact decide_eq_true (Ah4 hf gh hs)
   .unfold ipt;rw [hr s hs];simp
  .unfold ioc;rw [q2 s hs,hr s hs];rfl
 .rintro ⟨q1,q2⟩;refine⟨λs hs=>?_,λs hs=>?_⟩
  .unfold upe;by_cases h0:0 < s.1
   .have hm:s∈upk (sts f h):=by unfold upk;simp [hs,h0]
    have h1:=q1 s hs;have h2:=q2 s hm;unfold ieq at h1;unfold ioc at h2;rw [Aj8]at h2;rw [decide_eq_true_eq]at h1;rw [(Ab7 (KF g top (ky s)) (AaI gh hs)).2 (Prod.ext h1 h2.2)];simp
   .rw [decide_eq_false h0];rfl
  .have h2:=q2 s hs;unfold ioc at h2;rw [Aj8]at h2;exact h2.1
end
end Go.V.G
set_option maxRecDepth 100000
namespace Go.V.G
open Go.V
section
variable {b:Bls} {x top:List Int} {R T:Int} {f h e:Nat}
noncomputable def cI (b:Bls) (x top:List Int) (R T:Int) (f h e:Nat):List Int:=((aC2 b x top R T++ics b x [] top (sts f h))++rkc b x [] top 448)++ckc b x [] top (cks f h e)
theorem Ag7:Led ((aC2 b x top R T++ics b x [] top (sts f h))++rkc b x [] top 448) (aP2 b x T) (bB4 b x top R T f h):=by
 have h1:Led ([]++srt (pgl top R)) [] ([]++srt (pgl top R)):=Led.claims Led.nil;rw [AkC]at h1;have h2:=Aap (x:=x) (y:=[]) (b:=b) h1 T;rw [AkC]at h2;exact Led.claims (Led.claims h2)
theorem Ajl:Led (cI b x top R T f h e) (aP6 b x top T f h e) (bB5 b x top R T f h e):=Z3 (cks f h e) Ag7
theorem AgJ:(cI b x top R T f h e).Perm (aC6 b x top R T f h e):=by
 unfold cI aC6 aC5 aC4 aC3;rw [Adt];refine List.Perm.append_right _ ?_;have e1:aC2 b x top R T++(Cp b x [] top f (h - f)++upc b x [] top (sts f h))++rkc b x [] top 448=aC2 b x top R T++((Cp b x [] top f (h - f)++upc b x [] top (sts f h))++rkc b x [] top 448):=by simp
 have e2:aC2 b x top R T++rkc b x [] top 448++Cp b x [] top f (h - f)++upc b x [] top (sts f h)=aC2 b x top R T++(rkc b x [] top 448++(Cp b x [] top f (h - f)++upc b x [] top (sts f h))):=by simp
 rw [e1,e2];exact List.Perm.append_left _ List.perm_append_comm
theorem AdP (ht:tre b x [] R=some top):∀v∈aC6 b x top R T f h e,liv b x [] v=true:=by
 intro v hv;have hpl:=Z5 (root:=R) (G4 ht);unfold aC6 aC5 aC4 aC3 aC2 aC1 at hv;simp only [Aka]at hv;rcases hv with((((((hv | hv) | hv) | hv) | hv)) | hv)
 .exact Agp ht v (((IU O).2.2 v).1 hv)
 .exact Aac T v hv
 .exact TW 448 v hv
 .unfold Cp at hv;obtain ⟨i,_,hi⟩:=Al6.1 hv;exact TW _ v hi
 .unfold upc at hv;obtain ⟨i,_,hi⟩:=Al6.1 hv;exact TW _ v hi
 .unfold ckc at hv;obtain ⟨i,_,hi⟩:=Al6.1 hv;exact Aac _ v hi
theorem AfB:∀v∈aP6 b x top T f h e,pcB b x [] v=true:=by
 intro v hv;unfold aP6 aP2 at hv;rcases Aka.1 hv with hv | hv
 .exact Aaq T v hv
 .unfold ckp at hv;obtain ⟨i,_,hi⟩:=Al6.1 hv;exact Aaq _ v hi
theorem ZL {v:Int}:v∈bKs f h e↔v∈IH f h e:=by
 unfold bKs IH;simp only [Aka];constructor
 .rintro ((q | q) | q)
  .exact .inl q
  .exact .inr (.inr q)
  .exact .inr (.inl q)
 .rintro (q | q | q)
  .exact .inl (.inl q)
  .exact .inr q
  .exact .inl (.inr q)
theorem AgP {fn:Bool} {l:List Int}:okb fn l=true↔fn=true/\l.Nodup:=by unfold okb ndb;simp
theorem Ah0 {fn:Bool} {l:List Int}:bd fn l=false↔fn=true/\l.Nodup:=by unfold bd ndb;simp
theorem AfH (g:RS b x []) (ht:tre b x [] R=some top) (hf:f<=h) (hh:h<=60):sC b x top R T f h e=iC b x top R T f h e:=by
 have hP:=AfB (b:=b) (x:=x) (top:=top) (T:=T) (f:=f) (h:=h) (e:=e);have hC:=AdP (T:=T) (f:=f) (h:=h) (e:=e) ht;have L5:=Ajl (b:=b) (x:=x) (top:=top) (R:=R) (T:=T) (f:=f) (h:=h) (e:=e);have L4:=Ag7 (b:=b) (x:=x) (top:=top) (R:=R) (T:=T) (f:=f) (h:=h);have hperm:=AgJ (b:=b) (x:=x) (top:=top) (R:=R) (T:=T) (f:=f) (h:=h) (e:=e);have hmem:∀v,v∈bB5 b x top R T f h e↔v∈aC6 b x top R T f h e\/v∈aP6 b x top T f h e:=λv=>by rw [L5.mem,hperm.mem_iff]
 have hnd:(bB5 b x top R T f h e).Nodup↔(aC6 b x top R T f h e).Nodup/\∀v∈aP6 b x top T f h e,v∉aC6 b x top R T f h e:=by
  rw [L5.nd,hperm.nodup_iff];exact⟨λq=>⟨q.1,λv hv w=>q.2 v hv (hperm.mem_iff.2 w)⟩,λq=>⟨q.1,λv hv w=>q.2 v hv (hperm.mem_iff.1 w)⟩⟩
 have hn54:(bB5 b x top R T f h e).Nodup->(bB4 b x top R T f h).Nodup:=λq=>by
  rw [L5.nd]at q;rw [L4.nd];refine⟨(Akn.1 q.1).1,λv hv w=>q.2 v (Alw _ hv) (Alw _ w)⟩
 have hn64:(aC6 b x top R T f h e).Nodup->(aC4 b x top R T f h).Nodup:=λq=>(Akn.1 (Akn.1 q).1).1
 have hioc:=AdT (b:=b) (x:=x) (y:=[]) (top:=top) f h;have hbl:bL b x top f h=aL b x top f h:=VY b x top f h;have hset:(∀v,v∈bB5 b x top R T f h e↔v∈usd x (b.length - 33))↔∀k:Nat,33<=k->k < b.length->(bit x k=true↔((k:Int)∈aC6 b x top R T f h e\/(k:Int)∈aP6 b x top T f h e)):=by
  have hn:=g.hn;constructor
  .intro q k h1 h2;rw [<- hmem,q,usd_mem];constructor
   .intro w;exact⟨k,h1,O,w,rfl⟩
   .rintro ⟨k',_,_,w,he⟩;have:k'=k:=O
    rw [<- this];exact w
  .intro q v;rw [hmem,usd_mem];constructor
   .intro w;have hl:liv b x [] v=true:=w.elim (hC v) (λw=>Z1 (hP v w));obtain ⟨m,rfl,h1,h2,h3,_⟩:=Cd hl;exact⟨m,h1,O,h3,rfl⟩
   .rintro ⟨k,h1,h2,h3,rfl⟩;exact(q k h1 O).1 h3
 rw [AlY];unfold sC iC bG1 Aa9;simp only [Aj8,Akf,AlV,AgP,Ah0,decide_eq_true_eq];unfold aS;rw [AcE hP,Agg hP,hbl];have hKK:bK b x top T f h e=aK b x top T f h e:=by unfold bK aK;rw [hbl]
 rw [hKK];constructor
 .rintro ⟨k1,⟨k2,k3⟩,k4,k5,k6,⟨k7,k8⟩,k9,k10⟩;have gh:=goodH_iff.1 k4;unfold af6 af5 af4 af3 at k9;simp only [Aj8]at k9;obtain ⟨⟨⟨⟨⟨t1,t2⟩,t3⟩,t4⟩,t5⟩,t6⟩:=k9;have hub:=Aax (top:=top) g hf gh;have hU:(sts f h).all (upe b x [] top (f:Int) (aT b x T) (chC (lod b x [] top f (h - f))))=true:=k5;rw [hU,t5,AlB]at hub;have hub:=hub.symm;rw [Aj8]at hub;have hb5:=hnd.2 ⟨k10,λv hv=>(k7 v hv).1⟩;have hio:(sts f h).all (ioc b x [] top)=true:=by rw [hioc,t4,hub.2];rfl
  have hf4:bf4 b x top T f h=true:=by unfold bf4;rw [t1,hio,t2];rfl
  refine⟨⟨t3,⟨hf4,hn54 hb5⟩,k4⟩,?_,k6,⟨⟨⟨?_,hb5⟩,λv hv=>(k7 v hv).2⟩,?_⟩,(AaH hb5 (Nh x _)).2 (hset.2 k8)⟩
  .unfold bE;rw [hbl];exact hub.1
  .unfold bf5;rw [hf4,t6];rfl
  .rw [Ala];intro p hp;have hk:=(ZG hh).1 k1;obtain ⟨k,w1,w2,w3⟩:=ksT_mem.1 (List.mem_map_of_mem hp);have:=hk.1 k w1 w2;rw [<- w3,<- ZL]at this;simp only [Akf,decide_eq_false_iff_not,Classical.not_not];exact this
 .rintro ⟨⟨t3,⟨hf4,hn4⟩,k4⟩,hE,k6,⟨⟨⟨hf5,hb5⟩,hst⟩,hky⟩,hso⟩;have gh:=goodH_iff.1 k4;unfold bf5 at hf5;rw [hf4,Akj]at hf5;unfold bf4 at hf4;simp only [Aj8]at hf4;obtain ⟨⟨t1,hio⟩,t2⟩:=hf4;have hio2:=hio;rw [hioc,Aj8]at hio;obtain ⟨t4,hup⟩:=hio;have hub:=Aax (top:=top) g hf gh;unfold bE at hE;rw [hbl]at hE;have hE':(sts f h).all (ieq b x [] top (f:Int) (aT b x T) (chC (lod b x [] top f (h - f))))=true:=hE;rw [hE',hup,AlB,Aj8]at hub;obtain ⟨c1,c2⟩:=hnd.1 hb5;have hf3:af3 b x top T=true:=by unfold af3;rw [t1,t2,t3];rfl
  have hf4:af4 b x top T f h=true:=by unfold af4;rw [hf3,t4];rfl
  refine⟨?_,⟨hf4,hn64 c1⟩,k4,hub.1,k6,⟨λv hv=>⟨c2 v hv,hst v hv⟩,hset.1 ((AaH hb5 (Nh x _)).1 hso)⟩,?_,c1⟩
  .rw [ZG hh];refine⟨λk hk hv=>?_,λk hk hm=>?_⟩
   .obtain ⟨p,hp,hpe⟩:=Ako.1 (ksT_mem.2 ⟨k,hk,hv,rfl⟩);have:=Ala.1 hky p hp;simp only [Akf,decide_eq_false_iff_not,Classical.not_not]at this;rw [<- hpe,<- ZL];exact this
   .unfold IH at hm;simp only [Aka]at hm;rcases hm with hm | hm | hm
    .obtain ⟨s,hs,he⟩:=Ako.1 hm;have:=Akx.1 hio2 s hs;unfold ioc at this;rw [Aj8]at this;have hkk:ky s=k:=by unfold kyI at he;omega
     rw [<- hkk];exact AcF this.1
    .obtain ⟨r,hr,he⟩:=Ako.1 hm;have:=Akx.1 hf5 r hr;have hkk:384+r=k:=by unfold ckI at he;omega
     rw [<- hkk];exact AhO this
    .have hkk:k=448:=by have:=Akc.1 hm;omega
     rw [hkk];exact AcF t2
  .unfold af6 af5;rw [hf4,hub.2,hf5];rfl
end
end Go.V.G
set_option maxRecDepth 100000
namespace Go.V.G
open Go.V
structure Sto (bl:Bls) (wr lf:Int) (f h e:Nat) (R T:Int) (top:List Int):Prop where
 gd:gd bl wr lf=true
 wt:wts bl=[]
 su:Mn (blk bl 0)=(true,(f:Int),(h:Int),(e:Int),R,T)
 op:opG bl=true
 tr:tre bl (opB bl) [] R=some top
 hf:f<=h
 hh:h<=60
 he:0 < e
 he2:e<=30
theorem Ae5 {c:List Int} (h:Tm c=true):∃f m e:Nat,Mn c=(true,(f:Int),(m:Int),(e:Int),num c 8,num c 10)/\f<=m/\m<=60/\0 < e/\e<=30:=by
 have h2:=h;unfold Tm MA at h2;simp only [Aj8,decide_eq_true_eq]at h2;obtain ⟨_,⟨⟨h3,h4⟩,h5,_⟩,_⟩:=h2;refine⟨(gb c 4).toNat,(gb c 5).toNat,(gb c 6).toNat,?_,O,O,O,O⟩;unfold Mn;rw [Aj7 h,Int.toNat_of_nonneg O,Int.toNat_of_nonneg O,Int.toNat_of_nonneg O]
theorem Acf {bl:Bls} {wr lf:Int} (on:Bool) (hn:bl.length<=1048576) (hu:∀c∈bl,U8s c) :
  (∃w,Do bl wr on lf=some w/\w.1=false/\Di bl wr on lf=some (none,false))\/
  ∃(f h e:Nat) (R T:Int) (top:List Int),Sto bl wr lf f h e R T top/\iC bl (opB bl) top R T f h e=true/\
   Do bl wr on lf=some (true,(f:Int),(h:Int),(e:Int),R,T,bl,opB bl,[],[],ksT bl top 1024,(f:Int),aT bl (opB bl) T,aR bl (opB bl) top,aL bl (opB bl) top f h,srt (aC6 bl (opB bl) top R T f h e++pcn (aP6 bl (opB bl) top T f h e) bl.length))/\
   Di bl wr on lf=some (some (bl,wr,on,lf,(f:Int),(h:Int),(e:Int),R,T,bl,opB bl,[],[],R,top,top.map (lfv bl),(f:Int),aT bl (opB bl) T,aR bl (opB bl) top,aL bl (opB bl) top f h),true):=by
 cases hd:gd bl wr lf with
 | false=>
  left;unfold Do Di cK cZ gX wI;rw [HV hn,hd,Aj1,Jl hn,hd,Aj1,Aj7 Z,Aj7 Z,Aj1,Aj1];dsimp only;rw [Aj7 rfl,Aj7 rfl];exact⟨_,rfl,rfl,rfl⟩
 | true=>
  obtain ⟨hb,hk⟩:=J0 hd;by_cases hw:wts bl=[]
  .cases hs:Tm (blk bl 0)with
   | false=>
    left;have hsd:Mn (blk bl 0)=(false,0,0,0,0,0):=by unfold Mn;rw [hs];rfl
    refine⟨(false,0,0,0,0,0,[],[],[],[],[],0,[],[],[],[]),?_,rfl,?_⟩
    .unfold Do cK cZ gX wI;rw [HV hn,hd,Aj1,Aj6 Z,Gd on hd hu,hw,Aj1,Aj1];dsimp only;rw [Aj6 Z,iy O,show Int.toNat 0=0 from rfl,Bp (O:0 < bl.length),Aj1,Iq (hu _ (BB O)),hsd,Aj1];dsimp only;rw [GO on hd hu,Aj1,Aj1];dsimp only;rw [Aj7 Z,Aj1];dsimp only;rw [Aj7 rfl]
    .unfold Di gX;rw [Jl hn,hd,Aj1,Aj6 Z,Lv on hd hu,hw,Aj1,Aj1];dsimp only;rw [Aj6 Z,iy O,show Int.toNat 0=0 from rfl,Bp (O:0 < bl.length),Aj1,PZ (hu _ (BB O)),hsd,Aj1];dsimp only;rw [Aj7 Z]
   | true=>
    obtain ⟨f,h,e,hsd,hf,hh,he,he2⟩:=Ae5 hs;have hi:Di bl wr on lf=Option.bind (some (opD bl)) λ(l,m,n)=>
      if(!l)=true then some (none,false)
      else Option.bind (Gh (m,(n,([],[]))) (num (blk bl 0) 8)) λ(o,p,q,r)=>
       if(!o)=true then some (none,false)
       else Option.bind (Cv bl wr on lf (f:Int) (h:Int) (e:Int) (num (blk bl 0) 8) (num (blk bl 0) 10) m n [] [] p q r 0 [] [] []) λ(s,t,u,v,w,x,y,z,a0,b0,c0,d0,e0,f0,g0,h0,i0,j0,k0,l0,m0)=>
        if(!s)=true then some (none,false)
        else some (some (t,(u,(v,(w,(x,(y,(z,(a0,(b0,(c0,(d0,(e0,(f0,(g0,(h0,(i0,(j0,(k0,(l0,m0))))))))))))))))))),true):=by
     unfold Di gX;rw [Jl hn,hd,Aj1,Aj6 Z,Lv on hd hu,hw,Aj1,Aj1];dsimp only;rw [Aj6 Z,iy O,show Int.toNat 0=0 from rfl,Bp (O:0 < bl.length),Aj1,PZ (hu _ (BB O)),hsd,Aj1];dsimp only;rw [Aj6 Z,S9 on hd hu]
    cases ho:opG bl with
    | false=>
     left;have hod:opD bl=(false,[],[]):=by unfold opD;rw [ho];rfl
     refine⟨(false,0,0,0,0,0,[],[],[],[],[],0,[],[],[],[]),?_,rfl,?_⟩
     .unfold Do cK cZ gX wI;rw [HV hn,hd,Aj1,Aj6 Z,Gd on hd hu,hw,Aj1,Aj1];dsimp only;rw [Aj6 Z,iy O,show Int.toNat 0=0 from rfl,Bp (O:0 < bl.length),Aj1,Iq (hu _ (BB O)),hsd,Aj1];dsimp only;rw [GO on hd hu,hod,Aj1,Aj1];dsimp only;rw [Aj6 Z,Aj7 Z,Aj1];dsimp only;rw [Aj7 rfl]
     .rw [hi,hod,Aj1];dsimp only;rw [Aj7 Z]
    | true=>
     have hod:opD bl=(true,bl,opB bl):=by unfold opD;rw [ho];rfl
     have sb:=Sw (bl:=bl) O O;have hog:gsp bl (opB bl) [] []=true:=by unfold opG at ho;rw [Aj8]at ho;exact ho.1
     have g:=(P4 hog).rs sb hu;cases ht:tre bl (opB bl) [] (num (blk bl 0) 8)with
     | none=>
      left;refine⟨(false,0,0,0,0,0,[],[],[],[],[],0,[],[],[],[]),?_,rfl,?_⟩
      .unfold Do cK cZ gX wI;rw [HV hn,hd,Aj1,Aj6 Z,Gd on hd hu,hw,Aj1,Aj1];dsimp only;rw [Aj6 Z,iy O,show Int.toNat 0=0 from rfl,Bp (O:0 < bl.length),Aj1,Iq (hu _ (BB O)),hsd,Aj1];dsimp only;rw [GO on hd hu,hod,Aj1,Aj1];dsimp only;rw [Aj6 Z,Aj6 Z,HM sb hu,hog,ht,Aj1,Aj1];dsimp only;rw [Aj7 Z]
      .rw [hi,hod,Aj1];dsimp only;rw [Aj6 Z,Uy g,ht];unfold trI;dsimp only;rw [Aj1];dsimp only;rw [Aj7 Z]
     | some top=>
      have htl:=G4 ht;obtain ⟨w,w1,w2,w3⟩:=Ad0 on hn hd hu hw hsd ho ht hf hh he he2;obtain ⟨q,q1,q2,q3⟩:=AcZ (wr:=wr) (lf:=lf) (R:=num (blk bl 0) 8) (T:=num (blk bl 0) 10) on hn g htl hf hh he he2;have hsc:=AfH (b:=bl) (x:=opB bl) (T:=num (blk bl 0) 10) (f:=f) (h:=h) (e:=e) g ht hf hh;rw [hi,hod,Aj1];dsimp only;rw [Aj6 Z,Uy g,ht];unfold trI;dsimp only;rw [Aj1];dsimp only;rw [Aj6 Z,q1,Aj1];cases hc:iC bl (opB bl) top (num (blk bl 0) 8) (num (blk bl 0) 10) f h e with
      | false=>
       left;rw [hc]at q2;rw [hsc,hc]at w2;refine⟨w,w1,w2,?_⟩;rw [q2];rfl
      | true=>
       right;refine⟨f,h,e,num (blk bl 0) 8,num (blk bl 0) 10,top,⟨hd,hw,hsd,ho,ht,hf,hh,he,he2⟩,hc,?_,?_⟩
       .rw [w1,w3 (by rw [hsc];exact hc)]
       .rw [q3 hc];rfl
  .left;have hlen:0 < (wts bl).length:=List.length_pos_iff.2 hw;unfold Do Di cK cZ gX wI;rw [HV hn,hd,Aj1,Aj6 Z,Gd on hd hu,Aj1,Aj1,Jl hn,hd,Aj1,Aj6 Z,Lv on hd hu,Aj1,Aj1];dsimp only;rw [decide_eq_true (show(0:Int) < (((wts bl).length:Nat):Int) by omega),Aj7 rfl,Aj7 rfl];exact⟨_,rfl,rfl,rfl⟩
end Go.V.G
set_option maxRecDepth 100000
namespace Go.V.G
open Go.V
theorem Aea {n:Nat} {l:Int} (h:¬ lft l n < 0):(n:Int)<=l:=by
 unfold lft at h;split at h
 .assumption
 .exact absurd O h
theorem AhZ {n:Int} (h:Ls (.int .u8) n):0<=n/\n<=255:=by
 have h2:(Lit.int .u8 n).wf=true:=h;simp [Lit.wf,IntKind.min,IntKind.max,IntKind.bits,IntKind.signed]at h2;omega
theorem Sto.rs {bl:Bls} {wr lf:Int} {f h e:Nat} {R T:Int} {top:List Int} (S:Sto bl wr lf f h e R T top) (hu:∀c∈bl,U8s c):RS bl (opB bl) []:=by
 obtain ⟨hb,hk⟩:=J0 S.gd;have hog:gsp bl (opB bl) [] []=true:=by have:=S.op;unfold opG at this;rw [Aj8]at this;exact this.1
 exact(P4 hog).rs (Sw O O) hu
theorem pcn_mem {P:List Int} {n:Nat} {v:Int}:v∈pcn P n↔∃k:Nat,k < n/\v=(k:Int)/\(k:Int)∈P:=by
 unfold pcn;simp only [Ako,AlL,AlD,decide_eq_true_eq,List.count_pos_iff];constructor
 .rintro ⟨k,⟨h1,h2⟩,rfl⟩;exact⟨k,h1,rfl,h2⟩
 .rintro ⟨k,h1,rfl,h2⟩;exact⟨k,⟨h1,h2⟩,rfl⟩
theorem Adq {bl:Bls} {wr lf:Int} {f h e:Nat} {R T:Int} {top:List Int} (S:Sto bl wr lf f h e R T top) (hu:∀c∈bl,U8s c) (hc:iC bl (opB bl) top R T f h e=true) :
  srt (aC6 bl (opB bl) top R T f h e++pcn (aP6 bl (opB bl) top T f h e) bl.length)=usd (opB bl) (bl.length - 33):=by
 have g:=S.rs hu;have hn:=g.hn;have hsc:sC bl (opB bl) top R T f h e=true:=(AfH g S.tr S.hf S.hh).trans hc;have hP:=AfB (b:=bl) (x:=opB bl) (top:=top) (T:=T) (f:=f) (h:=h) (e:=e);have hC:=AdP (T:=T) (f:=f) (h:=h) (e:=e) S.tr;obtain ⟨l1,l2,l3,l4,l5,l6,l7,l8⟩:=WY (b:=bl) (x:=opB bl) (top:=top) (R:=R) (T:=T) (f:=f) (h:=h) (e:=e) (G4 S.tr) S.hh;have hpl:=AaJ (aP6 bl (opB bl) top T f h e) bl.length;unfold sC at hsc;simp only [Aj8]at hsc;obtain ⟨_,_,_,_,_,k6,_⟩:=hsc;unfold aS at k6;rw [AcE hP]at k6;obtain ⟨o1,_,o3⟩:=IU (l:=aC6 bl (opB bl) top R T f h e++pcn (aP6 bl (opB bl) top T f h e) bl.length) (by rw [Aj9];omega);refine Tf o1 (ris_iff.2 (Nh _ _)) λv=>?_
 rw [o3,Aka,usd_mem];constructor
 .intro q;have hl:liv bl (opB bl) [] v=true:=by
   rcases q with q | q
   .exact hC v q
   .obtain ⟨k,_,rfl,w⟩:=pcn_mem.1 q;exact Z1 (hP _ w)
  obtain ⟨m,rfl,h1,h2,h3,_⟩:=Cd hl;exact⟨m,h1,O,h3,rfl⟩
 .rintro ⟨k,h1,h2,h3,rfl⟩;exact((k6.2 k h1 O).1 h3).imp id λw=>pcn_mem.2 ⟨k,O,rfl,w⟩
def fre (x:List Int) (n:Nat):List Int:=(((List.range n).map (33 + ·)).filter λk=>!bit x k).map λk=>((k:Nat):Int)
theorem Xi (x:List Int) (n:Nat):fre x (n+1)=fre x n++(if bit x (33+n)=true then []else [((33+n:Nat):Int)]):=by
 unfold fre;rw [AlF,AkJ,Alr,AkJ];by_cases h:bit x (33+n)=true <;> simp [h]
theorem T6 (x:List Int) (n:Nat):(fre x n).length<=n:=by
 unfold fre;rw [Aky];exact AkE (Alg _ _) Z
theorem AiA {bl:Bls} {x:List Int} (h1:40<=bl.length) (h2:bl.length<=160) (hx:x.length=20) {wr lf a b c d e g:Int} {on:Bool} {bl2:Bls} {y z:List Int} {ks:List Kv} {t:List UInt8} {r:List Rn} {cs:List (List Prt)} {u:List Int} :
  Ab GI ([],33,bl,wr,on,lf,a,b,c,d,e,bl2,x,y,z,ks,g,t,r,cs,u)=some (fre x (bl.length - 33),a,b,c,d,e,bl2,x,y,z,ks,g,t,r,cs,u):=by
 refine Am GI (λk=>(fre x k,((33+k:Nat):Int),bl,wr,on,lf,a,b,c,d,e,bl2,x,y,z,ks,g,t,r,cs,u)) (bl.length - 33) _ (λk hk=>?_) ?_
 .have hfl:=T6 x k;unfold GI cK wI;dsimp only;rw [iy O,Ik O O,Aj1,Xi];by_cases hb:bit x (33+k)=true
  .rw [hb,Aj6 (show ¬ ((!true)=true) by simp),Aj7 rfl,Aki,Aj1];dsimp only;rw [Ak O];rfl
  .have hb':bit x (33+k)=false:=by simpa using hb
   rw [hb',Aj7 (show(!false)=true from rfl),Aj6 (show ¬ (false=true) by simp),Aj7 (by simp only [Aa,decide_eq_true_eq,Ake];omega),Aj1];dsimp only;rw [Ak O];rfl
 .unfold GI cK wI;dsimp only;rw [ino O]
theorem Abg {bits:List Int} {k:Nat} (h:k<=1048576) (hk:k / 8 < bits.length) {bl b2:Bls} {wr lf a b c d e:Int} {on:Bool} {y z:List Int} {q:Int×(List Int×(Bls×(Int×(List UInt8×(List Rn×List (List Prt))))))} :
  GZ (bl,wr,on,lf,a,b,c,d,e,b2,bits,y,z,q) (k:Int)=some (bit bits k):=by
 unfold GZ bit cK cZ gX wI wB;dsimp only;rw [dv8 h,md8,Aj7 Z,Aj7 AjY,Aj4,Aj3 hk,Aj1,Aj7 Z,Aj7 AjY];rfl
theorem AiE {bl:Bls} {x:List Int} (h1:40<=bl.length) (h2:bl.length<=160) (hx:x.length=20) {wr lf a b c d e wr2 lf2:Int} {on on2:Bool} {bl1 bl2:Bls} {y z:List Int} {q:Int×(List Int×(Bls×(Int×(List UInt8×(List Rn×List (List Prt))))))} :
  Ab Gw (some (bl1,wr2,on2,lf2,a,b,c,d,e,bl2,x,y,z,q),[],33,bl,wr,on,lf)=some (some (bl1,wr2,on2,lf2,a,b,c,d,e,bl2,x,y,z,q),fre x (bl.length - 33)):=by
 refine Am Gw (λk=>(some (bl1,wr2,on2,lf2,a,b,c,d,e,bl2,x,y,z,q),fre x k,((33+k:Nat):Int),bl,wr,on,lf)) (bl.length - 33) _ (λk hk=>?_) ?_
 .have hfl:=T6 x k;unfold Gw cK wI;dsimp only;rw [iy O,Aj1,Abg O O,Aj1,Xi];by_cases hb:bit x (33+k)=true
  .rw [hb,Aj6 (show ¬ ((!true)=true) by simp),Aj7 rfl,Aki,Aj1];dsimp only;rw [Ak O];rfl
  .have hb':bit x (33+k)=false:=by simpa using hb
   rw [hb',Aj7 (show(!false)=true from rfl),Aj6 (show ¬ (false=true) by simp),Aj7 (by simp only [Aa,decide_eq_true_eq,Ake];omega),Aj1];dsimp only;rw [Ak O];rfl
 .unfold Gw cK wI;dsimp only;rw [ino O]
theorem Aa0 {bl:Bls} {wr lf:Int} (on:Bool) (hn:bl.length<=1048576) (hu:∀c∈bl,U8s c):∃r:List Int×(List Int×Bool),r.1.length<=1000/\r.2.1.length<=1000/\JZ bl wr on lf=some r/\Ig bl wr on lf=some r:=by
 rcases Acf (bl:=bl) (wr:=wr) (lf:=lf) on O hu with⟨w,w1,w2,w3⟩ | ⟨f,h,e,R,T,top,S,hc,w1,w2⟩
 .refine⟨([],[],false),Z,Z,?_,?_⟩
  .unfold JZ;rw [w1,Aj1];obtain ⟨a,w⟩:=w;dsimp only at w2;subst w2;dsimp only;rw [Aj7 Z]
  .unfold Ig;rw [w3,Aj1];dsimp only;rw [Aj7 Z]
 .have g:=S.rs hu;have hbl:=g.hn;have hul:=AaO (opB bl) (bl.length - 33);have hfl:=T6 (opB bl) (bl.length - 33);refine⟨(usd (opB bl) (bl.length - 33),fre (opB bl) (bl.length - 33),true),Aj0,Aj0,?_,?_⟩
  .unfold JZ;rw [w1,Aj1];dsimp only;rw [Aj6 Z,AiA hbl.1 hbl.2 g.hx,Aj1,Adq S hu hc]
  .unfold Ig;rw [w2,Aj1];dsimp only;rw [Aj6 Z,AiE hbl.1 hbl.2 g.hx,Aj1];dsimp only;rw [Aj1,Yb g,Aj1]
end Go.V.G
set_option maxRecDepth 100000
namespace Go.V.G
open Go.V
theorem Vv {b:Bls} (f2:Kg b) (hu:∀c∈b,U8s c) (wr:Int) (on:Bool) (lf:Int):DZ b wr on lf=some true:=by
 unfold DZ;rw [Agw f2 O O,Aj1];by_cases hs:lft 1048576 (BM b) < 0
 .rw [Aj7 (by simpa using hs)]
 rw [Aj6 (by simpa using hs)];have hw:=Aea hs;have hbl:=IP b;have htd:Gu b wr on lf=some (b,wr,on,lf):=Agr O;have hed:KQ b wr on lf b wr on lf=some true:=Agu O;have hmd:GE b wr on lf 1=_:=AdC O O O;obtain ⟨⟨u,v,k⟩,l1,l2,r1,r2⟩:=Aa0 (bl:=b) (wr:=wr) (lf:=lf) on O hu;dsimp only at l1 l2;have hk:(k != k)=false:=by cases k <;> rfl
 have e1:DY u u=some true:=Aan (by unfold J1;omega);have e2:DY v v=some true:=Aan (by unfold J1;omega);have c1:=Td u;have c2:=Td v;have m1:D0 u 1=_:=Uz O O O;have m2:D0 v (1+(AG Cr u:Int))=_:=Uz O O O;have h1:DN (mks JO Cr u 1) 1=_:=UN O O O;have h2:DN (mks JO Cr v (1+(AG Cr u:Int))) (1+(AG Cr u:Int))=_:=UN O O O;have n0:¬ ((1:Int)+(AG Et b:Int) < 0):=O
 have n1:¬ ((1:Int)+(AG Cr u:Int) < 0):=O
 have n2:¬ ((1:Int)+(AG Cr u:Int)+(AG Cr v:Int) < 0):=O
 simp only [htd,r1,r2,hed,hmd,hk,e1,e2,m1,m2,h1,h2,n0,n1,n2,Aj1,AkT,Akh,AkI,not_true_eq_false,decide_false]
end Go.V.G
namespace Go.Proofs.YtofhefmbioblbaaGreat
open Go.V
theorem OI {e1 e2:TypeId} (x0:List (List Int)) (x1:Int) (x2:Bool) (x3:Int)
  (g0:∀l∈([⟨.sl false e1 (.sl false e2 (.int .u8)),x0⟩,⟨.int .i64,x1⟩,⟨.bool,x2⟩,⟨.int .i64,x3⟩]:List Ae),Ls l.1 l.2):G.DZ x0 x1 x2 x3=some true:=by
 have h1:=g0 ⟨.sl false e1 (.sl false e2 (.int .u8)),x0⟩ Z;exact G.Vv ⟨h1.1,λx hx=>(h1.2 x hx).1⟩ (λx hx y hy=>G.AhZ ((h1.2 x hx).2 y hy)) x1 x2 x3
end Go.Proofs.YtofhefmbioblbaaGreat
namespace Go.V
structure Rs where
 s:Nat
 h:Nat
 k:Nat
 o:List (Nat×Nat)
abbrev Rd (α:Type):=Rs->α×Rs
def rn:Nat->Rd Nat
 | 0,q=>(0,q)
 | f+1,⟨s,h,k,o⟩=>bif Nat.blt (s % 16) 8 then(s % 16,⟨s / 16,h,k,o⟩)else match rn f ⟨s / 16,h,k,o⟩with
  | (r,q)=>(s % 16 - 8+8 * r,q)
def rnb:Rd Nat:=rn 9
def nib:Rd Nat
 | ⟨s,h,k,o⟩=>(s % 16,⟨s / 16,h,k,o⟩)
def rl {α:Type} (p:Rd α):Nat->Rd (List α)
 | 0,q=>([],q)
 | n+1,q=>match p q with
  | (a,q)=>match rl p n q with
   | (l,q)=>(a::l,q)
def rls {α:Type} (p:Rd α):Rd (List α):=λq=>match rnb q with
 | (n,q)=>rl p n q
def r2 {α:Type} (c:Nat->Nat->α):Rd α:=λq=>match rnb q with
 | (a,q)=>match rnb q with
  | (b,q)=>(c a b,q)
def r1 {α:Type} (c:Nat->α):Rd α:=λq=>match rnb q with
 | (a,q)=>(c a,q)
def rTL (b:Nat):Rd TL:=λq=>match nib q with
 | (0,⟨s,h,k,o⟩)=>(.h h,⟨s,h+1,k,o⟩)
 | (1,⟨s,h,k,o⟩)=>(.vw (k+1),⟨s,h+1,k+1,(k+1,h)::o⟩)
 | (2,q)=>r1 (λa=>.vw (b+a)) q
 | (3,q)=>match rnb q with
  | (a,⟨s,h,k,o⟩)=>(.vw (b+a),⟨s,h+1,b+a,(b+a,h)::o⟩)
 | (4,q)=>(.nil,q)
 | (5,q)=>(.no,q)
 | (6,q)=>r1 .h q
 | (7,q)=>(.np,q)
 | (8,q)=>r2 .p q
 | (9,q)=>match rnb q with
  | (a,q)=>r2 (λi j=>.vs (b+a) i j) q
 | (10,q)=>match rnb q with
  | (a,q)=>r2 (λi j=>.ww (b+a) i j) q
 | (11,q)=>match rnb q with
  | (a,q)=>match rnb q with
   | (i,q)=>match rnb q with
    | (f,q)=>r2 (λx y=>.vq (b+a) i f x y) q
 | (12,q)=>r1 .mh q
 | (13,⟨s,h,k,o⟩)=>(.md h,⟨s,h+1,k,o⟩)
 | (14,q)=>r1 .md q
 | (_,q)=>(.no,q)
def rTS (b:Nat):Rd TS:=λq=>match nib q with
 | (0,⟨s,h,k,o⟩)=>(.one (.h h),⟨s,h+1,k,o⟩)
 | (1,⟨s,h,k,o⟩)=>(.one (.vw (k+1)),⟨s,h+1,k+1,(k+1,h)::o⟩)
 | (2,q)=>r2 .pl q
 | (3,q)=>match rTL b q with
  | (l,q)=>(.one l,q)
 | (4,q)=>match rls (rTL b) q with
  | (l,q)=>(.ag l,q)
 | (5,q)=>match rnb q with
  | (a,⟨s,h,k,o⟩)=>(.rp h a,⟨s,h+1,k,o⟩)
 | (6,q)=>match rnb q with
  | (f,q)=>match rls (r2 Prod.mk) q with
   | (l,q)=>(.fv f l,q)
 | (7,q)=>r2 .rp q
 | (_,q)=>(.one .nil,q)
def rT (qs:List Ty):Rd Ty:=r1 λi=>qs.getD i .unit
def rPl (qs:List Ty):Rd Pl:=λq=>match nib q with
 | (0,q)=>r1 .sl q
 | (1,q)=>r2 .ag q
 | (2,q)=>r2 .mc q
 | (_,q)=>match rnb q with
  | (i,q)=>match rls (rT qs) q with
   | (l,q)=>(.pt i l,q)
def rSl (b:Nat):Nat->Nat->Rd (List (Nat×TS))
 | 0,_,q=>([],q)
 | n+1,i,q=>match rnb q with
  | (d,q)=>match rTS b q with
   | (t,q)=>match rSl b n (i+d+1) q with
    | (l,q)=>((i+d,t)::l,q)
def AjU (b:Nat):Rd (Nat×List TL):=λq=>match rnb q with
 | (k,q)=>match rls (rTL b) q with
  | (l,q)=>((k,l),q)
def Afx (qs:List Ty) (b:Nat):Rd Tpl:=λ⟨s,_,k,_⟩=>match nib ⟨s,0,k,[]⟩with
 | (e,q)=>match rls (rT qs) q with
  | (ho,q)=>match rnb q with
   | (n,q)=>match rSl b n 0 q with
    | (sl,q)=>match (bif Nat.testBit e 0 then rls (AjU b) q else([],q))with
     | (me,q)=>match (bif Nat.testBit e 1 then rls (r2 λx y=>(b+x,y)) q else(q.o.reverse,q))with
      | (ow,q)=>match (bif Nat.testBit e 2 then rls (rPl qs) q else([],q))with
       | (nw,q)=>match (bif Nat.testBit e 3 then rls (rPl qs) q else([],q))with
        | (fz,q)=>(⟨ho,sl,me,ow,nw,fz⟩,q)
def rEx:Rd Ex:=λq=>match rnb q with
 | (0,q)=>(.n,q)
 | (1,q)=>(.r,q)
 | (n+2,q)=>(.x n,q)
def rJ (qs:List Ty) (b:Nat):Rd Joins:=rls λq=>match rEx q with
 | (e,q)=>match Afx qs b q with
  | (t,q)=>((e,t),q)
def F5 (qs:List Ty) (b:Nat):Nat->Rd Ann
 | 0,q=>(.nil,q)
 | f+1,q=>match nib q with
  | (1,q)=>match F5 qs b f q with
   | (x,q)=>match F5 qs b f q with
    | (y,q)=>(.seq x y,q)
  | (2,q)=>match rJ qs b q with
   | (J,q)=>match F5 qs b f q with
    | (x,q)=>match F5 qs b f q with
     | (y,q)=>(.cond J x y,q)
  | (3,q)=>match rJ qs b q with
   | (J,q)=>match F5 qs b f q with
    | (x,q)=>(.block J x,q)
  | (4,q)=>match Afx qs b q with
   | (t,q)=>match rJ qs b q with
    | (J,q)=>match F5 qs b f q with
     | (x,q)=>(.loop t J x,q)
  | (5,q)=>match rJ qs b q with
   | (J,q)=>(.reg J,q)
  | (6,q)=>match rJ qs b q with
   | (J,q)=>match F5 qs b f q with
    | (r,q)=>match F5 qs b f q with
     | (x,q)=>match F5 qs b f q with
      | (y,q)=>match F5 qs b f q with
       | (z,q)=>match F5 qs b f q with
        | (w,q)=>(.both J r x y z w,q)
  | (7,q)=>match Afx qs b q with
   | (t,q)=>match F5 qs b f q with
    | (x,q)=>(.mloop t x,q)
  | (8,q)=>match F5 qs b f q with
   | (x,q)=>(.seq .nil x,q)
  | (9,q)=>match F5 qs b f q with
   | (x,q)=>(.seq x .nil,q)
  | (10,q)=>match F5 qs b f q with
   | (x,q)=>(.seq .nil (.seq .nil x),q)
  | (11,q)=>match F5 qs b f q with
   | (x,q)=>(.seq (.seq .nil x) .nil,q)
  | (12,q)=>match rJ qs b q with
   | (J,q)=>(.cond J .nil .nil,q)
  | (13,q)=>match F5 qs b f q with
   | (x,q)=>(.block [] x,q)
  | (_,q)=>(.nil,q)
def Abm (qs:List Ty) (c:Nat):Joins×Ann:=match rnb ⟨c,0,0,[]⟩with
 | (b,⟨s,_,_,_⟩)=>match rJ qs b ⟨s,0,b - 1,[]⟩with
  | (J,q)=>match F5 qs b 400 q with
   | (a,_)=>(J,a)
structure Kp (P:Program) where
 k:Kn
 ok:Jk P k
def Kp.l {P:Program}:List (Kp P)->List Kn
 | []=>[]
 | a::l=>a.k::Kp.l l
theorem Kp.all {P:Program}:∀l:List (Kp P),∀k∈Kp.l l,Jk P k
 | [],_,h=>by cases h
 | a::l,k,h=>by
  rcases Akk.1 h with rfl | h
  .exact a.ok
  .exact Kp.all l k h
end Go.V