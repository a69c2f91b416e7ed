import Derived.Test.YtofhefmbioblbaaGreatQOsA
import Derived.Test.YtofhefmbioblbaaGreatQOsC
import Derived.Test.YtofhefmbioblbaaGreatQOsF
import Derived.Test.YtofhefmbioblbaaGreatQOsG
set_option linter.unusedVariables false
set_option linter.unusedSimpArgs false
set_option maxRecDepth 100000
namespace Go.V.G
open Go.V
section defs
variable (b:Bls) (x top:List Int) (R T:Int) (f h e:Nat)
noncomputable def aC1:List Int:=srt (pgl top R)
noncomputable def aC2:List Int:=aC1 top R++tcl b x [] T
def aP2:List Int:=tpc b x [] T
noncomputable def aC3:List Int:=aC2 b x top R T++rkc b x [] top 448
noncomputable def aC4:List Int:=aC3 b x top R T++Co b x [] top f (h - f)
noncomputable def aC5:List Int:=aC4 b x top R T f h++upc b x [] top (sts f h)
noncomputable def aC6:List Int:=aC5 b x top R T f h++ckc b x [] top (cks f h e)
def aP6:List Int:=aP2 b x T++ckp b x [] top (cks f h e)
def af3:Bool:=(tok b x [] T && rko b x [] top 448) && (rdR (rkd b x [] top 448)).2
def af4:Bool:=af3 b x top T && loo b x [] top f (h - f)
def af5:Bool:=af4 b x top T f h && upo b x [] top (sts f h)
def af6:Bool:=af5 b x top T f h && cko b x [] top (cks f h e)
def aT:List UInt8:=ttx b x [] T
def aR:List Rn:=(rdR (rkd b x [] top 448)).1
def aL:List (List Prt):=chC (lod b x [] top f (h - f))
noncomputable def aG:Bool:=FO (f:Int) (aT b x T) (aR b x top) (aL b x top f h)
def aU:Bool:=(sts f h).all (upe b x [] top (f:Int) (aT b x T) (aL b x top f h))
def aK:Bool:=(cks f h e).all (cke b x [] top f (aT b x T) (aL b x top f h))
noncomputable def aS:Bool:=(List.range b.length).all (stB b x (aC6 b x top R T f h e) (aP6 b x top T f h e))
noncomputable def sC:Bool:=kok b top f h e && (okb (af4 b x top T f h) (aC4 b x top R T f h) && (aG b x top T f h && (aU b x top T f h && (aK b x top T f h e && (aS b x top R T f h e && okb (af6 b x top T f h e) (aC6 b x top R T f h e))))))
end defs
theorem AcN {b:Bls} {x top:List Int} {R T:Int} {f h e:Nat} (ht:top.length=32) (hh:h<=60):(aC1 top R).length<=33/\(aC2 b x top R T).length<=34/\(aC3 b x top R T).length<=44/\(aC4 b x top R T f h).length<=644/\(aC5 b x top R T f h).length<=4244/\(aC6 b x top R T f h e).length<=4304/\(aP2 b x T).length<=3/\(aP6 b x top T f h e).length<=183:=by
 have h1:=Aa3 (root:=R) ht;have h2:=(J5 (l:=pgl top R) O).2.1;have h3:=S8 b x [] T;have h4:=(HJ b x [] top 448).1;have h5:=T5 b x [] top f (h - f);have h6:=Z9 b x [] top (sts f h);have h7:=Il (f:=f) hh;have h8:=Qq b x [] top (cks f h e);have h9:=Nn (f:=f) (e:=e) hh;unfold aC6 aC5 aC4 aC3 aC2 aC1 aP6 aP2;simp only [AkJ];omega
theorem AfU {fn c:Bool} {l:List Int}:(if okb fn l=true then c else false)=okb (fn && c) l:=by
 unfold okb;cases fn <;> cases c <;> cases ndb l <;> rfl
theorem Y0 {b:Bls} {x y top:List Int} {f j:Nat}:∀{n:Nat},j<=n->loo b x y top f n=true->loo b x y top f j=true
 | 0,h,q=>by rw [(O:j=0)];exact q
 | n+1,h,q=>by
  by_cases hj:j=n+1
  .rw [hj];exact q
  .rw [Wv,AkI]at q;exact Y0 O q.1
theorem Aa6 {b:Bls} {x y top:List Int} {f j:Nat}:∀{n:Nat},j<=n->∃r,Co b x y top f n=Co b x y top f j++r
 | 0,h=>⟨[],by rw [(O:j=0)];simp⟩
 | n+1,h=>by
  by_cases hj:j=n+1
  .exact⟨[],by rw [hj];simp⟩
  .obtain ⟨r,hr⟩:=Aa6 (b:=b) (x:=x) (y:=y) (top:=top) (f:=f) (j:=j) (n:=n) O;exact⟨r++rkc b x y top (f+n),by rw [RZ,hr,AkN]⟩
theorem AeC {b:Bls} {x top:List Int} {R T:Int} {f h j:Nat} (q:okb (af3 b x top T && loo b x [] top f j) (aC3 b x top R T++Co b x [] top f j)=false) (hj:j<=h - f):okb (af4 b x top T f h) (aC4 b x top R T f h)=false:=by
 cases hh:okb (af4 b x top T f h) (aC4 b x top R T f h)with
 | false=>rfl
 | true=>
  exfalso;unfold okb af4 aC4 ndb at *;simp only [AkI,decide_eq_true_eq]at hh;obtain ⟨⟨h1,h2⟩,h3⟩:=hh;obtain ⟨r,hr⟩:=Aa6 (b:=b) (x:=x) (y:=[]) (top:=top) (f:=f) hj;rw [hr,<- AkN,AkX]at h3;rw [h1,Y0 hj h2,decide_eq_true h3.1]at q;cases q
theorem AfK {bl:Bls} {wr lf:Int} (on:Bool) {f h e:Nat} {R T:Int} {top:List Int} (hn:bl.length<=1048576) (hd:gd bl wr lf=true) (hu:∀c∈bl,U8s c) (hw:wts bl=[])
  (hs:MI (blk bl 0)=(true,(f:Int),(h:Int),(e:Int),R,T)) (ho:opG bl=true) (ht:tre bl (opB bl) [] R=some top) (hf:f<=h) (hh:h<=60) (he:0 < e) (he2:e<=30) :
  ∃q,Dw bl wr on lf=some q/\q.1=sC bl (opB bl) top R T f h e/\(sC bl (opB bl) top R T f h e=true->
   q=(true,(f:Int),(h:Int),(e:Int),R,T,bl,opB bl,[],[],ksT bl top 1024,(f:Int),aT bl (opB bl) T,aR bl (opB bl) top,aL bl (opB bl) top f h,srt (aC6 bl (opB bl) top R T f h e++pcn (aP6 bl (opB bl) top T f h e) bl.length))):=by
 obtain ⟨hb,hk⟩:=IA hd;have sb:=SR (bl:=bl) O O;have hog:gsp bl (opB bl) [] []=true:=by unfold opG at ho;rw [AkI]at ho;exact ho.1
 have g:=(Qx hog).rs sb hu;have htl:=In ht;obtain ⟨l1,l2,l3,l4,l5,l6,l7,l8⟩:=AcN (b:=bl) (x:=opB bl) (top:=top) (R:=R) (T:=T) (f:=f) (h:=h) (e:=e) htl hh;have hkl:=Qv bl top 1024;obtain ⟨w1,w2,w3⟩:=AdS (f:=f) (e:=e) hh;unfold Dw cK cZ gX wI;rw [Fv hn,hd,AkB,AkG Z,D4 on hd hu,hw,AkB,AkB];dsimp only;rw [AkG Z,iy O,show Int.toNat 0=0 from rfl,Bu (O:0 < bl.length),AkB,IG (hu _ (BF O)),hs,AkB];dsimp only;rw [G8 on hd hu,AkB];unfold opD;rw [AkH ho];dsimp only;rw [AkB];dsimp only;rw [AkG Z,AkG Z,HZ sb hu,hog,ht,AkB,AkB];dsimp only;rw [AkG Z,Adv sb hog hu ht,AkB,AeS sb hu hog ht,AkB,ZS hf hh he he2,AkB];dsimp only;unfold sC;have hkok:kok bl top f h e=decide ((ksT bl top 1024).map (·.1)=wnt f h e):=rfl;by_cases hlen:(ksT bl top 1024).length=(wnt f h e).length
 .rw [ino (O:¬ ¬ (((ksT bl top 1024).length:Nat):Int)=(((wnt f h e).length:Nat):Int)),Ajk hlen O,AkB];by_cases hkq:(ksT bl top 1024).map (·.1)=wnt f h e
  .rw [AkH hkq];rw [hkok,decide_eq_true hkq,AkS];dsimp only;rw [iy O,iy O,AkH (by simp only [Aa,decide_eq_true_eq,AkE];omega),AkE];have em:List.replicate bl.length (0:Int)=mny bl.length []:=by
    refine Alz λi=>?_
    by_cases hi:i < bl.length
    .rw [Qa _ hi,List.getElem?_replicate_of_lt hi];simp
    .rw [Ak2 Aky,Ak2 (by rw [JC];omega)]
   have ea:=Tk (l:=srt (pgl top R)) (C:=[]) (by have:(srt (pgl top R)).length<=33:=l1;simp only [Alc];omega) true bl (opB bl) [] [] [] (mny bl.length []);rw [Ala]at ea;rw [em,show BZ (srt (pgl top R)) bl (opB bl) [] [] [] [] (mny bl.length []) true=_ from ea,AkB];dsimp only;rw [show okb true (srt (pgl top R))=okb true (aC1 top R) from rfl,show srt (srt (pgl top R))=srt (aC1 top R) from rfl,AhH g T O Z true [],AkB];dsimp only;rw [Ala,AkS,show aC1 top R++tcl bl (opB bl) [] T=aC2 bl (opB bl) top R T from rfl,show tpc bl (opB bl) [] T=aP2 bl (opB bl) T from rfl];have hg448:=AbL (b:=bl) (top:=top) (f:Int) (h:Int) (e:Int) R T bl (opB bl) [] [] 0 [] [] [] [] (k:=448) O;have hr448:=PY (z:=[]) (top:=top) sb g (C:=aC2 bl (opB bl) top R T) O (k:=448) (tok bl (opB bl) [] T) [] (mny bl.length (aP2 bl (opB bl) T));have hlk:=HJ bl (opB bl) [] top 448;rw [show DS (f:Int) (h:Int) (e:Int) R T bl (opB bl) [] [] (ksT bl top 1024) 0 [] [] [] [] 448=_ from hg448,AkB,hr448,AkB];dsimp only;rw [Aji (KO g top 448) O,AkB,show aC2 bl (opB bl) top R T++rkc bl (opB bl) [] top 448=aC3 bl (opB bl) top R T from rfl];have eif:∀{α:Type} (F:Bool->Option α),(if okb (tok bl (opB bl) [] T && rko bl (opB bl) [] top 448) (aC3 bl (opB bl) top R T)=true then F (rdR (rkd bl (opB bl) [] top 448)).2 else F false)=F (okb (af3 bl (opB bl) top T) (aC3 bl (opB bl) top R T)):=by
    intro α F;have:=AfU (fn:=tok bl (opB bl) [] T && rko bl (opB bl) [] top 448) (c:=(rdR (rkd bl (opB bl) [] top 448)).2) (l:=aC3 bl (opB bl) top R T);unfold af3;rw [<- this];split <;> rfl
   rw [eif (λw=>some (0,0,0,0,0,0,[],(f:Int),(h:Int),(e:Int),R,T,bl,opB bl,[],[],(f:Int),(h:Int),(e:Int),R,T,bl,opB bl,[],[],ksT bl top 1024,0,[],(f:Int),ttx bl (opB bl) [] T,(rdR (rkd bl (opB bl) [] top 448)).1,bl,opB bl,[],[],[],srt (aC3 bl (opB bl) top R T),mny bl.length (aP2 bl (opB bl) T),w)),AkB];dsimp only;obtain ⟨j,j1,j2,j3⟩:=Ai7 (E:=(e:Int)) (R:=R) (T:=T) (top:=top) sb g hf hh (C:=aC3 bl (opB bl) top R T) (rs:=[]) (m:=mny bl.length (aP2 bl (opB bl) T)) O (af3 bl (opB bl) top T) (ttx bl (opB bl) [] T) (rdR (rkd bl (opB bl) [] top 448)).1;rw [j3,AkB];dsimp only;by_cases hok:okb (af3 bl (opB bl) top T && loo bl (opB bl) [] top f j) (aC3 bl (opB bl) top R T++Co bl (opB bl) [] top f j)=true
   .have hj:j=h - f:=by
         rcases j2 with q | q
         .exact q
         .rw [hok]at q;cases q
    subst hj;have hok4:okb (af4 bl (opB bl) top T f h) (aC4 bl (opB bl) top R T f h)=true:=hok;rw [hok,AkG Z,hok4,AkS];have hcl:(chC (lod bl (opB bl) [] top f (h - f))).length=h - f:=by unfold chC lod;simp
    have hHB:HB (ttx bl (opB bl) [] T) (rdR (rkd bl (opB bl) [] top 448)).1 (chC (lod bl (opB bl) [] top f (h - f))):=by
     have:=AaC (rkd bl (opB bl) [] top 448);have:=S8 bl (opB bl) [] T;refine⟨O,O,O,λc hc=>?_⟩;obtain ⟨x',_,rfl⟩:=AkY.1 hc;exact(RQ x').mono O
    rw [Ru hHB,AkB,AkB];dsimp only;have hG:aG bl (opB bl) top T f h=FO (f:Int) (ttx bl (opB bl) [] T) (rdR (rkd bl (opB bl) [] top 448)).1 (chC (lod bl (opB bl) [] top f (h - f))):=rfl;rw [<- hG];cases hgh:aG bl (opB bl) top T f h with
    | false=>
     rw [AkH Z];exact⟨_,rfl,rfl,λq=>by simp at q⟩
    | true=>
     rw [hgh]at hG;have gh:=goodH_iff.1 hG.symm;rw [AkG Z,ZA gh (h:=h) O hh,AkB,N6 hh,AkB,AkS];have e4:aC3 bl (opB bl) top R T++Co bl (opB bl) [] top f (h - f)=aC4 bl (opB bl) top R T f h:=rfl;have e4':(af3 bl (opB bl) top T && loo bl (opB bl) [] top f (h - f))=af4 bl (opB bl) top T f h:=rfl;have r3:=Ajm (E:=(e:Int)) (R:=R) (T:=T) (top:=top) sb g gh (hd:=h) O hh (C:=aC4 bl (opB bl) top R T f h) (rs:=[]) (m:=mny bl.length (aP2 bl (opB bl) T)) O (af4 bl (opB bl) top T f h);rw [hok4]at r3;rw [e4];rcases r3 with⟨u1,u2⟩ | ⟨u1,u2⟩
     .have hU:aU bl (opB bl) top T f h=true:=u1;rw [u2,AkB,hU,AkS];dsimp only;have r4:=AjD (R:=R) (T:=T) (top:=top) (z:=[]) g gh (hd:=h) (e:=e) O hh he (C:=aC5 bl (opB bl) top R T f h) (P:=aP2 bl (opB bl) T) (rs:=[]) O O (af5 bl (opB bl) top T f h);rw [Ak O];rcases r4 with⟨v1,v2⟩ | ⟨v1,v2⟩
      .have hK:aK bl (opB bl) top T f h e=true:=v1;rw [show aC4 bl (opB bl) top R T f h++upc bl (opB bl) [] top (sts f h)=aC5 bl (opB bl) top R T f h from rfl,show(af4 bl (opB bl) top T f h && upo bl (opB bl) [] top (sts f h))=af5 bl (opB bl) top T f h from rfl,v2,AkB,hK,AkS];dsimp only;have r5:=Ai8 (R:=R) (T:=T) (z:=[]) g (f:=f) (hd:=h) (e:=e) (t:=ttx bl (opB bl) [] T) (r:=(rdR (rkd bl (opB bl) [] top 448)).1) (cs:=chC (lod bl (opB bl) [] top f (h - f))) (ks:=ksT bl top 1024) (C:=aC6 bl (opB bl) top R T f h e) (P:=aP6 bl (opB bl) top T f h e) (rs:=[]) O O (okb (af6 bl (opB bl) top T f h e) (aC6 bl (opB bl) top R T f h e));rw [JC,show aC5 bl (opB bl) top R T f h++ckc bl (opB bl) [] top (cks f h e)=aC6 bl (opB bl) top R T f h e from rfl,show(af5 bl (opB bl) top T f h && cko bl (opB bl) [] top (cks f h e))=af6 bl (opB bl) top T f h e from rfl,show aP2 bl (opB bl) T++ckp bl (opB bl) [] top (cks f h e)=aP6 bl (opB bl) top T f h e from rfl];rcases r5 with⟨t1,t2⟩ | ⟨t1,t2⟩
       .have hS:aS bl (opB bl) top R T f h e=true:=t1;rw [t2,AkB,hS,AkS];exact⟨_,rfl,rfl,λq=>by rw [q];rfl⟩
       .have hS:aS bl (opB bl) top R T f h e=false:=t1;rw [t2,AkB,hS];exact⟨_,rfl,rfl,λq=>by simp at q⟩
      .have hK:aK bl (opB bl) top T f h e=false:=v1;rw [show aC4 bl (opB bl) top R T f h++upc bl (opB bl) [] top (sts f h)=aC5 bl (opB bl) top R T f h from rfl,show(af4 bl (opB bl) top T f h && upo bl (opB bl) [] top (sts f h))=af5 bl (opB bl) top T f h from rfl,v2,AkB,hK];exact⟨_,rfl,rfl,λq=>by simp at q⟩
     .have hU:aU bl (opB bl) top T f h=false:=u1;rw [u2,AkB,hU];exact⟨_,rfl,rfl,λq=>by simp at q⟩
   .have hok':okb (af3 bl (opB bl) top T && loo bl (opB bl) [] top f j) (aC3 bl (opB bl) top R T++Co bl (opB bl) [] top f j)=false:=by simpa using hok
    have h4:okb (af4 bl (opB bl) top T f h) (aC4 bl (opB bl) top R T f h)=false:=AeC hok' j1;rw [hok',AkH Z,AkB,h4];dsimp only;rw [AkH rfl];exact⟨_,rfl,rfl,λq=>by simp at q⟩
  .rw [AkG hkq,hkok,decide_eq_false hkq];exact⟨_,rfl,rfl,λq=>by simp at q⟩
 .rw [iy (O:¬ (((ksT bl top 1024).length:Nat):Int)=(((wnt f h e).length:Nat):Int)),hkok,decide_eq_false (λq=>hlen (by rw [<- q,Ak8]))];exact⟨_,rfl,rfl,λq=>by simp at q⟩
end Go.V.G
set_option maxRecDepth 100000
namespace Go.V.G
open Go.V
theorem Ahk {fn c:Bool} {l:List Int}:(if bd fn l=true then true else !c)=bd (fn && c) l:=by
 unfold bd;cases fn <;> cases c <;> cases ndb l <;> rfl
section
variable (b:Bls) (x y top:List Int)
def ipt (s:Int×Int):List Prt:=(BT (rkd b x y top (ky s))).1
def ioc (s:Int×Int):Bool:=rko b x y top (ky s) && (BT (rkd b x y top (ky s))).2
def ics (L:List (Int×Int)):List Int:=L.flatMap λs=>rkc b x y top (ky s)
def ich (L:List (Int×Int)):List (List Prt):=(L.filter λs=>decide (s.1=0)).map (ipt b x y top)
theorem AfG (L:List (Int×Int)) (s:Int×Int):ics b x y top (L++[s])=ics b x y top L++rkc b x y top (ky s):=by unfold ics;rw [AlW];simp
theorem Aff (L:List (Int×Int)) (s:Int×Int):ich b x y top (L++[s])=ich b x y top L++(if s.1=0 then [ipt b x y top s]else []):=by
 unfold ich;rw [Al8,Alk];by_cases h:s.1=0 <;> simp [h]
theorem Uk:∀L:List (Int×Int),(ics b x y top L).length<=10 * L.length
 | []=>by simp [ics]
 | s::L=>by
  have h1:=Uk L;have h2:=(HJ b x y top (ky s)).1;unfold ics at *;rw [AlY,AkJ,AkQ];omega
theorem Agl (L:List (Int×Int)):(ich b x y top L).length<=L.length:=by
 unfold ich;rw [Ak8];exact AlV _ _
end
section
variable {H E R T:Int} {b d:Bls} {x y z top:List Int} {wr lf rt:Int} {on:Bool}
theorem Ajg (g:RS b x y) (ht:top.length=32) {f hd:Nat} (hf:f<=hd) (hh:hd<=60) {ks bl rs:List Int} {m:List (Int×Int)} (hbl:bl.length<=80000) (hks:ks.length<=80000) (fn:Bool) (tx:List UInt8) :
  Ab B3 (sts f hd,[],(((sts f hd).length:Nat):Int),0,ks,bl,rs,bd fn bl,m,d,wr,on,lf,(f:Int),H,E,R,T,b,x,y,z,rt,top,top.map (lfv b),(f:Int),tx,[],[]) =
   some (sts f hd,(sts f hd).map (ipt b x y top),ks++(sts f hd).map kyI,bl++ics b x y top (sts f hd),rs,bd (fn && (sts f hd).all (ioc b x y top)) (bl++ics b x y top (sts f hd)),m,d,wr,on,lf,(f:Int),H,E,R,T,b,x,y,z,rt,top,top.map (lfv b),(f:Int),tx,[],ich b x y top (sts f hd)):=by
 have hsl:=Il (f:=f) hh;have hL:=Am B3 (λi=>(sts f hd,((sts f hd).take i).map (ipt b x y top),(((sts f hd).length:Nat):Int),((i:Nat):Int),ks++((sts f hd).take i).map kyI,bl++ics b x y top ((sts f hd).take i),rs,bd (fn && ((sts f hd).take i).all (ioc b x y top)) (bl++ics b x y top ((sts f hd).take i)),m,d,wr,on,lf,(f:Int),H,E,R,T,b,x,y,z,rt,top,top.map (lfv b),(f:Int),tx,[],ich b x y top ((sts f hd).take i))) (sts f hd).length
  (sts f hd,(sts f hd).map (ipt b x y top),ks++(sts f hd).map kyI,bl++ics b x y top (sts f hd),rs,bd (fn && (sts f hd).all (ioc b x y top)) (bl++ics b x y top (sts f hd)),m,d,wr,on,lf,(f:Int),H,E,R,T,b,x,y,z,rt,top,top.map (lfv b),(f:Int),tx,[],ich b x y top (sts f hd)) (λi hi=>by
   obtain ⟨k,j,g8⟩:=P5 hi;obtain ⟨l1,l2,l3⟩:=g8.lt hh;have hk:=g8.hk;have hget:(sts f hd)[i]?=some ((sts f hd)[i]):=AkD hi;have hil:=Uk b x y top ((sts f hd).take i);have hcl:=Agl b x y top ((sts f hd).take i);rw [AkL]at hil hcl;have hrk:=HJ b x y top (ky (sts f hd)[i]);have hrec:=Vd (z:=z) g ht (bl:=bl++ics b x y top ((sts f hd).take i)) (ks:=ks++((sts f hd).take i).map kyI) (by rw [AkJ];omega) (by rw [AkJ,Ak8,AkL];omega) (k:=ky (sts f hd)[i]) O (fn && ((sts f hd).take i).all (ioc b x y top)) rs d wr on lf (f:Int) H E R T rt m;have e1:Nj (sts f hd)[i].1 (sts f hd)[i].2=some (ky (sts f hd)[i]:Int):=by rw [l2];simp only [g8.e];exact Abv hk O
   have e2:((sts f hd).take i++[(sts f hd)[i]]).all (ioc b x y top)=(((sts f hd).take i).all (ioc b x y top) && (rko b x y top (ky (sts f hd)[i]) && (BT (rkd b x y top (ky (sts f hd)[i]))).2)):=by rw [List.all_append];simp [ioc]
   unfold B3 cK cZ wI;dsimp only;rw [iy O,iy O,iy O,AkZ,AkE,hget,AkB,AkB,e1,AkB,hrec,AkB];dsimp only;rw [Aav (KO g top (ky (sts f hd)[i])) O,AkB,AkB,Ak0 hi,AfG,Aff,e2,Alk,Alk,AkN,AkN];dsimp only;have eb:(fn && (((sts f hd).take i).all (ioc b x y top) && (rko b x y top (ky (sts f hd)[i]) && (BT (rkd b x y top (ky (sts f hd)[i]))).2)))=((fn && (((sts f hd).take i).all (ioc b x y top) && rko b x y top (ky (sts f hd)[i]))) && (BT (rkd b x y top (ky (sts f hd)[i]))).2):=by simp [AmH]
   have hb:=Ahk (fn:=fn && (((sts f hd).take i).all (ioc b x y top) && rko b x y top (ky (sts f hd)[i]))) (c:=(BT (rkd b x y top (ky (sts f hd)[i]))).2) (l:=bl++(ics b x y top ((sts f hd).take i)++rkc b x y top (ky (sts f hd)[i])));rw [AmH,eb];have ro1:Aa ((((sts f hd).take i).map (ipt b x y top)).length+([(BT (rkd b x y top (ky (sts f hd)[i]))).1]:List (List Prt)).length) 24=true:=by simp only [Aa,decide_eq_true_eq,AkO,Ak8,AkL];omega
   have ro2:Aa ((ich b x y top ((sts f hd).take i)).length+([(BT (rkd b x y top (ky (sts f hd)[i]))).1]:List (List Prt)).length) 24=true:=by simp only [Aa,decide_eq_true_eq,AkO];omega
   rw [<- hb];by_cases hq:bd (fn && (((sts f hd).take i).all (ioc b x y top) && rko b x y top (ky (sts f hd)[i]))) (bl++(ics b x y top ((sts f hd).take i)++rkc b x y top (ky (sts f hd)[i])))=true
   .rw [AkH hq,AkH hq,AkB];dsimp only;rw [AkH ro1];by_cases h0:(sts f hd)[i].1=0
    .rw [iy h0,AkH ro2,AkB,AkH h0];dsimp only;rw [Ak O];rfl
    .rw [ino h0,AkB,AkG h0,AkT];dsimp only;rw [Ak O];rfl
   .rw [AkG hq,AkG hq,AkB];dsimp only;rw [AkH ro1];by_cases h0:(sts f hd)[i].1=0
    .rw [iy h0,AkH ro2,AkB,AkH h0];dsimp only;rw [Ak O];rfl
    .rw [ino h0,AkB,AkG h0,AkT];dsimp only;rw [Ak O];rfl) (by
   unfold B3 cK cZ wI;dsimp only;rw [ino O,Alq])
 have e0:ics b x y top ((sts f hd).take 0)=[]:=rfl;have e1:((sts f hd).take 0).all (ioc b x y top)=true:=rfl;have e2:((sts f hd).take 0).map (ipt b x y top)=[]:=rfl;have e3:((sts f hd).take 0).map kyI=[]:=rfl;have e4:ich b x y top ((sts f hd).take 0)=[]:=rfl;rw [e0,e1,e2,e3,e4,AkT,AkT,Amb]at hL;exact hL
theorem AiJ {a c:List Prt} (hn:a.length<=1048576):Au a c=some (decide (a=c)):=by
 unfold Au;by_cases hl:a.length=c.length
 .rw [ino O];have h:=Ie An (λi=>(a,c,(a.length:Int),((i:Nat):Int))) (λi=>decide (a[i]?=c[i]?)) false () a.length (λi hi=>by
   have hc:i < c.length:=O
   unfold An gX wI;dsimp only;rw [iy O,iy O,AkE,AkD hi,AkB,iy O,AkD hc,AkB,Ak O];by_cases hq:a[i]=c[i]
   .rw [hq];simp
   .have:¬ (a[i].1=c[i].1/\a[i].2.1=c[i].2.1/\a[i].2.2=c[i].2.2):=λq=>hq (Prod.ext q.1 (Prod.ext q.2.1 q.2.2))
    have h2:(decide (a[i].1=c[i].1) && (decide (a[i].2.1=c[i].2.1) && ((a[i].2.2 == c[i].2.2) && true)))=false:=by
     cases h3:(decide (a[i].1=c[i].1) && (decide (a[i].2.1=c[i].2.1) && ((a[i].2.2 == c[i].2.2) && true)))with
     | false=>rfl
     | true=>
      simp only [AkI,decide_eq_true_eq,beq_iff_eq,and_true]at h3;exact absurd h3 this
    rw [h2];simp [hq]) (by
   unfold An gX wI;dsimp only;rw [ino O])
  rw [show Ab An (a,c,(a.length:Int),0)=_ from h,AkB];have e:((List.range a.length).all λi=>decide (a[i]?=c[i]?))=decide (a=c):=by
   rw [Amy,all_range,decide_eq_true_eq];constructor
   .intro q;refine Alz λi=>?_
    by_cases hi:i < a.length
    .simpa using q i hi
    .rw [Ak2 O,Ak2 O]
   .rintro rfl i _;simp
  rw [e];by_cases hq:a=c <;> simp [hq]
 .rw [iy O,decide_eq_false (λq=>hl (by rw [q]))]
theorem AiS {a c:List Int} (hn:a.length<=1048576):DW a c=some (decide (a=c)):=by
 unfold DW;by_cases hl:a.length=c.length
 .rw [ino O];have h:=Ie Cu (λi=>(a,c,(a.length:Int),((i:Nat):Int))) (λi=>decide (a[i]?=c[i]?)) false () a.length (λi hi=>by
   have hc:i < c.length:=O
   unfold Cu gX wI;dsimp only;rw [iy O,iy O,AkE,AkD hi,AkB,iy O,AkD hc,AkB,Ak O];by_cases hq:a[i]=c[i]
   .rw [hq];simp
   .simp [hq]) (by
   unfold Cu gX wI;dsimp only;rw [ino O])
  rw [show Ab Cu (a,c,(a.length:Int),0)=_ from h,AkB];have e:((List.range a.length).all λi=>decide (a[i]?=c[i]?))=decide (a=c):=by
   rw [Amy,all_range,decide_eq_true_eq];constructor
   .intro q;refine Alz λi=>?_
    by_cases hi:i < a.length
    .simpa using q i hi
    .rw [Ak2 O,Ak2 O]
   .rintro rfl i _;simp
  rw [e];by_cases hq:a=c <;> simp [hq]
 .rw [iy O,decide_eq_false (λq=>hl (by rw [q]))]
theorem AbK {a c:List Prt} (hn:a.length<=1048576):IJ a c=some (decide (a=c)):=by
 unfold IJ;rw [AiJ hn];rfl
def ieq (b:Bls) (x y top:List Int) (f:Int) (t:List UInt8) (cs:List (List Prt)) (s:Int×Int):Bool:=decide (ipt b x y top s=bt f t cs s)
theorem Ajj {f hd:Nat} {t:List UInt8} {r:List Rn} {cs:List (List Prt)} (gh:GH (f:Int) t r cs) (hf:hd=f+cs.length) (hh:hd<=60) {ks bl rs:List Int} {m:List (Int×Int)} (bad:Bool) :
  Ab BG ((sts f hd).map (ipt b x y top),sts f hd,(((sts f hd).length:Nat):Int),0,ks,bl,rs,bad,m,d,wr,on,lf,(f:Int),H,E,R,T,b,x,y,z,rt,top,top.map (lfv b),(f:Int),t,r,cs) =
   some (if(sts f hd).all (ieq b x y top (f:Int) t cs)=true then .inl (ks,bl,rs,bad,m,d,wr,on,lf,(f:Int),H,E,R,T,b,x,y,z,rt,top,top.map (lfv b),(f:Int),t,r,cs)
    else .inr (false,d,wr,on,lf,(f:Int),H,E,R,T,b,x,y,z,rt,top,top.map (lfv b),(f:Int),t,r,cs)):=by
 have hsl:=Il (f:=f) hh;have hL:=Ie BG (λi=>((sts f hd).map (ipt b x y top),sts f hd,(((sts f hd).length:Nat):Int),((i:Nat):Int),ks,bl,rs,bad,m,d,wr,on,lf,(f:Int),H,E,R,T,b,x,y,z,rt,top,top.map (lfv b),(f:Int),t,r,cs))
  (λi=>ieq b x y top (f:Int) t cs (((sts f hd)[i]?).getD (0,0))) (false,d,wr,on,lf,(f:Int),H,E,R,T,b,x,y,z,rt,top,top.map (lfv b),(f:Int),t,r,cs) (ks,bl,rs,bad,m,d,wr,on,lf,(f:Int),H,E,R,T,b,x,y,z,rt,top,top.map (lfv b),(f:Int),t,r,cs) (sts f hd).length (λi hi=>by
   obtain ⟨k,j,g8⟩:=P5 hi;obtain ⟨l1,l2,l3⟩:=g8.lt hh;obtain ⟨f1,f2,f3,f4,f5⟩:=g8.ft;have hk:=g8.hk;have hget:(sts f hd)[i]?=some ((sts f hd)[i]):=AkD hi;have hml:((sts f hd).map (ipt b x y top))[i]?=some (ipt b x y top (sts f hd)[i]):=by rw [Ali,hget];rfl
   have e1:ES (sts f hd)[i].1 (sts f hd)[i].2=some (frS (sts f hd)[i]:Int):=by rw [f1];simp only [g8.e];exact Ac2 hk O
   have e2:Gu (sts f hd)[i].1 (sts f hd)[i].2=some (toS (sts f hd)[i]:Int):=by rw [f2];simp only [g8.e];exact Aht hk O
   have hsm:=(RQ (rkd b x y top (ky (sts f hd)[i]))).len;have hip:(ipt b x y top (sts f hd)[i]).length<=1048576:=by unfold ipt;omega
   unfold BG cK cZ wI;dsimp only;rw [iy O,iy O,iy O,AkZ,AkE,hget,AkB,AkB,iy O,iy (by rw [Ak8];omega),hml,AkB,e1,AkB,e2,AkB,YD gh O O O,AkB,AbK hip,AkB,Aln];have he:ieq b x y top (f:Int) t cs (sts f hd)[i]=decide (ipt b x y top (sts f hd)[i]=B0 (f:Int) t cs (frS (sts f hd)[i]:Int) (toS (sts f hd)[i]:Int)):=rfl;rw [he];by_cases hq:ipt b x y top (sts f hd)[i]=B0 (f:Int) t cs (frS (sts f hd)[i]:Int) (toS (sts f hd)[i]:Int)
   .rw [decide_eq_true hq,AkG Z,AkH rfl,Ak O]
   .rw [decide_eq_false hq,AkH Z,AkG Z]) (by
   unfold BG cK cZ wI;dsimp only;rw [ino O])
 have e:((List.range (sts f hd).length).all λi=>ieq b x y top (f:Int) t cs (((sts f hd)[i]?).getD (0,0)))=(sts f hd).all (ieq b x y top (f:Int) t cs):=by
  rw [Amy,all_range,Ak7];constructor
  .intro q s hs;obtain ⟨i,hi,rfl⟩:=Alh hs;have:=q i hi;rw [AkD hi]at this;exact this
  .intro q i hi;rw [AkD hi];exact q _ (Ak1 hi)
 rw [e]at hL;exact hL
def btl (b:Bls) (x y top:List Int):List Nat->List Int->List Int->List Int
 | [],P,bl=>bl
 | r::l,P,bl=>btl b x y top l (P++tpc b x y (vl b top (384+r))) (btx b x y P bl (vl b top (384+r)))
theorem YI (b:Bls) (x y top:List Int):∀(l:List Nat) (P bl:List Int) (r:Nat),btl b x y top (l++[r]) P bl=btx b x y (P++ckp b x y top l) (btl b x y top l P bl) (vl b top (384+r))
 | [],P,bl,r=>by simp [btl,ckp]
 | a::l,P,bl,r=>by
  have h:=YI b x y top l (P++tpc b x y (vl b top (384+a))) (btx b x y P bl (vl b top (384+a))) r;have e:ckp b x y top (a::l)=tpc b x y (vl b top (384+a))++ckp b x y top l:=by unfold ckp;rw [AlY]
  rw [e,<- AkN];exact h
theorem Aa0 {b:Bls} {x y top:List Int}:∀(l:List Nat) {C P bl:List Int},Led C P bl->Led (C++ckc b x y top l) (P++ckp b x y top l) (btl b x y top l P bl)
 | [],C,P,bl,h=>by simpa [ckc,ckp,btl] using h
 | a::l,C,P,bl,h=>by
  have h1:=Aa0 (b:=b) (x:=x) (y:=y) (top:=top) l (AaZ (b:=b) (x:=x) (y:=y) h (vl b top (384+a)));have e1:ckp b x y top (a::l)=tpc b x y (vl b top (384+a))++ckp b x y top l:=by unfold ckp;rw [AlY]
  have e2:ckc b x y top (a::l)=tcl b x y (vl b top (384+a))++ckc b x y top l:=by unfold ckc;rw [AlY]
  rw [e1,e2,<- AkN,<- AkN];exact h1
theorem Uc (b:Bls) (x y top:List Int):∀(l:List Nat) (P bl:List Int),(btl b x y top l P bl).length<=bl.length+4 * l.length
 | [],P,bl=>by simp [btl]
 | a::l,P,bl=>by
  have h1:=Uc b x y top l (P++tpc b x y (vl b top (384+a))) (btx b x y P bl (vl b top (384+a)));have h2:=Aaa b x y P bl (vl b top (384+a));rw [AkQ];show(btl b x y top l _ _).length<=_;omega
theorem Ajq (g:RS b x y) (ht:top.length=32) {f hd e:Nat} {t:List UInt8} {r:List Rn} {cs:List (List Prt)} (gh:GH (f:Int) t r cs) (hf:hd=f+cs.length) (hh:hd<=60) {ks bl rs P:List Int} (hbl:bl.length<=80000) (hks:ks.length<=80000) (hP:P.length<=80000) (fn:Bool) :
  Ab BE ((cks f hd e).map (λr=>((r:Nat):Int)),((((cks f hd e).map (λr=>((r:Nat):Int))).length:Nat):Int),0,ks,bl,rs,bd fn bl,std P,d,wr,on,lf,(f:Int),H,E,R,T,b,x,y,z,rt,top,top.map (lfv b),(f:Int),t,r,cs) =
   some (if(cks f hd e).all (cke b x y top f t cs)=true then .inl (ks++(cks f hd e).map ckI,btl b x y top (cks f hd e) P bl,rs,bd (fn && cko b x y top (cks f hd e)) (btl b x y top (cks f hd e) P bl),std (P++ckp b x y top (cks f hd e)),d,wr,on,lf,(f:Int),H,E,R,T,b,x,y,z,rt,top,top.map (lfv b),(f:Int),t,r,cs)
    else .inr (false,d,wr,on,lf,(f:Int),H,E,R,T,b,x,y,z,rt,top,top.map (lfv b),(f:Int),t,r,cs)):=by
 have hcl:=Nn (f:=f) (e:=e) hh;have hL:=Ie BE (λi=>((cks f hd e).map (λr=>((r:Nat):Int)),((((cks f hd e).map (λr=>((r:Nat):Int))).length:Nat):Int),((i:Nat):Int),ks++((cks f hd e).take i).map ckI,btl b x y top ((cks f hd e).take i) P bl,rs,bd (fn && cko b x y top ((cks f hd e).take i)) (btl b x y top ((cks f hd e).take i) P bl),std (P++ckp b x y top ((cks f hd e).take i)),d,wr,on,lf,(f:Int),H,E,R,T,b,x,y,z,rt,top,top.map (lfv b),(f:Int),t,r,cs))
  (λi=>cke b x y top f t cs (((cks f hd e)[i]?).getD 0)) (false,d,wr,on,lf,(f:Int),H,E,R,T,b,x,y,z,rt,top,top.map (lfv b),(f:Int),t,r,cs) (ks++(cks f hd e).map ckI,btl b x y top (cks f hd e) P bl,rs,bd (fn && cko b x y top (cks f hd e)) (btl b x y top (cks f hd e) P bl),std (P++ckp b x y top (cks f hd e)),d,wr,on,lf,(f:Int),H,E,R,T,b,x,y,z,rt,top,top.map (lfv b),(f:Int),t,r,cs) (cks f hd e).length (λi hi=>by
   have hget:(cks f hd e)[i]?=some ((cks f hd e)[i]):=AkD hi;have hml:((cks f hd e).map (λr=>((r:Nat):Int)))[i]?=some (((cks f hd e)[i]:Nat):Int):=by rw [Ali,hget];rfl
   obtain ⟨q1,q2,q3⟩:=cks_mem.1 (Ak1 hi);have htl:=(Qq b x y top ((cks f hd e).take i)).2;have hbn:=Uc b x y top ((cks f hd e).take i) P bl;rw [AkL]at htl hbn;have ew:IntKind.wrap .i64 (384+(((cks f hd e)[i]:Nat):Int))=((384+(cks f hd e)[i]:Nat):Int):=by rw [w64 O O];omega
   have htx:=Va gh (x:=(((cks f hd e)[i]:Nat):Int)) O O;rw [show((((cks f hd e)[i]:Nat):Int) - (f:Int)).toNat=(cks f hd e)[i] - f by omega]at htx;have hrt:=Ah9 (z:=z) g (vl b top (384+(cks f hd e)[i])) (P:=P++ckp b x y top ((cks f hd e).take i)) (bl:=btl b x y top ((cks f hd e).take i) P bl) O (by rw [AkJ];omega) (fn && cko b x y top ((cks f hd e).take i)) (ks++((cks f hd e).take i).map ckI++[ckI (cks f hd e)[i]]) rs d wr on lf (f:Int) H E R T;have a2:ckp b x y top ((cks f hd e).take i++[(cks f hd e)[i]])=ckp b x y top ((cks f hd e).take i)++tpc b x y (vl b top (384+(cks f hd e)[i])):=by unfold ckp;rw [AlW];simp
   have a3:cko b x y top ((cks f hd e).take i++[(cks f hd e)[i]])=(cko b x y top ((cks f hd e).take i) && tok b x y (vl b top (384+(cks f hd e)[i]))):=by unfold cko;rw [List.all_append];simp
   unfold BE cK cZ wI;dsimp only;rw [iy (by rw [Ak8];omega),iy O,iy (by rw [Ak8];omega),AkZ,AkE,hml,AkB,ew,AkH (by simp only [Aa,decide_eq_true_eq,AkO,AkJ,Ak8,AkL];omega),PL ht rt O,AkB,
    show((384+(cks f hd e)[i]:Nat):Int)=ckI (cks f hd e)[i] from rfl,hrt,AkB]
   dsimp only;rw [htx,AkB,hget,Aln,Ak0 hi,YI,a2,a3,Alk,AkN,AkN,AmH];unfold cke;cases hq:(ttx b x y (vl b top (384+(cks f hd e)[i])) == txt t (cs.take ((cks f hd e)[i] - f)))with
   | true=>rw [AkG Z,AkH rfl,Ak O];rfl
   | false=>rw [AkH Z,AkG Z]) (by
   unfold BE cK cZ wI;dsimp only;rw [ino (by rw [Ak8];omega),Alq])
 have eq9:((List.range (cks f hd e).length).all λi=>cke b x y top f t cs (((cks f hd e)[i]?).getD 0))=(cks f hd e).all (cke b x y top f t cs):=by
  rw [Amy,all_range,Ak7];constructor
  .intro q s hs;obtain ⟨i,hi,rfl⟩:=Alh hs;have:=q i hi;rw [AkD hi]at this;exact this
  .intro q i hi;rw [AkD hi];exact q _ (Ak1 hi)
 rw [eq9]at hL;have e0:((cks f hd e).take 0).map ckI=[]:=rfl;have e1:cko b x y top ((cks f hd e).take 0)=true:=rfl;have e2:ckp b x y top ((cks f hd e).take 0)=[]:=rfl;have e3:btl b x y top ((cks f hd e).take 0) P bl=bl:=rfl;rw [e0,e1,e2,e3,AkT,AkT,Amb]at hL;exact hL
end
end Go.V.G
set_option maxRecDepth 100000
namespace Go.V.G
open Go.V
def pst (b:Bls) (x y:List Int) (a:Int):Int:=if pcB b x y a=true then gb (blk b a.toNat) 1 else 0
def usd (x:List Int) (n:Nat):List Int:=(((List.range n).map (33 + ·)).filter λk=>bit x k).map λk=>((k:Nat):Int)
theorem Yd (x:List Int) (n:Nat):usd x (n+1)=usd x n++(if bit x (33+n)=true then [((33+n:Nat):Int)]else []):=by
 unfold usd;rw [Aml,Alk,Al8,Alk];by_cases h:bit x (33+n)=true <;> simp [h]
theorem Agq (x:List Int) (n:Nat):(usd x n).length<=n:=by
 unfold usd;rw [Ak8];exact Ale (AlV _ _) Z
theorem usd_mem {x:List Int} {n:Nat} {v:Int}:v∈usd x n↔∃k:Nat,33<=k/\k < 33+n/\bit x k=true/\v=(k:Int):=by
 unfold usd;simp only [AkY,Ams,Amd];constructor
 .rintro ⟨k,⟨⟨i,h1,rfl⟩,h2⟩,rfl⟩;exact⟨33+i,O,O,h2,rfl⟩
 .rintro ⟨k,h1,h2,h3,rfl⟩;exact⟨k,⟨⟨k - 33,O,O⟩,h3⟩,rfl⟩
theorem QD (x:List Int):∀n,(usd x n).Pairwise (· < ·)
 | 0=>by simp [usd]
 | n+1=>by
  rw [Yd];split
  .rw [Amm];refine⟨QD x n,Z,λa ha c hc=>?_⟩;obtain ⟨k,_,h2,_,rfl⟩:=usd_mem.1 ha;rw [AkM.1 hc];omega
  .rw [AkT];exact QD x n
section
variable {F H E R T:Int} {b d:Bls} {x y z top:List Int} {wr lf rt:Int} {on:Bool}
theorem Ae2 (g:RS b x y):FR (b,x,y,z)=some (usd x (b.length - 33)):=by
 have hbl:=g.hn;have hxl:=g.hx;unfold FR;have h:=Am Dh (λn=>((b,x,y,z),usd x n,((33+n:Nat):Int))) (b.length - 33) (usd x (b.length - 33)) (λn hn=>by
  have hl:=Agq x n;unfold Dh cK wI;dsimp only;rw [iy O,Sj O O,AkB,Yd];by_cases hq:bit x (33+n)=true
  .rw [AkH hq,AkH (by simp only [Aa,decide_eq_true_eq,AkO];omega),AkB,AkH hq];dsimp only;rw [Ak O];rfl
  .rw [AkG hq,AkB,AkG hq,AkT];dsimp only;rw [Ak O];rfl) (by
  unfold Dh cK wI;dsimp only;rw [ino O])
 rw [show Ab Dh ((b,x,y,z),[],33)=_ from h];rfl
theorem Agb (g:RS b x y) {ks bl rs:List Int} {h1:Int} {h2:List UInt8} {h3:List Rn} {h4:List (List Prt)} {vs:List (List Int)}:∀(l:List (Int×Int)) (bad:Bool),
  l.foldlM B4 (ks,bl,rs,bad,d,wr,on,lf,F,H,E,R,T,b,x,y,z,rt,top,vs,h1,h2,h3,h4) =
   some (ks,bl,rs,bad || l.any (λp=>!decide (pst b x y p.1=p.2)),d,wr,on,lf,F,H,E,R,T,b,x,y,z,rt,top,vs,h1,h2,h3,h4)
 | [],bad=>by simp
 | p::l,bad=>by
  have hs:B4 (ks,bl,rs,bad,d,wr,on,lf,F,H,E,R,T,b,x,y,z,rt,top,vs,h1,h2,h3,h4) p=some (ks,bl,rs,bad || !decide (pst b x y p.1=p.2),d,wr,on,lf,F,H,E,R,T,b,x,y,z,rt,top,vs,h1,h2,h3,h4):=by
   unfold B4;dsimp only;rw [Te g,AkB];have e:(if pcB b x y p.1=true then(true,DG b p.1)else(false,0,0,[])).2.2.1=pst b x y p.1:=by
    unfold pst DG;split <;> rfl
   generalize (if pcB b x y p.1=true then(true,DG b p.1)else(false,0,0,[]))=w at *;obtain ⟨w1,w2,w3,w4⟩:=w;dsimp only at e ⊢;subst e;cases bad with
   | true=>rfl
   | false=>
    rw [AkG Z,AkB];dsimp only;by_cases hq:pst b x y p.1=p.2 <;> simp [hq]
  rw [List.foldlM_cons,hs];show l.foldlM B4 _=_;rw [Agb g l,List.any_cons,Bool.or_assoc]
theorem AeV {l m:List (Int×Int)} (h:l.Perm m) (p:Int×Int->Bool):l.any p=m.any p:=by
 rw [Amy,AmM,AmM];constructor
 .rintro ⟨v,h1,h2⟩;exact⟨v,h.mem_iff.1 h1,h2⟩
 .rintro ⟨v,h1,h2⟩;exact⟨v,h.mem_iff.2 h1,h2⟩
theorem Ajw {tk:List Kv} {ks bl rs:List Int} {h1:Int} {h2:List UInt8} {h3:List Rn} {h4:List (List Prt)} {vs:List (List Int)} (htk:tk.length<=100000) (hks:ks.length<=1000000) (bad:Bool) :
  Ab B5 (tk,(tk.length:Int),0,ks,bl,rs,bad,d,wr,on,lf,F,H,E,R,T,b,x,y,z,rt,top,vs,h1,h2,h3,h4) =
   some (ks,bl,rs,bad || tk.any (λp=>!decide (p.1∈ks)),d,wr,on,lf,F,H,E,R,T,b,x,y,z,rt,top,vs,h1,h2,h3,h4):=by
 have h:=Am B5 (λi=>(tk,(tk.length:Int),((i:Nat):Int),ks,bl,rs,bad || (tk.take i).any (λp=>!decide (p.1∈ks)),d,wr,on,lf,F,H,E,R,T,b,x,y,z,rt,top,vs,h1,h2,h3,h4)) tk.length (ks,bl,rs,bad || tk.any (λp=>!decide (p.1∈ks)),d,wr,on,lf,F,H,E,R,T,b,x,y,z,rt,top,vs,h1,h2,h3,h4) (λi hi=>by
  unfold B5 cK cZ wI;dsimp only;rw [iy O,iy O,iy O,AkZ,AkE,AkD hi,AkB,AkB,Ak0 hi,List.any_append];cases hq:(bad || (tk.take i).any (λp=>!decide (p.1∈ks)))with
  | true=>
   rw [AkH rfl,AkB,<- Bool.or_assoc,hq];dsimp only;rw [Ak O];rfl
  | false=>
   rw [AkG Z,Gj O,AkB,AkB,<- Bool.or_assoc,hq];dsimp only;rw [Ak O];simp) (by
  unfold B5 cK cZ wI;dsimp only;rw [ino O,Alq])
 have e0:(bad || (tk.take 0).any (λp=>!decide (p.1∈ks)))=bad:=by simp
 rw [e0]at h;exact h
end
section defs
variable (b:Bls) (x top:List Int) (R T:Int) (f h e:Nat)
noncomputable def bB2:List Int:=btx b x [] [] (srt (pgl top R)) T
noncomputable def bB4:List Int:=bB2 b x top R T++ics b x [] top (sts f h)++rkc b x [] top 448
noncomputable def bB5:List Int:=btl b x [] top (cks f h e) (aP2 b x T) (bB4 b x top R T f h)
def bf4:Bool:=(tok b x [] T && (sts f h).all (ioc b x [] top)) && rko b x [] top 448
def bf5:Bool:=bf4 b x top T f h && cko b x [] top (cks f h e)
def bKs:List Int:=((sts f h).map kyI++[448])++(cks f h e).map ckI
def bL:List (List Prt):=ich b x [] top (sts f h)
noncomputable def bG1:Bool:=(rdR (rkd b x [] top 448)).2 && (!bd (bf4 b x top T f h) (bB4 b x top R T f h) && FO (f:Int) (aT b x T) (aR b x top) (bL b x top f h))
def bE:Bool:=(sts f h).all (ieq b x [] top (f:Int) (aT b x T) (bL b x top f h))
def bK:Bool:=(cks f h e).all (cke b x [] top f (aT b x T) (bL b x top f h))
noncomputable def Acj:Bool:=(bd (bf5 b x top T f h e) (bB5 b x top R T f h e) || (std (aP6 b x top T f h e)).any (λp=>!decide (pst b x [] p.1=p.2))) || (ksT b top 1024).any (λp=>!decide (p.1∈bKs f h e))
noncomputable def iC:Bool:=bG1 b x top R T f h && (bE b x top T f h && (bK b x top T f h e && (!Acj b x top R T f h e && decide ((bB5 b x top R T f h e).mergeSort (λx y=>decide (x<=y))=usd x (b.length - 33)))))
end defs
theorem Ab8 {α:Type} (F:Int×Int->α) (f:Nat):∀n,(skn f 0 n).map F=(List.range (n - f)).map λi=>F (0,((f+i:Nat):Int))
 | 0=>by simp [skn]
 | n+1=>by
  rw [Jn,Alk,Ab8 F f n,Nat.pow_zero,Nat.mul_one];by_cases h:f<=n
  .rw [AkH h,(O:n+1 - f=n - f+1),N8,(O:f+(n - f)=n)];rfl
  .rw [AkG h,(O:n+1 - f=n - f)];simp
theorem AiZ {f h:Nat}:∀k,(stk f h (k+1)).filter (λs=>decide (s.1=0))=skn f 0 h
 | 0=>by
  show(([]++skn f 0 (h / 2 ^ 0):List (Int×Int))).filter _=_;rw [Ala,Nat.pow_zero,Nat.div_one,List.filter_eq_self];intro s hs;obtain ⟨i,_,_,rfl⟩:=skn_mem.1 hs;simp
 | k+1=>by
  show(stk f h (k+1)++skn f (k+1) (h / 2 ^ (k+1))).filter _=_;rw [Al8,AiZ k];have:(skn f (k+1) (h / 2 ^ (k+1))).filter (λs=>decide (s.1=0))=[]:=by
   rw [List.filter_eq_nil_iff];intro s hs;obtain ⟨i,_,_,rfl⟩:=skn_mem.1 hs;simp only [decide_eq_true_eq];omega
  rw [this,AkT]
theorem Wt (b:Bls) (x top:List Int) (f h:Nat):bL b x top f h=aL b x top f h:=by
 unfold bL aL ich chC lod sts;rw [AiZ,Ab8,AlA];refine AlD λi _=>?_
 show(BT (rkd b x [] top (64 * Int.toNat 0+Int.toNat ((f+i:Nat):Int)))).1=(BT (rkd b x [] top (f+i))).1;rw [AkE,show 64 * Int.toNat 0+(f+i)=f+i by simp]
theorem Aee {bl:Bls} {wr lf:Int} (on:Bool) {f h e:Nat} {R T:Int} {top:List Int} (hn:bl.length<=1048576) (g:RS bl (opB bl) []) (htl:top.length=32) (hf:f<=h) (hh:h<=60) (he:0 < e) (he2:e<=30) :
  ∃q,CA bl wr on lf (f:Int) (h:Int) (e:Int) R T bl (opB bl) [] [] R top (top.map (lfv bl)) 0 [] [] []=some q/\q.1=iC bl (opB bl) top R T f h e/\(iC bl (opB bl) top R T f h e=true->
   q=(true,bl,wr,on,lf,(f:Int),(h:Int),(e:Int),R,T,bl,opB bl,[],[],R,top,top.map (lfv bl),(f:Int),aT bl (opB bl) T,aR bl (opB bl) top,aL bl (opB bl) top f h)):=by
 obtain ⟨l1,l2,l3,l4,l5,l6,l7,l8⟩:=AcN (b:=bl) (x:=opB bl) (top:=top) (R:=R) (T:=T) (f:=f) (h:=h) (e:=e) htl hh;have hpl:(srt (pgl top R)).length<=33:=l1;have hb2:(bB2 bl (opB bl) top R T).length<=37:=by
  have:=Aaa bl (opB bl) [] [] (srt (pgl top R)) T;unfold bB2;omega
 have hsl:=Il (f:=f) hh;have hcl:=Nn (f:=f) (e:=e) hh;have hil:=Uk bl (opB bl) [] top (sts f h);have hrk:=HJ bl (opB bl) [] top 448;have hb4:(bB4 bl (opB bl) top R T f h).length<=3700:=by unfold bB4;rw [AkJ,AkJ];omega
 have hb5:(bB5 bl (opB bl) top R T f h e).length<=4000:=by
  have:=Uc bl (opB bl) [] top (cks f h e) (aP2 bl (opB bl) T) (bB4 bl (opB bl) top R T f h);unfold bB5;omega
 have hLl:(bL bl (opB bl) top f h).length=h - f:=by rw [Wt];unfold aL chC lod;simp
 unfold CA cK;rw [Ae3 htl,AkB];have e1:=NW (l:=srt (pgl top R)) (bl:=[]) (by simp only [Alc];omega) true [] [] bl [];rw [Ala]at e1;rw [show BM (srt (pgl top R)) [] [] [] false bl []=_ from e1,AkB];dsimp only;rw [show([]:List (Int×Int))=std [] from rfl,Ah9 g T O Z true [] [],AkB];dsimp only;rw [iy rfl,TP hf hh,AkB,AkS,Ala,show btx bl (opB bl) [] [] (srt (pgl top R)) T=bB2 bl (opB bl) top R T from rfl,show tpc bl (opB bl) [] T=aP2 bl (opB bl) T from rfl];rw [show(std []:List (Int×Int))=[] from rfl,Ajg g htl hf hh O Z,AkB];dsimp only;have er:=Vd (z:=[]) g htl (bl:=bB2 bl (opB bl) top R T++ics bl (opB bl) [] top (sts f h)) (ks:=[]++(sts f h).map kyI) (by rw [AkJ];omega) (by rw [AkJ,Ak8];simp;omega) (k:=448) O (tok bl (opB bl) [] T && (sts f h).all (ioc bl (opB bl) [] top)) [] bl wr on lf (f:Int) (h:Int) (e:Int) R T R (std (aP2 bl (opB bl) T));rw [show Bz 448 _ _ _ _ _ _ _ _ _ _ _ _ _ _ _ _ _ _ _ _ _=_ from er,AkB];dsimp only;rw [Ajc (KO g top 448) O,AkB,show bB2 bl (opB bl) top R T++ics bl (opB bl) [] top (sts f h)++rkc bl (opB bl) [] top 448=bB4 bl (opB bl) top R T f h from rfl,
  show((tok bl (opB bl) [] T && (sts f h).all (ioc bl (opB bl) [] top)) && rko bl (opB bl) [] top 448)=bf4 bl (opB bl) top T f h from rfl,show ich bl (opB bl) [] top (sts f h)=bL bl (opB bl) top f h from rfl]
 unfold iC;have hG1:bG1 bl (opB bl) top R T f h=((rdR (rkd bl (opB bl) [] top 448)).2 && (!bd (bf4 bl (opB bl) top T f h) (bB4 bl (opB bl) top R T f h) && FO (f:Int) (aT bl (opB bl) T) (aR bl (opB bl) top) (bL bl (opB bl) top f h))):=rfl;rw [hG1];cases hr2:(rdR (rkd bl (opB bl) [] top 448)).2 with
 | false=>
  rw [AkH Z,AkB];dsimp only;rw [AkH rfl];exact⟨_,rfl,rfl,λq=>by simp at q⟩
 | true=>
  rw [AkG Z];cases hbd:bd (bf4 bl (opB bl) top T f h) (bB4 bl (opB bl) top R T f h)with
  | true=>
   rw [AkH rfl,AkB];dsimp only;rw [AkH rfl];exact⟨_,rfl,rfl,λq=>by simp at q⟩
  | false=>
   have hHB:HB (ttx bl (opB bl) [] T) (rdR (rkd bl (opB bl) [] top 448)).1 (bL bl (opB bl) top f h):=by
    have:=AaC (rkd bl (opB bl) [] top 448);have:=S8 bl (opB bl) [] T;refine⟨O,O,O,λc hc=>?_⟩;rw [Wt]at hc;obtain ⟨x',_,rfl⟩:=AkY.1 hc;exact(RQ x').mono O
   rw [AkG Z,Rm hHB,AkB,AkB,show FO (f:Int) (aT bl (opB bl) T) (aR bl (opB bl) top) (bL bl (opB bl) top f h)=FO (f:Int) (ttx bl (opB bl) [] T) (rdR (rkd bl (opB bl) [] top 448)).1 (bL bl (opB bl) top f h) from rfl];dsimp only;cases hgh:FO (f:Int) (ttx bl (opB bl) [] T) (rdR (rkd bl (opB bl) [] top 448)).1 (bL bl (opB bl) top f h)with
   | false=>
    rw [AkH Z];exact⟨_,rfl,rfl,λq=>by simp at q⟩
   | true=>
    have gh:=goodH_iff.1 hgh;rw [AkG Z];have e2:=Ajj (b:=bl) (d:=bl) (x:=opB bl) (y:=[]) (z:=[]) (top:=top) (wr:=wr) (lf:=lf) (on:=on) (H:=(h:Int)) (E:=(e:Int)) (R:=R) (T:=T) (rt:=R) gh (hd:=h) O hh (ks:=[]++(sts f h).map kyI++[((448:Nat):Int)]) (bl:=bB4 bl (opB bl) top R T f h) (rs:=[]) (m:=std (aP2 bl (opB bl) T)) false;rw [show Ab BG _=_ from e2,AkB];simp only [Amw,AkS];cases hE:bE bl (opB bl) top T f h with
    | false=>
     have hE':(sts f h).all (ieq bl (opB bl) [] top (f:Int) (ttx bl (opB bl) [] T) (bL bl (opB bl) top f h))=false:=hE;rw [hE',AkG Z];exact⟨_,rfl,rfl,λq=>by simp at q⟩
    | true=>
     have hE':(sts f h).all (ieq bl (opB bl) [] top (f:Int) (ttx bl (opB bl) [] T) (bL bl (opB bl) top f h))=true:=hE;rw [hE',AkH rfl];dsimp only;unfold Jp wI;rw [AkB,w64 O O,show(f:Int)+(((bL bl (opB bl) top f h).length:Nat):Int)=(h:Int) by omega,ZC hf hh he he2,AkB];have e3:=Ajq (b:=bl) (d:=bl) (x:=opB bl) (y:=[]) (z:=[]) (top:=top) (wr:=wr) (lf:=lf) (on:=on) (H:=(h:Int)) (E:=(e:Int)) (R:=R) (T:=T) (rt:=R) g htl gh (hd:=h) (e:=e) O hh (ks:=[]++(sts f h).map kyI++[((448:Nat):Int)]) (bl:=bB4 bl (opB bl) top R T f h) (rs:=[]) (P:=aP2 bl (opB bl) T) O Aky O (bf4 bl (opB bl) top T f h);rw [hbd]at e3;rw [show Ab BE _=_ from e3,AkB];simp only [AkS];cases hK:bK bl (opB bl) top T f h e with
     | false=>
      have hK':(cks f h e).all (cke bl (opB bl) [] top f (ttx bl (opB bl) [] T) (bL bl (opB bl) top f h))=false:=hK;rw [hK',AkG Z];exact⟨_,rfl,rfl,λq=>by simp at q⟩
     | true=>
      have hK':(cks f h e).all (cke bl (opB bl) [] top f (ttx bl (opB bl) [] T) (bL bl (opB bl) top f h))=true:=hK;rw [hK',AkH rfl];dsimp only;rw [show aP2 bl (opB bl) T++ckp bl (opB bl) [] top (cks f h e)=aP6 bl (opB bl) top T f h e from rfl,show btl bl (opB bl) [] top (cks f h e) (aP2 bl (opB bl) T) (bB4 bl (opB bl) top R T f h)=bB5 bl (opB bl) top R T f h e from rfl,show(bf4 bl (opB bl) top T f h && cko bl (opB bl) [] top (cks f h e))=bf5 bl (opB bl) top T f h e from rfl,
       AeP (λl hl=>by rw [Agb g l,AeV hl]),AkB]
      dsimp only;have hkt:=Qv bl top 1024;rw [Aca htl,AkB,Ajw O Aky,AkB];dsimp only;have hkk:[]++(sts f h).map kyI++[((448:Nat):Int)]++(cks f h e).map ckI=bKs f h e:=by unfold bKs;rw [Ala];rfl
      rw [hkk,show((bd (bf5 bl (opB bl) top T f h e) (bB5 bl (opB bl) top R T f h e) || (std (aP6 bl (opB bl) top T f h e)).any (λp=>!decide (pst bl (opB bl) [] p.1=p.2))) || (ksT bl top 1024).any (λp=>!decide (p.1∈bKs f h e)))=Acj bl (opB bl) top R T f h e from rfl];unfold Gl;rw [AkH O,AkB];cases hB:Acj bl (opB bl) top R T f h e with
      | true=>
       rw [AkG Z,AkB];exact⟨_,rfl,rfl,λq=>by simp at q⟩
      | false=>
       rw [AkH Z,Ae2 g,AkB,AiS (by rw [List.length_mergeSort];omega),AkB,AkB];refine⟨_,rfl,Z,λq=>?_⟩;have q':decide ((bB5 bl (opB bl) top R T f h e).mergeSort (λx y=>decide (x<=y))=usd (opB bl) (bl.length - 33))=true:=by simpa using q
       rw [q',Wt];rfl
end Go.V.G
set_option maxRecDepth 100000
namespace Go.V.G
open Go.V
theorem QI:∀(n:Nat) (x:List Int) (c:List Prt),Byt x->CL n x=some c->(∀p∈c,kd p≠0)->enc c=x
 | 0,x,c,hb,h,hk=>by
  unfold CL at h;split at h
  .rename_i hx;injection h with h;subst h;rw [hx];rfl
  .cases h
 | n+1,[],c,hb,h,hk=>by
  rw [N7]at h;injection h with h;subst h;rfl
 | n+1,[a],c,hb,h,hk=>by simp [CL]at h
 | n+1,k::m::r,c,hb,h,hk=>by
  have hm:=hb m Z;have hr:Byt r:=λv hv=>hb v (by simp [hv])
  simp only [CL]at h;split at h
  .rename_i h1;obtain ⟨c',q1,rfl⟩:=AlF.1 h;have ih:=QI n r c' hr q1 (λp hp=>hk p (by simp [hp]));have h0:=hk (m,0,[]) Z;rcases Dl h0 with⟨a,ha,e,hkd⟩ | ⟨a,ha,e,hkd⟩ | ⟨s,hs,e,hkd⟩
   .show Fu (m,0,[])++enc c'=_;rw [ih];unfold Fu;rw [hkd,h1];simp [Ay]
   .injection e with e1 e2;injection e2 with e2 e3;omega
   .injection e with e1 e2;injection e2 with e2 e3;exact absurd e3.symm hs
  .split at h
   .rename_i _ h1;obtain ⟨c',q1,rfl⟩:=AlF.1 h;have ih:=QI n r c' hr q1 (λp hp=>hk p (by simp [hp]));have h0:=hk (0,m,[]) Z;rcases Dl h0 with⟨a,ha,e,hkd⟩ | ⟨a,ha,e,hkd⟩ | ⟨s,hs,e,hkd⟩
    .injection e with e1 e2;omega
    .show Fu (0,m,[])++enc c'=_;rw [ih];unfold Fu;rw [hkd,h1];simp [Ay]
    .injection e with e1 e2;injection e2 with e2 e3;exact absurd e3.symm hs
   .split at h
    .rename_i _ _ h1;obtain ⟨c',q1,rfl⟩:=AlF.1 h;have ih:=QI n (r.drop m.toNat) c' (λv hv=>hr v (AmJ hv)) q1 (λp hp=>hk p (by simp [hp]));have h0:=hk (0,0,AF (r.take m.toNat)) Z;rcases Dl h0 with⟨a,ha,e,hkd⟩ | ⟨a,ha,e,hkd⟩ | ⟨s,hs,e,hkd⟩
     .injection e with e1 e2;omega
     .injection e with e1 e2;injection e2 with e2 e3;omega
     .show Fu (0,0,AF (r.take m.toNat))++enc c'=_;have hbt:Ay (AF (r.take m.toNat))=r.take m.toNat:=AbM (λv hv=>hr v (Ame hv));have hln:(AF (r.take m.toNat)).length=m.toNat:=by unfold AF;rw [Ak8,AkL];omega
      rw [ih];unfold Fu;dsimp only;rw [hkd,hbt,hln,h1.1];simp only [Alp,Ala,AkN,Als]
      congr 2
      omega
    .cases h
theorem AbG {c:List Prt} (hg:AH c=true):BT (enc c)=(c,true):=by
 have h1:=AeK (De hg) O hg;have hs:=Adc hg;rw [Aav (Aa5 hg) O]at h1;injection h1
theorem AcU {x:List Int} (hb:Byt x) {c:List Prt} (h:BT x=(c,true)):enc c=x:=by
 unfold BT at h;split at h
 .rename_i c' hd;split at h
  .rename_i hg;injection h with h1 h2;subst h1
   exact QI _ _ _ hb hd λp hp=>(Bi (Aq hg).1 p hp).ne
  .injection h with h1 h2;cases h2
 .injection h with h1 h2;cases h2
theorem Ac0 {x:List Int} (hb:Byt x) {c:List Prt} (hg:AH c=true):(AF x == AF (enc c))=true↔BT x=(c,true):=by
 rw [Rg hb (Aa5 hg),beq_iff_eq];constructor
 .rintro rfl;exact AbG hg
 .intro h;exact(AcU hb h).symm
section
variable {b:Bls} {x y top:List Int}
theorem Abf:∀(f:Nat) (a:Int) (d ch:List Int) {p:List Int×List Int},(∀v∈ch,liv b x y v=true)->rcN b x y f a d ch=some p->∀v∈p.2,liv b x y v=true
 | 0,_,_,_,p,_,h=>by cases h
 | f+1,a,d,ch,p,hd,h=>by
  unfold rcN at h;split at h
  .rename_i hc;have hl:liv b x y a=true:=by unfold rcC at hc;rw [AkI]at hc;exact hc.1
   have hd':∀v∈ch++[a],liv b x y v=true:=λv hv=>by
    rcases AkK.1 hv with hv | hv
    .exact hd v hv
    .rw [AkM.1 hv];exact hl
   split at h
   .injection h with h;subst h;exact hd'
   .exact Abf f _ _ _ hd' h
  .cases h
theorem TC (k:Nat):∀v∈rkc b x y top k,liv b x y v=true:=by
 intro v hv;unfold rkc rcA at hv;split at hv
 .rename_i p hp;exact Abf _ _ _ _ Z hp v hv
 .cases hv
theorem Aay (a:Int):∀v∈tcl b x y a,liv b x y v=true:=by
 intro v hv;unfold tcl at hv;split at hv
 .rename_i h;obtain ⟨l,hl⟩:=Amu.1 h;rw [AkM.1 hv];exact(IV hl).2.1
 .cases hv
theorem Aab (a:Int):∀v∈tpc b x y a,pcB b x y v=true:=by
 intro v hv;unfold tpc at hv;cases hp:ptx b x y a with
 | none=>rw [hp]at hv;cases hv
 | some l=>rw [hp]at hv;exact(IV hp).1.all v hv
theorem Agn {v:Int} (h:pcB b x y v=true):liv b x y v=true:=by
 unfold pcB at h;rw [AkI]at h;exact h.1
theorem Ahb {root:Int} (ht:tre b x y root=some top):∀v∈pgl top root,liv b x y v=true:=by
 intro v hv;unfold pgl at hv;simp only [Ams,AkK,AkM,decide_eq_true_eq]at hv;obtain ⟨hv,h0⟩:=hv;rcases hv with hv | hv
 .obtain ⟨j,hj,rfl⟩:=Alh hv;have hg:=Ai hj;rw [AkD hj]at hg;injection hg with hg
  rw [hg]at h0 ⊢;rcases AiN ht j (by rw [<- In ht];exact hj)with q | q
  .exact absurd q h0
  .have:=q.1;unfold pgB at this;rw [AkI]at this;exact this.1
 .subst hv;exact(Yp ht h0).1
theorem Aef {k:Nat} (h:rko b x y top k=true):vl b top k≠0:=by
 intro q;unfold rko rcA rcd rcN at h;rw [AkG (λw=>Agc w q)]at h;cases h
theorem AhG {a:Int} (h:tok b x y a=true):a≠0:=by
 rintro rfl;unfold tok at h;obtain ⟨l,hl⟩:=Amu.1 h;obtain ⟨m,h1,h2,_⟩:=Cp (IV hl).2.1;omega
end
end Go.V.G
set_option maxRecDepth 100000
namespace Go.V.G
open Go.V
theorem AaD {l U:List Int} (hn:l.Nodup) (hU:U.Pairwise (· < ·)):l.mergeSort (λx y=>decide (x<=y))=U↔∀v,v∈l↔v∈U:=by
 have hp:=List.mergeSort_perm l (λx y=>decide (x<=y));constructor
 .rintro rfl v;exact hp.mem_iff.symm
 .intro h;have h1:(l.mergeSort (λx y=>decide (x<=y))).Pairwise (λx y=>decide (x<=y)=true):=List.pairwise_mergeSort (λa b c p q=>by simp only [decide_eq_true_eq]at *;omega) (λa b=>by simp only [AlS,decide_eq_true_eq];omega) l;have h2:(l.mergeSort (λx y=>decide (x<=y))).Nodup:=hp.nodup_iff.2 hn;have h3:(l.mergeSort (λx y=>decide (x<=y))).Pairwise (· < ·):=by
   have h2':(l.mergeSort (λx y=>decide (x<=y))).Pairwise (·≠·):=h2;exact(h1.and h2').imp λ⟨p,q⟩=>by simp only [decide_eq_true_eq]at p;omega
  exact Aah (ris_iff.2 h3) (ris_iff.2 hU) λv=>by rw [hp.mem_iff];exact h v
section
variable {b:Bls} {x y top:List Int}
theorem Aiu {C P:List Int} (hP:∀v∈P,pcB b x y v=true):(List.range b.length).all (stB b x C P)=true↔(∀v∈P,v∉C/\gb (blk b v.toNat) 1=(P.count v:Int))/\∀k:Nat,33<=k->k < b.length->(bit x k=true↔((k:Int)∈C\/(k:Int)∈P)):=by
 rw [all_range];constructor
 .intro q;refine⟨λv hv=>?_,λk h1 h2=>?_⟩
  .obtain ⟨m,rfl,h33,hm,_⟩:=QC (hP v hv);have:=q m hm;have hc:=List.count_pos_iff.2 hv;unfold stB at this;simp only [AkI,AlS,decide_eq_true_eq,AkP,decide_eq_false_iff_not]at this;rcases this.1 with w | w
   .omega
   .rw [AkE];exact w
  .have:=q k h2;unfold stB at this;simp only [AkI,AlS,decide_eq_true_eq,beq_iff_eq]at this;rcases this.2 with w | w
   .omega
   .rw [w,decide_eq_true_eq,List.count_pos_iff]
 .rintro ⟨q1,q2⟩ k hk;unfold stB;rw [AkI];constructor
  .by_cases hv:(k:Int)∈P
   .obtain ⟨w1,w2⟩:=q1 _ hv;rw [AkE]at w2;rw [decide_eq_false w1,decide_eq_true w2];simp
   .have:P.count (k:Int)=0:=List.count_eq_zero.2 hv;rw [decide_eq_true this];rfl
  .by_cases h33:k < 33
   .rw [decide_eq_true h33];rfl
   .have:=q2 k O hk;rw [decide_eq_false h33,AlT,beq_iff_eq,Amy,this,decide_eq_true_eq,List.count_pos_iff]
theorem Ag2 {P:List Int} (hP:∀v∈P,pcB b x y v=true):(std P).any (λp=>!decide (pst b x y p.1=p.2))=false↔∀v∈P,gb (blk b v.toNat) 1=(P.count v:Int):=by
 obtain ⟨s1,s2,s3⟩:=XW P;rw [AlK];constructor
 .intro q v hv;obtain ⟨p,hp,rfl⟩:=AkY.1 ((s3 v).2 hv);have h1:=q p hp;have h2:=WJ s2 p hp;rw [s1]at h2;simp only [AkP,decide_eq_false_iff_not,Classical.not_not]at h1;unfold pst at h1;rw [AkH (hP _ hv)]at h1;rw [h1,h2]
 .intro q p hp;have hv:p.1∈P:=(s3 _).1 (List.mem_map_of_mem hp);have h2:=WJ s2 p hp;rw [s1]at h2;have h3:=q _ hv;simp only [AkP,decide_eq_false_iff_not,Classical.not_not];unfold pst;rw [AkH (hP _ hv),h3,h2]
theorem AgN (A B:List (Int×Int)):upk (A++B)=upk A++upk B:=by unfold upk;exact Al8 ..
theorem U7 {f h:Nat}:∀k,stk f h (k+1)=skn f 0 h++upk (stk f h (k+1))
 | 0=>by
  have e:stk f h 1=skn f 0 h:=by
   show([]++skn f 0 (h / 2 ^ 0):List (Int×Int))=_;rw [Ala,Nat.pow_zero,Nat.div_one]
  have:upk (skn f 0 h)=[]:=by
   unfold upk;rw [List.filter_eq_nil_iff];intro s hs;obtain ⟨i,_,_,rfl⟩:=skn_mem.1 hs;simp
  rw [e,this,AkT]
 | k+1=>by
  have ih:=U7 (f:=f) (h:=h) k;have e:stk f h (k+1+1)=stk f h (k+1)++skn f (k+1) (h / 2 ^ (k+1)):=rfl;have hu:upk (skn f (k+1) (h / 2 ^ (k+1)))=skn f (k+1) (h / 2 ^ (k+1)):=by
   unfold upk;rw [List.filter_eq_self];intro s hs;obtain ⟨i,_,_,rfl⟩:=skn_mem.1 hs;simp only [decide_eq_true_eq];omega
  rw [e,AgN,hu,<- AkN,<- ih]
theorem Ps (f h:Nat):sts f h=skn f 0 h++upk (sts f h):=U7 5
theorem ky0 (i:Nat):ky (0,(i:Int))=i:=by unfold ky;simp
theorem Add (f h:Nat):ics b x y top (sts f h)=Co b x y top f (h - f)++upc b x y top (sts f h):=by
 have e:ics b x y top (skn f 0 h)=Co b x y top f (h - f):=by
  unfold ics Co;rw [List.flatMap_def,List.flatMap_def,Ab8]
  congr 1
  refine AlD λi _=>?_
  show rkc b x y top (ky (0,((f+i:Nat):Int)))=_;rw [ky0]
 have e2:ics b x y top (upk (sts f h))=upc b x y top (sts f h):=rfl;have e3:∀A B,ics b x y top (A++B)=ics b x y top A++ics b x y top B:=λA B=>by unfold ics;exact AlW ..
 conv=>lhs;rw [Ps]
 rw [e3,e,e2]
theorem AdK (f h:Nat):(sts f h).all (ioc b x y top)=(loo b x y top f (h - f) && (upk (sts f h)).all (ioc b x y top)):=by
 have e:(skn f 0 h).all (ioc b x y top)=loo b x y top f (h - f):=by
  have:=congrArg (λl=>l.all id) (Ab8 (ioc b x y top) f h);simp only [List.all_map]at this;unfold loo;rw [show((skn f 0 h).all (ioc b x y top))=(skn f 0 h).all (id ∘ ioc b x y top) from rfl,this]
  congr 1
  funext i
  show ioc b x y top (0,((f+i:Nat):Int))=_;unfold ioc;rw [ky0]
 conv=>lhs;rw [Ps]
 rw [List.all_append,e]
theorem Aim {f h:Nat} {t:List UInt8} {r:List Rn} (hf:f<=h) (gh:GH (f:Int) t r (chC (lod b x y top f (h - f)))) {s:Int×Int} (hs:s∈skn f 0 h):ipt b x y top s=bt (f:Int) t (chC (lod b x y top f (h - f))) s:=by
 obtain ⟨i,h1,h2,rfl⟩:=skn_mem.1 hs;rw [Nat.pow_zero,Nat.mul_one]at h2;have hl:(chC (lod b x y top f (h - f))).length=h - f:=by unfold chC lod;simp
 have hb:=QU gh (a:=(i:Int)) O O;have e1:bt (f:Int) t (chC (lod b x y top f (h - f))) (0,(i:Int))=B0 (f:Int) t (chC (lod b x y top f (h - f))) (i:Int) ((i:Int)+1):=by
  unfold bt frS toS;simp
 have e2:(chC (lod b x y top f (h - f)))[((i:Int) - (f:Int)).toNat]?=some (BT (rkd b x y top i)).1:=by
  rw [show((i:Int) - (f:Int)).toNat=i - f by omega];unfold chC lod;rw [Ali,Ali,Amz O];show some (BT (rkd b x y top (f+(i - f)))).1=_;rw [(O:f+(i - f)=i)]
 rw [hb]at e2;injection e2 with e2
 show ipt b x y top (0,(i:Int))=bt _ _ _ (0,(i:Int));rw [e1,e2];unfold ipt;rw [ky0]
theorem Ag0 {f h:Nat} {s:Int×Int} (hs:s∈upk (sts f h)):s∈sts f h/\0 < s.1:=by
 unfold upk at hs;simpa using hs
theorem Aa9 {f h:Nat} {t:List UInt8} {r:List Rn} {cs:List (List Prt)} (gh:GH (f:Int) t r cs) {s:Int×Int} (hs:s∈sts f h):AH (bt (f:Int) t cs s)=true:=by
 obtain ⟨k,j,g8⟩:=sts_mem.1 hs;obtain ⟨f1,f2,f3,f4,f5⟩:=g8.ft;exact(IF gh (a:=(frS s:Int)) (b:=(toS s:Int)) O O).1
theorem Aan (g:RS b x y) {f h:Nat} {t:List UInt8} {r:List Rn} (hf:f<=h) (gh:GH (f:Int) t r (chC (lod b x y top f (h - f)))) :
  ((sts f h).all (upe b x y top (f:Int) t (chC (lod b x y top f (h - f)))) && upo b x y top (sts f h))=((sts f h).all (ieq b x y top (f:Int) t (chC (lod b x y top f (h - f)))) && (upk (sts f h)).all (ioc b x y top)):=by
 rw [Amy,AkI,AkI];unfold upo;simp only [Ak7];constructor
 .rintro ⟨q1,q2⟩;have hr:∀s∈upk (sts f h),BT (rkd b x y top (ky s))=(bt ((f:Nat):Int) t (chC (lod b x y top f (h - f))) s,true):=λs hs=>by
   obtain ⟨m1,m2⟩:=Ag0 hs;have:=q1 s m1;unfold upe at this;rw [decide_eq_true m2,Alt,AlT]at this;exact(Ac0 (KO g top (ky s)) (Aa9 gh m1)).1 this
  refine⟨λs hs=>?_,λs hs=>?_⟩
  .rw [Ps]at hs;unfold ieq;rcases AkK.1 hs with hs | hs
   .exact decide_eq_true (Aim hf gh hs)
   .unfold ipt;rw [hr s hs];simp
  .unfold ioc;rw [q2 s hs,hr s hs];rfl
 .rintro ⟨q1,q2⟩;refine⟨λs hs=>?_,λs hs=>?_⟩
  .unfold upe;by_cases h0:0 < s.1
   .have hm:s∈upk (sts f h):=by unfold upk;simp [hs,h0]
    have h1:=q1 s hs;have h2:=q2 s hm;unfold ieq at h1;unfold ioc at h2;rw [AkI]at h2;rw [decide_eq_true_eq]at h1;rw [(Ac0 (KO g top (ky s)) (Aa9 gh hs)).2 (Prod.ext h1 h2.2)];simp
   .rw [decide_eq_false h0];rfl
  .have h2:=q2 s hs;unfold ioc at h2;rw [AkI]at h2;exact h2.1
end
end Go.V.G
set_option maxRecDepth 100000
namespace Go.V.G
open Go.V
section
variable {b:Bls} {x top:List Int} {R T:Int} {f h e:Nat}
noncomputable def cI (b:Bls) (x top:List Int) (R T:Int) (f h e:Nat):List Int:=((aC2 b x top R T++ics b x [] top (sts f h))++rkc b x [] top 448)++ckc b x [] top (cks f h e)
theorem AhW:Led ((aC2 b x top R T++ics b x [] top (sts f h))++rkc b x [] top 448) (aP2 b x T) (bB4 b x top R T f h):=by
 have h1:Led ([]++srt (pgl top R)) [] ([]++srt (pgl top R)):=Led.claims Led.nil;rw [Ala]at h1;have h2:=AaZ (x:=x) (y:=[]) (b:=b) h1 T;rw [Ala]at h2;exact Led.claims (Led.claims h2)
theorem Aj5:Led (cI b x top R T f h e) (aP6 b x top T f h e) (bB5 b x top R T f h e):=Aa0 (cks f h e) AhW
theorem Agw:(cI b x top R T f h e).Perm (aC6 b x top R T f h e):=by
 unfold cI aC6 aC5 aC4 aC3;rw [Add];refine List.Perm.append_right _ ?_;have e1:aC2 b x top R T++(Co b x [] top f (h - f)++upc b x [] top (sts f h))++rkc b x [] top 448=aC2 b x top R T++((Co b x [] top f (h - f)++upc b x [] top (sts f h))++rkc b x [] top 448):=by simp
 have e2:aC2 b x top R T++rkc b x [] top 448++Co b x [] top f (h - f)++upc b x [] top (sts f h)=aC2 b x top R T++(rkc b x [] top 448++(Co b x [] top f (h - f)++upc b x [] top (sts f h))):=by simp
 rw [e1,e2];exact List.Perm.append_left _ List.perm_append_comm
theorem AhZ (ht:tre b x [] R=some top):∀v∈aC6 b x top R T f h e,liv b x [] v=true:=by
 intro v hv;have hpl:=Aa3 (root:=R) (In ht);unfold aC6 aC5 aC4 aC3 aC2 aC1 at hv;simp only [AkK]at hv;rcases hv with((((((hv | hv) | hv) | hv) | hv)) | hv)
 .exact Ahb ht v (((J5 O).2.2 v).1 hv)
 .exact Aay T v hv
 .exact TC 448 v hv
 .unfold Co at hv;obtain ⟨i,_,hi⟩:=AmG.1 hv;exact TC _ v hi
 .unfold upc at hv;obtain ⟨i,_,hi⟩:=AmG.1 hv;exact TC _ v hi
 .unfold ckc at hv;obtain ⟨i,_,hi⟩:=AmG.1 hv;exact Aay _ v hi
theorem Ajl:∀v∈aP6 b x top T f h e,pcB b x [] v=true:=by
 intro v hv;unfold aP6 aP2 at hv;rcases AkK.1 hv with hv | hv
 .exact Aab T v hv
 .unfold ckp at hv;obtain ⟨i,_,hi⟩:=AmG.1 hv;exact Aab _ v hi
theorem Aa4 {v:Int}:v∈bKs f h e↔v∈ID f h e:=by
 unfold bKs ID;simp only [AkK];constructor
 .rintro ((q | q) | q)
  .exact .inl q
  .exact .inr (.inr q)
  .exact .inr (.inl q)
 .rintro (q | q | q)
  .exact .inl (.inl q)
  .exact .inr q
  .exact .inl (.inr q)
theorem Agm {fn:Bool} {l:List Int}:okb fn l=true↔fn=true/\l.Nodup:=by unfold okb ndb;simp
theorem Ah5 {fn:Bool} {l:List Int}:bd fn l=false↔fn=true/\l.Nodup:=by unfold bd ndb;simp
theorem Ai5 (g:RS b x []) (ht:tre b x [] R=some top) (hf:f<=h) (hh:h<=60):sC b x top R T f h e=iC b x top R T f h e:=by
 have hP:=Ajl (b:=b) (x:=x) (top:=top) (T:=T) (f:=f) (h:=h) (e:=e);have hC:=AhZ (T:=T) (f:=f) (h:=h) (e:=e) ht;have L5:=Aj5 (b:=b) (x:=x) (top:=top) (R:=R) (T:=T) (f:=f) (h:=h) (e:=e);have L4:=AhW (b:=b) (x:=x) (top:=top) (R:=R) (T:=T) (f:=f) (h:=h);have hperm:=Agw (b:=b) (x:=x) (top:=top) (R:=R) (T:=T) (f:=f) (h:=h) (e:=e);have hmem:∀v,v∈bB5 b x top R T f h e↔v∈aC6 b x top R T f h e\/v∈aP6 b x top T f h e:=λv=>by rw [L5.mem,hperm.mem_iff]
 have hnd:(bB5 b x top R T f h e).Nodup↔(aC6 b x top R T f h e).Nodup/\∀v∈aP6 b x top T f h e,v∉aC6 b x top R T f h e:=by
  rw [L5.nd,hperm.nodup_iff];exact⟨λq=>⟨q.1,λv hv w=>q.2 v hv (hperm.mem_iff.2 w)⟩,λq=>⟨q.1,λv hv w=>q.2 v hv (hperm.mem_iff.1 w)⟩⟩
 have hn54:(bB5 b x top R T f h e).Nodup->(bB4 b x top R T f h).Nodup:=λq=>by
  rw [L5.nd]at q;rw [L4.nd];refine⟨(AkX.1 q.1).1,λv hv w=>q.2 v (Al5 _ hv) (Al5 _ w)⟩
 have hn64:(aC6 b x top R T f h e).Nodup->(aC4 b x top R T f h).Nodup:=λq=>(AkX.1 (AkX.1 q).1).1
 have hioc:=AdK (b:=b) (x:=x) (y:=[]) (top:=top) f h;have hbl:bL b x top f h=aL b x top f h:=Wt b x top f h;have hset:(∀v,v∈bB5 b x top R T f h e↔v∈usd x (b.length - 33))↔∀k:Nat,33<=k->k < b.length->(bit x k=true↔((k:Int)∈aC6 b x top R T f h e\/(k:Int)∈aP6 b x top T f h e)):=by
  have hn:=g.hn;constructor
  .intro q k h1 h2;rw [<- hmem,q,usd_mem];constructor
   .intro w;exact⟨k,h1,O,w,rfl⟩
   .rintro ⟨k',_,_,w,he⟩;have:k'=k:=O
    rw [<- this];exact w
  .intro q v;rw [hmem,usd_mem];constructor
   .intro w;have hl:liv b x [] v=true:=w.elim (hC v) (λw=>Agn (hP v w));obtain ⟨m,rfl,h1,h2,h3,_⟩:=Cp hl;exact⟨m,h1,O,h3,rfl⟩
   .rintro ⟨k,h1,h2,h3,rfl⟩;exact(q k h1 O).1 h3
 rw [Amy];unfold sC iC bG1 Acj;simp only [AkI,AkP,Amv,Agm,Ah5,decide_eq_true_eq];unfold aS;rw [Aiu hP,Ag2 hP,hbl];have hKK:bK b x top T f h e=aK b x top T f h e:=by unfold bK aK;rw [hbl]
 rw [hKK];constructor
 .rintro ⟨k1,⟨k2,k3⟩,k4,k5,k6,⟨k7,k8⟩,k9,k10⟩;have gh:=goodH_iff.1 k4;unfold af6 af5 af4 af3 at k9;simp only [AkI]at k9;obtain ⟨⟨⟨⟨⟨t1,t2⟩,t3⟩,t4⟩,t5⟩,t6⟩:=k9;have hub:=Aan (top:=top) g hf gh;have hU:(sts f h).all (upe b x [] top (f:Int) (aT b x T) (chC (lod b x [] top f (h - f))))=true:=k5;rw [hU,t5,Amb]at hub;have hub:=hub.symm;rw [AkI]at hub;have hb5:=hnd.2 ⟨k10,λv hv=>(k7 v hv).1⟩;have hio:(sts f h).all (ioc b x [] top)=true:=by rw [hioc,t4,hub.2];rfl
  have hf4:bf4 b x top T f h=true:=by unfold bf4;rw [t1,hio,t2];rfl
  refine⟨⟨t3,⟨hf4,hn54 hb5⟩,k4⟩,?_,k6,⟨⟨⟨?_,hb5⟩,λv hv=>(k7 v hv).2⟩,?_⟩,(AaD hb5 (QD x _)).2 (hset.2 k8)⟩
  .unfold bE;rw [hbl];exact hub.1
  .unfold bf5;rw [hf4,t6];rfl
  .rw [AlK];intro p hp;have hk:=(Aae hh).1 k1;obtain ⟨k,w1,w2,w3⟩:=ksT_mem.1 (List.mem_map_of_mem hp);have:=hk.1 k w1 w2;rw [<- w3,<- Aa4]at this;simp only [AkP,decide_eq_false_iff_not,Classical.not_not];exact this
 .rintro ⟨⟨t3,⟨hf4,hn4⟩,k4⟩,hE,k6,⟨⟨⟨hf5,hb5⟩,hst⟩,hky⟩,hso⟩;have gh:=goodH_iff.1 k4;unfold bf5 at hf5;rw [hf4,AkS]at hf5;unfold bf4 at hf4;simp only [AkI]at hf4;obtain ⟨⟨t1,hio⟩,t2⟩:=hf4;have hio2:=hio;rw [hioc,AkI]at hio;obtain ⟨t4,hup⟩:=hio;have hub:=Aan (top:=top) g hf gh;unfold bE at hE;rw [hbl]at hE;have hE':(sts f h).all (ieq b x [] top (f:Int) (aT b x T) (chC (lod b x [] top f (h - f))))=true:=hE;rw [hE',hup,Amb,AkI]at hub;obtain ⟨c1,c2⟩:=hnd.1 hb5;have hf3:af3 b x top T=true:=by unfold af3;rw [t1,t2,t3];rfl
  have hf4:af4 b x top T f h=true:=by unfold af4;rw [hf3,t4];rfl
  refine⟨?_,⟨hf4,hn64 c1⟩,k4,hub.1,k6,⟨λv hv=>⟨c2 v hv,hst v hv⟩,hset.1 ((AaD hb5 (QD x _)).1 hso)⟩,?_,c1⟩
  .rw [Aae hh];refine⟨λk hk hv=>?_,λk hk hm=>?_⟩
   .obtain ⟨p,hp,hpe⟩:=AkY.1 (ksT_mem.2 ⟨k,hk,hv,rfl⟩);have:=AlK.1 hky p hp;simp only [AkP,decide_eq_false_iff_not,Classical.not_not]at this;rw [<- hpe,<- Aa4];exact this
   .unfold ID at hm;simp only [AkK]at hm;rcases hm with hm | hm | hm
    .obtain ⟨s,hs,he⟩:=AkY.1 hm;have:=Ak7.1 hio2 s hs;unfold ioc at this;rw [AkI]at this;have hkk:ky s=k:=by unfold kyI at he;omega
     rw [<- hkk];exact Aef this.1
    .obtain ⟨r,hr,he⟩:=AkY.1 hm;have:=Ak7.1 hf5 r hr;have hkk:384+r=k:=by unfold ckI at he;omega
     rw [<- hkk];exact AhG this
    .have hkk:k=448:=by have:=AkM.1 hm;omega
     rw [hkk];exact Aef t2
  .unfold af6 af5;rw [hf4,hub.2,hf5];rfl
end
end Go.V.G
set_option maxRecDepth 100000
namespace Go.V.G
open Go.V
structure Sto (bl:Bls) (wr lf:Int) (f h e:Nat) (R T:Int) (top:List Int):Prop where
 gd:gd bl wr lf=true
 wt:wts bl=[]
 su:MI (blk bl 0)=(true,(f:Int),(h:Int),(e:Int),R,T)
 op:opG bl=true
 tr:tre bl (opB bl) [] R=some top
 hf:f<=h
 hh:h<=60
 he:0 < e
 he2:e<=30
theorem AfZ {c:List Int} (h:T6 c=true):∃f m e:Nat,MI c=(true,(f:Int),(m:Int),(e:Int),num c 8,num c 10)/\f<=m/\m<=60/\0 < e/\e<=30:=by
 have h2:=h;unfold T6 MQ at h2;simp only [AkI,decide_eq_true_eq]at h2;obtain ⟨_,⟨⟨h3,h4⟩,h5,_⟩,_⟩:=h2;refine⟨(gb c 4).toNat,(gb c 5).toNat,(gb c 6).toNat,?_,O,O,O,O⟩;unfold MI;rw [AkH h,Int.toNat_of_nonneg O,Int.toNat_of_nonneg O,Int.toNat_of_nonneg O]
theorem Ad0 {bl:Bls} {wr lf:Int} (on:Bool) (hn:bl.length<=1048576) (hu:∀c∈bl,U8s c) :
  (∃w,Dw bl wr on lf=some w/\w.1=false/\Dr bl wr on lf=some (none,false))\/
  ∃(f h e:Nat) (R T:Int) (top:List Int),Sto bl wr lf f h e R T top/\iC bl (opB bl) top R T f h e=true/\
   Dw bl wr on lf=some (true,(f:Int),(h:Int),(e:Int),R,T,bl,opB bl,[],[],ksT bl top 1024,(f:Int),aT bl (opB bl) T,aR bl (opB bl) top,aL bl (opB bl) top f h,srt (aC6 bl (opB bl) top R T f h e++pcn (aP6 bl (opB bl) top T f h e) bl.length))/\
   Dr bl wr on lf=some (some (bl,wr,on,lf,(f:Int),(h:Int),(e:Int),R,T,bl,opB bl,[],[],R,top,top.map (lfv bl),(f:Int),aT bl (opB bl) T,aR bl (opB bl) top,aL bl (opB bl) top f h),true):=by
 cases hd:gd bl wr lf with
 | false=>
  left;unfold Dw Dr cK cZ gX wI;rw [Fv hn,hd,AkB,FP hn,hd,AkB,AkH Z,AkH Z,AkB,AkB];dsimp only;rw [AkH rfl,AkH rfl];exact⟨_,rfl,rfl,rfl⟩
 | true=>
  obtain ⟨hb,hk⟩:=IA hd;by_cases hw:wts bl=[]
  .cases hs:T6 (blk bl 0)with
   | false=>
    left;have hsd:MI (blk bl 0)=(false,0,0,0,0,0):=by unfold MI;rw [hs];rfl
    refine⟨(false,0,0,0,0,0,[],[],[],[],[],0,[],[],[],[]),?_,rfl,?_⟩
    .unfold Dw cK cZ gX wI;rw [Fv hn,hd,AkB,AkG Z,D4 on hd hu,hw,AkB,AkB];dsimp only;rw [AkG Z,iy O,show Int.toNat 0=0 from rfl,Bu (O:0 < bl.length),AkB,IG (hu _ (BF O)),hsd,AkB];dsimp only;rw [G8 on hd hu,AkB,AkB];dsimp only;rw [AkH Z,AkB];dsimp only;rw [AkH rfl]
    .unfold Dr gX;rw [FP hn,hd,AkB,AkG Z,I6 on hd hu,hw,AkB,AkB];dsimp only;rw [AkG Z,iy O,show Int.toNat 0=0 from rfl,Bu (O:0 < bl.length),AkB,P1 (hu _ (BF O)),hsd,AkB];dsimp only;rw [AkH Z]
   | true=>
    obtain ⟨f,h,e,hsd,hf,hh,he,he2⟩:=AfZ hs;have hi:Dr bl wr on lf=Option.bind (some (opD bl)) λ(l,m,n)=>
      if(!l)=true then some (none,false)
      else Option.bind (GQ (m,(n,([],[]))) (num (blk bl 0) 8)) λ(o,p,q,r)=>
       if(!o)=true then some (none,false)
       else Option.bind (CA bl wr on lf (f:Int) (h:Int) (e:Int) (num (blk bl 0) 8) (num (blk bl 0) 10) m n [] [] p q r 0 [] [] []) λ(s,t,u,v,w,x,y,z,a0,b0,c0,d0,e0,f0,g0,h0,i0,j0,k0,l0,m0)=>
        if(!s)=true then some (none,false)
        else some (some (t,(u,(v,(w,(x,(y,(z,(a0,(b0,(c0,(d0,(e0,(f0,(g0,(h0,(i0,(j0,(k0,(l0,m0))))))))))))))))))),true):=by
     unfold Dr gX;rw [FP hn,hd,AkB,AkG Z,I6 on hd hu,hw,AkB,AkB];dsimp only;rw [AkG Z,iy O,show Int.toNat 0=0 from rfl,Bu (O:0 < bl.length),AkB,P1 (hu _ (BF O)),hsd,AkB];dsimp only;rw [AkG Z,T0 on hd hu]
    cases ho:opG bl with
    | false=>
     left;have hod:opD bl=(false,[],[]):=by unfold opD;rw [ho];rfl
     refine⟨(false,0,0,0,0,0,[],[],[],[],[],0,[],[],[],[]),?_,rfl,?_⟩
     .unfold Dw cK cZ gX wI;rw [Fv hn,hd,AkB,AkG Z,D4 on hd hu,hw,AkB,AkB];dsimp only;rw [AkG Z,iy O,show Int.toNat 0=0 from rfl,Bu (O:0 < bl.length),AkB,IG (hu _ (BF O)),hsd,AkB];dsimp only;rw [G8 on hd hu,hod,AkB,AkB];dsimp only;rw [AkG Z,AkH Z,AkB];dsimp only;rw [AkH rfl]
     .rw [hi,hod,AkB];dsimp only;rw [AkH Z]
    | true=>
     have hod:opD bl=(true,bl,opB bl):=by unfold opD;rw [ho];rfl
     have sb:=SR (bl:=bl) O O;have hog:gsp bl (opB bl) [] []=true:=by unfold opG at ho;rw [AkI]at ho;exact ho.1
     have g:=(Qx hog).rs sb hu;cases ht:tre bl (opB bl) [] (num (blk bl 0) 8)with
     | none=>
      left;refine⟨(false,0,0,0,0,0,[],[],[],[],[],0,[],[],[],[]),?_,rfl,?_⟩
      .unfold Dw cK cZ gX wI;rw [Fv hn,hd,AkB,AkG Z,D4 on hd hu,hw,AkB,AkB];dsimp only;rw [AkG Z,iy O,show Int.toNat 0=0 from rfl,Bu (O:0 < bl.length),AkB,IG (hu _ (BF O)),hsd,AkB];dsimp only;rw [G8 on hd hu,hod,AkB,AkB];dsimp only;rw [AkG Z,AkG Z,HZ sb hu,hog,ht,AkB,AkB];dsimp only;rw [AkH Z]
      .rw [hi,hod,AkB];dsimp only;rw [AkG Z,US g,ht];unfold trI;dsimp only;rw [AkB];dsimp only;rw [AkH Z]
     | some top=>
      have htl:=In ht;obtain ⟨w,w1,w2,w3⟩:=AfK on hn hd hu hw hsd ho ht hf hh he he2;obtain ⟨q,q1,q2,q3⟩:=Aee (wr:=wr) (lf:=lf) (R:=num (blk bl 0) 8) (T:=num (blk bl 0) 10) on hn g htl hf hh he he2;have hsc:=Ai5 (b:=bl) (x:=opB bl) (T:=num (blk bl 0) 10) (f:=f) (h:=h) (e:=e) g ht hf hh;rw [hi,hod,AkB];dsimp only;rw [AkG Z,US g,ht];unfold trI;dsimp only;rw [AkB];dsimp only;rw [AkG Z,q1,AkB];cases hc:iC bl (opB bl) top (num (blk bl 0) 8) (num (blk bl 0) 10) f h e with
      | false=>
       left;rw [hc]at q2;rw [hsc,hc]at w2;refine⟨w,w1,w2,?_⟩;rw [q2];rfl
      | true=>
       right;refine⟨f,h,e,num (blk bl 0) 8,num (blk bl 0) 10,top,⟨hd,hw,hsd,ho,ht,hf,hh,he,he2⟩,hc,?_,?_⟩
       .rw [w1,w3 (by rw [hsc];exact hc)]
       .rw [q3 hc];rfl
  .left;have hlen:0 < (wts bl).length:=List.length_pos_iff.2 hw;unfold Dw Dr cK cZ gX wI;rw [Fv hn,hd,AkB,AkG Z,D4 on hd hu,AkB,AkB,FP hn,hd,AkB,AkG Z,I6 on hd hu,AkB,AkB];dsimp only;rw [decide_eq_true (show(0:Int) < (((wts bl).length:Nat):Int) by omega),AkH rfl,AkH rfl];exact⟨_,rfl,rfl,rfl⟩
end Go.V.G
set_option maxRecDepth 100000
namespace Go.V.G
open Go.V
theorem Af1 {n:Nat} {l:Int} (h:¬ lft l n < 0):(n:Int)<=l:=by
 unfold lft at h;split at h
 .assumption
 .exact absurd O h
theorem Aio {n:Int} (h:Lo (.int .u8) n):0<=n/\n<=255:=by
 have h2:(Lit.int .u8 n).wf=true:=h;simp [Lit.wf,IntKind.min,IntKind.max,IntKind.bits,IntKind.signed]at h2;omega
theorem Sto.rs {bl:Bls} {wr lf:Int} {f h e:Nat} {R T:Int} {top:List Int} (S:Sto bl wr lf f h e R T top) (hu:∀c∈bl,U8s c):RS bl (opB bl) []:=by
 obtain ⟨hb,hk⟩:=IA S.gd;have hog:gsp bl (opB bl) [] []=true:=by have:=S.op;unfold opG at this;rw [AkI]at this;exact this.1
 exact(Qx hog).rs (SR O O) hu
end Go.V.G
set_option maxRecDepth 100000
namespace Go.V.G
open Go.V
theorem Ac9 {n:Nat} {g:List Wr} (h:GrOk n g) (hl:g.length<=30):Pm g=some (g++[(2,CG)]):=by
 unfold Pm cK cZ;have h2:=Am JV (λk=>(g.take k,g,(g.length:Int),((k:Nat):Int))) g.length (g.take g.length) (λk hk=>by
  have hg:=D1 hk;have hd:=h.hd _ (All hg);unfold JV cK gX wI;dsimp only;rw [iy O,iy O,AkE,hg,AkB,PE O,AkB,AkH (by simp only [Aa,decide_eq_true_eq,AkO,AkL];omega),Ak O,CE hg]) (by
  unfold JV cK gX wI;dsimp only;rw [ino O])
 rw [show Ab JV ([],g,(g.length:Int),0)=_ from h2,AkB,iy O,iy O,AkH (by simp [Aa]),Alq,AkH (by simp only [Aa,decide_eq_true_eq,AkO];omega)];rfl
theorem Tw {L:List Wr} (hL:L.length<=1000):∀(l:List Wr) (k:Nat) (bl:Bls) (wr lf:Int),L.drop k=l->(∀w∈l,(0<=w.1/\w.1 < (bl.length:Int))/\w.2.length=128)->
  Ab CM (L,(L.length:Int),(k:Int),bl,wr,true,lf)=some (if(Cv l bl wr lf).1=true then .inl (L,(Cv l bl wr lf).2)else .inr ((L.length:Int),false,(Cv l bl wr lf).2))
 | [],k,bl,wr,lf,hd,_=>by
  have hk:L.length<=k:=List.drop_eq_nil_iff.1 hd;rw [Ax];unfold CM cK cZ wI;dsimp only;rw [ino O];rfl
 | w::l,k,bl,wr,lf,hd,hw=>by
  obtain ⟨h1,h2,h3⟩:=Abk hd;obtain ⟨⟨a0,a1⟩,a2⟩:=hw w Z;rw [Ax];have hstep:CM (L,(L.length:Int),(k:Int),bl,wr,true,lf)=some (if(BA w.1 w.2 bl wr true lf).1=true then .inl (L,(L.length:Int),((k+1:Nat):Int),(BA w.1 w.2 bl wr true lf).2)else .inr (.inr ((L.length:Int),false,(BA w.1 w.2 bl wr true lf).2))):=by
   unfold CM cK cZ wI;dsimp only;rw [iy O,iy O,iy O,AkZ,AkE,h1,AkB,AkB,AkB,WU O a0 a1,AkB,Ak O];cases (BA w.1 w.2 bl wr true lf).1 <;> rfl
  rw [hstep];unfold Cv;by_cases hp:(BA w.1 w.2 bl wr true lf).1=true
  .rw [AkH hp,AkH hp];obtain ⟨e1,e2⟩:=Nd hp;have ih:=Tw hL l (k+1) (BA w.1 w.2 bl wr true lf).2.1 (BA w.1 w.2 bl wr true lf).2.2.1 (BA w.1 w.2 bl wr true lf).2.2.2.2 h2 (λv hv=>by rw [e2,AlB];exact hw v (by simp [hv]));rw [<- ih];generalize BA w.1 w.2 bl wr true lf=q at e1;obtain ⟨q1,q2,q3,q4,q5⟩:=q;dsimp only at e1 ⊢;rw [e1]
  .rw [AkG hp,AkG hp,AkG Z]
theorem Aam:∀(l:List Wr) (bl:Bls) (wr lf:Int),(Cv l bl wr lf).1=true->(Cv l bl wr lf).2.2.2.1=true
 | [],bl,wr,lf,_=>rfl
 | w::l,bl,wr,lf,h=>by
  unfold Cv at h ⊢;split at h
  .rename_i hp;rw [AkH hp];exact Aam _ _ _ _ h
  .cases h
theorem UB (w:Wr):∀(l:List Wr) (bl:Bls) (wr lf:Int),Cv (l++[w]) bl wr lf=if(Cv l bl wr lf).1=true then(BA w.1 w.2 (Cv l bl wr lf).2.1 (Cv l bl wr lf).2.2.1 true (Cv l bl wr lf).2.2.2.2)else Cv l bl wr lf
 | [],bl,wr,lf=>by
  show Cv [w] bl wr lf=_;unfold Cv Cv;dsimp only;rw [AkH rfl];by_cases hp:(BA w.1 w.2 bl wr true lf).1=true
  .rw [AkH hp];have:=(Nd hp).1;generalize BA w.1 w.2 bl wr true lf=q at hp this;obtain ⟨q1,q2,q3,q4,q5⟩:=q;dsimp only at hp this ⊢;rw [hp,this]
  .rw [AkG hp];generalize BA w.1 w.2 bl wr true lf=q at hp;obtain ⟨q1,q2,q3,q4,q5⟩:=q;dsimp only at hp ⊢;rw [show q1=false by simpa using hp]
 | v::l,bl,wr,lf=>by
  rw [Alp];unfold Cv;by_cases hp:(BA v.1 v.2 bl wr true lf).1=true
  .simp only [AkH hp];exact UB w l _ _ _
  .simp only [AkG hp];simp
theorem Aax:∀(l:List Wr) (bl:Bls) (wr lf:Int),(∀w∈l,U8s w.2)->(∀c∈bl,U8s c)->∀c∈(Cv l bl wr lf).2.1,U8s c
 | [],bl,wr,lf,_,hk=>hk
 | w::l,bl,wr,lf,hl,hk=>by
  unfold Cv;split
  .rename_i hp;obtain ⟨_,e⟩:=Nd hp;rw [e];exact Aax l (bl.set w.1.toNat w.2) (BA w.1 w.2 bl wr true lf).2.2.1 (BA w.1 w.2 bl wr true lf).2.2.2.2 (λv hv=>hl v (by simp [hv])) (λc hc=>by
    rcases AlC hc with hc | rfl
    .exact hk c hc
    .exact hl w Z)
  .rename_i hp;have:=AaY (by simpa using hp);dsimp only;rw [this];exact hk
theorem YL {bl:Bls} {wr lf:Int} (on:Bool) (hn:bl.length<=1048576) (hu:∀c∈bl,U8s c) :
  ∃(m k:Int) (b2:Bls) (w2:Int) (o2:Bool) (l2:Int),(k=1\/k=0\/k=2/\m=0)/\b2.length<=160/\(∀c∈b2,c.length=128)/\(∀c∈b2,U8s c)/\
   Is bl wr on lf=some (m,k,b2,w2,o2,l2)/\Ft bl wr on lf=some (m,k,b2,w2,o2,l2):=by
 by_cases hg:gd bl wr lf=true/\wr<=999999900
 .obtain ⟨hd,hwr⟩:=hg;obtain ⟨hb,hk⟩:=IA hd;have hbd:=Abp hb.2 hk;have hs:Is bl wr on lf=(DI bl wr on lf).bind λ((j,k,l,m,n,o):Int×(Bool×(Bls×(Int×(Bool×Int)))))=>if(!k)=true then some (0,(2:Int),l,m,n,o)else some (j,0,l,m,n,o):=by
   unfold Is;rw [Fv hn,hd,AkB,AkG Z,AkB];dsimp only;rw [ino O,Adj hbd,AkB]
  cases on with
  | false=>
   refine⟨0,2,bl,wr,false,lf,.inr (.inr ⟨rfl,rfl⟩),hb.2,hk,hu,?_,?_⟩
   .rw [hs];unfold DI cK cZ;rw [AkH (show(!false)=true from rfl),AkB];rfl
   .unfold Ft;rw [FP hn,hd,AkB,AkG Z,AkB];dsimp only;rw [ino O,AkH (show(!false)=true from rfl),UK hbd,AkB]
  | true=>
   have hi:Ft bl wr true lf=if decide ((((wts bl).length:Nat):Int)=0)=true then some (0,0,bl,wr,true,lf)else
     (Pm (wts bl)).bind λc6=>(DM c6 bl wr true lf).bind λ(n,o,p,q,r)=>if decide (¬ n=0)=true then some (0,n,o,p,q,r)else some ((((wts bl).length:Nat):Int),0,o,p,q,r):=by
    unfold Ft;rw [FP hn,hd,AkB,AkG Z,AkB];dsimp only;rw [ino O,AkG Z,UK hbd,AkB];dsimp only;rw [I6 true hd hu,AkB]
   by_cases hz:wts bl=[]
   .refine⟨0,0,bl,wr,true,lf,.inr (.inl rfl),hb.2,hk,hu,?_,?_⟩
    .rw [hs];unfold DI cK cZ;rw [AkG Z,D4 true hd hu,AkB,hz,show Ab CM ([],(([]:List Wr).length:Int),0,bl,wr,true,lf)=_ from Tw Z [] 0 bl wr lf rfl Z,AkB];rfl
    .rw [hi,hz];rfl
   .have hgo:GrOk bl.length (wts bl)/\1<=(wts bl).length/\(wts bl).length<=30:=by
     unfold wts at hz ⊢;split at hz
     .rename_i hc;rw [AkH hc];simp only [AkI]at hc;exact YN hb.1 hc.2.1 (WT hu)
     .exact absurd rfl hz
    obtain ⟨ho,hl1,hl2⟩:=hgo;have hall:∀w∈wts bl,(0<=w.1/\w.1 < (bl.length:Int))/\w.2.length=128:=λw hw=>XP ho hb.1 hl2 w (by unfold Wh;simp [hw])
    have hall2:∀w∈wts bl++[(2,CG)],(0<=w.1/\w.1 < (bl.length:Int))/\w.2.length=128:=λw hw=>XP ho hb.1 hl2 w (by unfold Wh;exact List.mem_append_right _ hw)
    have hu2:∀w∈wts bl++[(2,CG)],U8s w.2:=λw hw=>by
     rcases AkK.1 hw with hw | hw
     .exact ho.u8 w hw
     .rw [AkM.1 hw];exact Rr
    obtain ⟨k1,k2⟩:=TY (wts bl++[(2,CG)]) bl wr lf (λw hw=>(hall2 w hw).2) hk;have k3:=Aax (wts bl++[(2,CG)]) bl wr lf hu2 hu;obtain ⟨j1,j2⟩:=TY (wts bl) bl wr lf (λw hw=>(hall w hw).2) hk;have hsn:=UB (2,CG) (wts bl) bl wr lf;have hS:DI bl wr true lf=some ((((wts bl).length:Nat):Int),Cv (wts bl++[(2,CG)]) bl wr lf):=by
     unfold DI cK cZ;rw [AkG Z,D4 true hd hu,AkB,show Ab CM (wts bl,(((wts bl).length:Nat):Int),0,bl,wr,true,lf)=_ from Tw O (wts bl) 0 bl wr lf rfl hall,AkB,hsn];have hon:=Aam (wts bl) bl wr lf;generalize Cv (wts bl) bl wr lf=q at hon j1;obtain ⟨q1,q2,q3,q4,q5⟩:=q;dsimp only at hon j1;cases q1 with
     | false=>simp
     | true=>
      rw [hon rfl,AkH rfl,AkH rfl];dsimp only;rw [iy O,iy O,iy O,AkH (by simp [Aa]),show List.replicate (Int.toNat 128) (0:Int)=CG from rfl,WU (by simp [CG]) O O,AkB];generalize BA 2 CG q2 q3 true q5=p;obtain ⟨p1,p2,p3,p4,p5⟩:=p;cases p1 <;> rfl
    generalize hq:Cv (wts bl++[(2,CG)]) bl wr lf=q at k1 k2 k3 hS;obtain ⟨q1,q2,q3,q4,q5⟩:=q;dsimp only at k1 k2 k3;have hI:Ft bl wr true lf=if(!q1)=true then some (0,2,q2,q3,q4,q5)else some ((((wts bl).length:Nat):Int),0,q2,q3,q4,q5):=by
     rw [hi,ino O,Ac9 ho hl2,AkB,V6 (by rw [AkJ,AkO];omega) hall2,hq,AkB];cases q1 <;> rfl
    rw [hs,hS,AkB];dsimp only;cases q1 with
    | false=>exact⟨0,2,q2,q3,q4,q5,.inr (.inr ⟨rfl,rfl⟩),O,k2,k3,rfl,hI⟩
    | true=>exact⟨_,0,q2,q3,q4,q5,.inr (.inl rfl),O,k2,k3,rfl,hI⟩
 .refine⟨0,1,[],0,false,0,.inl rfl,Z,Z,Z,?_,?_⟩
  .unfold Is;rw [Fv hn,AkB];cases hd:gd bl wr lf with
   | false=>rfl
   | true=>
    rw [AkG Z,AkB];dsimp only;rw [iy (by have:¬ wr<=999999900:=λq=>hg ⟨hd,q⟩;omega)]
  .unfold Ft;rw [FP hn,AkB];cases hd:gd bl wr lf with
   | false=>rfl
   | true=>
    rw [AkG Z,AkB];dsimp only;rw [iy (by have:¬ wr<=999999900:=λq=>hg ⟨hd,q⟩;omega)]
end Go.V.G
set_option maxRecDepth 100000
namespace Go.V.G
open Go.V
theorem AbP {b:List (List Int)} {x:Int} {y:Bool} {z:Int} (h:Bc b<=1099511627776) {k:Int} (h0:0<=k) (h1:k<=1000000000000000) :
  Hd (mks FN BO b k) x y z k=some (k+AG BO b):=by
 have:=PH b;unfold Hd;rw [ZV h h0 O,AkB,AkG Aky]
theorem Zn {b:Bls} (h1:b.length<=160) (h2:∀c∈b,c.length<=128):Bc b<=100000:=by
 have:∀b:Bls,(∀c∈b,c.length<=128)->AG Bo b<=128 * b.length:=by
  intro b
  induction b with
  | nil=>intro _;simp [AG]
  | cons c l ih=>
   intro hh;have h3:=hh c Z;have h4:=ih (λd hd=>hh d (by simp [hd]));have e:Bo c=c.length:=rfl;simp only [AG,AkQ,e];omega
 have:=this b h2;unfold Bc;omega
theorem Ut {bl:Bls} {wr lf:Int} (on:Bool) (hn:bl.length<=1048576) (hu:∀c∈bl,U8s c):∃r:Bool,JH bl wr on lf=some r/\JN bl wr on lf=some r:=by
 unfold JH JN;rcases Ad0 (bl:=bl) (wr:=wr) (lf:=lf) on hn hu with⟨w,w1,w2,w3⟩ | ⟨f,h,e,R,T,top,_,_,w1,w2⟩
 .exact⟨false,by rw [w1,AkB];exact congrArg some w2,by rw [w3];rfl⟩
 .exact⟨true,by rw [w1];rfl,by rw [w2];rfl⟩
theorem Aes {bl:Bls} {wr lf:Int} (on:Bool) (hn:bl.length<=1048576) (hu:∀c∈bl,U8s c) :
  ∃(m k:Int) (b2:Bls) (w2:Int) (o2:Bool) (l2:Int),b2.length<=160/\(∀c∈b2,c.length=128)/\(∀c∈b2,U8s c)/\
   EB bl wr on lf=some (m,k,b2,w2,o2,l2)/\D0 bl wr on lf=some (m,k,b2,w2,o2,l2):=by
 obtain ⟨m,k,b2,w2,o2,l2,hk,h1,h2,h3,r1,r2⟩:=YL (bl:=bl) (wr:=wr) (lf:=lf) on hn hu;obtain ⟨g,g1,g2⟩:=Ut (bl:=b2) (wr:=w2) (lf:=l2) o2 O h3;rcases hk with rfl | rfl | ⟨rfl,rfl⟩
 .refine⟨0,1,[],0,false,0,Z,Z,Z,?_,?_⟩
  .unfold EB;rw [r1,AkB];dsimp only;rw [iy rfl]
  .unfold D0;rw [r2,AkB];dsimp only;rw [iy rfl,AkB];dsimp only;rw [AkH rfl]
 .cases g with
  | false=>
   refine⟨0,1,[],0,false,0,Z,Z,Z,?_,?_⟩
   .unfold EB;rw [r1,AkB];dsimp only;rw [ino O,ino O,g1,AkB,AkH (show(!false)=true from rfl)]
   .unfold D0;rw [r2,AkB];dsimp only;rw [ino O,iy rfl,g2,AkB,AkB];dsimp only;rw [AkH (show(!false)=true from rfl)]
  | true=>
   refine⟨m,0,b2,w2,o2,l2,h1,h2,h3,?_,?_⟩
   .unfold EB;rw [r1,AkB];dsimp only;rw [ino O,ino O,g1,AkB,AkG Z]
   .unfold D0;rw [r2,AkB];dsimp only;rw [ino O,iy rfl,g2,AkB,AkB];dsimp only;rw [AkG Z,ino O]
 .refine⟨0,2,b2,w2,o2,l2,h1,h2,h3,?_,?_⟩
  .unfold EB;rw [r1,AkB];dsimp only;rw [ino O,iy rfl]
  .unfold D0;rw [r2,AkB];dsimp only;rw [ino O,ino O,AkB];dsimp only;rw [AkG Z,iy rfl]
end Go.V.G
set_option maxRecDepth 100000
namespace Go.V.G
open Go.V
theorem SJ {b:Bls} (f2:KJ b) (hu:∀c∈b,U8s c) (wr:Int) (on:Bool) (lf:Int):Dx b wr on lf=some true:=by
 unfold Dx;rw [Ago f2 O O,AkB];by_cases hs:lft 1048576 (Bc b) < 0
 .rw [AkH (by simpa using hs)]
 rw [AkG (by simpa using hs)];have hw:=Af1 hs;have hbl:=GA b;have htd:Gx b wr on lf=some (b,wr,on,lf):=AgE O;have hed:FM b wr on lf b wr on lf=some true:=AaN O;have hmd:D8 b wr on lf 1=_:=Vm O O O;obtain ⟨m,k,b2,w2,o2,l2,k1,k2,_,r1,r2⟩:=Aes (bl:=b) (wr:=wr) (lf:=lf) on O hu;have hb2:=Zn (b:=b2) k1 (λc hc=>Nat.le_of_eq (k2 c hc));have hq:FM b2 w2 o2 l2 b2 w2 o2 l2=some true:=AaN O;have hm:D8 b2 w2 o2 l2 1=_:=Vm O O O;have hh:Hd (mks FN BO b2 1) w2 o2 l2 1=_:=AbP O O O;have n0:¬ ((1:Int)+(AG BO b:Int) < 0):=O
 have n1:¬ ((1:Int)+(AG BO b2:Int) < 0):=O
 simp only [htd,r1,r2,hed,hmd,hq,hm,hh,n0,n1,AkB,Alt,AkR,Alg,not_true_eq_false,decide_false]
end Go.V.G
namespace Go.Proofs.YtofhefmbioblbaaGreat
open Go.V
theorem Nb {e1 e2:TypeId} (x0:List (List Int)) (x1:Int) (x2:Bool) (x3:Int)
  (g0:∀l∈([⟨.sl false e1 (.sl false e2 (.int .u8)),x0⟩,⟨.int .i64,x1⟩,⟨.bool,x2⟩,⟨.int .i64,x3⟩]:List Ae),Lo l.1 l.2):G.Dx x0 x1 x2 x3=some true:=by
 have h1:=g0 ⟨.sl false e1 (.sl false e2 (.int .u8)),x0⟩ Z;exact G.SJ ⟨h1.1,λx hx=>(h1.2 x hx).1⟩ (λx hx y hy=>G.Aio ((h1.2 x hx).2 y hy)) x1 x2 x3
end Go.Proofs.YtofhefmbioblbaaGreat
namespace Go.V
structure Rs where
 s:Nat
 h:Nat
 k:Nat
 o:List (Nat×Nat)
abbrev Rd (α:Type):=Rs->α×Rs
def rn:Nat->Rd Nat
 | 0,q=>(0,q)
 | f+1,⟨s,h,k,o⟩=>bif Nat.blt (s % 16) 8 then(s % 16,⟨s / 16,h,k,o⟩)else match rn f ⟨s / 16,h,k,o⟩with
  | (r,q)=>(s % 16 - 8+8 * r,q)
def rnb:Rd Nat:=rn 9
def nib:Rd Nat
 | ⟨s,h,k,o⟩=>(s % 16,⟨s / 16,h,k,o⟩)
def rl {α:Type} (p:Rd α):Nat->Rd (List α)
 | 0,q=>([],q)
 | n+1,q=>match p q with
  | (a,q)=>match rl p n q with
   | (l,q)=>(a::l,q)
def rls {α:Type} (p:Rd α):Rd (List α):=λq=>match rnb q with
 | (n,q)=>rl p n q
def r2 {α:Type} (c:Nat->Nat->α):Rd α:=λq=>match rnb q with
 | (a,q)=>match rnb q with
  | (b,q)=>(c a b,q)
def r1 {α:Type} (c:Nat->α):Rd α:=λq=>match rnb q with
 | (a,q)=>(c a,q)
def rTL (b:Nat):Rd TL:=λq=>match nib q with
 | (0,⟨s,h,k,o⟩)=>(.h h,⟨s,h+1,k,o⟩)
 | (1,⟨s,h,k,o⟩)=>(.vw (k+1),⟨s,h+1,k+1,(k+1,h)::o⟩)
 | (2,q)=>r1 (λa=>.vw (b+a)) q
 | (3,q)=>match rnb q with
  | (a,⟨s,h,k,o⟩)=>(.vw (b+a),⟨s,h+1,b+a,(b+a,h)::o⟩)
 | (4,q)=>(.nil,q)
 | (5,q)=>(.no,q)
 | (6,q)=>r1 .h q
 | (7,q)=>(.np,q)
 | (8,q)=>r2 .p q
 | (9,q)=>match rnb q with
  | (a,q)=>r2 (λi j=>.vs (b+a) i j) q
 | (10,q)=>match rnb q with
  | (a,q)=>r2 (λi j=>.ww (b+a) i j) q
 | (11,q)=>match rnb q with
  | (a,q)=>match rnb q with
   | (i,q)=>match rnb q with
    | (f,q)=>r2 (λx y=>.vq (b+a) i f x y) q
 | (12,q)=>r1 .mh q
 | (13,⟨s,h,k,o⟩)=>(.md h,⟨s,h+1,k,o⟩)
 | (14,q)=>r1 .md q
 | (_,q)=>(.no,q)
def rTS (b:Nat):Rd TS:=λq=>match nib q with
 | (0,⟨s,h,k,o⟩)=>(.one (.h h),⟨s,h+1,k,o⟩)
 | (1,⟨s,h,k,o⟩)=>(.one (.vw (k+1)),⟨s,h+1,k+1,(k+1,h)::o⟩)
 | (2,q)=>r2 .pl q
 | (3,q)=>match rTL b q with
  | (l,q)=>(.one l,q)
 | (4,q)=>match rls (rTL b) q with
  | (l,q)=>(.ag l,q)
 | (5,q)=>match rnb q with
  | (a,⟨s,h,k,o⟩)=>(.rp h a,⟨s,h+1,k,o⟩)
 | (6,q)=>match rnb q with
  | (f,q)=>match rls (r2 Prod.mk) q with
   | (l,q)=>(.fv f l,q)
 | (7,q)=>r2 .rp q
 | (_,q)=>(.one .nil,q)
def rT (qs:List Ty):Rd Ty:=r1 λi=>qs.getD i .unit
def rPl (qs:List Ty):Rd Pl:=λq=>match nib q with
 | (0,q)=>r1 .sl q
 | (1,q)=>r2 .ag q
 | (2,q)=>r2 .mc q
 | (_,q)=>match rnb q with
  | (i,q)=>match rls (rT qs) q with
   | (l,q)=>(.pt i l,q)
def rSl (b:Nat):Nat->Nat->Rd (List (Nat×TS))
 | 0,_,q=>([],q)
 | n+1,i,q=>match rnb q with
  | (d,q)=>match rTS b q with
   | (t,q)=>match rSl b n (i+d+1) q with
    | (l,q)=>((i+d,t)::l,q)
def AjX (b:Nat):Rd (Nat×List TL):=λq=>match rnb q with
 | (k,q)=>match rls (rTL b) q with
  | (l,q)=>((k,l),q)
def AfY (qs:List Ty) (b:Nat):Rd Tpl:=λ⟨s,_,k,_⟩=>match nib ⟨s,0,k,[]⟩with
 | (e,q)=>match rls (rT qs) q with
  | (ho,q)=>match rnb q with
   | (n,q)=>match rSl b n 0 q with
    | (sl,q)=>match (bif Nat.testBit e 0 then rls (AjX b) q else([],q))with
     | (me,q)=>match (bif Nat.testBit e 1 then rls (r2 λx y=>(b+x,y)) q else(q.o.reverse,q))with
      | (ow,q)=>match (bif Nat.testBit e 2 then rls (rPl qs) q else([],q))with
       | (nw,q)=>match (bif Nat.testBit e 3 then rls (rPl qs) q else([],q))with
        | (fz,q)=>(⟨ho,sl,me,ow,nw,fz⟩,q)
def rEx:Rd Ex:=λq=>match rnb q with
 | (0,q)=>(.n,q)
 | (1,q)=>(.r,q)
 | (n+2,q)=>(.x n,q)
def rJ (qs:List Ty) (b:Nat):Rd Joins:=rls λq=>match rEx q with
 | (e,q)=>match AfY qs b q with
  | (t,q)=>((e,t),q)
def Gk (qs:List Ty) (b:Nat):Nat->Rd Ann
 | 0,q=>(.nil,q)
 | f+1,q=>match nib q with
  | (1,q)=>match Gk qs b f q with
   | (x,q)=>match Gk qs b f q with
    | (y,q)=>(.seq x y,q)
  | (2,q)=>match rJ qs b q with
   | (J,q)=>match Gk qs b f q with
    | (x,q)=>match Gk qs b f q with
     | (y,q)=>(.cond J x y,q)
  | (3,q)=>match rJ qs b q with
   | (J,q)=>match Gk qs b f q with
    | (x,q)=>(.block J x,q)
  | (4,q)=>match AfY qs b q with
   | (t,q)=>match rJ qs b q with
    | (J,q)=>match Gk qs b f q with
     | (x,q)=>(.loop t J x,q)
  | (5,q)=>match rJ qs b q with
   | (J,q)=>(.reg J,q)
  | (6,q)=>match rJ qs b q with
   | (J,q)=>match Gk qs b f q with
    | (r,q)=>match Gk qs b f q with
     | (x,q)=>match Gk qs b f q with
      | (y,q)=>match Gk qs b f q with
       | (z,q)=>match Gk qs b f q with
        | (w,q)=>(.both J r x y z w,q)
  | (7,q)=>match AfY qs b q with
   | (t,q)=>match Gk qs b f q with
    | (x,q)=>(.mloop t x,q)
  | (8,q)=>match Gk qs b f q with
   | (x,q)=>(.seq .nil x,q)
  | (9,q)=>match Gk qs b f q with
   | (x,q)=>(.seq x .nil,q)
  | (10,q)=>match Gk qs b f q with
   | (x,q)=>(.seq .nil (.seq .nil x),q)
  | (11,q)=>match Gk qs b f q with
   | (x,q)=>(.seq (.seq .nil x) .nil,q)
  | (12,q)=>match rJ qs b q with
   | (J,q)=>(.cond J .nil .nil,q)
  | (13,q)=>match Gk qs b f q with
   | (x,q)=>(.block [] x,q)
  | (_,q)=>(.nil,q)
def AbQ (qs:List Ty) (c:Nat):Joins×Ann:=match rnb ⟨c,0,0,[]⟩with
 | (b,⟨s,_,_,_⟩)=>match rJ qs b ⟨s,0,b - 1,[]⟩with
  | (J,q)=>match Gk qs b 400 q with
   | (a,_)=>(J,a)
structure Kp (P:Program) where
 k:Kn
 ok:Jg P k
def Kp.l {P:Program}:List (Kp P)->List Kn
 | []=>[]
 | a::l=>a.k::Kp.l l
theorem Kp.all {P:Program}:∀l:List (Kp P),∀k∈Kp.l l,Jg P k
 | [],_,h=>by cases h
 | a::l,k,h=>by
  rcases AkU.1 h with rfl | h
  .exact a.ok
  .exact Kp.all l k h
end Go.V