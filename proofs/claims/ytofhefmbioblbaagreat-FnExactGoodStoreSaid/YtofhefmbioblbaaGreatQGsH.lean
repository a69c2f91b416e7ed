import Derived.Test.YtofhefmbioblbaaGreatQGsA
import Derived.Test.YtofhefmbioblbaaGreatQGsB
import Derived.Test.YtofhefmbioblbaaGreatQGsF
import Derived.Test.YtofhefmbioblbaaGreatQGsG
set_option linter.unusedVariables false
set_option linter.unusedSimpArgs false
set_option maxRecDepth 100000
namespace Go.V.G
open Go.V
def pst (b:Bls) (x y:List Int) (a:Int):Int:=if pcB b x y a=true then gb (blk b a.toNat) 1 else 0
def usd (x:List Int) (n:Nat):List Int:=(((List.range n).map (33 + ·)).filter λk=>bit x k).map λk=>((k:Nat):Int)
theorem XL (x:List Int) (n:Nat):usd x (n+1)=usd x n++(if bit x (33+n)=true then [((33+n:Nat):Int)]else []):=by
 unfold usd;rw [AkL,AjM,Akz,AjM];by_cases h:bit x (33+n)=true <;> simp [h]
theorem Afj (x:List Int) (n:Nat):(usd x n).length<=n:=by
 unfold usd;rw [AjA];exact AjF (Akm _ _) Z
theorem usd_mem {x:List Int} {n:Nat} {v:Int}:v∈usd x n↔∃k:Nat,33<=k/\k < 33+n/\bit x k=true/\v=(k:Int):=by
 unfold usd;simp only [Ajq,AkT,AkJ];constructor
 .rintro ⟨k,⟨⟨i,h1,rfl⟩,h2⟩,rfl⟩;exact⟨33+i,O,O,h2,rfl⟩
 .rintro ⟨k,h1,h2,h3,rfl⟩;exact⟨k,⟨⟨k - 33,O,O⟩,h3⟩,rfl⟩
theorem PH (x:List Int):∀n,(usd x n).Pairwise (· < ·)
 | 0=>by simp [usd]
 | n+1=>by
  rw [XL];split
  .rw [AkM];refine⟨PH x n,Z,λa ha c hc=>?_⟩;obtain ⟨k,_,h2,_,rfl⟩:=usd_mem.1 ha;rw [Aje.1 hc];omega
  .rw [Ajk];exact PH x n
section
variable {F H E R T:Int} {b d:Bls} {x y z top:List Int} {wr lf rt:Int} {on:Bool}
theorem Adr (g:RS b x y):Fg (b,x,y,z)=some (usd x (b.length - 33)):=by
 have hbl:=g.hn;have hxl:=g.hx;unfold Fg;have h:=An C8 (λn=>((b,x,y,z),usd x n,((33+n:Nat):Int))) (b.length - 33) (usd x (b.length - 33)) (λn hn=>by
  have hl:=Afj x n;unfold C8 cK wI;dsimp only;rw [iy O,RA O O,Ai3,XL];by_cases hq:bit x (33+n)=true
  .rw [Ai9 hq,Ai9 (by simp only [Aa,decide_eq_true_eq,Ajh];omega),Ai3,Ai9 hq];dsimp only;rw [Al O];rfl
  .rw [Ai8 hq,Ai3,Ai8 hq,Ajk];dsimp only;rw [Al O];rfl) (by
  unfold C8 cK wI;dsimp only;rw [ino O])
 rw [show Ab C8 ((b,x,y,z),[],33)=_ from h];rfl
theorem AeS (g:RS b x y) {ks bl rs:List Int} {h1:Int} {h2:List UInt8} {h3:List Rn} {h4:List (List Prt)} {vs:List (List Int)}:∀(l:List (Int×Int)) (bad:Bool),
  l.foldlM BZ (ks,bl,rs,bad,d,wr,on,lf,F,H,E,R,T,b,x,y,z,rt,top,vs,h1,h2,h3,h4) =
   some (ks,bl,rs,bad || l.any (λp=>!decide (pst b x y p.1=p.2)),d,wr,on,lf,F,H,E,R,T,b,x,y,z,rt,top,vs,h1,h2,h3,h4)
 | [],bad=>by simp
 | p::l,bad=>by
  have hs:BZ (ks,bl,rs,bad,d,wr,on,lf,F,H,E,R,T,b,x,y,z,rt,top,vs,h1,h2,h3,h4) p=some (ks,bl,rs,bad || !decide (pst b x y p.1=p.2),d,wr,on,lf,F,H,E,R,T,b,x,y,z,rt,top,vs,h1,h2,h3,h4):=by
   unfold BZ;dsimp only;rw [Rt g,Ai3];have e:(if pcB b x y p.1=true then(true,Dx b p.1)else(false,0,0,[])).2.2.1=pst b x y p.1:=by
    unfold pst Dx;split <;> rfl
   generalize (if pcB b x y p.1=true then(true,Dx b p.1)else(false,0,0,[]))=w at *;obtain ⟨w1,w2,w3,w4⟩:=w;dsimp only at e ⊢;subst e;cases bad with
   | true=>rfl
   | false=>
    rw [Ai8 Z,Ai3];dsimp only;by_cases hq:pst b x y p.1=p.2 <;> simp [hq]
  rw [List.foldlM_cons,hs];show l.foldlM BZ _=_;rw [AeS g l,List.any_cons,Bool.or_assoc]
theorem Adp {l m:List (Int×Int)} (h:l.Perm m) (p:Int×Int->Bool):l.any p=m.any p:=by
 rw [Ak0,Ale,Ale];constructor
 .rintro ⟨v,h1,h2⟩;exact⟨v,h.mem_iff.1 h1,h2⟩
 .rintro ⟨v,h1,h2⟩;exact⟨v,h.mem_iff.2 h1,h2⟩
theorem AhG {tk:List Kv} {ks bl rs:List Int} {h1:Int} {h2:List UInt8} {h3:List Rn} {h4:List (List Prt)} {vs:List (List Int)} (htk:tk.length<=100000) (hks:ks.length<=1000000) (bad:Bool) :
  Ab B1 (tk,(tk.length:Int),0,ks,bl,rs,bad,d,wr,on,lf,F,H,E,R,T,b,x,y,z,rt,top,vs,h1,h2,h3,h4) =
   some (ks,bl,rs,bad || tk.any (λp=>!decide (p.1∈ks)),d,wr,on,lf,F,H,E,R,T,b,x,y,z,rt,top,vs,h1,h2,h3,h4):=by
 have h:=An B1 (λi=>(tk,(tk.length:Int),((i:Nat):Int),ks,bl,rs,bad || (tk.take i).any (λp=>!decide (p.1∈ks)),d,wr,on,lf,F,H,E,R,T,b,x,y,z,rt,top,vs,h1,h2,h3,h4)) tk.length (ks,bl,rs,bad || tk.any (λp=>!decide (p.1∈ks)),d,wr,on,lf,F,H,E,R,T,b,x,y,z,rt,top,vs,h1,h2,h3,h4) (λi hi=>by
  unfold B1 cK cZ wI;dsimp only;rw [iy O,iy O,iy O,Ajv,Ai5,Ai6 hi,Ai3,Ai3,Aju hi,List.any_append];cases hq:(bad || (tk.take i).any (λp=>!decide (p.1∈ks)))with
  | true=>
   rw [Ai9 rfl,Ai3,<- Bool.or_assoc,hq];dsimp only;rw [Al O];rfl
  | false=>
   rw [Ai8 Z,FO O,Ai3,Ai3,<- Bool.or_assoc,hq];dsimp only;rw [Al O];simp) (by
  unfold B1 cK cZ wI;dsimp only;rw [ino O,AjT])
 have e0:(bad || (tk.take 0).any (λp=>!decide (p.1∈ks)))=bad:=by simp
 rw [e0]at h;exact h
end
section defs
variable (b:Bls) (x top:List Int) (R T:Int) (f h e:Nat)
noncomputable def bB2:List Int:=btx b x [] [] (srt (pgl top R)) T
noncomputable def bB4:List Int:=bB2 b x top R T++ics b x [] top (sts f h)++rkc b x [] top 448
noncomputable def bB5:List Int:=btl b x [] top (cks f h e) (aP2 b x T) (bB4 b x top R T f h)
def bf4:Bool:=(tok b x [] T && (sts f h).all (ioc b x [] top)) && rko b x [] top 448
def bf5:Bool:=bf4 b x top T f h && cko b x [] top (cks f h e)
def bKs:List Int:=((sts f h).map kyI++[448])++(cks f h e).map ckI
def bL:List (List Prt):=ich b x [] top (sts f h)
noncomputable def bG1:Bool:=(rdR (rkd b x [] top 448)).2 && (!bd (bf4 b x top T f h) (bB4 b x top R T f h) && Fh (f:Int) (aT b x T) (aR b x top) (bL b x top f h))
def bE:Bool:=(sts f h).all (ieq b x [] top (f:Int) (aT b x T) (bL b x top f h))
def bK:Bool:=(cks f h e).all (cke b x [] top f (aT b x T) (bL b x top f h))
noncomputable def Aa5:Bool:=(bd (bf5 b x top T f h e) (bB5 b x top R T f h e) || (std (aP6 b x top T f h e)).any (λp=>!decide (pst b x [] p.1=p.2))) || (ksT b top 1024).any (λp=>!decide (p.1∈bKs f h e))
noncomputable def iC:Bool:=bG1 b x top R T f h && (bE b x top T f h && (bK b x top T f h e && (!Aa5 b x top R T f h e && decide ((bB5 b x top R T f h e).mergeSort (λx y=>decide (x<=y))=usd x (b.length - 33)))))
end defs
theorem Aaw {α:Type} (F:Int×Int->α) (f:Nat):∀n,(skn f 0 n).map F=(List.range (n - f)).map λi=>F (0,((f+i:Nat):Int))
 | 0=>by simp [skn]
 | n+1=>by
  rw [I3,AjM,Aaw F f n,Nat.pow_zero,Nat.mul_one];by_cases h:f<=n
  .rw [Ai9 h,(O:n+1 - f=n - f+1),Nv,(O:f+(n - f)=n)];rfl
  .rw [Ai8 h,(O:n+1 - f=n - f)];simp
theorem AgU {f h:Nat}:∀k,(stk f h (k+1)).filter (λs=>decide (s.1=0))=skn f 0 h
 | 0=>by
  show(([]++skn f 0 (h / 2 ^ 0):List (Int×Int))).filter _=_;rw [AjD,Nat.pow_zero,Nat.div_one,List.filter_eq_self];intro s hs;obtain ⟨i,_,_,rfl⟩:=skn_mem.1 hs;simp
 | k+1=>by
  show(stk f h (k+1)++skn f (k+1) (h / 2 ^ (k+1))).filter _=_;rw [Akz,AgU k];have:(skn f (k+1) (h / 2 ^ (k+1))).filter (λs=>decide (s.1=0))=[]:=by
   rw [List.filter_eq_nil_iff];intro s hs;obtain ⟨i,_,_,rfl⟩:=skn_mem.1 hs;simp only [decide_eq_true_eq];omega
  rw [this,Ajk]
theorem Vp (b:Bls) (x top:List Int) (f h:Nat):bL b x top f h=aL b x top f h:=by
 unfold bL aL ich chC lod sts;rw [AgU,Aaw,Aj2];refine Aj3 λi _=>?_
 show(BO (rkd b x [] top (64 * Int.toNat 0+Int.toNat ((f+i:Nat):Int)))).1=(BO (rkd b x [] top (f+i))).1;rw [Ai5,show 64 * Int.toNat 0+(f+i)=f+i by simp]
theorem AbG {bl:Bls} {wr lf:Int} (on:Bool) {f h e:Nat} {R T:Int} {top:List Int} (hn:bl.length<=1048576) (g:RS bl (opB bl) []) (htl:top.length=32) (hf:f<=h) (hh:h<=60) (he:0 < e) (he2:e<=30) :
  ∃q,Cs bl wr on lf (f:Int) (h:Int) (e:Int) R T bl (opB bl) [] [] R top (top.map (lfv bl)) 0 [] [] []=some q/\q.1=iC bl (opB bl) top R T f h e/\(iC bl (opB bl) top R T f h e=true->
   q=(true,bl,wr,on,lf,(f:Int),(h:Int),(e:Int),R,T,bl,opB bl,[],[],R,top,top.map (lfv bl),(f:Int),aT bl (opB bl) T,aR bl (opB bl) top,aL bl (opB bl) top f h)):=by
 obtain ⟨l1,l2,l3,l4,l5,l6,l7,l8⟩:=AbN (b:=bl) (x:=opB bl) (top:=top) (R:=R) (T:=T) (f:=f) (h:=h) (e:=e) htl hh;have hpl:(srt (pgl top R)).length<=33:=l1;have hb2:(bB2 bl (opB bl) top R T).length<=37:=by
  have:=Za bl (opB bl) [] [] (srt (pgl top R)) T;unfold bB2;omega
 have hsl:=HV (f:=f) hh;have hcl:=MM (f:=f) (e:=e) hh;have hil:=Tq bl (opB bl) [] top (sts f h);have hrk:=He bl (opB bl) [] top 448;have hb4:(bB4 bl (opB bl) top R T f h).length<=3700:=by unfold bB4;rw [Ajb,Ajb];omega
 have hb5:(bB5 bl (opB bl) top R T f h e).length<=4000:=by
  have:=Tu bl (opB bl) [] top (cks f h e) (aP2 bl (opB bl) T) (bB4 bl (opB bl) top R T f h);unfold bB5;omega
 have hLl:(bL bl (opB bl) top f h).length=h - f:=by rw [Vp];unfold aL chC lod;simp
 unfold Cs cK;rw [Aea htl,Ai3];have e1:=M0 (l:=srt (pgl top R)) (bl:=[]) (by simp only [AjC];omega) true [] [] bl [];rw [AjD]at e1;rw [show BI (srt (pgl top R)) [] [] [] false bl []=_ from e1,Ai3];dsimp only;rw [show([]:List (Int×Int))=std [] from rfl,Ahh g T O Z true [] [],Ai3];dsimp only;rw [iy rfl,SK hf hh,Ai3,Ajj,AjD,show btx bl (opB bl) [] [] (srt (pgl top R)) T=bB2 bl (opB bl) top R T from rfl,show tpc bl (opB bl) [] T=aP2 bl (opB bl) T from rfl];rw [show(std []:List (Int×Int))=[] from rfl,AhU g htl hf hh O Z,Ai3];dsimp only;have er:=T9 (z:=[]) g htl (bl:=bB2 bl (opB bl) top R T++ics bl (opB bl) [] top (sts f h)) (ks:=[]++(sts f h).map kyI) (by rw [Ajb];omega) (by rw [Ajb,AjA];simp;omega) (k:=448) O (tok bl (opB bl) [] T && (sts f h).all (ioc bl (opB bl) [] top)) [] bl wr on lf (f:Int) (h:Int) (e:Int) R T R (std (aP2 bl (opB bl) T));rw [show Bv 448 _ _ _ _ _ _ _ _ _ _ _ _ _ _ _ _ _ _ _ _ _=_ from er,Ai3];dsimp only;rw [Ah4 (J8 g top 448) O,Ai3,show bB2 bl (opB bl) top R T++ics bl (opB bl) [] top (sts f h)++rkc bl (opB bl) [] top 448=bB4 bl (opB bl) top R T f h from rfl,
  show((tok bl (opB bl) [] T && (sts f h).all (ioc bl (opB bl) [] top)) && rko bl (opB bl) [] top 448)=bf4 bl (opB bl) top T f h from rfl,show ich bl (opB bl) [] top (sts f h)=bL bl (opB bl) top f h from rfl]
 unfold iC;have hG1:bG1 bl (opB bl) top R T f h=((rdR (rkd bl (opB bl) [] top 448)).2 && (!bd (bf4 bl (opB bl) top T f h) (bB4 bl (opB bl) top R T f h) && Fh (f:Int) (aT bl (opB bl) T) (aR bl (opB bl) top) (bL bl (opB bl) top f h))):=rfl;rw [hG1];cases hr2:(rdR (rkd bl (opB bl) [] top 448)).2 with
 | false=>
  rw [Ai9 Z,Ai3];dsimp only;rw [Ai9 rfl];exact⟨_,rfl,rfl,λq=>by simp at q⟩
 | true=>
  rw [Ai8 Z];cases hbd:bd (bf4 bl (opB bl) top T f h) (bB4 bl (opB bl) top R T f h)with
  | true=>
   rw [Ai9 rfl,Ai3];dsimp only;rw [Ai9 rfl];exact⟨_,rfl,rfl,λq=>by simp at q⟩
  | false=>
   have hHB:HB (ttx bl (opB bl) [] T) (rdR (rkd bl (opB bl) [] top 448)).1 (bL bl (opB bl) top f h):=by
    have:=ZD (rkd bl (opB bl) [] top 448);have:=Rq bl (opB bl) [] T;refine⟨O,O,O,λc hc=>?_⟩;rw [Vp]at hc;obtain ⟨x',_,rfl⟩:=Ajq.1 hc;exact(QF x').mono O
   rw [Ai8 Z,QX hHB,Ai3,Ai3,show Fh (f:Int) (aT bl (opB bl) T) (aR bl (opB bl) top) (bL bl (opB bl) top f h)=Fh (f:Int) (ttx bl (opB bl) [] T) (rdR (rkd bl (opB bl) [] top 448)).1 (bL bl (opB bl) top f h) from rfl];dsimp only;cases hgh:Fh (f:Int) (ttx bl (opB bl) [] T) (rdR (rkd bl (opB bl) [] top 448)).1 (bL bl (opB bl) top f h)with
   | false=>
    rw [Ai9 Z];exact⟨_,rfl,rfl,λq=>by simp at q⟩
   | true=>
    have gh:=goodH_iff.1 hgh;rw [Ai8 Z];have e2:=AhE (b:=bl) (d:=bl) (x:=opB bl) (y:=[]) (z:=[]) (top:=top) (wr:=wr) (lf:=lf) (on:=on) (H:=(h:Int)) (E:=(e:Int)) (R:=R) (T:=T) (rt:=R) gh (hd:=h) O hh (ks:=[]++(sts f h).map kyI++[((448:Nat):Int)]) (bl:=bB4 bl (opB bl) top R T f h) (rs:=[]) (m:=std (aP2 bl (opB bl) T)) false;rw [show Ab BB _=_ from e2,Ai3];simp only [AkY,Ajj];cases hE:bE bl (opB bl) top T f h with
    | false=>
     have hE':(sts f h).all (ieq bl (opB bl) [] top (f:Int) (ttx bl (opB bl) [] T) (bL bl (opB bl) top f h))=false:=hE;rw [hE',Ai8 Z];exact⟨_,rfl,rfl,λq=>by simp at q⟩
    | true=>
     have hE':(sts f h).all (ieq bl (opB bl) [] top (f:Int) (ttx bl (opB bl) [] T) (bL bl (opB bl) top f h))=true:=hE;rw [hE',Ai9 rfl];dsimp only;unfold IW wI;rw [Ai3,w64 O O,show(f:Int)+(((bL bl (opB bl) top f h).length:Nat):Int)=(h:Int) by omega,Yh hf hh he he2,Ai3];have e3:=AhD (b:=bl) (d:=bl) (x:=opB bl) (y:=[]) (z:=[]) (top:=top) (wr:=wr) (lf:=lf) (on:=on) (H:=(h:Int)) (E:=(e:Int)) (R:=R) (T:=T) (rt:=R) g htl gh (hd:=h) (e:=e) O hh (ks:=[]++(sts f h).map kyI++[((448:Nat):Int)]) (bl:=bB4 bl (opB bl) top R T f h) (rs:=[]) (P:=aP2 bl (opB bl) T) O Ai0 O (bf4 bl (opB bl) top T f h);rw [hbd]at e3;rw [show Ab BA _=_ from e3,Ai3];simp only [Ajj];cases hK:bK bl (opB bl) top T f h e with
     | false=>
      have hK':(cks f h e).all (cke bl (opB bl) [] top f (ttx bl (opB bl) [] T) (bL bl (opB bl) top f h))=false:=hK;rw [hK',Ai8 Z];exact⟨_,rfl,rfl,λq=>by simp at q⟩
     | true=>
      have hK':(cks f h e).all (cke bl (opB bl) [] top f (ttx bl (opB bl) [] T) (bL bl (opB bl) top f h))=true:=hK;rw [hK',Ai9 rfl];dsimp only;rw [show aP2 bl (opB bl) T++ckp bl (opB bl) [] top (cks f h e)=aP6 bl (opB bl) top T f h e from rfl,show btl bl (opB bl) [] top (cks f h e) (aP2 bl (opB bl) T) (bB4 bl (opB bl) top R T f h)=bB5 bl (opB bl) top R T f h e from rfl,show(bf4 bl (opB bl) top T f h && cko bl (opB bl) [] top (cks f h e))=bf5 bl (opB bl) top T f h e from rfl,
       Ad9 (λl hl=>by rw [AeS g l,Adp hl]),Ai3]
      dsimp only;have hkt:=PV bl top 1024;rw [Aaq htl,Ai3,AhG O Ai0,Ai3];dsimp only;have hkk:[]++(sts f h).map kyI++[((448:Nat):Int)]++(cks f h e).map ckI=bKs f h e:=by unfold bKs;rw [AjD];rfl
      rw [hkk,show((bd (bf5 bl (opB bl) top T f h e) (bB5 bl (opB bl) top R T f h e) || (std (aP6 bl (opB bl) top T f h e)).any (λp=>!decide (pst bl (opB bl) [] p.1=p.2))) || (ksT bl top 1024).any (λp=>!decide (p.1∈bKs f h e)))=Aa5 bl (opB bl) top R T f h e from rfl];unfold FQ;rw [Ai9 O,Ai3];cases hB:Aa5 bl (opB bl) top R T f h e with
      | true=>
       rw [Ai8 Z,Ai3];exact⟨_,rfl,rfl,λq=>by simp at q⟩
      | false=>
       rw [Ai9 Z,Adr g,Ai3,AgA (by rw [List.length_mergeSort];omega),Ai3,Ai3];refine⟨_,rfl,Z,λq=>?_⟩;have q':decide ((bB5 bl (opB bl) top R T f h e).mergeSort (λx y=>decide (x<=y))=usd (opB bl) (bl.length - 33))=true:=by simpa using q
       rw [q',Vp];rfl
end Go.V.G
set_option maxRecDepth 100000
namespace Go.V.G
open Go.V
theorem P4:∀(n:Nat) (x:List Int) (c:List Prt),Byt x->CE n x=some c->(∀p∈c,kd p≠0)->enc c=x
 | 0,x,c,hb,h,hk=>by
  unfold CE at h;split at h
  .rename_i hx;injection h with h;subst h;rw [hx];rfl
  .cases h
 | n+1,[],c,hb,h,hk=>by
  rw [Np]at h;injection h with h;subst h;rfl
 | n+1,[a],c,hb,h,hk=>by simp [CE]at h
 | n+1,k::m::r,c,hb,h,hk=>by
  have hm:=hb m Z;have hr:Byt r:=λv hv=>hb v (by simp [hv])
  simp only [CE]at h;split at h
  .rename_i h1;obtain ⟨c',q1,rfl⟩:=Aj5.1 h;have ih:=P4 n r c' hr q1 (λp hp=>hk p (by simp [hp]));have h0:=hk (m,0,[]) Z;rcases De h0 with⟨a,ha,e,hkd⟩ | ⟨a,ha,e,hkd⟩ | ⟨s,hs,e,hkd⟩
   .show Fk (m,0,[])++enc c'=_;rw [ih];unfold Fk;rw [hkd,h1];simp [Ax]
   .injection e with e1 e2;injection e2 with e2 e3;omega
   .injection e with e1 e2;injection e2 with e2 e3;exact absurd e3.symm hs
  .split at h
   .rename_i _ h1;obtain ⟨c',q1,rfl⟩:=Aj5.1 h;have ih:=P4 n r c' hr q1 (λp hp=>hk p (by simp [hp]));have h0:=hk (0,m,[]) Z;rcases De h0 with⟨a,ha,e,hkd⟩ | ⟨a,ha,e,hkd⟩ | ⟨s,hs,e,hkd⟩
    .injection e with e1 e2;omega
    .show Fk (0,m,[])++enc c'=_;rw [ih];unfold Fk;rw [hkd,h1];simp [Ax]
    .injection e with e1 e2;injection e2 with e2 e3;exact absurd e3.symm hs
   .split at h
    .rename_i _ _ h1;obtain ⟨c',q1,rfl⟩:=Aj5.1 h;have ih:=P4 n (r.drop m.toNat) c' (λv hv=>hr v (Alb hv)) q1 (λp hp=>hk p (by simp [hp]));have h0:=hk (0,0,AF (r.take m.toNat)) Z;rcases De h0 with⟨a,ha,e,hkd⟩ | ⟨a,ha,e,hkd⟩ | ⟨s,hs,e,hkd⟩
     .injection e with e1 e2;omega
     .injection e with e1 e2;injection e2 with e2 e3;omega
     .show Fk (0,0,AF (r.take m.toNat))++enc c'=_;have hbt:Ax (AF (r.take m.toNat))=r.take m.toNat:=Z9 (λv hv=>hr v (AkF hv));have hln:(AF (r.take m.toNat)).length=m.toNat:=by unfold AF;rw [AjA,Ajd];omega
      rw [ih];unfold Fk;dsimp only;rw [hkd,hbt,hln,h1.1];simp only [AjS,AjD,Ajf,AjY]
      congr 2
      omega
    .cases h
theorem AaC {c:List Prt} (hg:AG c=true):BO (enc c)=(c,true):=by
 have h1:=AdV (C4 hg) O hg;have hs:=AcG hg;rw [Y6 (Y4 hg) O]at h1;injection h1
theorem Aci {x:List Int} (hb:Byt x) {c:List Prt} (h:BO x=(c,true)):enc c=x:=by
 unfold BO at h;split at h
 .rename_i c' hd;split at h
  .rename_i hg;injection h with h1 h2;subst h1
   exact P4 _ _ _ hb hd λp hp=>(Bc (Aq hg).1 p hp).ne
  .injection h with h1 h2;cases h2
 .injection h with h1 h2;cases h2
theorem AcW {x:List Int} (hb:Byt x) {c:List Prt} (hg:AG c=true):(AF x == AF (enc c))=true↔BO x=(c,true):=by
 rw [QY hb (Y4 hg),beq_iff_eq];constructor
 .rintro rfl;exact AaC hg
 .intro h;exact(Aci hb h).symm
section
variable {b:Bls} {x y top:List Int}
theorem Zo:∀(f:Nat) (a:Int) (d ch:List Int) {p:List Int×List Int},(∀v∈ch,liv b x y v=true)->rcN b x y f a d ch=some p->∀v∈p.2,liv b x y v=true
 | 0,_,_,_,p,_,h=>by cases h
 | f+1,a,d,ch,p,hd,h=>by
  unfold rcN at h;split at h
  .rename_i hc;have hl:liv b x y a=true:=by unfold rcC at hc;rw [Aja]at hc;exact hc.1
   have hd':∀v∈ch++[a],liv b x y v=true:=λv hv=>by
    rcases Ajc.1 hv with hv | hv
    .exact hd v hv
    .rw [Aje.1 hv];exact hl
   split at h
   .injection h with h;subst h;exact hd'
   .exact Zo f _ _ _ hd' h
  .cases h
theorem Tt (k:Nat):∀v∈rkc b x y top k,liv b x y v=true:=by
 intro v hv;unfold rkc rcA at hv;split at hv
 .rename_i p hp;exact Zo _ _ _ _ Z hp v hv
 .cases hv
theorem ZH (a:Int):∀v∈tcl b x y a,liv b x y v=true:=by
 intro v hv;unfold tcl at hv;split at hv
 .rename_i h;obtain ⟨l,hl⟩:=AkW.1 h;rw [Aje.1 hv];exact(Iv hl).2.1
 .cases hv
theorem ZY (a:Int):∀v∈tpc b x y a,pcB b x y v=true:=by
 intro v hv;unfold tpc at hv;cases hp:ptx b x y a with
 | none=>rw [hp]at hv;cases hv
 | some l=>rw [hp]at hv;exact(Iv hp).1.all v hv
theorem AfL {v:Int} (h:pcB b x y v=true):liv b x y v=true:=by
 unfold pcB at h;rw [Aja]at h;exact h.1
theorem Ae4 {root:Int} (ht:tre b x y root=some top):∀v∈pgl top root,liv b x y v=true:=by
 intro v hv;unfold pgl at hv;simp only [AkT,Ajc,Aje,decide_eq_true_eq]at hv;obtain ⟨hv,h0⟩:=hv;rcases hv with hv | hv
 .obtain ⟨j,hj,rfl⟩:=AjH hv;have hg:=Ai hj;rw [Ai6 hj]at hg;injection hg with hg
  rw [hg]at h0 ⊢;rcases Agx ht j (by rw [<- HR ht];exact hj)with q | q
  .exact absurd q h0
  .have:=q.1;unfold pgB at this;rw [Aja]at this;exact this.1
 .subst hv;exact(VS ht h0).1
theorem Aca {k:Nat} (h:rko b x y top k=true):vl b top k≠0:=by
 intro q;unfold rko rcA rcd rcN at h;rw [Ai8 (λw=>AeM w q)]at h;cases h
theorem Ag5 {a:Int} (h:tok b x y a=true):a≠0:=by
 rintro rfl;unfold tok at h;obtain ⟨l,hl⟩:=AkW.1 h;obtain ⟨m,h1,h2,_⟩:=Cj (Iv hl).2.1;omega
end
end Go.V.G
set_option maxRecDepth 100000
namespace Go.V.G
open Go.V
theorem Zy {l U:List Int} (hn:l.Nodup) (hU:U.Pairwise (· < ·)):l.mergeSort (λx y=>decide (x<=y))=U↔∀v,v∈l↔v∈U:=by
 have hp:=List.mergeSort_perm l (λx y=>decide (x<=y));constructor
 .rintro rfl v;exact hp.mem_iff.symm
 .intro h;have h1:(l.mergeSort (λx y=>decide (x<=y))).Pairwise (λx y=>decide (x<=y)=true):=List.pairwise_mergeSort (λa b c p q=>by simp only [decide_eq_true_eq]at *;omega) (λa b=>by simp only [Akj,decide_eq_true_eq];omega) l;have h2:(l.mergeSort (λx y=>decide (x<=y))).Nodup:=hp.nodup_iff.2 hn;have h3:(l.mergeSort (λx y=>decide (x<=y))).Pairwise (· < ·):=by
   have h2':(l.mergeSort (λx y=>decide (x<=y))).Pairwise (·≠·):=h2;exact(h1.and h2').imp λ⟨p,q⟩=>by simp only [decide_eq_true_eq]at p;omega
  exact Zn (ris_iff.2 h3) (ris_iff.2 hU) λv=>by rw [hp.mem_iff];exact h v
section
variable {b:Bls} {x y top:List Int}
theorem Ag7 {C P:List Int} (hP:∀v∈P,pcB b x y v=true):(List.range b.length).all (stB b x C P)=true↔(∀v∈P,v∉C/\gb (blk b v.toNat) 1=(P.count v:Int))/\∀k:Nat,33<=k->k < b.length->(bit x k=true↔((k:Int)∈C\/(k:Int)∈P)):=by
 rw [all_range];constructor
 .intro q;refine⟨λv hv=>?_,λk h1 h2=>?_⟩
  .obtain ⟨m,rfl,h33,hm,_⟩:=PS (hP v hv);have:=q m hm;have hc:=List.count_pos_iff.2 hv;unfold stB at this;simp only [Aja,Akj,decide_eq_true_eq,Ajg,decide_eq_false_iff_not]at this;rcases this.1 with w | w
   .omega
   .rw [Ai5];exact w
  .have:=q k h2;unfold stB at this;simp only [Aja,Akj,decide_eq_true_eq,beq_iff_eq]at this;rcases this.2 with w | w
   .omega
   .rw [w,decide_eq_true_eq,List.count_pos_iff]
 .rintro ⟨q1,q2⟩ k hk;unfold stB;rw [Aja];constructor
  .by_cases hv:(k:Int)∈P
   .obtain ⟨w1,w2⟩:=q1 _ hv;rw [Ai5]at w2;rw [decide_eq_false w1,decide_eq_true w2];simp
   .have:P.count (k:Int)=0:=List.count_eq_zero.2 hv;rw [decide_eq_true this];rfl
  .by_cases h33:k < 33
   .rw [decide_eq_true h33];rfl
   .have:=q2 k O hk;rw [decide_eq_false h33,Akk,beq_iff_eq,Ak0,this,decide_eq_true_eq,List.count_pos_iff]
theorem Ae9 {P:List Int} (hP:∀v∈P,pcB b x y v=true):(std P).any (λp=>!decide (pst b x y p.1=p.2))=false↔∀v∈P,gb (blk b v.toNat) 1=(P.count v:Int):=by
 obtain ⟨s1,s2,s3⟩:=WK P;rw [Akc];constructor
 .intro q v hv;obtain ⟨p,hp,rfl⟩:=Ajq.1 ((s3 v).2 hv);have h1:=q p hp;have h2:=WI s2 p hp;rw [s1]at h2;simp only [Ajg,decide_eq_false_iff_not,Classical.not_not]at h1;unfold pst at h1;rw [Ai9 (hP _ hv)]at h1;rw [h1,h2]
 .intro q p hp;have hv:p.1∈P:=(s3 _).1 (List.mem_map_of_mem hp);have h2:=WI s2 p hp;rw [s1]at h2;have h3:=q _ hv;simp only [Ajg,decide_eq_false_iff_not,Classical.not_not];unfold pst;rw [Ai9 (hP _ hv),h3,h2]
theorem Af6 (A B:List (Int×Int)):upk (A++B)=upk A++upk B:=by unfold upk;exact Akz ..
theorem TN {f h:Nat}:∀k,stk f h (k+1)=skn f 0 h++upk (stk f h (k+1))
 | 0=>by
  have e:stk f h 1=skn f 0 h:=by
   show([]++skn f 0 (h / 2 ^ 0):List (Int×Int))=_;rw [AjD,Nat.pow_zero,Nat.div_one]
  have:upk (skn f 0 h)=[]:=by
   unfold upk;rw [List.filter_eq_nil_iff];intro s hs;obtain ⟨i,_,_,rfl⟩:=skn_mem.1 hs;simp
  rw [e,this,Ajk]
 | k+1=>by
  have ih:=TN (f:=f) (h:=h) k;have e:stk f h (k+1+1)=stk f h (k+1)++skn f (k+1) (h / 2 ^ (k+1)):=rfl;have hu:upk (skn f (k+1) (h / 2 ^ (k+1)))=skn f (k+1) (h / 2 ^ (k+1)):=by
   unfold upk;rw [List.filter_eq_self];intro s hs;obtain ⟨i,_,_,rfl⟩:=skn_mem.1 hs;simp only [decide_eq_true_eq];omega
  rw [e,Af6,hu,<- Ajf,<- ih]
theorem Oy (f h:Nat):sts f h=skn f 0 h++upk (sts f h):=TN 5
theorem ky0 (i:Nat):ky (0,(i:Int))=i:=by unfold ky;simp
theorem Acj (f h:Nat):ics b x y top (sts f h)=Cm b x y top f (h - f)++upc b x y top (sts f h):=by
 have e:ics b x y top (skn f 0 h)=Cm b x y top f (h - f):=by
  unfold ics Cm;rw [List.flatMap_def,List.flatMap_def,Aaw]
  congr 1
  refine Aj3 λi _=>?_
  show rkc b x y top (ky (0,((f+i:Nat):Int)))=_;rw [ky0]
 have e2:ics b x y top (upk (sts f h))=upc b x y top (sts f h):=rfl;have e3:∀A B,ics b x y top (A++B)=ics b x y top A++ics b x y top B:=λA B=>by unfold ics;exact Akn ..
 conv=>lhs;rw [Oy]
 rw [e3,e,e2]
theorem AcI (f h:Nat):(sts f h).all (ioc b x y top)=(loo b x y top f (h - f) && (upk (sts f h)).all (ioc b x y top)):=by
 have e:(skn f 0 h).all (ioc b x y top)=loo b x y top f (h - f):=by
  have:=congrArg (λl=>l.all id) (Aaw (ioc b x y top) f h);simp only [List.all_map]at this;unfold loo;rw [show((skn f 0 h).all (ioc b x y top))=(skn f 0 h).all (id ∘ ioc b x y top) from rfl,this]
  congr 1
  funext i
  show ioc b x y top (0,((f+i:Nat):Int))=_;unfold ioc;rw [ky0]
 conv=>lhs;rw [Oy]
 rw [List.all_append,e]
theorem Ag6 {f h:Nat} {t:List UInt8} {r:List Rn} (hf:f<=h) (gh:GH (f:Int) t r (chC (lod b x y top f (h - f)))) {s:Int×Int} (hs:s∈skn f 0 h):ipt b x y top s=bt (f:Int) t (chC (lod b x y top f (h - f))) s:=by
 obtain ⟨i,h1,h2,rfl⟩:=skn_mem.1 hs;rw [Nat.pow_zero,Nat.mul_one]at h2;have hl:(chC (lod b x y top f (h - f))).length=h - f:=by unfold chC lod;simp
 have hb:=Ql gh (a:=(i:Int)) O O;have e1:bt (f:Int) t (chC (lod b x y top f (h - f))) (0,(i:Int))=BT (f:Int) t (chC (lod b x y top f (h - f))) (i:Int) ((i:Int)+1):=by
  unfold bt frS toS;simp
 have e2:(chC (lod b x y top f (h - f)))[((i:Int) - (f:Int)).toNat]?=some (BO (rkd b x y top i)).1:=by
  rw [show((i:Int) - (f:Int)).toNat=i - f by omega];unfold chC lod;rw [AjI,AjI,Ak1 O];show some (BO (rkd b x y top (f+(i - f)))).1=_;rw [(O:f+(i - f)=i)]
 rw [hb]at e2;injection e2 with e2
 show ipt b x y top (0,(i:Int))=bt _ _ _ (0,(i:Int));rw [e1,e2];unfold ipt;rw [ky0]
theorem AfY {f h:Nat} {s:Int×Int} (hs:s∈upk (sts f h)):s∈sts f h/\0 < s.1:=by
 unfold upk at hs;simpa using hs
theorem Zr {f h:Nat} {t:List UInt8} {r:List Rn} {cs:List (List Prt)} (gh:GH (f:Int) t r cs) {s:Int×Int} (hs:s∈sts f h):AG (bt (f:Int) t cs s)=true:=by
 obtain ⟨k,j,g8⟩:=sts_mem.1 hs;obtain ⟨f1,f2,f3,f4,f5⟩:=g8.ft;exact(Iy gh (a:=(frS s:Int)) (b:=(toS s:Int)) O O).1
theorem ZT (g:RS b x y) {f h:Nat} {t:List UInt8} {r:List Rn} (hf:f<=h) (gh:GH (f:Int) t r (chC (lod b x y top f (h - f)))) :
  ((sts f h).all (upe b x y top (f:Int) t (chC (lod b x y top f (h - f)))) && upo b x y top (sts f h))=((sts f h).all (ieq b x y top (f:Int) t (chC (lod b x y top f (h - f)))) && (upk (sts f h)).all (ioc b x y top)):=by
 rw [Ak0,Aja,Aja];unfold upo;simp only [Ajz];constructor
 .rintro ⟨q1,q2⟩;have hr:∀s∈upk (sts f h),BO (rkd b x y top (ky s))=(bt ((f:Nat):Int) t (chC (lod b x y top f (h - f))) s,true):=λs hs=>by
   obtain ⟨m1,m2⟩:=AfY hs;have:=q1 s m1;unfold upe at this;rw [decide_eq_true m2,AjW,Akk]at this;exact(AcW (J8 g top (ky s)) (Zr gh m1)).1 this
  refine⟨λs hs=>?_,λs hs=>?_⟩
  .rw [Oy]at hs;unfold ieq;rcases Ajc.1 hs with hs | hs
   .exact decide_eq_true (Ag6 hf gh hs)
   .unfold ipt;rw [hr s hs];simp
  .unfold ioc;rw [q2 s hs,hr s hs];rfl
 .rintro ⟨q1,q2⟩;refine⟨λs hs=>?_,λs hs=>?_⟩
  .unfold upe;by_cases h0:0 < s.1
   .have hm:s∈upk (sts f h):=by unfold upk;simp [hs,h0]
    have h1:=q1 s hs;have h2:=q2 s hm;unfold ieq at h1;unfold ioc at h2;rw [Aja]at h2;rw [decide_eq_true_eq]at h1;rw [(AcW (J8 g top (ky s)) (Zr gh hs)).2 (Prod.ext h1 h2.2)];simp
   .rw [decide_eq_false h0];rfl
  .have h2:=q2 s hs;unfold ioc at h2;rw [Aja]at h2;exact h2.1
end
end Go.V.G
set_option maxRecDepth 100000
namespace Go.V.G
open Go.V
section
variable {b:Bls} {x top:List Int} {R T:Int} {f h e:Nat}
noncomputable def cI (b:Bls) (x top:List Int) (R T:Int) (f h e:Nat):List Int:=((aC2 b x top R T++ics b x [] top (sts f h))++rkc b x [] top 448)++ckc b x [] top (cks f h e)
theorem Ahr:Led ((aC2 b x top R T++ics b x [] top (sts f h))++rkc b x [] top 448) (aP2 b x T) (bB4 b x top R T f h):=by
 have h1:Led ([]++srt (pgl top R)) [] ([]++srt (pgl top R)):=Led.claims Led.nil;rw [AjD]at h1;have h2:=ZJ (x:=x) (y:=[]) (b:=b) h1 T;rw [AjD]at h2;exact Led.claims (Led.claims h2)
theorem Aif:Led (cI b x top R T f h e) (aP6 b x top T f h e) (bB5 b x top R T f h e):=Zi (cks f h e) Ahr
theorem AfO:(cI b x top R T f h e).Perm (aC6 b x top R T f h e):=by
 unfold cI aC6 aC5 aC4 aC3;rw [Acj];refine List.Perm.append_right _ ?_;have e1:aC2 b x top R T++(Cm b x [] top f (h - f)++upc b x [] top (sts f h))++rkc b x [] top 448=aC2 b x top R T++((Cm b x [] top f (h - f)++upc b x [] top (sts f h))++rkc b x [] top 448):=by simp
 have e2:aC2 b x top R T++rkc b x [] top 448++Cm b x [] top f (h - f)++upc b x [] top (sts f h)=aC2 b x top R T++(rkc b x [] top 448++(Cm b x [] top f (h - f)++upc b x [] top (sts f h))):=by simp
 rw [e1,e2];exact List.Perm.append_left _ List.perm_append_comm
theorem AgQ (ht:tre b x [] R=some top):∀v∈aC6 b x top R T f h e,liv b x [] v=true:=by
 intro v hv;have hpl:=Zw (root:=R) (HR ht);unfold aC6 aC5 aC4 aC3 aC2 aC1 at hv;simp only [Ajc]at hv;rcases hv with((((((hv | hv) | hv) | hv) | hv)) | hv)
 .exact Ae4 ht v (((Jp O).2.2 v).1 hv)
 .exact ZH T v hv
 .exact Tt 448 v hv
 .unfold Cm at hv;obtain ⟨i,_,hi⟩:=Ak8.1 hv;exact Tt _ v hi
 .unfold upc at hv;obtain ⟨i,_,hi⟩:=Ak8.1 hv;exact Tt _ v hi
 .unfold ckc at hv;obtain ⟨i,_,hi⟩:=Ak8.1 hv;exact ZH _ v hi
theorem AhP:∀v∈aP6 b x top T f h e,pcB b x [] v=true:=by
 intro v hv;unfold aP6 aP2 at hv;rcases Ajc.1 hv with hv | hv
 .exact ZY T v hv
 .unfold ckp at hv;obtain ⟨i,_,hi⟩:=Ak8.1 hv;exact ZY _ v hi
theorem ZX {v:Int}:v∈bKs f h e↔v∈Iq f h e:=by
 unfold bKs Iq;simp only [Ajc];constructor
 .rintro ((q | q) | q)
  .exact .inl q
  .exact .inr (.inr q)
  .exact .inr (.inl q)
 .rintro (q | q | q)
  .exact .inl (.inl q)
  .exact .inr q
  .exact .inl (.inr q)
theorem Af9 {fn:Bool} {l:List Int}:okb fn l=true↔fn=true/\l.Nodup:=by unfold okb ndb;simp
theorem Ahv {fn:Bool} {l:List Int}:bd fn l=false↔fn=true/\l.Nodup:=by unfold bd ndb;simp
theorem AhN (g:RS b x []) (ht:tre b x [] R=some top) (hf:f<=h) (hh:h<=60):sC b x top R T f h e=iC b x top R T f h e:=by
 have hP:=AhP (b:=b) (x:=x) (top:=top) (T:=T) (f:=f) (h:=h) (e:=e);have hC:=AgQ (T:=T) (f:=f) (h:=h) (e:=e) ht;have L5:=Aif (b:=b) (x:=x) (top:=top) (R:=R) (T:=T) (f:=f) (h:=h) (e:=e);have L4:=Ahr (b:=b) (x:=x) (top:=top) (R:=R) (T:=T) (f:=f) (h:=h);have hperm:=AfO (b:=b) (x:=x) (top:=top) (R:=R) (T:=T) (f:=f) (h:=h) (e:=e);have hmem:∀v,v∈bB5 b x top R T f h e↔v∈aC6 b x top R T f h e\/v∈aP6 b x top T f h e:=λv=>by rw [L5.mem,hperm.mem_iff]
 have hnd:(bB5 b x top R T f h e).Nodup↔(aC6 b x top R T f h e).Nodup/\∀v∈aP6 b x top T f h e,v∉aC6 b x top R T f h e:=by
  rw [L5.nd,hperm.nodup_iff];exact⟨λq=>⟨q.1,λv hv w=>q.2 v hv (hperm.mem_iff.2 w)⟩,λq=>⟨q.1,λv hv w=>q.2 v hv (hperm.mem_iff.1 w)⟩⟩
 have hn54:(bB5 b x top R T f h e).Nodup->(bB4 b x top R T f h).Nodup:=λq=>by
  rw [L5.nd]at q;rw [L4.nd];refine⟨(Ajp.1 q.1).1,λv hv w=>q.2 v (Akx _ hv) (Akx _ w)⟩
 have hn64:(aC6 b x top R T f h e).Nodup->(aC4 b x top R T f h).Nodup:=λq=>(Ajp.1 (Ajp.1 q).1).1
 have hioc:=AcI (b:=b) (x:=x) (y:=[]) (top:=top) f h;have hbl:bL b x top f h=aL b x top f h:=Vp b x top f h;have hset:(∀v,v∈bB5 b x top R T f h e↔v∈usd x (b.length - 33))↔∀k:Nat,33<=k->k < b.length->(bit x k=true↔((k:Int)∈aC6 b x top R T f h e\/(k:Int)∈aP6 b x top T f h e)):=by
  have hn:=g.hn;constructor
  .intro q k h1 h2;rw [<- hmem,q,usd_mem];constructor
   .intro w;exact⟨k,h1,O,w,rfl⟩
   .rintro ⟨k',_,_,w,he⟩;have:k'=k:=O
    rw [<- this];exact w
  .intro q v;rw [hmem,usd_mem];constructor
   .intro w;have hl:liv b x [] v=true:=w.elim (hC v) (λw=>AfL (hP v w));obtain ⟨m,rfl,h1,h2,h3,_⟩:=Cj hl;exact⟨m,h1,O,h3,rfl⟩
   .rintro ⟨k,h1,h2,h3,rfl⟩;exact(q k h1 O).1 h3
 rw [Ak0];unfold sC iC bG1 Aa5;simp only [Aja,Ajg,AkX,Af9,Ahv,decide_eq_true_eq];unfold aS;rw [Ag7 hP,Ae9 hP,hbl];have hKK:bK b x top T f h e=aK b x top T f h e:=by unfold bK aK;rw [hbl]
 rw [hKK];constructor
 .rintro ⟨k1,⟨k2,k3⟩,k4,k5,k6,⟨k7,k8⟩,k9,k10⟩;have gh:=goodH_iff.1 k4;unfold af6 af5 af4 af3 at k9;simp only [Aja]at k9;obtain ⟨⟨⟨⟨⟨t1,t2⟩,t3⟩,t4⟩,t5⟩,t6⟩:=k9;have hub:=ZT (top:=top) g hf gh;have hU:(sts f h).all (upe b x [] top (f:Int) (aT b x T) (chC (lod b x [] top f (h - f))))=true:=k5;rw [hU,t5,AkD]at hub;have hub:=hub.symm;rw [Aja]at hub;have hb5:=hnd.2 ⟨k10,λv hv=>(k7 v hv).1⟩;have hio:(sts f h).all (ioc b x [] top)=true:=by rw [hioc,t4,hub.2];rfl
  have hf4:bf4 b x top T f h=true:=by unfold bf4;rw [t1,hio,t2];rfl
  refine⟨⟨t3,⟨hf4,hn54 hb5⟩,k4⟩,?_,k6,⟨⟨⟨?_,hb5⟩,λv hv=>(k7 v hv).2⟩,?_⟩,(Zy hb5 (PH x _)).2 (hset.2 k8)⟩
  .unfold bE;rw [hbl];exact hub.1
  .unfold bf5;rw [hf4,t6];rfl
  .rw [Akc];intro p hp;have hk:=(Z3 hh).1 k1;obtain ⟨k,w1,w2,w3⟩:=ksT_mem.1 (List.mem_map_of_mem hp);have:=hk.1 k w1 w2;rw [<- w3,<- ZX]at this;simp only [Ajg,decide_eq_false_iff_not,Classical.not_not];exact this
 .rintro ⟨⟨t3,⟨hf4,hn4⟩,k4⟩,hE,k6,⟨⟨⟨hf5,hb5⟩,hst⟩,hky⟩,hso⟩;have gh:=goodH_iff.1 k4;unfold bf5 at hf5;rw [hf4,Ajj]at hf5;unfold bf4 at hf4;simp only [Aja]at hf4;obtain ⟨⟨t1,hio⟩,t2⟩:=hf4;have hio2:=hio;rw [hioc,Aja]at hio;obtain ⟨t4,hup⟩:=hio;have hub:=ZT (top:=top) g hf gh;unfold bE at hE;rw [hbl]at hE;have hE':(sts f h).all (ieq b x [] top (f:Int) (aT b x T) (chC (lod b x [] top f (h - f))))=true:=hE;rw [hE',hup,AkD,Aja]at hub;obtain ⟨c1,c2⟩:=hnd.1 hb5;have hf3:af3 b x top T=true:=by unfold af3;rw [t1,t2,t3];rfl
  have hf4:af4 b x top T f h=true:=by unfold af4;rw [hf3,t4];rfl
  refine⟨?_,⟨hf4,hn64 c1⟩,k4,hub.1,k6,⟨λv hv=>⟨c2 v hv,hst v hv⟩,hset.1 ((Zy hb5 (PH x _)).1 hso)⟩,?_,c1⟩
  .rw [Z3 hh];refine⟨λk hk hv=>?_,λk hk hm=>?_⟩
   .obtain ⟨p,hp,hpe⟩:=Ajq.1 (ksT_mem.2 ⟨k,hk,hv,rfl⟩);have:=Akc.1 hky p hp;simp only [Ajg,decide_eq_false_iff_not,Classical.not_not]at this;rw [<- hpe,<- ZX];exact this
   .unfold Iq at hm;simp only [Ajc]at hm;rcases hm with hm | hm | hm
    .obtain ⟨s,hs,he⟩:=Ajq.1 hm;have:=Ajz.1 hio2 s hs;unfold ioc at this;rw [Aja]at this;have hkk:ky s=k:=by unfold kyI at he;omega
     rw [<- hkk];exact Aca this.1
    .obtain ⟨r,hr,he⟩:=Ajq.1 hm;have:=Ajz.1 hf5 r hr;have hkk:384+r=k:=by unfold ckI at he;omega
     rw [<- hkk];exact Ag5 this
    .have hkk:k=448:=by have:=Aje.1 hm;omega
     rw [hkk];exact Aca t2
  .unfold af6 af5;rw [hf4,hub.2,hf5];rfl
end
end Go.V.G
set_option maxRecDepth 100000
namespace Go.V.G
open Go.V
structure Sto (bl:Bls) (wr lf:Int) (f h e:Nat) (R T:Int) (top:List Int):Prop where
 gd:gd bl wr lf=true
 wt:wts bl=[]
 su:LX (blk bl 0)=(true,(f:Int),(h:Int),(e:Int),R,T)
 op:opG bl=true
 tr:tre bl (opB bl) [] R=some top
 hf:f<=h
 hh:h<=60
 he:0 < e
 he2:e<=30
theorem AdC {c:List Int} (h:Ti c=true):∃f m e:Nat,LX c=(true,(f:Int),(m:Int),(e:Int),num c 8,num c 10)/\f<=m/\m<=60/\0 < e/\e<=30:=by
 have h2:=h;unfold Ti Mj at h2;simp only [Aja,decide_eq_true_eq]at h2;obtain ⟨_,⟨⟨h3,h4⟩,h5,_⟩,_⟩:=h2;refine⟨(gb c 4).toNat,(gb c 5).toNat,(gb c 6).toNat,?_,O,O,O,O⟩;unfold LX;rw [Ai9 h,Int.toNat_of_nonneg O,Int.toNat_of_nonneg O,Int.toNat_of_nonneg O]
theorem Ac3 {bl:Bls} {wr lf:Int} (on:Bool) (hn:bl.length<=1048576) (hu:∀c∈bl,U8s c) :
  (∃w,Dn bl wr on lf=some w/\w.1=false/\Df bl wr on lf=some (none,false))\/
  ∃(f h e:Nat) (R T:Int) (top:List Int),Sto bl wr lf f h e R T top/\iC bl (opB bl) top R T f h e=true/\
   Dn bl wr on lf=some (true,(f:Int),(h:Int),(e:Int),R,T,bl,opB bl,[],[],ksT bl top 1024,(f:Int),aT bl (opB bl) T,aR bl (opB bl) top,aL bl (opB bl) top f h,srt (aC6 bl (opB bl) top R T f h e++pcn (aP6 bl (opB bl) top T f h e) bl.length))/\
   Df bl wr on lf=some (some (bl,wr,on,lf,(f:Int),(h:Int),(e:Int),R,T,bl,opB bl,[],[],R,top,top.map (lfv bl),(f:Int),aT bl (opB bl) T,aR bl (opB bl) top,aL bl (opB bl) top f h),true):=by
 cases hd:gd bl wr lf with
 | false=>
  left;unfold Dn Df cK cZ gX wI;rw [HM hn,hd,Ai3,IU hn,hd,Ai3,Ai9 Z,Ai9 Z,Ai3,Ai3];dsimp only;rw [Ai9 rfl,Ai9 rfl];exact⟨_,rfl,rfl,rfl⟩
 | true=>
  obtain ⟨hb,hk⟩:=K4 hd;by_cases hw:wts bl=[]
  .cases hs:Ti (blk bl 0)with
   | false=>
    left;have hsd:LX (blk bl 0)=(false,0,0,0,0,0):=by unfold LX;rw [hs];rfl
    refine⟨(false,0,0,0,0,0,[],[],[],[],[],0,[],[],[],[]),?_,rfl,?_⟩
    .unfold Dn cK cZ gX wI;rw [HM hn,hd,Ai3,Ai8 Z,Gn on hd hu,hw,Ai3,Ai3];dsimp only;rw [Ai8 Z,iy O,show Int.toNat 0=0 from rfl,Bo (O:0 < bl.length),Ai3,Io (hu _ (Bz O)),hsd,Ai3];dsimp only;rw [Gz on hd hu,Ai3,Ai3];dsimp only;rw [Ai9 Z,Ai3];dsimp only;rw [Ai9 rfl]
    .unfold Df gX;rw [IU hn,hd,Ai3,Ai8 Z,Kq on hd hu,hw,Ai3,Ai3];dsimp only;rw [Ai8 Z,iy O,show Int.toNat 0=0 from rfl,Bo (O:0 < bl.length),Ai3,On (hu _ (Bz O)),hsd,Ai3];dsimp only;rw [Ai9 Z]
   | true=>
    obtain ⟨f,h,e,hsd,hf,hh,he,he2⟩:=AdC hs;have hi:Df bl wr on lf=Option.bind (some (opD bl)) λ(l,m,n)=>
      if(!l)=true then some (none,false)
      else Option.bind (Gq (m,(n,([],[]))) (num (blk bl 0) 8)) λ(o,p,q,r)=>
       if(!o)=true then some (none,false)
       else Option.bind (Cs bl wr on lf (f:Int) (h:Int) (e:Int) (num (blk bl 0) 8) (num (blk bl 0) 10) m n [] [] p q r 0 [] [] []) λ(s,t,u,v,w,x,y,z,a0,b0,c0,d0,e0,f0,g0,h0,i0,j0,k0,l0,m0)=>
        if(!s)=true then some (none,false)
        else some (some (t,(u,(v,(w,(x,(y,(z,(a0,(b0,(c0,(d0,(e0,(f0,(g0,(h0,(i0,(j0,(k0,(l0,m0))))))))))))))))))),true):=by
     unfold Df gX;rw [IU hn,hd,Ai3,Ai8 Z,Kq on hd hu,hw,Ai3,Ai3];dsimp only;rw [Ai8 Z,iy O,show Int.toNat 0=0 from rfl,Bo (O:0 < bl.length),Ai3,On (hu _ (Bz O)),hsd,Ai3];dsimp only;rw [Ai8 Z,Ta on hd hu]
    cases ho:opG bl with
    | false=>
     left;have hod:opD bl=(false,[],[]):=by unfold opD;rw [ho];rfl
     refine⟨(false,0,0,0,0,0,[],[],[],[],[],0,[],[],[],[]),?_,rfl,?_⟩
     .unfold Dn cK cZ gX wI;rw [HM hn,hd,Ai3,Ai8 Z,Gn on hd hu,hw,Ai3,Ai3];dsimp only;rw [Ai8 Z,iy O,show Int.toNat 0=0 from rfl,Bo (O:0 < bl.length),Ai3,Io (hu _ (Bz O)),hsd,Ai3];dsimp only;rw [Gz on hd hu,hod,Ai3,Ai3];dsimp only;rw [Ai8 Z,Ai9 Z,Ai3];dsimp only;rw [Ai9 rfl]
     .rw [hi,hod,Ai3];dsimp only;rw [Ai9 Z]
    | true=>
     have hod:opD bl=(true,bl,opB bl):=by unfold opD;rw [ho];rfl
     have sb:=Vq (bl:=bl) O O;have hog:gsp bl (opB bl) [] []=true:=by unfold opG at ho;rw [Aja]at ho;exact ho.1
     have g:=(Sr hog).rs sb hu;cases ht:tre bl (opB bl) [] (num (blk bl 0) 8)with
     | none=>
      left;refine⟨(false,0,0,0,0,0,[],[],[],[],[],0,[],[],[],[]),?_,rfl,?_⟩
      .unfold Dn cK cZ gX wI;rw [HM hn,hd,Ai3,Ai8 Z,Gn on hd hu,hw,Ai3,Ai3];dsimp only;rw [Ai8 Z,iy O,show Int.toNat 0=0 from rfl,Bo (O:0 < bl.length),Ai3,Io (hu _ (Bz O)),hsd,Ai3];dsimp only;rw [Gz on hd hu,hod,Ai3,Ai3];dsimp only;rw [Ai8 Z,Ai8 Z,Hm sb hu,hog,ht,Ai3,Ai3];dsimp only;rw [Ai9 Z]
      .rw [hi,hod,Ai3];dsimp only;rw [Ai8 Z,UD g,ht];unfold trI;dsimp only;rw [Ai3];dsimp only;rw [Ai9 Z]
     | some top=>
      have htl:=HR ht;obtain ⟨w,w1,w2,w3⟩:=Ady on hn hd hu hw hsd ho ht hf hh he he2;obtain ⟨q,q1,q2,q3⟩:=AbG (wr:=wr) (lf:=lf) (R:=num (blk bl 0) 8) (T:=num (blk bl 0) 10) on hn g htl hf hh he he2;have hsc:=AhN (b:=bl) (x:=opB bl) (T:=num (blk bl 0) 10) (f:=f) (h:=h) (e:=e) g ht hf hh;rw [hi,hod,Ai3];dsimp only;rw [Ai8 Z,UD g,ht];unfold trI;dsimp only;rw [Ai3];dsimp only;rw [Ai8 Z,q1,Ai3];cases hc:iC bl (opB bl) top (num (blk bl 0) 8) (num (blk bl 0) 10) f h e with
      | false=>
       left;rw [hc]at q2;rw [hsc,hc]at w2;refine⟨w,w1,w2,?_⟩;rw [q2];rfl
      | true=>
       right;refine⟨f,h,e,num (blk bl 0) 8,num (blk bl 0) 10,top,⟨hd,hw,hsd,ho,ht,hf,hh,he,he2⟩,hc,?_,?_⟩
       .rw [w1,w3 (by rw [hsc];exact hc)]
       .rw [q3 hc];rfl
  .left;have hlen:0 < (wts bl).length:=List.length_pos_iff.2 hw;unfold Dn Df cK cZ gX wI;rw [HM hn,hd,Ai3,Ai8 Z,Gn on hd hu,Ai3,Ai3,IU hn,hd,Ai3,Ai8 Z,Kq on hd hu,Ai3,Ai3];dsimp only;rw [decide_eq_true (show(0:Int) < (((wts bl).length:Nat):Int) by omega),Ai9 rfl,Ai9 rfl];exact⟨_,rfl,rfl,rfl⟩
end Go.V.G
set_option maxRecDepth 100000
namespace Go.V.G
open Go.V
theorem Adk {n:Nat} {l:Int} (h:¬ lft l n < 0):(n:Int)<=l:=by
 unfold lft at h;split at h
 .assumption
 .exact absurd O h
theorem Ag8 {n:Int} (h:KW (.int .u8) n):0<=n/\n<=255:=by
 have h2:(Lit.int .u8 n).wf=true:=h;simp [Lit.wf,IntKind.min,IntKind.max,IntKind.bits,IntKind.signed]at h2;omega
theorem Ss {b:Bls} (f2:JO b) (hu:∀c∈b,U8s c) (wr:Int) (on:Bool) (lf:Int):Dm b wr on lf=some true:=by
 unfold Dm;rw [AfM f2 O O,Ai3];by_cases hs:lft 1048576 (CF b) < 0
 .rw [Ai9 (by simpa using hs)]
 rw [Ai8 (by simpa using hs)];have hw:=Adk hs;have hbl:=K3 b;have htd:HF b wr on lf=some (b,wr,on,lf):=Ae2 O;have hed:KH b wr on lf b wr on lf=some true:=AeY O;have hboth:∃r:Bool,Jj b wr on lf=some r/\I8 b wr on lf=some r:=by
  unfold Jj I8;rcases Ac3 (bl:=b) (wr:=wr) (lf:=lf) on O hu with⟨w,w1,w2,w3⟩ | ⟨f,h,e,R,T,top,_,_,w1,w2⟩
  .exact⟨false,by rw [w1,Ai3];exact congrArg some w2,by rw [w3];rfl⟩
  .exact⟨true,by rw [w1];rfl,by rw [w2];rfl⟩
 obtain ⟨r,r1,r2⟩:=hboth;have hr:(r != r)=false:=by cases r <;> rfl
 simp only [htd,r1,r2,hed,hr,Ai3,AjW,Ajl,AjL]
end Go.V.G
namespace Go.Proofs.YtofhefmbioblbaaGreat
open Go.V
theorem MG {e1 e2:TypeId} (x0:List (List Int)) (x1:Int) (x2:Bool) (x3:Int)
  (g0:∀l∈([⟨.sl false e1 (.sl false e2 (.int .u8)),x0⟩,⟨.int .i64,x1⟩,⟨.bool,x2⟩,⟨.int .i64,x3⟩]:List Ae),KW l.1 l.2):G.Dm x0 x1 x2 x3=some true:=by
 have h1:=g0 ⟨.sl false e1 (.sl false e2 (.int .u8)),x0⟩ Z;exact G.Ss ⟨h1.1,λx hx=>(h1.2 x hx).1⟩ (λx hx y hy=>G.Ag8 ((h1.2 x hx).2 y hy)) x1 x2 x3
end Go.Proofs.YtofhefmbioblbaaGreat
namespace Go.V
structure Rs where
 s:Nat
 h:Nat
 k:Nat
 o:List (Nat×Nat)
abbrev Rd (α:Type):=Rs->α×Rs
def rn:Nat->Rd Nat
 | 0,q=>(0,q)
 | f+1,⟨s,h,k,o⟩=>bif Nat.blt (s % 16) 8 then(s % 16,⟨s / 16,h,k,o⟩)else match rn f ⟨s / 16,h,k,o⟩with
  | (r,q)=>(s % 16 - 8+8 * r,q)
def rnb:Rd Nat:=rn 9
def nib:Rd Nat
 | ⟨s,h,k,o⟩=>(s % 16,⟨s / 16,h,k,o⟩)
def rl {α:Type} (p:Rd α):Nat->Rd (List α)
 | 0,q=>([],q)
 | n+1,q=>match p q with
  | (a,q)=>match rl p n q with
   | (l,q)=>(a::l,q)
def rls {α:Type} (p:Rd α):Rd (List α):=λq=>match rnb q with
 | (n,q)=>rl p n q
def r2 {α:Type} (c:Nat->Nat->α):Rd α:=λq=>match rnb q with
 | (a,q)=>match rnb q with
  | (b,q)=>(c a b,q)
def r1 {α:Type} (c:Nat->α):Rd α:=λq=>match rnb q with
 | (a,q)=>(c a,q)
def rTL (b:Nat):Rd TL:=λq=>match nib q with
 | (0,⟨s,h,k,o⟩)=>(.h h,⟨s,h+1,k,o⟩)
 | (1,⟨s,h,k,o⟩)=>(.vw (k+1),⟨s,h+1,k+1,(k+1,h)::o⟩)
 | (2,q)=>r1 (λa=>.vw (b+a)) q
 | (3,q)=>match rnb q with
  | (a,⟨s,h,k,o⟩)=>(.vw (b+a),⟨s,h+1,b+a,(b+a,h)::o⟩)
 | (4,q)=>(.nil,q)
 | (5,q)=>(.no,q)
 | (6,q)=>r1 .h q
 | (7,q)=>(.np,q)
 | (8,q)=>r2 .p q
 | (9,q)=>match rnb q with
  | (a,q)=>r2 (λi j=>.vs (b+a) i j) q
 | (10,q)=>match rnb q with
  | (a,q)=>r2 (λi j=>.ww (b+a) i j) q
 | (11,q)=>match rnb q with
  | (a,q)=>match rnb q with
   | (i,q)=>match rnb q with
    | (f,q)=>r2 (λx y=>.vq (b+a) i f x y) q
 | (12,q)=>r1 .mh q
 | (13,⟨s,h,k,o⟩)=>(.md h,⟨s,h+1,k,o⟩)
 | (14,q)=>r1 .md q
 | (_,q)=>(.no,q)
def rTS (b:Nat):Rd TS:=λq=>match nib q with
 | (0,⟨s,h,k,o⟩)=>(.one (.h h),⟨s,h+1,k,o⟩)
 | (1,⟨s,h,k,o⟩)=>(.one (.vw (k+1)),⟨s,h+1,k+1,(k+1,h)::o⟩)
 | (2,q)=>r2 .pl q
 | (3,q)=>match rTL b q with
  | (l,q)=>(.one l,q)
 | (4,q)=>match rls (rTL b) q with
  | (l,q)=>(.ag l,q)
 | (5,q)=>match rnb q with
  | (a,⟨s,h,k,o⟩)=>(.rp h a,⟨s,h+1,k,o⟩)
 | (6,q)=>match rnb q with
  | (f,q)=>match rls (r2 Prod.mk) q with
   | (l,q)=>(.fv f l,q)
 | (7,q)=>r2 .rp q
 | (_,q)=>(.one .nil,q)
def rT (qs:List Ty):Rd Ty:=r1 λi=>qs.getD i .unit
def rPl (qs:List Ty):Rd Pl:=λq=>match nib q with
 | (0,q)=>r1 .sl q
 | (1,q)=>r2 .ag q
 | (2,q)=>r2 .mc q
 | (_,q)=>match rnb q with
  | (i,q)=>match rls (rT qs) q with
   | (l,q)=>(.pt i l,q)
def rSl (b:Nat):Nat->Nat->Rd (List (Nat×TS))
 | 0,_,q=>([],q)
 | n+1,i,q=>match rnb q with
  | (d,q)=>match rTS b q with
   | (t,q)=>match rSl b n (i+d+1) q with
    | (l,q)=>((i+d,t)::l,q)
def Ait (b:Nat):Rd (Nat×List TL):=λq=>match rnb q with
 | (k,q)=>match rls (rTL b) q with
  | (l,q)=>((k,l),q)
def AdD (qs:List Ty) (b:Nat):Rd Tpl:=λ⟨s,_,k,_⟩=>match nib ⟨s,0,k,[]⟩with
 | (e,q)=>match rls (rT qs) q with
  | (ho,q)=>match rnb q with
   | (n,q)=>match rSl b n 0 q with
    | (sl,q)=>match (bif Nat.testBit e 0 then rls (Ait b) q else([],q))with
     | (me,q)=>match (bif Nat.testBit e 1 then rls (r2 λx y=>(b+x,y)) q else(q.o.reverse,q))with
      | (ow,q)=>match (bif Nat.testBit e 2 then rls (rPl qs) q else([],q))with
       | (nw,q)=>match (bif Nat.testBit e 3 then rls (rPl qs) q else([],q))with
        | (fz,q)=>(⟨ho,sl,me,ow,nw,fz⟩,q)
def rEx:Rd Ex:=λq=>match rnb q with
 | (0,q)=>(.n,q)
 | (1,q)=>(.r,q)
 | (n+2,q)=>(.x n,q)
def rJ (qs:List Ty) (b:Nat):Rd Joins:=rls λq=>match rEx q with
 | (e,q)=>match AdD qs b q with
  | (t,q)=>((e,t),q)
def FT (qs:List Ty) (b:Nat):Nat->Rd Ann
 | 0,q=>(.nil,q)
 | f+1,q=>match nib q with
  | (1,q)=>match FT qs b f q with
   | (x,q)=>match FT qs b f q with
    | (y,q)=>(.seq x y,q)
  | (2,q)=>match rJ qs b q with
   | (J,q)=>match FT qs b f q with
    | (x,q)=>match FT qs b f q with
     | (y,q)=>(.cond J x y,q)
  | (3,q)=>match rJ qs b q with
   | (J,q)=>match FT qs b f q with
    | (x,q)=>(.block J x,q)
  | (4,q)=>match AdD qs b q with
   | (t,q)=>match rJ qs b q with
    | (J,q)=>match FT qs b f q with
     | (x,q)=>(.loop t J x,q)
  | (5,q)=>match rJ qs b q with
   | (J,q)=>(.reg J,q)
  | (6,q)=>match rJ qs b q with
   | (J,q)=>match FT qs b f q with
    | (r,q)=>match FT qs b f q with
     | (x,q)=>match FT qs b f q with
      | (y,q)=>match FT qs b f q with
       | (z,q)=>match FT qs b f q with
        | (w,q)=>(.both J r x y z w,q)
  | (7,q)=>match AdD qs b q with
   | (t,q)=>match FT qs b f q with
    | (x,q)=>(.mloop t x,q)
  | (8,q)=>match FT qs b f q with
   | (x,q)=>(.seq .nil x,q)
  | (9,q)=>match FT qs b f q with
   | (x,q)=>(.seq x .nil,q)
  | (10,q)=>match FT qs b f q with
   | (x,q)=>(.seq .nil (.seq .nil x),q)
  | (11,q)=>match FT qs b f q with
   | (x,q)=>(.seq (.seq .nil x) .nil,q)
  | (12,q)=>match rJ qs b q with
   | (J,q)=>(.cond J .nil .nil,q)
  | (13,q)=>match FT qs b f q with
   | (x,q)=>(.block [] x,q)
  | (_,q)=>(.nil,q)
def Aa1 (qs:List Ty) (c:Nat):Joins×Ann:=match rnb ⟨c,0,0,[]⟩with
 | (b,⟨s,_,_,_⟩)=>match rJ qs b ⟨s,0,b - 1,[]⟩with
  | (J,q)=>match FT qs b 400 q with
   | (a,_)=>(J,a)
structure Kp (P:Program) where
 k:Kn
 ok:IN P k
def Kp.l {P:Program}:List (Kp P)->List Kn
 | []=>[]
 | a::l=>a.k::Kp.l l
theorem Kp.all {P:Program}:∀l:List (Kp P),∀k∈Kp.l l,IN P k
 | [],_,h=>by cases h
 | a::l,k,h=>by
  rcases Ajm.1 h with rfl | h
  .exact a.ok
  .exact Kp.all l k h
end Go.V