import Derived.Test.YtofhefmbioblbaaGreatQStA
import Derived.Test.YtofhefmbioblbaaGreatQStC
import Derived.Test.YtofhefmbioblbaaGreatQStF
import Derived.Test.YtofhefmbioblbaaGreatQStG
set_option linter.unusedVariables false
set_option linter.unusedSimpArgs false
set_option maxRecDepth 100000
namespace Go.V.G
open Go.V
def pst (b:Bls) (x y:List Int) (a:Int):Int:=if pcB b x y a=true then gb (blk b a.toNat) 1 else 0
def usd (x:List Int) (n:Nat):List Int:=(((List.range n).map (33 + ·)).filter λk=>bit x k).map λk=>((k:Nat):Int)
theorem W9 (x:List Int) (n:Nat):usd x (n+1)=usd x n++(if bit x (33+n)=true then [((33+n:Nat):Int)]else []):=by
 unfold usd;rw [Alu,Akv,Ali,Akv];by_cases h:bit x (33+n)=true <;> simp [h]
theorem AfT (x:List Int) (n:Nat):(usd x n).length<=n:=by
 unfold usd;rw [Akj];exact Ako (Ak5 _ _) Z
theorem usd_mem {x:List Int} {n:Nat} {v:Int}:v∈usd x n↔∃k:Nat,33<=k/\k < 33+n/\bit x k=true/\v=(k:Int):=by
 unfold usd;simp only [Aj9,AlC,Als];constructor
 .rintro ⟨k,⟨⟨i,h1,rfl⟩,h2⟩,rfl⟩;exact⟨33+i,O,O,h2,rfl⟩
 .rintro ⟨k,h1,h2,h3,rfl⟩;exact⟨k,⟨⟨k - 33,O,O⟩,h3⟩,rfl⟩
theorem PX (x:List Int):∀n,(usd x n).Pairwise (· < ·)
 | 0=>by simp [usd]
 | n+1=>by
  rw [W9];split
  .rw [Alv];refine⟨PX x n,Z,λa ha c hc=>?_⟩;obtain ⟨k,_,h2,_,rfl⟩:=usd_mem.1 ha;rw [AjX.1 hc];omega
  .rw [Aj2];exact PX x n
section
variable {F H E R T:Int} {b d:Bls} {x y z top:List Int} {wr lf rt:Int} {on:Bool}
theorem AeN (g:RS b x y):Fo (b,x,y,z)=some (usd x (b.length - 33)):=by
 have hbl:=g.hn;have hxl:=g.hx;unfold Fo;have h:=An C8 (λn=>((b,x,y,z),usd x n,((33+n:Nat):Int))) (b.length - 33) (usd x (b.length - 33)) (λn hn=>by
  have hl:=AfT x n;unfold C8 cK wI;dsimp only;rw [iy O,RX O O,AjM,W9];by_cases hq:bit x (33+n)=true
  .rw [AjS hq,AjS (by simp only [Aa,decide_eq_true_eq,AjZ];omega),AjM,AjS hq];dsimp only;rw [Ak O];rfl
  .rw [AjR hq,AjM,AjR hq,Aj2];dsimp only;rw [Ak O];rfl) (by
  unfold C8 cK wI;dsimp only;rw [ino O])
 rw [show Ab C8 ((b,x,y,z),[],33)=_ from h];rfl
theorem Afk (g:RS b x y) {ks bl rs:List Int} {h1:Int} {h2:List UInt8} {h3:List Rn} {h4:List (List Prt)} {vs:List (List Int)}:∀(l:List (Int×Int)) (bad:Bool),
  l.foldlM BZ (ks,bl,rs,bad,d,wr,on,lf,F,H,E,R,T,b,x,y,z,rt,top,vs,h1,h2,h3,h4) =
   some (ks,bl,rs,bad || l.any (λp=>!decide (pst b x y p.1=p.2)),d,wr,on,lf,F,H,E,R,T,b,x,y,z,rt,top,vs,h1,h2,h3,h4)
 | [],bad=>by simp
 | p::l,bad=>by
  have hs:BZ (ks,bl,rs,bad,d,wr,on,lf,F,H,E,R,T,b,x,y,z,rt,top,vs,h1,h2,h3,h4) p=some (ks,bl,rs,bad || !decide (pst b x y p.1=p.2),d,wr,on,lf,F,H,E,R,T,b,x,y,z,rt,top,vs,h1,h2,h3,h4):=by
   unfold BZ;dsimp only;rw [SP g,AjM];have e:(if pcB b x y p.1=true then(true,Dx b p.1)else(false,0,0,[])).2.2.1=pst b x y p.1:=by
    unfold pst Dx;split <;> rfl
   generalize (if pcB b x y p.1=true then(true,Dx b p.1)else(false,0,0,[]))=w at *;obtain ⟨w1,w2,w3,w4⟩:=w;dsimp only at e ⊢;subst e;cases bad with
   | true=>rfl
   | false=>
    rw [AjR Z,AjM];dsimp only;by_cases hq:pst b x y p.1=p.2 <;> simp [hq]
  rw [List.foldlM_cons,hs];show l.foldlM BZ _=_;rw [Afk g l,List.any_cons,Bool.or_assoc]
theorem AeF {l m:List (Int×Int)} (h:l.Perm m) (p:Int×Int->Bool):l.any p=m.any p:=by
 rw [AlJ,AlZ,AlZ];constructor
 .rintro ⟨v,h1,h2⟩;exact⟨v,h.mem_iff.1 h1,h2⟩
 .rintro ⟨v,h1,h2⟩;exact⟨v,h.mem_iff.2 h1,h2⟩
theorem Ail {tk:List Kv} {ks bl rs:List Int} {h1:Int} {h2:List UInt8} {h3:List Rn} {h4:List (List Prt)} {vs:List (List Int)} (htk:tk.length<=100000) (hks:ks.length<=1000000) (bad:Bool) :
  Ab B3 (tk,(tk.length:Int),0,ks,bl,rs,bad,d,wr,on,lf,F,H,E,R,T,b,x,y,z,rt,top,vs,h1,h2,h3,h4) =
   some (ks,bl,rs,bad || tk.any (λp=>!decide (p.1∈ks)),d,wr,on,lf,F,H,E,R,T,b,x,y,z,rt,top,vs,h1,h2,h3,h4):=by
 have h:=An B3 (λi=>(tk,(tk.length:Int),((i:Nat):Int),ks,bl,rs,bad || (tk.take i).any (λp=>!decide (p.1∈ks)),d,wr,on,lf,F,H,E,R,T,b,x,y,z,rt,top,vs,h1,h2,h3,h4)) tk.length (ks,bl,rs,bad || tk.any (λp=>!decide (p.1∈ks)),d,wr,on,lf,F,H,E,R,T,b,x,y,z,rt,top,vs,h1,h2,h3,h4) (λi hi=>by
  unfold B3 cK cZ wI;dsimp only;rw [iy O,iy O,iy O,Ake,AjO,AjP hi,AjM,AjM,Akd hi,List.any_append];cases hq:(bad || (tk.take i).any (λp=>!decide (p.1∈ks)))with
  | true=>
   rw [AjS rfl,AjM,<- Bool.or_assoc,hq];dsimp only;rw [Ak O];rfl
  | false=>
   rw [AjR Z,FX O,AjM,AjM,<- Bool.or_assoc,hq];dsimp only;rw [Ak O];simp) (by
  unfold B3 cK cZ wI;dsimp only;rw [ino O,AkC])
 have e0:(bad || (tk.take 0).any (λp=>!decide (p.1∈ks)))=bad:=by simp
 rw [e0]at h;exact h
end
section defs
variable (b:Bls) (x top:List Int) (R T:Int) (f h e:Nat)
noncomputable def bB2:List Int:=btx b x [] [] (srt (pgl top R)) T
noncomputable def bB4:List Int:=bB2 b x top R T++ics b x [] top (sts f h)++rkc b x [] top 448
noncomputable def bB5:List Int:=btl b x [] top (cks f h e) (aP2 b x T) (bB4 b x top R T f h)
def bf4:Bool:=(tok b x [] T && (sts f h).all (ioc b x [] top)) && rko b x [] top 448
def bf5:Bool:=bf4 b x top T f h && cko b x [] top (cks f h e)
def bKs:List Int:=((sts f h).map kyI++[448])++(cks f h e).map ckI
def bL:List (List Prt):=ich b x [] top (sts f h)
noncomputable def bG1:Bool:=(rdR (rkd b x [] top 448)).2 && (!bd (bf4 b x top T f h) (bB4 b x top R T f h) && Fy (f:Int) (aT b x T) (aR b x top) (bL b x top f h))
def bE:Bool:=(sts f h).all (ieq b x [] top (f:Int) (aT b x T) (bL b x top f h))
def bK:Bool:=(cks f h e).all (cke b x [] top f (aT b x T) (bL b x top f h))
noncomputable def Abb:Bool:=(bd (bf5 b x top T f h e) (bB5 b x top R T f h e) || (std (aP6 b x top T f h e)).any (λp=>!decide (pst b x [] p.1=p.2))) || (ksT b top 1024).any (λp=>!decide (p.1∈bKs f h e))
noncomputable def iC:Bool:=bG1 b x top R T f h && (bE b x top T f h && (bK b x top T f h e && (!Abb b x top R T f h e && decide ((bB5 b x top R T f h e).mergeSort (λx y=>decide (x<=y))=usd x (b.length - 33)))))
end defs
theorem Aaz {α:Type} (F:Int×Int->α) (f:Nat):∀n,(skn f 0 n).map F=(List.range (n - f)).map λi=>F (0,((f+i:Nat):Int))
 | 0=>by simp [skn]
 | n+1=>by
  rw [IU,Akv,Aaz F f n,Nat.pow_zero,Nat.mul_one];by_cases h:f<=n
  .rw [AjS h,(O:n+1 - f=n - f+1),Nw,(O:f+(n - f)=n)];rfl
  .rw [AjR h,(O:n+1 - f=n - f)];simp
theorem AgN {f h:Nat}:∀k,(stk f h (k+1)).filter (λs=>decide (s.1=0))=skn f 0 h
 | 0=>by
  show(([]++skn f 0 (h / 2 ^ 0):List (Int×Int))).filter _=_;rw [Akm,Nat.pow_zero,Nat.div_one,List.filter_eq_self];intro s hs;obtain ⟨i,_,_,rfl⟩:=skn_mem.1 hs;simp
 | k+1=>by
  show(stk f h (k+1)++skn f (k+1) (h / 2 ^ (k+1))).filter _=_;rw [Ali,AgN k];have:(skn f (k+1) (h / 2 ^ (k+1))).filter (λs=>decide (s.1=0))=[]:=by
   rw [List.filter_eq_nil_iff];intro s hs;obtain ⟨i,_,_,rfl⟩:=skn_mem.1 hs;simp only [decide_eq_true_eq];omega
  rw [this,Aj2]
theorem SQ (b:Bls) (x top:List Int) (f h:Nat):bL b x top f h=aL b x top f h:=by
 unfold bL aL ich chC lod sts;rw [AgN,Aaz,AkL];refine AkM λi _=>?_
 show(BQ (rkd b x [] top (64 * Int.toNat 0+Int.toNat ((f+i:Nat):Int)))).1=(BQ (rkd b x [] top (f+i))).1;rw [AjO,show 64 * Int.toNat 0+(f+i)=f+i by simp]
theorem Adg {bl:Bls} {wr lf:Int} (on:Bool) {f h e:Nat} {R T:Int} {top:List Int} (hn:bl.length<=1048576) (g:RS bl (opB bl) []) (htl:top.length=32) (hf:f<=h) (hh:h<=60) (he:0 < e) (he2:e<=30) :
  ∃q,Cs bl wr on lf (f:Int) (h:Int) (e:Int) R T bl (opB bl) [] [] R top (top.map (lfv bl)) 0 [] [] []=some q/\q.1=iC bl (opB bl) top R T f h e/\(iC bl (opB bl) top R T f h e=true->
   q=(true,bl,wr,on,lf,(f:Int),(h:Int),(e:Int),R,T,bl,opB bl,[],[],R,top,top.map (lfv bl),(f:Int),aT bl (opB bl) T,aR bl (opB bl) top,aL bl (opB bl) top f h)):=by
 obtain ⟨l1,l2,l3,l4,l5,l6,l7,l8⟩:=AcN (b:=bl) (x:=opB bl) (top:=top) (R:=R) (T:=T) (f:=f) (h:=h) (e:=e) htl hh;have hpl:(srt (pgl top R)).length<=33:=l1;have hb2:(bB2 bl (opB bl) top R T).length<=37:=by
  have:=ZX bl (opB bl) [] [] (srt (pgl top R)) T;unfold bB2;omega
 have hsl:=H3 (f:=f) hh;have hcl:=M3 (f:=f) (e:=e) hh;have hil:=SS bl (opB bl) [] top (sts f h);have hrk:=Hg bl (opB bl) [] top 448;have hb4:(bB4 bl (opB bl) top R T f h).length<=3700:=by unfold bB4;rw [AjU,AjU];omega
 have hb5:(bB5 bl (opB bl) top R T f h e).length<=4000:=by
  have:=TM bl (opB bl) [] top (cks f h e) (aP2 bl (opB bl) T) (bB4 bl (opB bl) top R T f h);unfold bB5;omega
 have hLl:(bL bl (opB bl) top f h).length=h - f:=by rw [SQ];unfold aL chC lod;simp
 unfold Cs cK;rw [Ae0 htl,AjM];have e1:=Oa (l:=srt (pgl top R)) (bl:=[]) (by simp only [Akl];omega) true [] [] bl [];rw [Akm]at e1;rw [show BH (srt (pgl top R)) [] [] [] false bl []=_ from e1,AjM];dsimp only;rw [show([]:List (Int×Int))=std [] from rfl,Ahx g T O Z true [] [],AjM];dsimp only;rw [iy rfl,S6 hf hh,AjM,Aj3,Akm,show btx bl (opB bl) [] [] (srt (pgl top R)) T=bB2 bl (opB bl) top R T from rfl,show tpc bl (opB bl) [] T=aP2 bl (opB bl) T from rfl];rw [show(std []:List (Int×Int))=[] from rfl,AiI g htl hf hh O Z,AjM];dsimp only;have er:=UW (z:=[]) g htl (bl:=bB2 bl (opB bl) top R T++ics bl (opB bl) [] top (sts f h)) (ks:=[]++(sts f h).map kyI) (by rw [AjU];omega) (by rw [AjU,Akj];simp;omega) (k:=448) O (tok bl (opB bl) [] T && (sts f h).all (ioc bl (opB bl) [] top)) [] bl wr on lf (f:Int) (h:Int) (e:Int) R T R (std (aP2 bl (opB bl) T));rw [show Bw 448 _ _ _ _ _ _ _ _ _ _ _ _ _ _ _ _ _ _ _ _ _=_ from er,AjM];dsimp only;rw [AiN (KC g top 448) O,AjM,show bB2 bl (opB bl) top R T++ics bl (opB bl) [] top (sts f h)++rkc bl (opB bl) [] top 448=bB4 bl (opB bl) top R T f h from rfl,
  show((tok bl (opB bl) [] T && (sts f h).all (ioc bl (opB bl) [] top)) && rko bl (opB bl) [] top 448)=bf4 bl (opB bl) top T f h from rfl,show ich bl (opB bl) [] top (sts f h)=bL bl (opB bl) top f h from rfl]
 unfold iC;have hG1:bG1 bl (opB bl) top R T f h=((rdR (rkd bl (opB bl) [] top 448)).2 && (!bd (bf4 bl (opB bl) top T f h) (bB4 bl (opB bl) top R T f h) && Fy (f:Int) (aT bl (opB bl) T) (aR bl (opB bl) top) (bL bl (opB bl) top f h))):=rfl;rw [hG1];cases hr2:(rdR (rkd bl (opB bl) [] top 448)).2 with
 | false=>
  rw [AjS Z,AjM];dsimp only;rw [AjS rfl];exact⟨_,rfl,rfl,λq=>by simp at q⟩
 | true=>
  rw [AjR Z];cases hbd:bd (bf4 bl (opB bl) top T f h) (bB4 bl (opB bl) top R T f h)with
  | true=>
   rw [AjS rfl,AjM];dsimp only;rw [AjS rfl];exact⟨_,rfl,rfl,λq=>by simp at q⟩
  | false=>
   have hHB:HB (ttx bl (opB bl) [] T) (rdR (rkd bl (opB bl) [] top 448)).1 (bL bl (opB bl) top f h):=by
    have:=ZR (rkd bl (opB bl) [] top 448);have:=RV bl (opB bl) [] T;refine⟨O,O,O,λc hc=>?_⟩;rw [SQ]at hc;obtain ⟨x',_,rfl⟩:=Aj9.1 hc;exact(Rq x').mono O
   rw [AjR Z,Rj hHB,AjM,AjM,show Fy (f:Int) (aT bl (opB bl) T) (aR bl (opB bl) top) (bL bl (opB bl) top f h)=Fy (f:Int) (ttx bl (opB bl) [] T) (rdR (rkd bl (opB bl) [] top 448)).1 (bL bl (opB bl) top f h) from rfl];dsimp only;cases hgh:Fy (f:Int) (ttx bl (opB bl) [] T) (rdR (rkd bl (opB bl) [] top 448)).1 (bL bl (opB bl) top f h)with
   | false=>
    rw [AjS Z];exact⟨_,rfl,rfl,λq=>by simp at q⟩
   | true=>
    have gh:=goodH_iff.1 hgh;rw [AjR Z];have e2:=AiF (b:=bl) (d:=bl) (x:=opB bl) (y:=[]) (z:=[]) (top:=top) (wr:=wr) (lf:=lf) (on:=on) (H:=(h:Int)) (E:=(e:Int)) (R:=R) (T:=T) (rt:=R) gh (hd:=h) O hh (ks:=[]++(sts f h).map kyI++[((448:Nat):Int)]) (bl:=bB4 bl (opB bl) top R T f h) (rs:=[]) (m:=std (aP2 bl (opB bl) T)) false;rw [show Ab BB _=_ from e2,AjM];simp only [AlH,Aj3];cases hE:bE bl (opB bl) top T f h with
    | false=>
     have hE':(sts f h).all (ieq bl (opB bl) [] top (f:Int) (ttx bl (opB bl) [] T) (bL bl (opB bl) top f h))=false:=hE;rw [hE',AjR Z];exact⟨_,rfl,rfl,λq=>by simp at q⟩
    | true=>
     have hE':(sts f h).all (ieq bl (opB bl) [] top (f:Int) (ttx bl (opB bl) [] T) (bL bl (opB bl) top f h))=true:=hE;rw [hE',AjS rfl];dsimp only;unfold I3 wI;rw [AjM,w64 O O,show(f:Int)+(((bL bl (opB bl) top f h).length:Nat):Int)=(h:Int) by omega,Qv hf hh he he2,AjM];have e3:=Aii (b:=bl) (d:=bl) (x:=opB bl) (y:=[]) (z:=[]) (top:=top) (wr:=wr) (lf:=lf) (on:=on) (H:=(h:Int)) (E:=(e:Int)) (R:=R) (T:=T) (rt:=R) g htl gh (hd:=h) (e:=e) O hh (ks:=[]++(sts f h).map kyI++[((448:Nat):Int)]) (bl:=bB4 bl (opB bl) top R T f h) (rs:=[]) (P:=aP2 bl (opB bl) T) O AjJ O (bf4 bl (opB bl) top T f h);rw [hbd]at e3;rw [show Ab Bz _=_ from e3,AjM];simp only [Aj3];cases hK:bK bl (opB bl) top T f h e with
     | false=>
      have hK':(cks f h e).all (cke bl (opB bl) [] top f (ttx bl (opB bl) [] T) (bL bl (opB bl) top f h))=false:=hK;rw [hK',AjR Z];exact⟨_,rfl,rfl,λq=>by simp at q⟩
     | true=>
      have hK':(cks f h e).all (cke bl (opB bl) [] top f (ttx bl (opB bl) [] T) (bL bl (opB bl) top f h))=true:=hK;rw [hK',AjS rfl];dsimp only;rw [show aP2 bl (opB bl) T++ckp bl (opB bl) [] top (cks f h e)=aP6 bl (opB bl) top T f h e from rfl,show btl bl (opB bl) [] top (cks f h e) (aP2 bl (opB bl) T) (bB4 bl (opB bl) top R T f h)=bB5 bl (opB bl) top R T f h e from rfl,show(bf4 bl (opB bl) top T f h && cko bl (opB bl) [] top (cks f h e))=bf5 bl (opB bl) top T f h e from rfl,
       Ae9 (λl hl=>by rw [Afk g l,AeF hl]),AjM]
      dsimp only;have hkt:=Qb bl top 1024;rw [Abq htl,AjM,Ail O AjJ,AjM];dsimp only;have hkk:[]++(sts f h).map kyI++[((448:Nat):Int)]++(cks f h e).map ckI=bKs f h e:=by unfold bKs;rw [Akm];rfl
      rw [hkk,show((bd (bf5 bl (opB bl) top T f h e) (bB5 bl (opB bl) top R T f h e) || (std (aP6 bl (opB bl) top T f h e)).any (λp=>!decide (pst bl (opB bl) [] p.1=p.2))) || (ksT bl top 1024).any (λp=>!decide (p.1∈bKs f h e)))=Abb bl (opB bl) top R T f h e from rfl];unfold FY;rw [AjS O,AjM];cases hB:Abb bl (opB bl) top R T f h e with
      | true=>
       rw [AjR Z,AjM];exact⟨_,rfl,rfl,λq=>by simp at q⟩
      | false=>
       rw [AjS Z,AeN g,AjM,Ahc (by rw [List.length_mergeSort];omega),AjM,AjM];refine⟨_,rfl,Z,λq=>?_⟩;have q':decide ((bB5 bl (opB bl) top R T f h e).mergeSort (λx y=>decide (x<=y))=usd (opB bl) (bl.length - 33))=true:=by simpa using q
       rw [q',SQ];rfl
end Go.V.G
set_option maxRecDepth 100000
namespace Go.V.G
open Go.V
theorem Qj:∀(n:Nat) (x:List Int) (c:List Prt),Byt x->CC n x=some c->(∀p∈c,kd p≠0)->enc c=x
 | 0,x,c,hb,h,hk=>by
  unfold CC at h;split at h
  .rename_i hx;injection h with h;subst h;rw [hx];rfl
  .cases h
 | n+1,[],c,hb,h,hk=>by
  rw [NX]at h;injection h with h;subst h;rfl
 | n+1,[a],c,hb,h,hk=>by simp [CC]at h
 | n+1,k::m::r,c,hb,h,hk=>by
  have hm:=hb m Z;have hr:Byt r:=λv hv=>hb v (by simp [hv])
  simp only [CC]at h;split at h
  .rename_i h1;obtain ⟨c',q1,rfl⟩:=AkO.1 h;have ih:=Qj n r c' hr q1 (λp hp=>hk p (by simp [hp]));have h0:=hk (m,0,[]) Z;rcases Dd h0 with⟨a,ha,e,hkd⟩ | ⟨a,ha,e,hkd⟩ | ⟨s,hs,e,hkd⟩
   .show Fk (m,0,[])++enc c'=_;rw [ih];unfold Fk;rw [hkd,h1];simp [Ay]
   .injection e with e1 e2;injection e2 with e2 e3;omega
   .injection e with e1 e2;injection e2 with e2 e3;exact absurd e3.symm hs
  .split at h
   .rename_i _ h1;obtain ⟨c',q1,rfl⟩:=AkO.1 h;have ih:=Qj n r c' hr q1 (λp hp=>hk p (by simp [hp]));have h0:=hk (0,m,[]) Z;rcases Dd h0 with⟨a,ha,e,hkd⟩ | ⟨a,ha,e,hkd⟩ | ⟨s,hs,e,hkd⟩
    .injection e with e1 e2;omega
    .show Fk (0,m,[])++enc c'=_;rw [ih];unfold Fk;rw [hkd,h1];simp [Ay]
    .injection e with e1 e2;injection e2 with e2 e3;exact absurd e3.symm hs
   .split at h
    .rename_i _ _ h1;obtain ⟨c',q1,rfl⟩:=AkO.1 h;have ih:=Qj n (r.drop m.toNat) c' (λv hv=>hr v (AlV hv)) q1 (λp hp=>hk p (by simp [hp]));have h0:=hk (0,0,AF (r.take m.toNat)) Z;rcases Dd h0 with⟨a,ha,e,hkd⟩ | ⟨a,ha,e,hkd⟩ | ⟨s,hs,e,hkd⟩
     .injection e with e1 e2;omega
     .injection e with e1 e2;injection e2 with e2 e3;omega
     .show Fk (0,0,AF (r.take m.toNat))++enc c'=_;have hbt:Ay (AF (r.take m.toNat))=r.take m.toNat:=AaD (λv hv=>hr v (Alo hv));have hln:(AF (r.take m.toNat)).length=m.toNat:=by unfold AF;rw [Akj,AjW];omega
      rw [ih];unfold Fk;dsimp only;rw [hkd,hbt,hln,h1.1];simp only [AkB,Akm,AjY,AkH]
      congr 2
      omega
    .cases h
theorem Abx {c:List Prt} (hg:AG c=true):BQ (enc c)=(c,true):=by
 have h1:=AeU (C5 hg) O hg;have hs:=AbL hg;rw [Aap (Aat hg) O]at h1;injection h1
theorem Ac0 {x:List Int} (hb:Byt x) {c:List Prt} (h:BQ x=(c,true)):enc c=x:=by
 unfold BQ at h;split at h
 .rename_i c' hd;split at h
  .rename_i hg;injection h with h1 h2;subst h1
   exact Qj _ _ _ hb hd λp hp=>(Bf (Aq hg).1 p hp).ne
  .injection h with h1 h2;cases h2
 .injection h with h1 h2;cases h2
theorem Ac8 {x:List Int} (hb:Byt x) {c:List Prt} (hg:AG c=true):(AF x == AF (enc c))=true↔BQ x=(c,true):=by
 rw [QR hb (Aat hg),beq_iff_eq];constructor
 .rintro rfl;exact Abx hg
 .intro h;exact(Ac0 hb h).symm
section
variable {b:Bls} {x y top:List Int}
theorem Zk:∀(f:Nat) (a:Int) (d ch:List Int) {p:List Int×List Int},(∀v∈ch,liv b x y v=true)->rcN b x y f a d ch=some p->∀v∈p.2,liv b x y v=true
 | 0,_,_,_,p,_,h=>by cases h
 | f+1,a,d,ch,p,hd,h=>by
  unfold rcN at h;split at h
  .rename_i hc;have hl:liv b x y a=true:=by unfold rcC at hc;rw [AjT]at hc;exact hc.1
   have hd':∀v∈ch++[a],liv b x y v=true:=λv hv=>by
    rcases AjV.1 hv with hv | hv
    .exact hd v hv
    .rw [AjX.1 hv];exact hl
   split at h
   .injection h with h;subst h;exact hd'
   .exact Zk f _ _ _ hd' h
  .cases h
theorem TR (k:Nat):∀v∈rkc b x y top k,liv b x y v=true:=by
 intro v hv;unfold rkc rcA at hv;split at hv
 .rename_i p hp;exact Zk _ _ _ _ Z hp v hv
 .cases hv
theorem Zl (a:Int):∀v∈tcl b x y a,liv b x y v=true:=by
 intro v hv;unfold tcl at hv;split at hv
 .rename_i h;obtain ⟨l,hl⟩:=AlF.1 h;rw [AjX.1 hv];exact(IE hl).2.1
 .cases hv
theorem Zy (a:Int):∀v∈tpc b x y a,pcB b x y v=true:=by
 intro v hv;unfold tpc at hv;cases hp:ptx b x y a with
 | none=>rw [hp]at hv;cases hv
 | some l=>rw [hp]at hv;exact(IE hp).1.all v hv
theorem AfE {v:Int} (h:pcB b x y v=true):liv b x y v=true:=by
 unfold pcB at h;rw [AjT]at h;exact h.1
theorem AfJ {root:Int} (ht:tre b x y root=some top):∀v∈pgl top root,liv b x y v=true:=by
 intro v hv;unfold pgl at hv;simp only [AlC,AjV,AjX,decide_eq_true_eq]at hv;obtain ⟨hv,h0⟩:=hv;rcases hv with hv | hv
 .obtain ⟨j,hj,rfl⟩:=Akq hv;have hg:=Ai hj;rw [AjP hj]at hg;injection hg with hg
  rw [hg]at h0 ⊢;rcases AgW ht j (by rw [<- GP ht];exact hj)with q | q
  .exact absurd q h0
  .have:=q.1;unfold pgB at this;rw [AjT]at this;exact this.1
 .subst hv;exact(X1 ht h0).1
theorem Adt {k:Nat} (h:rko b x y top k=true):vl b top k≠0:=by
 intro q;unfold rko rcA rcd rcN at h;rw [AjR (λw=>Afg w q)]at h;cases h
theorem Ah9 {a:Int} (h:tok b x y a=true):a≠0:=by
 rintro rfl;unfold tok at h;obtain ⟨l,hl⟩:=AlF.1 h;obtain ⟨m,h1,h2,_⟩:=Cn (IE hl).2.1;omega
end
end Go.V.G
set_option maxRecDepth 100000
namespace Go.V.G
open Go.V
theorem Aak {l U:List Int} (hn:l.Nodup) (hU:U.Pairwise (· < ·)):l.mergeSort (λx y=>decide (x<=y))=U↔∀v,v∈l↔v∈U:=by
 have hp:=List.mergeSort_perm l (λx y=>decide (x<=y));constructor
 .rintro rfl v;exact hp.mem_iff.symm
 .intro h;have h1:(l.mergeSort (λx y=>decide (x<=y))).Pairwise (λx y=>decide (x<=y)=true):=List.pairwise_mergeSort (λa b c p q=>by simp only [decide_eq_true_eq]at *;omega) (λa b=>by simp only [Ak2,decide_eq_true_eq];omega) l;have h2:(l.mergeSort (λx y=>decide (x<=y))).Nodup:=hp.nodup_iff.2 hn;have h3:(l.mergeSort (λx y=>decide (x<=y))).Pairwise (· < ·):=by
   have h2':(l.mergeSort (λx y=>decide (x<=y))).Pairwise (·≠·):=h2;exact(h1.and h2').imp λ⟨p,q⟩=>by simp only [decide_eq_true_eq]at p;omega
  exact Aah (ris_iff.2 h3) (ris_iff.2 hU) λv=>by rw [hp.mem_iff];exact h v
section
variable {b:Bls} {x y top:List Int}
theorem AhK {C P:List Int} (hP:∀v∈P,pcB b x y v=true):(List.range b.length).all (stB b x C P)=true↔(∀v∈P,v∉C/\gb (blk b v.toNat) 1=(P.count v:Int))/\∀k:Nat,33<=k->k < b.length->(bit x k=true↔(((k:Nat):Int)∈C\/((k:Nat):Int)∈P)):=by
 rw [all_range];constructor
 .intro q;refine⟨λv hv=>?_,λk h1 h2=>?_⟩
  .obtain ⟨m,rfl,h33,hm,_⟩:=Qa (hP v hv);have:=q m hm;have hc:=List.count_pos_iff.2 hv;unfold stB at this;simp only [AjT,Ak2,decide_eq_true_eq,Aj0,decide_eq_false_iff_not]at this;rcases this.1 with w | w
   .omega
   .rw [AjO];exact w
  .have:=q k h2;unfold stB at this;simp only [AjT,Ak2,decide_eq_true_eq,beq_iff_eq]at this;rcases this.2 with w | w
   .omega
   .rw [w,decide_eq_true_eq,List.count_pos_iff]
 .rintro ⟨q1,q2⟩ k hk;unfold stB;rw [AjT];constructor
  .by_cases hv:((k:Nat):Int)∈P
   .obtain ⟨w1,w2⟩:=q1 _ hv;rw [AjO]at w2;rw [decide_eq_false w1,decide_eq_true w2];simp
   .have:P.count ((k:Nat):Int)=0:=List.count_eq_zero.2 hv;rw [decide_eq_true this];rfl
  .by_cases h33:k < 33
   .rw [decide_eq_true h33];rfl
   .have:=q2 k O hk;rw [decide_eq_false h33,Ak3,beq_iff_eq,AlJ,this,decide_eq_true_eq,List.count_pos_iff]
theorem Aga {P:List Int} (hP:∀v∈P,pcB b x y v=true):(std P).any (λp=>!decide (pst b x y p.1=p.2))=false↔∀v∈P,gb (blk b v.toNat) 1=(P.count v:Int):=by
 obtain ⟨s1,s2,s3⟩:=Ya P;rw [AkV];constructor
 .intro q v hv;obtain ⟨p,hp,rfl⟩:=Aj9.1 ((s3 v).2 hv);have h1:=q p hp;have h2:=WR s2 p hp;rw [s1]at h2;simp only [Aj0,decide_eq_false_iff_not,Classical.not_not]at h1;unfold pst at h1;rw [AjS (hP _ hv)]at h1;rw [h1,h2]
 .intro q p hp;have hv:p.1∈P:=(s3 _).1 (List.mem_map_of_mem hp);have h2:=WR s2 p hp;rw [s1]at h2;have h3:=q _ hv;simp only [Aj0,decide_eq_false_iff_not,Classical.not_not];unfold pst;rw [AjS (hP _ hv),h3,h2]
theorem Agr (A B:List (Int×Int)):upk (A++B)=upk A++upk B:=by unfold upk;exact Ali ..
theorem Um {f h:Nat}:∀k,stk f h (k+1)=skn f 0 h++upk (stk f h (k+1))
 | 0=>by
  have e:stk f h 1=skn f 0 h:=by
   show([]++skn f 0 (h / 2 ^ 0):List (Int×Int))=_;rw [Akm,Nat.pow_zero,Nat.div_one]
  have:upk (skn f 0 h)=[]:=by
   unfold upk;rw [List.filter_eq_nil_iff];intro s hs;obtain ⟨i,_,_,rfl⟩:=skn_mem.1 hs;simp
  rw [e,this,Aj2]
 | k+1=>by
  have ih:=Um (f:=f) (h:=h) k;have e:stk f h (k+1+1)=stk f h (k+1)++skn f (k+1) (h / 2 ^ (k+1)):=rfl;have hu:upk (skn f (k+1) (h / 2 ^ (k+1)))=skn f (k+1) (h / 2 ^ (k+1)):=by
   unfold upk;rw [List.filter_eq_self];intro s hs;obtain ⟨i,_,_,rfl⟩:=skn_mem.1 hs;simp only [decide_eq_true_eq];omega
  rw [e,Agr,hu,<- AjY,<- ih]
theorem O5 (f h:Nat):sts f h=skn f 0 h++upk (sts f h):=Um 5
theorem ky0 (i:Nat):ky (0,(i:Int))=i:=by unfold ky;simp
theorem Ac7 (f h:Nat):ics b x y top (sts f h)=Ci b x y top f (h - f)++upc b x y top (sts f h):=by
 have e:ics b x y top (skn f 0 h)=Ci b x y top f (h - f):=by
  unfold ics Ci;rw [List.flatMap_def,List.flatMap_def,Aaz]
  congr 1
  refine AkM λi _=>?_
  show rkc b x y top (ky (0,((f+i:Nat):Int)))=_;rw [ky0]
 have e2:ics b x y top (upk (sts f h))=upc b x y top (sts f h):=rfl;have e3:∀A B,ics b x y top (A++B)=ics b x y top A++ics b x y top B:=λA B=>by unfold ics;exact Ak6 ..
 conv=>lhs;rw [O5]
 rw [e3,e,e2]
theorem AbT (f h:Nat):(sts f h).all (ioc b x y top)=(loo b x y top f (h - f) && (upk (sts f h)).all (ioc b x y top)):=by
 have e:(skn f 0 h).all (ioc b x y top)=loo b x y top f (h - f):=by
  have:=congrArg (λl=>l.all id) (Aaz (ioc b x y top) f h);simp only [List.all_map]at this;unfold loo;rw [show((skn f 0 h).all (ioc b x y top))=(skn f 0 h).all (id ∘ ioc b x y top) from rfl,this]
  congr 1
  funext i
  show ioc b x y top (0,((f+i:Nat):Int))=_;unfold ioc;rw [ky0]
 conv=>lhs;rw [O5]
 rw [List.all_append,e]
theorem Ahd {f h:Nat} {t:List UInt8} {r:List Rn} (hf:f<=h) (gh:GH (f:Int) t r (chC (lod b x y top f (h - f)))) {s:Int×Int} (hs:s∈skn f 0 h):ipt b x y top s=bt (f:Int) t (chC (lod b x y top f (h - f))) s:=by
 obtain ⟨i,h1,h2,rfl⟩:=skn_mem.1 hs;rw [Nat.pow_zero,Nat.mul_one]at h2;have hl:(chC (lod b x y top f (h - f))).length=h - f:=by unfold chC lod;simp
 have hb:=QF gh (a:=(i:Int)) O O;have e1:bt (f:Int) t (chC (lod b x y top f (h - f))) (0,(i:Int))=BW (f:Int) t (chC (lod b x y top f (h - f))) (i:Int) ((i:Int)+1):=by
  unfold bt frS toS;simp
 have e2:(chC (lod b x y top f (h - f)))[((i:Int) - (f:Int)).toNat]?=some (BQ (rkd b x y top i)).1:=by
  rw [show((i:Int) - (f:Int)).toNat=i - f by omega];unfold chC lod;rw [Akr,Akr,AlK O];show some (BQ (rkd b x y top (f+(i - f)))).1=_;rw [(O:f+(i - f)=i)]
 rw [hb]at e2;injection e2 with e2
 show ipt b x y top (0,(i:Int))=bt _ _ _ (0,(i:Int));rw [e1,e2];unfold ipt;rw [ky0]
theorem AgB {f h:Nat} {s:Int×Int} (hs:s∈upk (sts f h)):s∈sts f h/\0 < s.1:=by
 unfold upk at hs;simpa using hs
theorem ZL {f h:Nat} {t:List UInt8} {r:List Rn} {cs:List (List Prt)} (gh:GH (f:Int) t r cs) {s:Int×Int} (hs:s∈sts f h):AG (bt (f:Int) t cs s)=true:=by
 obtain ⟨k,j,g8⟩:=sts_mem.1 hs;obtain ⟨f1,f2,f3,f4,f5⟩:=g8.ft;exact(IK gh (a:=(frS s:Int)) (b:=(toS s:Int)) O O).1
theorem Aaq (g:RS b x y) {f h:Nat} {t:List UInt8} {r:List Rn} (hf:f<=h) (gh:GH (f:Int) t r (chC (lod b x y top f (h - f)))) :
  ((sts f h).all (upe b x y top (f:Int) t (chC (lod b x y top f (h - f)))) && upo b x y top (sts f h))=((sts f h).all (ieq b x y top (f:Int) t (chC (lod b x y top f (h - f)))) && (upk (sts f h)).all (ioc b x y top)):=by
 rw [AlJ,AjT,AjT];unfold upo;simp only [Aki];constructor
 .rintro ⟨q1,q2⟩;have hr:∀s∈upk (sts f h),BQ (rkd b x y top (ky s))=(bt (f:Int) t (chC (lod b x y top f (h - f))) s,true):=λs hs=>by
   obtain ⟨m1,m2⟩:=AgB hs;have:=q1 s m1;unfold upe at this;rw [decide_eq_true m2,AkF,Ak3]at this;exact(Ac8 (KC g top (ky s)) (ZL gh m1)).1 this
  refine⟨λs hs=>?_,λs hs=>?_⟩
  .rw [O5]at hs;unfold ieq;rcases AjV.1 hs with hs | hs
   .exact decide_eq_true (Ahd hf gh hs)
   .unfold ipt;rw [hr s hs];simp
  .unfold ioc;rw [q2 s hs,hr s hs];rfl
 .rintro ⟨q1,q2⟩;refine⟨λs hs=>?_,λs hs=>?_⟩
  .unfold upe;by_cases h0:0 < s.1
   .have hm:s∈upk (sts f h):=by unfold upk;simp [hs,h0]
    have h1:=q1 s hs;have h2:=q2 s hm;unfold ieq at h1;unfold ioc at h2;rw [AjT]at h2;rw [decide_eq_true_eq]at h1;rw [(Ac8 (KC g top (ky s)) (ZL gh hs)).2 (Prod.ext h1 h2.2)];simp
   .rw [decide_eq_false h0];rfl
  .have h2:=q2 s hs;unfold ioc at h2;rw [AjT]at h2;exact h2.1
end
end Go.V.G
set_option maxRecDepth 100000
namespace Go.V.G
open Go.V
section
variable {b:Bls} {x top:List Int} {R T:Int} {f h e:Nat}
noncomputable def cI (b:Bls) (x top:List Int) (R T:Int) (f h e:Nat):List Int:=((aC2 b x top R T++ics b x [] top (sts f h))++rkc b x [] top 448)++ckc b x [] top (cks f h e)
theorem AhW:Led ((aC2 b x top R T++ics b x [] top (sts f h))++rkc b x [] top 448) (aP2 b x T) (bB4 b x top R T f h):=by
 have h1:Led ([]++srt (pgl top R)) [] ([]++srt (pgl top R)):=Led.claims Led.nil;rw [Akm]at h1;have h2:=ZJ (x:=x) (y:=[]) (b:=b) h1 T;rw [Akm]at h2;exact Led.claims (Led.claims h2)
theorem Ai1:Led (cI b x top R T f h e) (aP6 b x top T f h e) (bB5 b x top R T f h e):=Aam (cks f h e) AhW
theorem Agl:(cI b x top R T f h e).Perm (aC6 b x top R T f h e):=by
 unfold cI aC6 aC5 aC4 aC3;rw [Ac7];refine List.Perm.append_right _ ?_;have e1:aC2 b x top R T++(Ci b x [] top f (h - f)++upc b x [] top (sts f h))++rkc b x [] top 448=aC2 b x top R T++((Ci b x [] top f (h - f)++upc b x [] top (sts f h))++rkc b x [] top 448):=by simp
 have e2:aC2 b x top R T++rkc b x [] top 448++Ci b x [] top f (h - f)++upc b x [] top (sts f h)=aC2 b x top R T++(rkc b x [] top 448++(Ci b x [] top f (h - f)++upc b x [] top (sts f h))):=by simp
 rw [e1,e2];exact List.Perm.append_left _ List.perm_append_comm
theorem Ag0 (ht:tre b x [] R=some top):∀v∈aC6 b x top R T f h e,liv b x [] v=true:=by
 intro v hv;have hpl:=Z7 (root:=R) (GP ht);unfold aC6 aC5 aC4 aC3 aC2 aC1 at hv;simp only [AjV]at hv;rcases hv with((((((hv | hv) | hv) | hv) | hv)) | hv)
 .exact AfJ ht v (((JI O).2.2 v).1 hv)
 .exact Zl T v hv
 .exact TR 448 v hv
 .unfold Ci at hv;obtain ⟨i,_,hi⟩:=AlS.1 hv;exact TR _ v hi
 .unfold upc at hv;obtain ⟨i,_,hi⟩:=AlS.1 hv;exact TR _ v hi
 .unfold ckc at hv;obtain ⟨i,_,hi⟩:=AlS.1 hv;exact Zl _ v hi
theorem AiB:∀v∈aP6 b x top T f h e,pcB b x [] v=true:=by
 intro v hv;unfold aP6 aP2 at hv;rcases AjV.1 hv with hv | hv
 .exact Zy T v hv
 .unfold ckp at hv;obtain ⟨i,_,hi⟩:=AlS.1 hv;exact Zy _ v hi
theorem Zu {v:Int}:v∈bKs f h e↔v∈IH f h e:=by
 unfold bKs IH;simp only [AjV];constructor
 .rintro ((q | q) | q)
  .exact .inl q
  .exact .inr (.inr q)
  .exact .inr (.inl q)
 .rintro (q | q | q)
  .exact .inl (.inl q)
  .exact .inr q
  .exact .inl (.inr q)
theorem AgD {fn:Bool} {l:List Int}:okb fn l=true↔fn=true/\l.Nodup:=by unfold okb ndb;simp
theorem Ah4 {fn:Bool} {l:List Int}:bd fn l=false↔fn=true/\l.Nodup:=by unfold bd ndb;simp
theorem Aig (g:RS b x []) (ht:tre b x [] R=some top) (hf:f<=h) (hh:h<=60):sC b x top R T f h e=iC b x top R T f h e:=by
 have hP:=AiB (b:=b) (x:=x) (top:=top) (T:=T) (f:=f) (h:=h) (e:=e);have hC:=Ag0 (T:=T) (f:=f) (h:=h) (e:=e) ht;have L5:=Ai1 (b:=b) (x:=x) (top:=top) (R:=R) (T:=T) (f:=f) (h:=h) (e:=e);have L4:=AhW (b:=b) (x:=x) (top:=top) (R:=R) (T:=T) (f:=f) (h:=h);have hperm:=Agl (b:=b) (x:=x) (top:=top) (R:=R) (T:=T) (f:=f) (h:=h) (e:=e);have hmem:∀v,v∈bB5 b x top R T f h e↔v∈aC6 b x top R T f h e\/v∈aP6 b x top T f h e:=λv=>by rw [L5.mem,hperm.mem_iff]
 have hnd:(bB5 b x top R T f h e).Nodup↔(aC6 b x top R T f h e).Nodup/\∀v∈aP6 b x top T f h e,v∉aC6 b x top R T f h e:=by
  rw [L5.nd,hperm.nodup_iff];exact⟨λq=>⟨q.1,λv hv w=>q.2 v hv (hperm.mem_iff.2 w)⟩,λq=>⟨q.1,λv hv w=>q.2 v hv (hperm.mem_iff.1 w)⟩⟩
 have hn54:(bB5 b x top R T f h e).Nodup->(bB4 b x top R T f h).Nodup:=λq=>by
  rw [L5.nd]at q;rw [L4.nd];refine⟨(Aj8.1 q.1).1,λv hv w=>q.2 v (Alg _ hv) (Alg _ w)⟩
 have hn64:(aC6 b x top R T f h e).Nodup->(aC4 b x top R T f h).Nodup:=λq=>(Aj8.1 (Aj8.1 q).1).1
 have hioc:=AbT (b:=b) (x:=x) (y:=[]) (top:=top) f h;have hbl:bL b x top f h=aL b x top f h:=SQ b x top f h;have hset:(∀v,v∈bB5 b x top R T f h e↔v∈usd x (b.length - 33))↔∀k:Nat,33<=k->k < b.length->(bit x k=true↔(((k:Nat):Int)∈aC6 b x top R T f h e\/((k:Nat):Int)∈aP6 b x top T f h e)):=by
  have hn:=g.hn;constructor
  .intro q k h1 h2;rw [<- hmem,q,usd_mem];constructor
   .intro w;exact⟨k,h1,O,w,rfl⟩
   .rintro ⟨k',_,_,w,he⟩;have:k'=k:=O
    rw [<- this];exact w
  .intro q v;rw [hmem,usd_mem];constructor
   .intro w;have hl:liv b x [] v=true:=w.elim (hC v) (λw=>AfE (hP v w));obtain ⟨m,rfl,h1,h2,h3,_⟩:=Cn hl;exact⟨m,h1,O,h3,rfl⟩
   .rintro ⟨k,h1,h2,h3,rfl⟩;exact(q k h1 O).1 h3
 rw [AlJ];unfold sC iC bG1 Abb;simp only [AjT,Aj0,AlG,AgD,Ah4,decide_eq_true_eq];unfold aS;rw [AhK hP,Aga hP,hbl];have hKK:bK b x top T f h e=aK b x top T f h e:=by unfold bK aK;rw [hbl]
 rw [hKK];constructor
 .rintro ⟨k1,⟨k2,k3⟩,k4,k5,k6,⟨k7,k8⟩,k9,k10⟩;have gh:=goodH_iff.1 k4;unfold af6 af5 af4 af3 at k9;simp only [AjT]at k9;obtain ⟨⟨⟨⟨⟨t1,t2⟩,t3⟩,t4⟩,t5⟩,t6⟩:=k9;have hub:=Aaq (top:=top) g hf gh;have hU:(sts f h).all (upe b x [] top (f:Int) (aT b x T) (chC (lod b x [] top f (h - f))))=true:=k5;rw [hU,t5,Alm]at hub;have hub:=hub.symm;rw [AjT]at hub;have hb5:=hnd.2 ⟨k10,λv hv=>(k7 v hv).1⟩;have hio:(sts f h).all (ioc b x [] top)=true:=by rw [hioc,t4,hub.2];rfl
  have hf4:bf4 b x top T f h=true:=by unfold bf4;rw [t1,hio,t2];rfl
  refine⟨⟨t3,⟨hf4,hn54 hb5⟩,k4⟩,?_,k6,⟨⟨⟨?_,hb5⟩,λv hv=>(k7 v hv).2⟩,?_⟩,(Aak hb5 (PX x _)).2 (hset.2 k8)⟩
  .unfold bE;rw [hbl];exact hub.1
  .unfold bf5;rw [hf4,t6];rfl
  .rw [AkV];intro p hp;have hk:=(Z5 hh).1 k1;obtain ⟨k,w1,w2,w3⟩:=ksT_mem.1 (List.mem_map_of_mem hp);have:=hk.1 k w1 w2;rw [<- w3,<- Zu]at this;simp only [Aj0,decide_eq_false_iff_not,Classical.not_not];exact this
 .rintro ⟨⟨t3,⟨hf4,hn4⟩,k4⟩,hE,k6,⟨⟨⟨hf5,hb5⟩,hst⟩,hky⟩,hso⟩;have gh:=goodH_iff.1 k4;unfold bf5 at hf5;rw [hf4,Aj3]at hf5;unfold bf4 at hf4;simp only [AjT]at hf4;obtain ⟨⟨t1,hio⟩,t2⟩:=hf4;have hio2:=hio;rw [hioc,AjT]at hio;obtain ⟨t4,hup⟩:=hio;have hub:=Aaq (top:=top) g hf gh;unfold bE at hE;rw [hbl]at hE;have hE':(sts f h).all (ieq b x [] top (f:Int) (aT b x T) (chC (lod b x [] top f (h - f))))=true:=hE;rw [hE',hup,Alm,AjT]at hub;obtain ⟨c1,c2⟩:=hnd.1 hb5;have hf3:af3 b x top T=true:=by unfold af3;rw [t1,t2,t3];rfl
  have hf4:af4 b x top T f h=true:=by unfold af4;rw [hf3,t4];rfl
  refine⟨?_,⟨hf4,hn64 c1⟩,k4,hub.1,k6,⟨λv hv=>⟨c2 v hv,hst v hv⟩,hset.1 ((Aak hb5 (PX x _)).1 hso)⟩,?_,c1⟩
  .rw [Z5 hh];refine⟨λk hk hv=>?_,λk hk hm=>?_⟩
   .obtain ⟨p,hp,hpe⟩:=Aj9.1 (ksT_mem.2 ⟨k,hk,hv,rfl⟩);have:=AkV.1 hky p hp;simp only [Aj0,decide_eq_false_iff_not,Classical.not_not]at this;rw [<- hpe,<- Zu];exact this
   .unfold IH at hm;simp only [AjV]at hm;rcases hm with hm | hm | hm
    .obtain ⟨s,hs,he⟩:=Aj9.1 hm;have:=Aki.1 hio2 s hs;unfold ioc at this;rw [AjT]at this;have hkk:ky s=k:=by unfold kyI at he;omega
     rw [<- hkk];exact Adt this.1
    .obtain ⟨r,hr,he⟩:=Aj9.1 hm;have:=Aki.1 hf5 r hr;have hkk:384+r=k:=by unfold ckI at he;omega
     rw [<- hkk];exact Ah9 this
    .have hkk:k=448:=by have:=AjX.1 hm;omega
     rw [hkk];exact Adt t2
  .unfold af6 af5;rw [hf4,hub.2,hf5];rfl
end
end Go.V.G
set_option maxRecDepth 100000
namespace Go.V.G
open Go.V
structure Sto (bl:Bls) (wr lf:Int) (f h e:Nat) (R T:Int) (top:List Int):Prop where
 gd:gd bl wr lf=true
 wt:wts bl=[]
 su:MA (blk bl 0)=(true,(f:Int),(h:Int),(e:Int),R,T)
 op:opG bl=true
 tr:tre bl (opB bl) [] R=some top
 hf:f<=h
 hh:h<=60
 he:0 < e
 he2:e<=30
theorem AeC {c:List Int} (h:TF c=true):∃f m e:Nat,MA c=(true,(f:Int),(m:Int),(e:Int),num c 8,num c 10)/\f<=m/\m<=60/\0 < e/\e<=30:=by
 have h2:=h;unfold TF Ml at h2;simp only [AjT,decide_eq_true_eq]at h2;obtain ⟨_,⟨⟨h3,h4⟩,h5,_⟩,_⟩:=h2;refine⟨(gb c 4).toNat,(gb c 5).toNat,(gb c 6).toNat,?_,O,O,O,O⟩;unfold MA;rw [AjS h,Int.toNat_of_nonneg O,Int.toNat_of_nonneg O,Int.toNat_of_nonneg O]
theorem AcI {bl:Bls} {wr lf:Int} (on:Bool) (hn:bl.length<=1048576) (hu:∀c∈bl,U8s c) :
  (∃w,Dt bl wr on lf=some w/\w.1=false/\Dh bl wr on lf=some (none,false))\/
  ∃(f h e:Nat) (R T:Int) (top:List Int),Sto bl wr lf f h e R T top/\iC bl (opB bl) top R T f h e=true/\
   Dt bl wr on lf=some (true,(f:Int),(h:Int),(e:Int),R,T,bl,opB bl,[],[],ksT bl top 1024,(f:Int),aT bl (opB bl) T,aR bl (opB bl) top,aL bl (opB bl) top f h,srt (aC6 bl (opB bl) top R T f h e++pcn (aP6 bl (opB bl) top T f h e) bl.length))/\
   Dh bl wr on lf=some (some (bl,wr,on,lf,(f:Int),(h:Int),(e:Int),R,T,bl,opB bl,[],[],R,top,top.map (lfv bl),(f:Int),aT bl (opB bl) T,aR bl (opB bl) top,aL bl (opB bl) top f h),true):=by
 cases hd:gd bl wr lf with
 | false=>
  left;unfold Dt Dh cK cZ gX wI;rw [HZ hn,hd,AjM,I9 hn,hd,AjM,AjS Z,AjS Z,AjM,AjM];dsimp only;rw [AjS rfl,AjS rfl];exact⟨_,rfl,rfl,rfl⟩
 | true=>
  obtain ⟨hb,hk⟩:=JB hd;by_cases hw:wts bl=[]
  .cases hs:TF (blk bl 0)with
   | false=>
    left;have hsd:MA (blk bl 0)=(false,0,0,0,0,0):=by unfold MA;rw [hs];rfl
    refine⟨(false,0,0,0,0,0,[],[],[],[],[],0,[],[],[],[]),?_,rfl,?_⟩
    .unfold Dt cK cZ gX wI;rw [HZ hn,hd,AjM,AjR Z,Gn on hd hu,hw,AjM,AjM];dsimp only;rw [AjR Z,iy O,show Int.toNat 0=0 from rfl,Bp (O:0 < bl.length),AjM,IA (hu _ (BA O)),hsd,AjM];dsimp only;rw [GQ on hd hu,AjM,AjM];dsimp only;rw [AjS Z,AjM];dsimp only;rw [AjS rfl]
    .unfold Dh gX;rw [I9 hn,hd,AjM,AjR Z,K6 on hd hu,hw,AjM,AjM];dsimp only;rw [AjR Z,iy O,show Int.toNat 0=0 from rfl,Bp (O:0 < bl.length),AjM,PM (hu _ (BA O)),hsd,AjM];dsimp only;rw [AjS Z]
   | true=>
    obtain ⟨f,h,e,hsd,hf,hh,he,he2⟩:=AeC hs;have hi:Dh bl wr on lf=Option.bind (some (opD bl)) λ(l,m,n)=>
      if(!l)=true then some (none,false)
      else Option.bind (GB (m,(n,([],[]))) (num (blk bl 0) 8)) λ(o,p,q,r)=>
       if(!o)=true then some (none,false)
       else Option.bind (Cs bl wr on lf (f:Int) (h:Int) (e:Int) (num (blk bl 0) 8) (num (blk bl 0) 10) m n [] [] p q r 0 [] [] []) λ(s,t,u,v,w,x,y,z,a0,b0,c0,d0,e0,f0,g0,h0,i0,j0,k0,l0,m0)=>
        if(!s)=true then some (none,false)
        else some (some (t,(u,(v,(w,(x,(y,(z,(a0,(b0,(c0,(d0,(e0,(f0,(g0,(h0,(i0,(j0,(k0,(l0,m0))))))))))))))))))),true):=by
     unfold Dh gX;rw [I9 hn,hd,AjM,AjR Z,K6 on hd hu,hw,AjM,AjM];dsimp only;rw [AjR Z,iy O,show Int.toNat 0=0 from rfl,Bp (O:0 < bl.length),AjM,PM (hu _ (BA O)),hsd,AjM];dsimp only;rw [AjR Z,S9 on hd hu]
    cases ho:opG bl with
    | false=>
     left;have hod:opD bl=(false,[],[]):=by unfold opD;rw [ho];rfl
     refine⟨(false,0,0,0,0,0,[],[],[],[],[],0,[],[],[],[]),?_,rfl,?_⟩
     .unfold Dt cK cZ gX wI;rw [HZ hn,hd,AjM,AjR Z,Gn on hd hu,hw,AjM,AjM];dsimp only;rw [AjR Z,iy O,show Int.toNat 0=0 from rfl,Bp (O:0 < bl.length),AjM,IA (hu _ (BA O)),hsd,AjM];dsimp only;rw [GQ on hd hu,hod,AjM,AjM];dsimp only;rw [AjR Z,AjS Z,AjM];dsimp only;rw [AjS rfl]
     .rw [hi,hod,AjM];dsimp only;rw [AjS Z]
    | true=>
     have hod:opD bl=(true,bl,opB bl):=by unfold opD;rw [ho];rfl
     have sb:=RQ (bl:=bl) O O;have hog:gsp bl (opB bl) [] []=true:=by unfold opG at ho;rw [AjT]at ho;exact ho.1
     have g:=(Qe hog).rs sb hu;cases ht:tre bl (opB bl) [] (num (blk bl 0) 8)with
     | none=>
      left;refine⟨(false,0,0,0,0,0,[],[],[],[],[],0,[],[],[],[]),?_,rfl,?_⟩
      .unfold Dt cK cZ gX wI;rw [HZ hn,hd,AjM,AjR Z,Gn on hd hu,hw,AjM,AjM];dsimp only;rw [AjR Z,iy O,show Int.toNat 0=0 from rfl,Bp (O:0 < bl.length),AjM,IA (hu _ (BA O)),hsd,AjM];dsimp only;rw [GQ on hd hu,hod,AjM,AjM];dsimp only;rw [AjR Z,AjR Z,HC sb hu,hog,ht,AjM,AjM];dsimp only;rw [AjS Z]
      .rw [hi,hod,AjM];dsimp only;rw [AjR Z,T0 g,ht];unfold trI;dsimp only;rw [AjM];dsimp only;rw [AjS Z]
     | some top=>
      have htl:=GP ht;obtain ⟨w,w1,w2,w3⟩:=Aeh on hn hd hu hw hsd ho ht hf hh he he2;obtain ⟨q,q1,q2,q3⟩:=Adg (wr:=wr) (lf:=lf) (R:=num (blk bl 0) 8) (T:=num (blk bl 0) 10) on hn g htl hf hh he he2;have hsc:=Aig (b:=bl) (x:=opB bl) (T:=num (blk bl 0) 10) (f:=f) (h:=h) (e:=e) g ht hf hh;rw [hi,hod,AjM];dsimp only;rw [AjR Z,T0 g,ht];unfold trI;dsimp only;rw [AjM];dsimp only;rw [AjR Z,q1,AjM];cases hc:iC bl (opB bl) top (num (blk bl 0) 8) (num (blk bl 0) 10) f h e with
      | false=>
       left;rw [hc]at q2;rw [hsc,hc]at w2;refine⟨w,w1,w2,?_⟩;rw [q2];rfl
      | true=>
       right;refine⟨f,h,e,num (blk bl 0) 8,num (blk bl 0) 10,top,⟨hd,hw,hsd,ho,ht,hf,hh,he,he2⟩,hc,?_,?_⟩
       .rw [w1,w3 (by rw [hsc];exact hc)]
       .rw [q3 hc];rfl
  .left;have hlen:0 < (wts bl).length:=List.length_pos_iff.2 hw;unfold Dt Dh cK cZ gX wI;rw [HZ hn,hd,AjM,AjR Z,Gn on hd hu,AjM,AjM,I9 hn,hd,AjM,AjR Z,K6 on hd hu,AjM,AjM];dsimp only;rw [decide_eq_true (show(0:Int) < (((wts bl).length:Nat):Int) by omega),AjS rfl,AjS rfl];exact⟨_,rfl,rfl,rfl⟩
end Go.V.G
set_option maxRecDepth 100000
namespace Go.V.G
open Go.V
theorem Ad1 {n:Nat} {l:Int} (h:¬ lft l n < 0):(n:Int)<=l:=by
 unfold lft at h;split at h
 .assumption
 .exact absurd O h
theorem AhG {n:Int} (h:Jj (.int .u8) n):0<=n/\n<=255:=by
 have h2:(Lit.int .u8 n).wf=true:=h;simp [Lit.wf,IntKind.min,IntKind.max,IntKind.bits,IntKind.signed]at h2;omega
theorem Sto.rs {bl:Bls} {wr lf:Int} {f h e:Nat} {R T:Int} {top:List Int} (S:Sto bl wr lf f h e R T top) (hu:∀c∈bl,U8s c):RS bl (opB bl) []:=by
 obtain ⟨hb,hk⟩:=JB S.gd;have hog:gsp bl (opB bl) [] []=true:=by have:=S.op;unfold opG at this;rw [AjT]at this;exact this.1
 exact(Qe hog).rs (RQ O O) hu
end Go.V.G
set_option maxRecDepth 100000
namespace Go.V.G
open Go.V
theorem AhE (b:Bls) (x top:List Int) (f h:Nat):(aL b x top f h).length=h - f:=by unfold aL chC lod;simp
theorem AiC {bl:Bls} {x top:List Int} {R T:Int} {f h e:Nat} (hc:iC bl x top R T f h e=true):GH (f:Int) (aT bl x T) (aR bl x top) (aL bl x top f h):=by
 unfold iC bG1 at hc;simp only [AjT]at hc;obtain ⟨⟨_,_,h3⟩,_⟩:=hc;rw [SQ]at h3;exact goodH_iff.1 h3
theorem Acw {bl:Bls} {wr lf:Int} (on:Bool) (hn:bl.length<=1048576) (hu:∀c∈bl,U8s c) (a b:Int) :
  (∃c w,c≠0/\Dl bl wr on lf a b=some (c,w)/\c<=2/\Ej bl wr on lf=some (none,c))\/
  ∃(f h e:Nat) (R T:Int) (top:List Int),Sto bl wr lf f h e R T top/\iC bl (opB bl) top R T f h e=true/\wr<=999999900/\on=true/\
   Dl bl wr on lf a b=some (if decide ((f:Int)<=a) && decide (a<=b) && decide (b<=(h:Int))then 0 else 3,(f:Int),(h:Int),(e:Int),R,T,bl,opB bl,[],[],ksT bl top 1024,(f:Int),aT bl (opB bl) T,aR bl (opB bl) top,aL bl (opB bl) top f h,srt (aC6 bl (opB bl) top R T f h e++pcn (aP6 bl (opB bl) top T f h e) bl.length))/\
   Ej bl wr on lf=some (some (bl,wr,on,lf,(f:Int),(h:Int),(e:Int),R,T,bl,opB bl,[],[],R,top,top.map (lfv bl),(f:Int),aT bl (opB bl) T,aR bl (opB bl) top,aL bl (opB bl) top f h),0):=by
 rcases AcI (bl:=bl) (wr:=wr) (lf:=lf) on hn hu with⟨w,w1,w2,w3⟩ | ⟨f,h,e,R,T,top,S,hc,w1,w2⟩
 .left;obtain ⟨k,w⟩:=w;dsimp only at w2;subst w2;refine⟨1,w,O,?_,O,?_⟩
  .unfold Dl;rw [w1,AjM];dsimp only;rw [AjS (show(!false)=true from rfl),AjM];dsimp only;rw [AjS rfl]
  .unfold Ej;rw [w3,AjM];dsimp only;rw [AjS (show(!false)=true from rfl),AjM];dsimp only;rw [AjS rfl]
 .by_cases hwr:999999900 < wr
  .left;refine⟨1,?_,O,?_,O,?_⟩
   rotate_left
   .unfold Dl;rw [w1,AjM];dsimp only;rw [AjR Z,AjM];dsimp only;rw [iy hwr]
   .unfold Ej;rw [w2,AjM];dsimp only;rw [AjR Z,AjM];dsimp only;rw [iy hwr]
  .cases on with
   | false=>
    left;refine⟨2,?_,O,?_,O,?_⟩
    rotate_left
    .unfold Dl;rw [w1,AjM];dsimp only;rw [AjR Z,AjM];dsimp only;rw [ino hwr,AjS (show(!false)=true from rfl)]
    .unfold Ej;rw [w2,AjM];dsimp only;rw [AjR Z,AjM];dsimp only;rw [ino hwr,AjS (show(!false)=true from rfl)]
   | true=>
    right;refine⟨f,h,e,R,T,top,S,hc,O,rfl,?_,?_⟩
    .unfold Dl;rw [w1,AjM];dsimp only;rw [AjR Z,AjM];dsimp only;rw [ino hwr,AjR Z,NI,AjM];by_cases h1:(f:Int)<=a/\a<=b
     .rw [decide_eq_true h1.1,decide_eq_true h1.2,AjR Z,AjM];dsimp only;by_cases h2:b<=(h:Int)
      .rw [ino O,decide_eq_true h2];rfl
      .rw [iy O,decide_eq_false h2];rfl
     .have:(decide ((f:Int)<=a) && decide (a<=b))=false:=by simpa using h1
      rw [this,AjS (show(!false)=true from rfl),AjM];rfl
    .unfold Ej;rw [w2,AjM];dsimp only;rw [AjR Z,AjM];dsimp only;rw [ino hwr,AjR Z]
theorem Vc {bl:Bls} {wr lf:Int} (on:Bool) (hn:bl.length<=1048576) (hu:∀c∈bl,U8s c) (a b:Int) :
  (∃c w o,c≠0/\Dl bl wr on lf a b=some (c,w)/\Fs bl wr on lf a b=some (o,c))\/
  ∃(f h e:Nat) (R T:Int) (top:List Int),Sto bl wr lf f h e R T top/\iC bl (opB bl) top R T f h e=true/\(f:Int)<=a/\a<=b/\b<=(h:Int)/\
   Dl bl wr on lf a b=some (0,(f:Int),(h:Int),(e:Int),R,T,bl,opB bl,[],[],ksT bl top 1024,(f:Int),aT bl (opB bl) T,aR bl (opB bl) top,aL bl (opB bl) top f h,srt (aC6 bl (opB bl) top R T f h e++pcn (aP6 bl (opB bl) top T f h e) bl.length))/\
   Fs bl wr on lf a b=some (some (bl,wr,on,lf,(f:Int),(h:Int),(e:Int),R,T,bl,opB bl,[],[],R,top,top.map (lfv bl),(f:Int),aT bl (opB bl) T,aR bl (opB bl) top,aL bl (opB bl) top f h),0):=by
 rcases Acw (bl:=bl) (wr:=wr) (lf:=lf) on hn hu a b with⟨c,w,hc,w1,_,w2⟩ | ⟨f,h,e,R,T,top,S,hc,hwr,hon,w1,w2⟩
 .left;refine⟨c,w,none,hc,w1,?_⟩;unfold Fs;rw [w2,AjM];dsimp only;rw [ino hc,AjM];dsimp only;rw [AjR Z,AjM]
 .by_cases h1:(f:Int)<=a/\a<=b/\b<=(h:Int)
  .right;refine⟨f,h,e,R,T,top,S,hc,h1.1,h1.2.1,h1.2.2,?_,?_⟩
   .rw [w1,decide_eq_true h1.1,decide_eq_true h1.2.1,decide_eq_true h1.2.2];rfl
   .unfold Fs;rw [w2,AjM];dsimp only;rw [iy rfl,AjM];dsimp only;rw [ino O,ino O,AjM,AjM];dsimp only;rw [ino O,AjM]
  .left;refine⟨3,?_,some (bl,wr,on,lf,(f:Int),(h:Int),(e:Int),R,T,bl,opB bl,[],[],R,top,top.map (lfv bl),(f:Int),aT bl (opB bl) T,aR bl (opB bl) top,aL bl (opB bl) top f h),O,?_,?_⟩
   rotate_left
   .rw [w1,AjR (by simp only [AjT,decide_eq_true_eq];omega)]
   .unfold Fs;rw [w2,AjM];dsimp only;rw [iy rfl,AjM];dsimp only;by_cases c1:a < (f:Int)
    .rw [iy c1,AjM];dsimp only;rw [AjS rfl,AjM]
    .by_cases c2:b < a
     .rw [ino c1,iy c2,AjM];dsimp only;rw [AjS rfl,AjM]
     .rw [ino c1,ino c2,AjM,AjM];dsimp only;rw [iy O,AjM]
theorem AaO {a b k:Nat} (ha:a<=60) (hb:b<=60) (hk:k < 6) (out:List (Int×Int)) :
  In ((b:Int),out,(a:Int),(k:Int))=some (if a % 2 ^ k≠0\/b < a+2 ^ k then .inl ((b:Int),out,(a:Int),IntKind.wrap .i64 ((k:Int) - 1))else .inr ((b:Int),out,(a:Int),(k:Int))):=by
 obtain ⟨p1,p2,p3,p4⟩:=P3 hk;have hp:0 < 2 ^ k:=Nat.two_pow_pos k;unfold In cK cZ wI;dsimp only;rw [p1,Int.one_mul];generalize 2 ^ k=m at p1 p2 p3 hp ⊢;rw [w64 (n:=(m:Int)) O O,iy O,iy O,M7];by_cases h1:a % m=0
 .rw [ino O,iy O,AjM,w64 (n:=(a:Int)+(m:Int)) O O];dsimp only;by_cases h2:b < a+m
  .rw [iy O,AjS (.inr h2)]
  .rw [ino O,AjR O]
 .rw [iy O,AjM];dsimp only;rw [AjS rfl,AjS (.inl h1)]
theorem AaS {a b k:Nat} (ha:a<=60) (hb:b<=60) (hk:k < 6) (out:List (Int×Int)) :
  EL ((a:Int),(b:Int),out,(k:Int))=some (if a % 2 ^ k≠0\/b < a+2 ^ k then .inl ((a:Int),(b:Int),out,IntKind.wrap .i64 ((k:Int) - 1))else .inr ((a:Int),(b:Int),out,(k:Int))):=by
 obtain ⟨p1,p2,p3,p4⟩:=P3 hk;have hp:0 < 2 ^ k:=Nat.two_pow_pos k;unfold EL cK cZ wI;dsimp only;rw [p3,p4,Int.one_mul];generalize 2 ^ k=m at p1 p2 p3 hp ⊢;rw [w64 (n:=(m:Int)) O O,iy O,iy O,M7];by_cases h1:a % m=0
 .rw [ino O,iy O,AjM,w64 (n:=(a:Int)+(m:Int)) O O];dsimp only;by_cases h2:b < a+m
  .rw [iy O,AjS (.inr h2)]
  .rw [ino O,AjR O]
 .rw [iy O,AjM];dsimp only;rw [AjS rfl,AjS (.inl h1)]
theorem Aio {a b:Nat} (hab:a < b) (hb:b<=60):∀k,k < 6->∃j,j < 6/\a+2 ^ j<=b/\∀out:List (Int×Int),
  Ab In ((b:Int),out,(a:Int),((k:Nat):Int))=some ((b:Int),out,(a:Int),((j:Nat):Int))/\
  Ab EL ((a:Int),(b:Int),out,((k:Nat):Int))=some ((a:Int),(b:Int),out,((j:Nat):Int)):=by
 intro k
 induction k with
 | zero=>
  intro hk;refine⟨0,hk,AjJ,λout=>?_⟩;have hn:¬ (a % 2 ^ 0≠0\/b < a+2 ^ 0):=by simp [Nat.mod_one];omega
  rw [Ar,AaO O hb hk,AjR hn,Ar,AaS O hb hk,AjR hn];exact⟨rfl,rfl⟩
 | succ k ih=>
  intro hk;by_cases hc:a % 2 ^ (k+1)≠0\/b < a+2 ^ (k+1)
  .obtain ⟨j,j1,j2,j3⟩:=ih O;refine⟨j,j1,j2,λout=>?_⟩;rw [Ar,AaO O hb hk,AjS hc,Ar (f:=EL),AaS O hb hk,AjS hc,im1 O O,Nat.add_sub_cancel];exact j3 out
  .refine⟨k+1,hk,O,λout=>?_⟩;rw [Ar,AaO O hb hk,AjR hc,Ar,AaS O hb hk,AjR hc];exact⟨rfl,rfl⟩
theorem AhY:∀n (a b:Nat),b<=a+n->b<=60->∃l:List (Int×Int),l.length<=n/\∀out:List (Int×Int),out.length+n<=1000->
  Ab Fw ((b:Int),out,(a:Int))=some (out++l)/\Ab Dr ((a:Int),(b:Int),out)=some (out++l):=by
 have stop:∀(a b:Nat),b<=a->∀out:List (Int×Int),Ab Fw ((b:Int),out,(a:Int))=some out/\Ab Dr ((a:Int),(b:Int),out)=some out:=by
  intro a b h out;have h1:Fw ((b:Int),out,(a:Int))=some (.inr out):=by unfold Fw cK cZ wI;dsimp only;rw [ino O]
  have h2:Dr ((a:Int),(b:Int),out)=some (.inr out):=by unfold Dr cK cZ wI;dsimp only;rw [ino O]
  rw [Ar,h1,Ar,h2];exact⟨rfl,rfl⟩
 intro n
 induction n with
 | zero=>intro a b h hb;exact⟨[],Z,λout _=>by rw [Aj2];exact stop a b O out⟩
 | succ n ih=>
  intro a b h hb;by_cases hab:a < b
  .obtain ⟨j,j1,j2,j3⟩:=Aio hab hb 5 O
   replace j3:∀out:List (Int×Int),Ab In ((b:Int),out,(a:Int),5)=some ((b:Int),out,(a:Int),(j:Int))/\Ab EL ((a:Int),(b:Int),out,5)=some ((a:Int),(b:Int),out,(j:Int)):=j3
   obtain ⟨p1,p2,p3,p4⟩:=P3 j1;have hp:0 < 2 ^ j:=Nat.two_pow_pos j;obtain ⟨l,l1,l2⟩:=ih (a+2 ^ j) b O hb;refine⟨((j:Int),Int.fdiv (a:Int) ((2 ^ j:Nat):Int))::l,by simp only [Aj1];omega,λout ho=>?_⟩;have hw:IntKind.wrap .i64 ((a:Int)+IntKind.wrap .i64 (1 * ((2 ^ j:Nat):Int)))=((a+2 ^ j:Nat):Int):=by
    generalize 2 ^ j=m at p2 j2;rw [Int.one_mul,w64 (n:=(m:Int)) O O,w64 O O];omega
   have hr:Aa (out.length + [((j:Int),Int.fdiv (a:Int) ((2 ^ j:Nat):Int))].length) 16=true:=by simp only [Aa,decide_eq_true_eq,AjZ];omega
   have h1:Fw ((b:Int),out,(a:Int))=some (.inl ((b:Int),out++[((j:Int),Int.fdiv (a:Int) ((2 ^ j:Nat):Int))],((a+2 ^ j:Nat):Int))):=by
    unfold Fw cK cZ wI;dsimp only;rw [iy O,(j3 out).1,AjM];dsimp only;rw [iy O,p1,AjS hr,iy O,hw]
   have h2:Dr ((a:Int),(b:Int),out)=some (.inl (((a+2 ^ j:Nat):Int),(b:Int),out++[((j:Int),Int.fdiv (a:Int) ((2 ^ j:Nat):Int))])):=by
    unfold Dr cK cZ wI;dsimp only;rw [iy O,(j3 out).2,AjM];dsimp only;rw [p4]at p3 ⊢;rw [iy O,p3,AjS hr,iy O,hw]
   obtain ⟨q1,q2⟩:=l2 (out++[((j:Int),Int.fdiv (a:Int) ((2 ^ j:Nat):Int))]) (by rw [AjU,AjZ];omega);rw [Ar,h1,Ar (f:=Dr),h2];exact⟨q1.trans Z,q2.trans Z⟩
  .exact⟨[],Z,λout _=>by rw [Aj2];exact stop a b O out⟩
theorem Aaw {a b:Nat} (hb:b<=60):∃l:List (Int×Int),l.length<=60/\P0 (a:Int) (b:Int)=some l/\LK (a:Int) (b:Int)=some l:=by
 obtain ⟨l,l1,l2⟩:=AhY 60 a b O hb;obtain ⟨q1,q2⟩:=l2 [] Z;refine⟨l,l1,?_,?_⟩
 .unfold P0;rw [q1];rfl
 .unfold LK;rw [q2];rfl
end Go.V.G
set_option maxRecDepth 100000
namespace Go.V.G
open Go.V
def lst (f e n:Nat):Nat:=(ckn f e n).getLastD f
theorem VW (f e n:Nat):lst f e (n+1)=if(f+1+n) % e=0 then f+1+n else lst f e n:=by
 unfold lst;rw [NJ];split <;> simp
theorem AcY (f e:Nat):∀n,f<=lst f e n/\lst f e n<=f+n
 | 0=>by unfold lst ckn;simp
 | n+1=>by
  have:=AcY f e n;rw [VW];split <;> omega
theorem Ah3 {f h e x:Nat} (hx:x<=60) (he:0 < e) {R T f2:Int} {bl:Bls} {a b c:List Int} {ks:List Kv} {t:List UInt8} {r:List Rn} {cs:List (List Prt)} {u:List Int} (hf:f<=x) :
  Ab ET ((x:Int),(f:Int),IntKind.wrap .i64 ((f:Int)+1),(f:Int),(h:Int),(e:Int),R,T,bl,a,b,c,ks,f2,t,r,cs,u) =
   some ((x:Int),(lst f e (x - f):Int),(f:Int),(h:Int),(e:Int),R,T,bl,a,b,c,ks,f2,t,r,cs,u):=by
 have h2:=An ET (λn=>((x:Int),(lst f e n:Int),((f+1+n:Nat):Int),(f:Int),(h:Int),(e:Int),R,T,bl,a,b,c,ks,f2,t,r,cs,u)) (x - f)
  ((x:Int),(lst f e (x - f):Int),(f:Int),(h:Int),(e:Int),R,T,bl,a,b,c,ks,f2,t,r,cs,u) (λn hn=>by
   unfold ET cK wI;dsimp only;rw [iy O,iy O,M7,VW];by_cases hz:(f+1+n) % e=0
   .rw [iy O,AjM,AjS hz];dsimp only;rw [Ak O];rfl
   .rw [ino O,AjM,AjR hz];dsimp only;rw [Ak O];rfl) (by
   unfold ET cK wI;dsimp only;rw [ino O])
 rw [Ak O];have e0:lst f e 0=f:=by unfold lst ckn;simp
 rw [e0]at h2;exact h2
theorem AhU {bl:Bls} {wr lf:Int} {on:Bool} {f h e x:Nat} {R T f2:Int} {a b c top:List Int} {bl2:Bls} {t:List UInt8} {r:List Rn} {cs:List (List Prt)} (hf:f<=x) (hx:x<=h) (hh:h<=60) (he:0 < e) (he2:e<=30) (htl:top.length=32) :
  ∃v,EC (some (bl,wr,on,lf,(f:Int),(h:Int),(e:Int),R,T,bl2,a,b,c,R,top,top.map (lfv bl),f2,t,r,cs)) (x:Int)=some (v,(lst f e (x - f):Int)):=by
 unfold EC cK cZ wI;simp only [AjM];rw [AjR (O:¬ (h:Int) < (x:Int)),Qv hf O he he2,AjM];have hl:lst f e (x - f)=(cks f x e).getLastD f:=rfl;rcases List.eq_nil_or_concat (cks f x e)with hc | ⟨l,y,hc⟩
 .rw [hl,hc,AlO,ino Z];exact⟨_,rfl⟩
 .have hy:y∈cks f x e:=by rw [hc];simp
  have hy2:=cks_mem.1 hy;have hn:l.length<=x - f:=by
   have:=MJ f e (x - f);have h3:ckn f e (x - f)=l.concat y:=hc;rw [h3,List.length_concat]at this;omega
  have hcl:((cks f x e).map λr=>((r:Nat):Int)).length=l.length+1:=by rw [hc];simp
  have hg:((cks f x e).map λr=>((r:Nat):Int))[l.length]?=some (y:Int):=by rw [hc];simp
  rw [hcl,iy O,im1 O O,Nat.add_sub_cancel,iy O,iy O,AjO,Ake,hg,AjM,
   show IntKind.wrap .i64 (384+(y:Int))=((384+y:Nat):Int) by rw [w64 O O];omega,LV htl R O,AjM,iy O,iy O,AjM,hl,hc]
  exact⟨vl bl top (384+y),Z⟩
theorem SZ {bl:Bls} {wr lf:Int} (on:Bool) (hn:bl.length<=1048576) (hu:∀c∈bl,U8s c) (x:Int):∃r:List UInt8×(Int×Int),Ha bl wr on lf x=some r/\Hl bl wr on lf x=some r:=by
 rcases Vc (bl:=bl) (wr:=wr) (lf:=lf) on hn hu x x with⟨c,w,o,hc,w1,w2⟩ | ⟨f,h,e,R,T,top,S,hc,h1,_,h2,w1,w2⟩
 .refine⟨([],0,c),?_,?_⟩
  .unfold Ha wI;rw [w1,AjM];dsimp only;rw [iy hc]
  .unfold Hl;rw [w2,AjM];dsimp only;rw [iy hc]
 .obtain ⟨x,rfl⟩:=Akg (O:0<=x);have hf:=S.hf;have hh:=S.hh;have he:=S.he;have he2:=S.he2;have gh:=AiC hc;have hll:=AhE bl (opB bl) top f h;have hlm:=AcY f e (x - f);obtain ⟨v,hv⟩:=AhU (bl:=bl) (wr:=wr) (lf:=lf) (on:=on) (R:=R) (T:=T) (f2:=(f:Int)) (a:=opB bl) (b:=[]) (c:=[]) (bl2:=bl) (t:=aT bl (opB bl) T) (r:=aR bl (opB bl) top) (cs:=aL bl (opB bl) top f h) (O:f<=x) (O:x<=h) hh he he2 (GP S.tr);obtain ⟨l,l1,l2,l3⟩:=Aaw (a:=lst f e (x - f)) (b:=x) O;refine⟨(txt (aT bl (opB bl) T) ((aL bl (opB bl) top f h).take ((x:Int) - (f:Int)).toNat),(l.length:Int),0),?_,?_⟩
  .unfold Ha wI;rw [w1,AjM];dsimp only;rw [ino Z,Ah3 O he O,AjM];dsimp only;rw [T5 gh O O,AjM,l3,AjM]
  .unfold Hl;rw [w2,AjM];dsimp only;rw [ino Z,hv,AjM,AjM];dsimp only;rw [PB gh O O,AjM,l2,AjM]
end Go.V.G
set_option maxRecDepth 100000
namespace Go.V.G
open Go.V
theorem SM {b:Bls} (f2:Kf b) (hu:∀c∈b,U8s c) (wr:Int) (on:Bool) (lf x:Int):Dm b wr on lf x=some true:=by
 unfold Dm;rw [AfZ f2 O O,AjM];by_cases hs:lft 1048576 (CF b) < 0
 .rw [AjS (by simpa using hs)]
 rw [AjR (by simpa using hs)];have hw:=Ad1 hs;have hbl:=Lb b;have htd:HW b wr on lf=some (b,wr,on,lf):=Agd O;have hed:KX b wr on lf b wr on lf=some true:=Agv O;obtain ⟨⟨t,u,v⟩,r1,r2⟩:=SZ (bl:=b) (wr:=wr) (lf:=lf) on O hu x;have hk:(t == t)=true:=by simp
 simp only [htd,r1,r2,hed,hk,AjM,AkF,Aj4,Aku,not_true_eq_false,decide_false]
end Go.V.G
namespace Go.Proofs.YtofhefmbioblbaaGreat
open Go.V
theorem MG {e1 e2:TypeId} (x0:List (List Int)) (x1:Int) (x2:Bool) (x3 x4:Int)
  (g0:∀l∈([⟨.sl false e1 (.sl false e2 (.int .u8)),x0⟩,⟨.int .i64,x1⟩,⟨.bool,x2⟩,⟨.int .i64,x3⟩]:List Ae),Jj l.1 l.2) (g1:Jj (.int .i64) x4):G.Dm x0 x1 x2 x3 x4=some true:=by
 have h1:=g0 ⟨.sl false e1 (.sl false e2 (.int .u8)),x0⟩ Z;exact G.SM ⟨h1.1,λx hx=>(h1.2 x hx).1⟩ (λx hx y hy=>G.AhG ((h1.2 x hx).2 y hy)) x1 x2 x3 x4
end Go.Proofs.YtofhefmbioblbaaGreat
namespace Go.V
structure Rs where
 s:Nat
 h:Nat
 k:Nat
 o:List (Nat×Nat)
abbrev Rd (α:Type):=Rs->α×Rs
def rn:Nat->Rd Nat
 | 0,q=>(0,q)
 | f+1,⟨s,h,k,o⟩=>bif Nat.blt (s % 16) 8 then(s % 16,⟨s / 16,h,k,o⟩)else match rn f ⟨s / 16,h,k,o⟩with
  | (r,q)=>(s % 16 - 8+8 * r,q)
def rnb:Rd Nat:=rn 9
def nib:Rd Nat
 | ⟨s,h,k,o⟩=>(s % 16,⟨s / 16,h,k,o⟩)
def rl {α:Type} (p:Rd α):Nat->Rd (List α)
 | 0,q=>([],q)
 | n+1,q=>match p q with
  | (a,q)=>match rl p n q with
   | (l,q)=>(a::l,q)
def rls {α:Type} (p:Rd α):Rd (List α):=λq=>match rnb q with
 | (n,q)=>rl p n q
def r2 {α:Type} (c:Nat->Nat->α):Rd α:=λq=>match rnb q with
 | (a,q)=>match rnb q with
  | (b,q)=>(c a b,q)
def r1 {α:Type} (c:Nat->α):Rd α:=λq=>match rnb q with
 | (a,q)=>(c a,q)
def rTL (b:Nat):Rd TL:=λq=>match nib q with
 | (0,⟨s,h,k,o⟩)=>(.h h,⟨s,h+1,k,o⟩)
 | (1,⟨s,h,k,o⟩)=>(.vw (k+1),⟨s,h+1,k+1,(k+1,h)::o⟩)
 | (2,q)=>r1 (λa=>.vw (b+a)) q
 | (3,q)=>match rnb q with
  | (a,⟨s,h,k,o⟩)=>(.vw (b+a),⟨s,h+1,b+a,(b+a,h)::o⟩)
 | (4,q)=>(.nil,q)
 | (5,q)=>(.no,q)
 | (6,q)=>r1 .h q
 | (7,q)=>(.np,q)
 | (8,q)=>r2 .p q
 | (9,q)=>match rnb q with
  | (a,q)=>r2 (λi j=>.vs (b+a) i j) q
 | (10,q)=>match rnb q with
  | (a,q)=>r2 (λi j=>.ww (b+a) i j) q
 | (11,q)=>match rnb q with
  | (a,q)=>match rnb q with
   | (i,q)=>match rnb q with
    | (f,q)=>r2 (λx y=>.vq (b+a) i f x y) q
 | (12,q)=>r1 .mh q
 | (13,⟨s,h,k,o⟩)=>(.md h,⟨s,h+1,k,o⟩)
 | (14,q)=>r1 .md q
 | (_,q)=>(.no,q)
def rTS (b:Nat):Rd TS:=λq=>match nib q with
 | (0,⟨s,h,k,o⟩)=>(.one (.h h),⟨s,h+1,k,o⟩)
 | (1,⟨s,h,k,o⟩)=>(.one (.vw (k+1)),⟨s,h+1,k+1,(k+1,h)::o⟩)
 | (2,q)=>r2 .pl q
 | (3,q)=>match rTL b q with
  | (l,q)=>(.one l,q)
 | (4,q)=>match rls (rTL b) q with
  | (l,q)=>(.ag l,q)
 | (5,q)=>match rnb q with
  | (a,⟨s,h,k,o⟩)=>(.rp h a,⟨s,h+1,k,o⟩)
 | (6,q)=>match rnb q with
  | (f,q)=>match rls (r2 Prod.mk) q with
   | (l,q)=>(.fv f l,q)
 | (7,q)=>r2 .rp q
 | (_,q)=>(.one .nil,q)
def rT (qs:List Ty):Rd Ty:=r1 λi=>qs.getD i .unit
def rPl (qs:List Ty):Rd Pl:=λq=>match nib q with
 | (0,q)=>r1 .sl q
 | (1,q)=>r2 .ag q
 | (2,q)=>r2 .mc q
 | (_,q)=>match rnb q with
  | (i,q)=>match rls (rT qs) q with
   | (l,q)=>(.pt i l,q)
def rSl (b:Nat):Nat->Nat->Rd (List (Nat×TS))
 | 0,_,q=>([],q)
 | n+1,i,q=>match rnb q with
  | (d,q)=>match rTS b q with
   | (t,q)=>match rSl b n (i+d+1) q with
    | (l,q)=>((i+d,t)::l,q)
def Ajf (b:Nat):Rd (Nat×List TL):=λq=>match rnb q with
 | (k,q)=>match rls (rTL b) q with
  | (l,q)=>((k,l),q)
def Ae6 (qs:List Ty) (b:Nat):Rd Tpl:=λ⟨s,_,k,_⟩=>match nib ⟨s,0,k,[]⟩with
 | (e,q)=>match rls (rT qs) q with
  | (ho,q)=>match rnb q with
   | (n,q)=>match rSl b n 0 q with
    | (sl,q)=>match (bif Nat.testBit e 0 then rls (Ajf b) q else([],q))with
     | (me,q)=>match (bif Nat.testBit e 1 then rls (r2 λx y=>(b+x,y)) q else(q.o.reverse,q))with
      | (ow,q)=>match (bif Nat.testBit e 2 then rls (rPl qs) q else([],q))with
       | (nw,q)=>match (bif Nat.testBit e 3 then rls (rPl qs) q else([],q))with
        | (fz,q)=>(⟨ho,sl,me,ow,nw,fz⟩,q)
def rEx:Rd Ex:=λq=>match rnb q with
 | (0,q)=>(.n,q)
 | (1,q)=>(.r,q)
 | (n+2,q)=>(.x n,q)
def rJ (qs:List Ty) (b:Nat):Rd Joins:=rls λq=>match rEx q with
 | (e,q)=>match Ae6 qs b q with
  | (t,q)=>((e,t),q)
def F4 (qs:List Ty) (b:Nat):Nat->Rd Ann
 | 0,q=>(.nil,q)
 | f+1,q=>match nib q with
  | (1,q)=>match F4 qs b f q with
   | (x,q)=>match F4 qs b f q with
    | (y,q)=>(.seq x y,q)
  | (2,q)=>match rJ qs b q with
   | (J,q)=>match F4 qs b f q with
    | (x,q)=>match F4 qs b f q with
     | (y,q)=>(.cond J x y,q)
  | (3,q)=>match rJ qs b q with
   | (J,q)=>match F4 qs b f q with
    | (x,q)=>(.block J x,q)
  | (4,q)=>match Ae6 qs b q with
   | (t,q)=>match rJ qs b q with
    | (J,q)=>match F4 qs b f q with
     | (x,q)=>(.loop t J x,q)
  | (5,q)=>match rJ qs b q with
   | (J,q)=>(.reg J,q)
  | (6,q)=>match rJ qs b q with
   | (J,q)=>match F4 qs b f q with
    | (r,q)=>match F4 qs b f q with
     | (x,q)=>match F4 qs b f q with
      | (y,q)=>match F4 qs b f q with
       | (z,q)=>match F4 qs b f q with
        | (w,q)=>(.both J r x y z w,q)
  | (7,q)=>match Ae6 qs b q with
   | (t,q)=>match F4 qs b f q with
    | (x,q)=>(.mloop t x,q)
  | (8,q)=>match F4 qs b f q with
   | (x,q)=>(.seq .nil x,q)
  | (9,q)=>match F4 qs b f q with
   | (x,q)=>(.seq x .nil,q)
  | (10,q)=>match F4 qs b f q with
   | (x,q)=>(.seq .nil (.seq .nil x),q)
  | (11,q)=>match F4 qs b f q with
   | (x,q)=>(.seq (.seq .nil x) .nil,q)
  | (12,q)=>match rJ qs b q with
   | (J,q)=>(.cond J .nil .nil,q)
  | (13,q)=>match F4 qs b f q with
   | (x,q)=>(.block [] x,q)
  | (_,q)=>(.nil,q)
def AaQ (qs:List Ty) (c:Nat):Joins×Ann:=match rnb ⟨c,0,0,[]⟩with
 | (b,⟨s,_,_,_⟩)=>match rJ qs b ⟨s,0,b - 1,[]⟩with
  | (J,q)=>match F4 qs b 400 q with
   | (a,_)=>(J,a)
structure Kp (P:Program) where
 k:Kn
 ok:Jg P k
def Kp.l {P:Program}:List (Kp P)->List Kn
 | []=>[]
 | a::l=>a.k::Kp.l l
theorem Kp.all {P:Program}:∀l:List (Kp P),∀k∈Kp.l l,Jg P k
 | [],_,h=>by cases h
 | a::l,k,h=>by
  rcases Aj5.1 h with rfl | h
  .exact a.ok
  .exact Kp.all l k h
end Go.V