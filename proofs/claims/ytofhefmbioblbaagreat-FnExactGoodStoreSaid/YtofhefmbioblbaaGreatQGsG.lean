import Derived.Test.YtofhefmbioblbaaGreatQGsA
import Derived.Test.YtofhefmbioblbaaGreatQGsC
import Derived.Test.YtofhefmbioblbaaGreatQGsF
set_option linter.unusedVariables false
set_option linter.unusedSimpArgs false
set_option maxRecDepth 100000
namespace Go.V.G
open Go.V
theorem T4:∀(l:List Int) (k:Nat),k < l.length->(l.flatMap DZ)[2 * k]?=some (IntKind.wrap .u8 (gb l k / 256))/\(l.flatMap DZ)[2 * k+1]?=some (IntKind.wrap .u8 (gb l k))
 | [],k,h=>by simp at h
 | a::l,0,_=>⟨rfl,rfl⟩
 | a::l,k+1,h=>by
  have ih:=T4 l k (by simpa using h);have e:(a::l).flatMap DZ=IntKind.wrap .u8 (a / 256)::IntKind.wrap .u8 a::l.flatMap DZ:=rfl;have g:gb (a::l) (k+1)=gb l k:=rfl;rw [e,g,(O:2 * (k+1)=2 * k+1+1),Akb,Akb,Akb,Akb];exact ih
theorem UC {kind:Int} {l:List Int} (hl:l.length=32) (hv:V2 l):BP (Dl (pgb kind l))=l:=by
 have key:∀k,k < 32->num (Dl (pgb kind l)) (1+2 * k)=gb l k:=λk hk=>by
  obtain ⟨h1,h2⟩:=T4 l k O;have hf:=OT l;have e:∀j,j < 64->gb (Dl (pgb kind l)) (1+j)=((l.flatMap DZ)[j]?).getD 0:=λj hj=>by
   unfold Dl pgb gb;rw [AjX (by rw [Ajb,hf,hl];simp;omega),AjP Z];simp
  have hvv:=hv _ (AjQ (Ai (O:k < l.length)));unfold num;rw [(O:1+2 * k+1=1+(2 * k+1)),e (2 * k) O,e (2 * k+1) O,h1,h2,AjN,AjN,IntKind.wrap_u8,IntKind.wrap_u8];omega
 unfold BP;rw [show(List.range 32).map (λk=>num (Dl (pgb kind l)) (1+2 * k))=(List.range 32).map (gb l) from Aj3 λk hk=>key k (AkJ.1 hk)];exact AaX hl
theorem TF (kind:Int) (l:List Int):gb (Dl (pgb kind l)) 0=kind:=rfl
theorem Ug {kind:Int} {l:List Int} (hl:l.length=32):rz (Dl (pgb kind l)) 65=true:=Aha 65 (Zz kind hl).symm
structure Lf (b:Bls) (x y top:List Int) (root:Int) (k:Nat):Prop where
 lv:liv b x y (gb top k)=true
 kd:gb (blk b (gb top k).toNat) 0=81
 rz:rz (blk b (gb top k).toNat) 65=true
 nz:nz (BP (blk b (gb top k).toNat))=true
 vs:L0 b x (BP (blk b (gb top k).toNat))=false
 un:∀j,j < k->gb top j≠gb top k
 rt:root≠0/\liv b x y root=true/\gb (blk b root.toNat) 0=80
theorem Km {b:Bls} {x y top:List Int} {root:Int} (h:tre b x y root=some top) {k:Nat} (hk:k < 32) (h0:gb top k≠0):Lf b x y top root k:=by
 have htl:=HR h;unfold tre at h;split at h
 .obtain rfl:=Ako h;exact absurd (AcN k) h0
 .rename_i hr;split at h
  .rename_i hc;obtain rfl:=Ako h;simp only [Aja]at hc;obtain ⟨c1,c2,c3⟩:=hc;have:=all_range.1 c3 k hk;unfold stG at this;rw [decide_eq_false h0,Akk]at this;simp only [Aja,Ajg]at this;obtain ⟨p1,p2,p3,p4⟩:=this;unfold pgB at p1 c1;simp only [Aja,decide_eq_true_eq]at p1 c1;refine⟨p1.1,p1.2.1,p1.2.2,p2,p4,λj hj he=>?_,hr,c1.1,c1.2.1⟩;rw [Akc]at p3;have hm:gb (H9 b root) j∈(H9 b root).take k:=by
    have:((H9 b root).take k)[j]?=some (gb (H9 b root) j):=by rw [Ajo hj,Ai O]
    exact AjQ this
   have:=p3 _ hm;rw [he]at this;simp at this
  .cases h
theorem VS {b:Bls} {x y top:List Int} {root:Int} (h:tre b x y root=some top) (h0:root≠0):liv b x y root=true/\gb (blk b root.toNat) 0=80:=by
 unfold tre at h;rw [Ai8 h0]at h;split at h
 .rename_i hc;simp only [Aja]at hc;have:=hc.1;unfold pgB at this;simp only [Aja,decide_eq_true_eq]at this;exact⟨this.1,this.2.1⟩
 .cases h
theorem Mw (top:List Int) (l:List Kv):∀k v,v∈L7 top l k->∃j,j < k/\v=gb top j/\gb top j≠0/\oth l j=true
 | 0,v,h=>by cases h
 | k+1,v,h=>by
  simp only [L7]at h;split at h
  .rename_i ho;unfold goS at h;split at h
   .obtain ⟨j,h1,h2⟩:=Mw top l k v h;exact⟨j,O,h2⟩
   .rename_i hn;rcases Ajc.1 h with h | h
    .obtain ⟨j,h1,h2⟩:=Mw top l k v h;exact⟨j,O,h2⟩
    .exact⟨k,O,Aje.1 h,hn,ho⟩
  .obtain ⟨j,h1,h2⟩:=Mw top l k v h;exact⟨j,O,h2⟩
theorem VX {b:Bls} {x y:List Int} {m:Nat} (h1:33<=m) (h2:m < b.length) (h3:bit x m=true) (h4:(m:Int)∉y):liv b x y (m:Int)=true:=by
 unfold liv;rw [decide_eq_true O,Ai5,h3,decide_eq_false h4];rfl
theorem Ahs {b b':Bls} {x x':List Int} {v:Int} (hb:b'.length=b.length) (hl:b.length<=160) (hx:∀i,i < 160->bit x i=true->bit x' i=true) (h:isb b x v=true):isb b' x' v=true:=by
 unfold isb at h ⊢;simp only [Aja,decide_eq_true_eq]at h ⊢;rw [hb];exact⟨h.1,hx _ O h.2⟩
theorem Afe {b:Bls} {x y:List Int} {v:Int} (h:liv b x y v=true):isb b x v=true:=by
 unfold liv at h;unfold isb;simp only [Aja]at h ⊢;exact⟨h.1,h.2.1⟩
theorem bad_no {b:Bls} {x l:List Int}:L0 b x l=false↔∀v∈l,v=0\/isb b x v=true:=by
 unfold L0;rw [Akc];constructor
 .intro h v hv;have:=h v hv;by_cases h0:v=0
  .exact .inl h0
  .right;rw [decide_eq_true h0,Ajj]at this;simpa using this
 .intro h v hv;rcases h v hv with h0 | h0
  .rw [decide_eq_false (not_not_intro h0)];simp
  .rw [h0];simp
theorem AeW {b:Bls} {x y top:List Int} {l:List Kv} {root:Int} (ht:tre b x y root=some top) (hl:∀s∈l,s.2=0\/liv b x y s.2=true) {k:Nat} (hk:k < 32):∀v∈av b top l k,v=0\/isb b x v=true:=by
 have h0:∀v∈lfv b (gb top k),v=0\/isb b x v=true:=by
  unfold lfv;split
  .intro v hv;exact .inl (AkK hv)
  .rename_i hn;exact bad_no.1 (Km ht hk hn).vs
 unfold av;have key:∀(l:List Kv) (w:List Int),(∀v∈w,v=0\/isb b x v=true)->(∀s∈l,s.2=0\/liv b x y s.2=true)->∀v∈l.foldl (upd k) w,v=0\/isb b x v=true:=by
  intro l
  induction l with
  | nil=>intro w h _;exact h
  | cons s l ih=>
   intro w h hs;rw [AkA];refine ih _ ?_ λs' h'=>hs s' (by simp [h'])
   unfold upd;split
   .intro v hv;rcases Aj9 hv with hv | rfl
    .exact h v hv
    .exact(hs s Z).imp id Afe
   .exact h
 exact key l _ h0 hl
structure Tn (b:Bls) (x y z top:List Int) (l:List Kv) (root at_:Int) (b':Bls) (x' y' z':List Int):Prop where
 gs:GS b' x' y' z'
 bu:∀c∈b',U8s c
 bl:b'.length=b.length
 ux:U8s x'
 tr:∃nx,tre b' x' y' at_=some nx/\∀k,k < 32->lfv b' (gb nx k)=av b top l k
 ot:∀i,i < 160->bit x i=true->blk b' i=blk b i
theorem Sk.tn {b b':Bls} {x y z top x' y' z':List Int} {l:List Kv} {root at_:Int} (g:GS b x y z) (hu:∀c∈b,U8s c) (ht:tre b x y root=some top) (hs:Aal b x y l=true) (s:Sk b x y z top l root at_ b' x' y' z'):Tn b x y z top l root at_ b' x' y' z':=by
 obtain ⟨hl64,hk,hlv,_⟩:=Afo hs;have hb:=g.hb;have htl:=HR ht;have htv:=Aho hu ht;obtain ⟨hyr,hyl⟩:=g.ylen;obtain ⟨yr',yl',ym'⟩:=s.yl hyr O;have hw:=s.wk;obtain ⟨nx,b1,x1,z1,q1,tv,hq1,_,hnn,hend⟩:=s.ex;have hnl:=tv.nl;have hnv:=AhC hb.2 htv htl tv;have hyb:∀v∈y,∃m:Nat,v=(m:Int)/\(33<=m/\m < b.length)/\bit x m=true:=λv hv=>by
  obtain ⟨i,hi,rfl⟩:=AjH hv;have:=(F6 g.hy).2 i hi;exact⟨(y[i]).toNat,O,O,this.2.2⟩
 have hgone:∀v∈y',∃m:Nat,v=(m:Int)/\(33<=m/\m < b.length)/\bit x m=true:=λv hv=>by
  rcases (ym' v).1 hv with hv | hv
  .exact hyb v hv
  .rcases Ajc.1 hv with hv | hv
   .obtain ⟨j,hj,rfl,hn,_⟩:=Mw _ _ _ _ hv;obtain ⟨m,e,h1,h2,h3,_⟩:=Cj (Km ht hj hn).lv;exact⟨m,e,⟨h1,h2⟩,h3⟩
   .unfold rtL at hv;split at hv
    .cases hv
    .rename_i hr;rw [Aje]at hv;subst hv;obtain ⟨m,e,h1,h2,h3,_⟩:=Cj (VS ht hr).1;exact⟨m,e,⟨h1,h2⟩,h3⟩
 have hup:(∀i,i < 160->bit x1 i=true->bit x' i=true)/\(∀i,i < 160->bit x1 i=true->blk b' i=blk b1 i)/\(∀c∈b',U8s c)/\(∀v∈z',v∈z1\/∃m:Nat,v=(m:Int)/\(33<=m/\m < b.length)/\bit x' m=true)/\(∀i,b.length<=i->i < 160->bit x' i=bit x1 i):=by
  rcases hend with⟨_,_,rfl,rfl,rfl⟩ | ⟨_,m,_,hm,hbm,rfl,rfl,rfl,_,_⟩
  .exact⟨λi _ h=>h,λi _ _=>rfl,tv.bu,λv hv=>.inl hv,λi _ _=>rfl⟩
  .have hx1:=tv.wk.hx;have hb1:=tv.wk.hb;have hz1:=tv.wk.hz;have hbit:∀i,i < 160->bit (setB x1 m) i=(decide (i=m) || bit x1 i):=λi hi=>PN tv.wk.hu O O
   obtain ⟨_,_,z3,z4,z5⟩:=LS (z:=z1) O tv.wk.hr (m:Int);obtain ⟨_,_,_,_,y5⟩:=LS (z:=pt z1 (m:Int)) O z4 (m:Int);refine⟨λi hi h=>by rw [hbit i hi,h,Alp],λi hi h=>?_,λc hc=>?_,λv hv=>?_,λi h1 h2=>by rw [hbit i h2,decide_eq_false (O:¬ i=m),Akk]⟩
   .have him:m≠i:=by rintro rfl;rw [hbm]at h;cases h
    rw [JT him,JT him]
   .rcases Aj9 hc with hc | rfl
    .rcases Aj9 hc with hc | rfl
     .exact tv.bu c hc
     .exact W8
    .exact Ace O
   .have key:v∈z1\/v=(m:Int):=by
     rcases (y5 v).1 hv with hv | hv
     .exact(z5 v).1 hv
     .exact .inr hv
    rcases key with hv | rfl
    .exact .inl hv
    .exact .inr ⟨m,rfl,hm,by rw [hbit m O];simp⟩
 obtain ⟨up1,up2,up3,up4,up5⟩:=hup;have hx':∀i,i < 160->bit x i=true->bit x' i=true:=λi hi h=>up1 i hi (tv.ot i hi h).2
 have hblk:∀i,i < 160->bit x i=true->blk b' i=blk b i:=λi hi h=>by
  have:=tv.ot i hi h;rw [up2 i hi this.2];exact this.1
 have hbl:b'.length=b.length:=hw.hb;have hfree:∀m:Nat,bit x m=false->((m:Nat):Int)∉y':=λm hm hh=>by
  obtain ⟨m',e,_,h⟩:=hgone _ hh;obtain rfl:m=m':=O
  rw [hm]at h;cases h
 have hgs:GS b' x' y' z':=by
  refine⟨by rw [hbl];exact hb,hw.hx,hw.hk,λi hi=>?_,?_,?_⟩
  .rw [hbl];have hg:=g.hbits i hi;unfold bG at hg ⊢;by_cases h33:i < 33
   .have hl:=hw.hlow i h33;rw [hl,decide_eq_false (O:¬ b.length<=i)];simp
   .by_cases hin:b.length<=i
    .rw [up5 i hin hi,tv.hi i hin hi];rw [decide_eq_false h33]at hg ⊢;exact hg
    .rw [decide_eq_false h33,decide_eq_false hin];simp
  .rw [hbl];refine MW yr' λv hv=>?_
   obtain ⟨m,rfl,hm,hbm⟩:=hgone v hv;exact⟨O,O,by rw [Ai5];exact hx' m O hbm⟩
  .rw [hbl];refine MW hw.hr λv hv=>?_
   have hnew:∀m:Nat,(33<=m/\m < b.length)->bit x' m=true->33<=((m:Nat):Int)/\((m:Nat):Int)<=(b.length:Int) - 1/\bit x' (((m:Nat):Int)).toNat=true:=λm hm h=>⟨O,O,by rw [Ai5];exact h⟩
   rcases up4 v hv with hv | ⟨m,rfl,hm,h⟩
   .rcases tv.zm v hv with hv | ⟨m,rfl,hm,h⟩
    .obtain ⟨i,hi,rfl⟩:=AjH hv;have:=(F6 g.hz).2 i hi;exact⟨this.1,this.2.1,hx' _ O this.2.2⟩
    .exact hnew m hm (up1 m O h)
   .exact hnew m hm h
 refine⟨hgs,up3,hbl,hw.hu,?_,hblk⟩;have hleaf:∀k,k < 32->lfv b' (gb nx k)=av b top l k:=λk hk32=>by
  cases ho:oth l k with
  | false=>
   rw [AeR ho,tv.st k hk32 (.inr ho)];unfold lfv;split
   .rfl
   .rename_i hn;have lf:=Km ht hk32 hn;obtain ⟨m,e,h1,h2,h3,_⟩:=Cj lf.lv;rw [e,Ai5,hblk m O h3]
  | true=>
   cases hz:nz (av b top l k)with
   | false=>
    rw [tv.dz k hk32 ho hz];unfold lfv;rw [Ai9 rfl];have hal:=Sq b top l k;have hall:∀v∈av b top l k,v=0:=λv hv=>by
     unfold nz at hz;rw [Akc]at hz;have:=hz v hv;simpa using this
    refine(List.eq_replicate_iff.2 ⟨hal,hall⟩).symm
   | true=>
    obtain ⟨m,e,hm,_,h3,h4⟩:=tv.dn k hk32 ho hz;unfold lfv;rw [e,Ai8 O,Ai5,up2 m O h3,h4,UC (Sq b top l k) (AhY hu (λs hs=>Agw hb.2 (hlv s hs)) k)]
 have hst:∀k,k < 32->stG b' x' y' nx k=true:=λk hk32=>by
  unfold stG;by_cases h0:gb nx k=0
  .rw [decide_eq_true h0,Bool.true_or]
  rw [decide_eq_false h0,Akk];have hlk:=hleaf k hk32;have hpn:BP (blk b' (gb nx k).toNat)=av b top l k:=by
   rw [<- hlk];unfold lfv;rw [Ai8 h0]
  rw [hpn];have hbad:L0 b' x' (av b top l k)=false:=bad_no.2 λv hv=>(AeW ht hlv hk32 v hv).imp id (Ahs hbl hb.2 hx')
  rw [hbad];have hne:∀j,j < k->gb nx j≠gb nx k->True:=λ_ _ _=>trivial
  have hun:(∀j,j < k->gb nx j≠gb nx k)->((nx.take k).any λv=>decide (v=gb nx k))=false:=λh=>by
   rw [Akc];intro v hv;obtain ⟨j,hj,rfl⟩:=AjH hv;rw [Ajd]at hj;rw [List.getElem_take];have:=h j O;unfold gb at this;rw [Ai6 O,AjN]at this;unfold gb;simpa using this
  have hwhat:∀j,j < 32->gb nx j≠0->(∃m:Nat,gb nx j=(m:Int)/\bit x m=false)\/(gb nx j=gb top j/\gb top j≠0/\oth l j=false):=λj hj hjn=>by
   cases ho:oth l j with
   | false=>
    have:=tv.st j hj (.inr ho);exact .inr ⟨this,by rw [<- this];exact hjn,rfl⟩
   | true=>
    cases hz:nz (av b top l j)with
    | false=>exact absurd (tv.dz j hj ho hz) hjn
    | true=>obtain ⟨m,e,_,hx0,_,_⟩:=tv.dn j hj ho hz;exact .inl ⟨m,e,hx0⟩
  cases ho:oth l k with
  | true=>
   cases hz:nz (av b top l k)with
   | false=>exact absurd (tv.dz k hk32 ho hz) h0
   | true=>
    obtain ⟨m,e,hm,hx0,h3,h4⟩:=tv.dn k hk32 ho hz;have hb4:blk b' m=Dl (pgb 81 (av b top l k)):=by rw [up2 m O h3];exact h4
    have hp:pgB b' x' y' (gb nx k) 81=true:=by
     unfold pgB;rw [e,Ai5,hb4,VX O O (up1 m O h3) (hfree m hx0),decide_eq_true (TF 81 _),Ug (Sq b top l k)];rfl
    have hd:=hun λj hj he=>by
     have hj0:gb nx j≠0:=by rw [he];exact h0
     rcases hwhat j O hj0 with⟨m2,e2,hx2⟩ | ⟨e2,hn2,_⟩
     .cases hoj:oth l j with
      | false=>
       have:=tv.st j O (.inr hoj);rw [this]at hj0;obtain ⟨m3,e3,_,_,h3x,_⟩:=Cj (Km ht O hj0).lv;rw [this,e3]at e2;obtain rfl:m3=m2:=O
       rw [hx2]at h3x;cases h3x
      | true=>
       cases hzj:nz (av b top l j)with
       | false=>exact absurd (tv.dz j O hoj hzj) hj0
       | true=>exact tv.ds j k hj hk32 hoj ho hzj hz he
     .obtain ⟨m3,e3,_,_,h3x,_⟩:=Cj (Km ht (O:j < 32) hn2).lv;rw [e2,e3,e]at he;obtain rfl:m3=m:=O
      rw [hx0]at h3x;cases h3x
    rw [hp,hd];rfl
  | false=>
   have e:=tv.st k hk32 (.inr ho);have hn:gb top k≠0:=by rw [<- e];exact h0
   have lf:=Km ht hk32 hn;obtain ⟨m,em,h1,h2,h3,h4⟩:=Cj lf.lv;have hz:nz (av b top l k)=true:=by rw [AeR ho];unfold lfv;rw [Ai8 hn];exact lf.nz
   have hny:(m:Int)∉y':=λhh=>by
    rcases (ym' _).1 hh with hh | hh
    .exact h4 hh
    .rcases Ajc.1 hh with hh | hh
     .obtain ⟨j,hj,ej,hnj,hoj⟩:=Mw _ _ _ _ hh;have hjk:j≠k:=by rintro rfl;rw [ho]at hoj;cases hoj
      rcases Nat.lt_or_gt_of_ne hjk with hl | hl
      .exact lf.un j hl (by rw [<- ej,em])
      .exact(Km ht hj hnj).un k hl (by rw [<- ej,em])
     .unfold rtL at hh;split at hh
      .cases hh
      .rw [Aje]at hh;have hk80:=lf.rt.2.2;have hk81:=lf.kd;rw [em,Ai5]at hk81;rw [<- hh,Ai5,hk81]at hk80;omega
   have hbe:=hblk m O h3;have hp:pgB b' x' y' (gb nx k) 81=true:=by
    have hkd:=lf.kd;have hrz:=lf.rz;rw [em,Ai5]at hkd hrz;unfold pgB;rw [e,em,Ai5,hbe,VX h1 O (hx' m O h3) hny,decide_eq_true hkd,hrz];rfl
   have hd:=hun λj hj he=>by
    have hj0:gb nx j≠0:=by rw [he];exact h0
    rcases hwhat j O hj0 with⟨m2,e2,hx2⟩ | ⟨e2,hn2,_⟩
    .rw [e2,e,em]at he;obtain rfl:m2=m:=O
     rw [hx2]at h3;cases h3
    .exact lf.un j hj (by rw [<- e2,he,e])
   rw [hp,hz,hd];rfl
 rcases hend with⟨hz,rfl,rfl,rfl,rfl⟩ | ⟨hz,m,rfl,hm,hbm,rfl,rfl,rfl,_,_⟩
 .refine⟨zer,by unfold tre;rw [Ai9 rfl],λk hk32=>?_⟩;have hall:∀v∈nx,v=0:=λv hv=>by
   unfold nz at hz;rw [Akc]at hz;have:=hz v hv;simpa using this
  have:nx=zer:=List.eq_replicate_iff.2 ⟨hnl,hall⟩;rw [<- this];exact hleaf k hk32
 .have hb1:=tv.wk.hb;have hbk:blk ((b1.set m Hs).set m (Dl (pgb 80 nx))) m=Dl (pgb 80 nx):=RX (by rw [Aj7];omega);have htop:H9 ((b1.set m Hs).set m (Dl (pgb 80 nx))) (m:Int)=nx:=by
   unfold H9;rw [Ai5,hbk,UC hnl hnv]
  have hx0:bit x m=false:=by
   cases h:bit x m with
   | false=>rfl
   | true=>have:=(tv.ot m O h).2;rw [hbm]at this;cases this
  have hx1:=tv.wk.hx;have hbit:bit (setB x1 m) m=true:=by rw [PN tv.wk.hu O O];simp
  refine⟨nx,?_,hleaf⟩;unfold tre;rw [Ai8 O,htop];have hp:pgB ((b1.set m Hs).set m (Dl (pgb 80 nx))) (setB x1 m) y' (m:Int) 80=true:=by
   unfold pgB;rw [Ai5,hbk,VX O O hbit (hfree m hx0),decide_eq_true (TF 80 _),Ug hnl];rfl
  rw [hp,hz,all_range.2 hst];rfl
end Go.V.G
set_option maxRecDepth 100000
namespace Go.V.G
open Go.V
theorem AeG {b:Bls} (hb:b.length<=160) (hk:∀c∈b,c.length=128):Bd b:=⟨O,λc hc=>by have:=hk c hc;omega⟩
section
variable {b b':Bls} {x y z:List Int} {wr lf f hd ev:Int} {rt tx:Nat}
end
section
variable {b:Bls} {wr lf ev f:Int} {on:Bool} {t:List UInt8} {r:List Rn} {cs:List (List Prt)}
def okM (b:Bls) (wr lf ev f:Int) (t:List UInt8) (r:List Rn) (cs:List (List Prt)):Prop:=gd b wr lf=true/\wr<=999999900/\(1<=ev/\ev<=30)/\Fh f t r cs=true/\cs.length=0
end
end Go.V.G
set_option maxRecDepth 100000
namespace Go.V.G
open Go.V
theorem K4 {b:Bls} {wr lf:Int} (h:gd b wr lf=true):(40<=b.length/\b.length<=160)/\∀c∈b,c.length=128:=by
 unfold gd at h;simp only [Aja,decide_eq_true_eq,Ajz,beq_iff_eq]at h;exact⟨h.1,h.2.1⟩
section
variable {b:Bls} {wr lf ev f:Int} {t:List UInt8} {r:List Rn} {cs:List (List Prt)}
end
end Go.V.G
set_option maxRecDepth 100000
namespace Go.V.G
open Go.V
theorem HE {σ τ ρ:Type} (L:σ->Option (σ⊕(τ⊕ρ))) (st:Nat->σ) (p:Nat->Bool) (e:ρ) (z:τ) (n:Nat)
  (step:∀i,i < n->L (st i)=some (if p i=true then .inl (st (i+1))else .inr (.inr e))) (last:L (st n)=some (.inr (.inl z))) :
  Ab L (st 0)=some (if(List.range n).all p=true then .inl z else .inr e):=by
 rcases BQ L st p (λ_=>e) z n step last with⟨ha,hlp⟩ | ⟨k,hk,hp,_,hlp⟩
 .rw [hlp,Ai9 (all_range.2 ha)]
 .rw [hlp,Ai8 (λh=>by rw [all_range.1 h k hk]at hp;cases hp)]
def gG (n:Nat) (g:List Wr) (i:Nat):Bool:=decide ((gw g i).1=0\/(gw g i).1=1\/33<=(gw g i).1/\(gw g i).1<=(n:Int) - 1) && (decide ((gw g i).2.length=128) && (decide (i=0) || decide ((gw g (i - 1)).1 < (gw g i).1)))
def grB (n:Nat) (g:List Wr):Bool:=decide (1<=g.length/\g.length<=30) && (List.range g.length).all (gG n g)
theorem Aga {n:Nat} (hn:n<=1048576) (a:Int):RB a (n:Int)=some (decide (a=0\/a=1\/33<=a/\a<=(n:Int) - 1)):=by
 unfold RB wI;rw [w64 O O,B8];by_cases h0:a=0 <;> by_cases h1:a=1 <;> simp [h0,h1]
theorem AaW {n:Nat} {g:List Wr} (hn:n<=1048576) (hg:g.length<=1048576):Lq g (n:Int)=some (grB n g):=by
 unfold Lq grB;rw [B8,Ai3];by_cases hl:1<=g.length/\g.length<=30
 .rw [decide_eq_true (show(1:Int)<=(g.length:Int)/\(g.length:Int)<=30 by omega),decide_eq_true hl];have h:=HE Gt (λi=>(g,(n:Int),g,(g.length:Int),((i:Nat):Int))) (gG n g) false () g.length (λi hi=>by
   unfold Gt gG gX wI;dsimp only;rw [iy O,iy O,Ai5,EF hi,Ai3,Aga hn,Ai3];have hix:=Al (i:=i) O;by_cases h1:(gw g i).1=0\/(gw g i).1=1\/33<=(gw g i).1/\(gw g i).1<=(n:Int) - 1
   .rw [decide_eq_true h1];by_cases h2:(gw g i).2.length=128
    .rw [ino (O:¬ ¬ (((gw g i).2.length:Nat):Int)=128),decide_eq_true h2];by_cases h3:i=0
     .subst h3;simp [show IntKind.wrap .i64 1=1 from w64 O O]
     .rw [iy (show(0:Int) < (i:Int) by omega),im1 O O,iy O,Ai5,EF O,decide_eq_false h3];by_cases h4:(gw g (i - 1)).1 < (gw g i).1
      .rw [decide_eq_true h4];simp [(O:¬ (gw g i).1<=(gw g (i - 1)).1),hix]
      .rw [decide_eq_false h4];simp [show(gw g i).1<=(gw g (i - 1)).1 by omega]
    .rw [iy (O:¬ (((gw g i).2.length:Nat):Int)=128),decide_eq_false h2];rfl
   .rw [decide_eq_false h1];rfl) (by
   unfold Gt gX wI;dsimp only;rw [ino O])
  rw [show Ab Gt (g,(n:Int),g,(g.length:Int),0)=_ from h];cases (List.range g.length).all (gG n g) <;> rfl
 .rw [decide_eq_false (O:¬ ((1:Int)<=(g.length:Int)/\(g.length:Int)<=30)),decide_eq_false hl];rfl
def gI (g:List Wr) (i:Nat):Bool:=decide (0<=(gw g i).1/\(gw g i).1 < 160/\¬ (1 < (gw g i).1/\(gw g i).1 < 33)) && ((decide (i=0) || decide ((gw g (i - 1)).1 < (gw g i).1)) && decide ((gw g i).2.length=128))
theorem W9 {g:List Wr} (hg:g.length<=1048576):LR g=some ((List.range g.length).all (gI g) && decide (1<=g.length/\g.length<=30)):=by
 unfold LR;have h:=HE F4 (λi=>(g,g,(g.length:Int),((i:Nat):Int))) (gI g) false g g.length (λi hi=>by
  unfold F4 gI gX wI;dsimp only;rw [iy O,iy O,Ai5,EF hi,Ai3];by_cases h1:(gw g i).1 < 0
  .rw [iy h1,decide_eq_false (O:¬ (0<=(gw g i).1/\(gw g i).1 < 160/\¬ (1 < (gw g i).1/\(gw g i).1 < 33)))];rfl
  .rw [ino h1];by_cases h2:(160:Int)<=(gw g i).1
   .rw [iy h2,decide_eq_false (O:¬ (0<=(gw g i).1/\(gw g i).1 < 160/\¬ (1 < (gw g i).1/\(gw g i).1 < 33)))];rfl
   .rw [ino h2];have key:(if decide ((0:Int) < (i:Int))=true then
      (if decide ((0:Int)<=IntKind.wrap .i64 ((i:Int) - 1))=true then
       Option.bind (g[Int.toNat (IntKind.wrap .i64 ((i:Int) - 1))]?) λr2=>
        if decide ((gw g i).1<=r2.1)=true then some (g,g,(g.length:Int),(i:Int),true)else some (g,g,(g.length:Int),(i:Int),decide (¬ (((gw g i).2.length:Nat):Int)=128))
      else none)else some (g,g,(g.length:Int),(i:Int),decide (¬ (((gw g i).2.length:Nat):Int)=128))) =
      some (g,g,(g.length:Int),(i:Int),!((decide (i=0) || decide ((gw g (i - 1)).1 < (gw g i).1)) && decide ((gw g i).2.length=128))):=by
     have e:decide (¬ (((gw g i).2.length:Nat):Int)=128) = !decide ((gw g i).2.length=128):=by
      by_cases h:(gw g i).2.length=128 <;> simp [h];omega
     by_cases h3:i=0
     .subst h3;rw [e];simp
     .rw [iy (show(0:Int) < (i:Int) by omega),im1 O O,iy O,Ai5,EF O,Ai3,decide_eq_false h3,e];by_cases h4:(gw g (i - 1)).1 < (gw g i).1
      .rw [decide_eq_true h4,ino O];simp
      .rw [decide_eq_false h4,iy O];simp
    have fin:decide (0<=(gw g i).1/\(gw g i).1 < 160/\¬ (1 < (gw g i).1/\(gw g i).1 < 33)) = !(decide (1 < (gw g i).1) && decide ((gw g i).1 < 33)):=by
     by_cases h3:1 < (gw g i).1 <;> by_cases h4:(gw g i).1 < 33 <;> simp [h3,h4] <;> omega
    rw [fin];by_cases h3:1 < (gw g i).1
    .rw [iy h3,decide_eq_true h3];by_cases h4:(gw g i).1 < 33
     .rw [iy h4,decide_eq_true h4];rfl
     .rw [ino h4,decide_eq_false h4,key,Ai3];dsimp only;rw [Al O];cases ((decide (i=0) || decide ((gw g (i - 1)).1 < (gw g i).1)) && decide ((gw g i).2.length=128)) <;> rfl
    .rw [ino h3,decide_eq_false h3,key,Ai3];dsimp only;rw [Al O];cases ((decide (i=0) || decide ((gw g (i - 1)).1 < (gw g i).1)) && decide ((gw g i).2.length=128)) <;> rfl) (by
  unfold F4 gX wI;dsimp only;rw [ino O])
 rw [show Ab F4 (g,g,(g.length:Int),0)=_ from h];have e:decide ((1:Int)<=(g.length:Int)/\(g.length:Int)<=30)=decide (1<=g.length/\g.length<=30):=decide_eq_decide.2 O;cases (List.range g.length).all (gI g)with
 | true=>rw [Ai9 rfl,Ai3];dsimp only;rw [AI,e];rfl
 | false=>rfl
theorem Ah7 {g:List Wr} {w:Wr} (h:w∈g):∃i,i < g.length/\gw g i=w:=by
 obtain ⟨i,hi,rfl⟩:=AjH h;exact⟨i,hi,by have:=EF hi;rw [Ai6 hi]at this;injection this with this;exact this.symm⟩
theorem AcU {n:Nat} {g:List Wr} (hn:40<=n) (h:grB n g=true) (hu:∀w∈g,U8s w.2):GrOk n g/\1<=g.length/\g.length<=30:=by
 simp only [grB,Aja,decide_eq_true_eq]at h;obtain ⟨h1,h2⟩:=h;have h3:=all_range.1 h2;have at_:∀w∈g,(0<=w.1/\w.1 < (n:Int))/\w.2.length=128:=λw hw=>by
  obtain ⟨i,hi,rfl⟩:=Ah7 hw;have:=h3 i hi;simp only [gG,Aja,decide_eq_true_eq]at this;exact⟨O,this.2.1⟩
 exact⟨⟨O,λw hw=>(at_ w hw).1,λw hw=>(at_ w hw).2,hu⟩,h1⟩
theorem Tx {bl:Bls} {wr lf:Int} (on:Bool) {g:List Wr} (hd:gd bl wr lf=true) (hg:g.length<=1048576):Ji bl wr on lf g=some (grB bl.length g):=by
 obtain ⟨hb,-⟩:=K4 hd;unfold Ji gX wI;rw [IU O,hd,Ai3,Ai9 rfl,W9 hg,Ai3];by_cases hl:1<=g.length/\g.length<=30
 .cases hi:(List.range g.length).all (gI g)with
  | false=>
   rw [Akt];have:grB bl.length g=false:=by
    rw [Bool.eq_false_iff];intro h;simp only [grB,Aja,decide_eq_true_eq]at h;have h3:=all_range.1 h.2;have:(List.range g.length).all (gI g)=true:=all_range.2 λi hi=>by
     have:=h3 i hi;simp only [gG,Aja,decide_eq_true_eq]at this;simp only [gI,Aja,decide_eq_true_eq];exact⟨O,this.2.2,this.2.1⟩
    rw [hi]at this;cases this
   rw [this];rfl
  | true=>
   have h3:=all_range.1 hi;have h4:∀i,i < g.length->(0<=(gw g i).1/\(gw g i).1 < 160/\¬ (1 < (gw g i).1/\(gw g i).1 < 33))/\(i=0\/(gw g (i - 1)).1 < (gw g i).1)/\(gw g i).2.length=128:=λi hi=>by
    have:=h3 i hi;simp only [gI,Aja,Akj,decide_eq_true_eq]at this;exact⟨this.1,this.2.1,this.2.2⟩
   rw [Ajj,decide_eq_true hl,Ai9 rfl,im1 O O,iy O,Ai5,EF O,Ai3];unfold M8 wI;rw [AI,w64 O O];have up:∀d i,i+d < g.length->(gw g i).1<=(gw g (i+d)).1:=by
    intro d
    induction d with
    | zero=>intro i _;exact Akg _
    | succ d ih=>
     intro i h;have h5:=ih i O;have h6:=(h4 (i+(d+1)) h).2.1;rw [(O:i+(d+1) - 1=i+d)]at h6;rcases h6 with h6 | h6
     .omega
     .omega
   have e:grB bl.length g=decide (0<=(gw g (g.length - 1)).1/\(gw g (g.length - 1)).1<=(bl.length:Int) - 1):=by
    unfold grB;rw [decide_eq_true hl,Ajj];have h0:=h4 (g.length - 1) O;by_cases hlast:(gw g (g.length - 1)).1<=(bl.length:Int) - 1
    .rw [decide_eq_true (show 0<=(gw g (g.length - 1)).1/\(gw g (g.length - 1)).1<=(bl.length:Int) - 1 from⟨h0.1.1,hlast⟩)];refine all_range.2 λi hi=>?_
     have h5:=h4 i hi;have h6:=up (g.length - 1 - i) i O;rw [(O:i+(g.length - 1 - i)=g.length - 1)]at h6;simp only [gG,Aja,Akj,decide_eq_true_eq];exact⟨O,h5.2.2,h5.2.1⟩
    .rw [decide_eq_false (λh=>hlast h.2),Bool.eq_false_iff];intro h;have:=all_range.1 h (g.length - 1) O;simp only [gG,Aja,decide_eq_true_eq]at this;omega
   rw [e];rfl
 .have:grB bl.length g=false:=by unfold grB;rw [decide_eq_false hl,Akt]
  rw [this,decide_eq_false hl,Ald];rfl
def wGr (bl:Bls):List Wr:=(List.range (gb (blk bl 2) 4).toNat).map λk=>(num (blk bl 2) (5+2 * k),blk bl (3+k))
theorem YZ (bl:Bls):(wGr bl).length=(gb (blk bl 2) 4).toNat:=by simp [wGr]
theorem Acs {bl:Bls} (hu:∀c∈bl,U8s c):∀w∈wGr bl,U8s w.2:=λw hw=>by
 simp only [wGr,Ajq]at hw;obtain ⟨k,_,rfl⟩:=hw;intro v hv;by_cases h:3+k < bl.length
 .exact hu _ (Bz h) v hv
 .simp only [blk]at hv;rw [Ajr O]at hv;simp at hv
def wts (bl:Bls):List Wr:=if(decide (1<=gb (blk bl 2) 4/\gb (blk bl 2) 4<=30) && (grB bl.length (wGr bl) && (Nl (wGr bl) == blk bl 2)))=true then wGr bl else []
theorem Nv {α:Type} (f:Nat->α) (k:Nat):(List.range (k+1)).map f=(List.range k).map f++[f k]:=by rw [AkL,AjM];rfl
theorem Gn {bl:Bls} {wr lf:Int} (on:Bool) (hd:gd bl wr lf=true) (hu:∀c∈bl,U8s c):Jl bl wr on lf=some (wts bl):=by
 obtain ⟨hb,hk⟩:=K4 hd;have u2:=hu _ (Bz (O:2 < bl.length));have l2:=hk _ (Bz (O:2 < bl.length));have h4:=DG u2 4;unfold Jl wts gX;rw [show bl[Int.toNat 2]?=some (blk bl 2) from Bo O,Ai3,show(blk bl 2)[Int.toNat 4]?=some (gb (blk bl 2) 4) from Ai O,Ai3,B8,w64 O O,Ai3];by_cases hn:1<=gb (blk bl 2) 4/\gb (blk bl 2) 4<=30
 .rw [decide_eq_true hn];obtain ⟨n,hn'⟩:=Ajy h4.1;have hwl:=YZ bl;rw [hn',Ai5]at hwl;have h:=An EW (λk=>(blk bl 2,(n:Int),(List.range k).map (λk=>(num (blk bl 2) (5+2 * k),blk bl (3+k))),((k:Nat):Int),bl,wr,on,lf)) n (blk bl 2,wGr bl,bl,wr,on,lf) (λk hk'=>by
   have e1:IntKind.wrap .i64 (5+(IntKind.wrap .i64 (2 * (k:Int))))=((5+2 * k:Nat):Int):=by rw [w64 (n:=2 * (k:Int)) O O,w64 O O];omega
   have e2:IntKind.wrap .i64 (6+(IntKind.wrap .i64 (2 * (k:Int))))=((5+2 * k+1:Nat):Int):=by rw [w64 (n:=2 * (k:Int)) O O,w64 O O];omega
   have e3:IntKind.wrap .i64 (3+(k:Int))=((3+k:Nat):Int):=by rw [w64 O O];omega
   have l3:=hk _ (Bz (O:3+k < bl.length));have q1:=DG u2 (5+2 * k);have q2:=DG u2 (5+2 * k+1);unfold EW cK gX wI;dsimp only;rw [iy O,e1,e2,e3,iy O,Ai5,Ai O,Ai3,iy O,Ai5,Ai O,Ai3,iy O,Ai5,Bo O,Ai3,
    Ai9 (by simp only [Aa,decide_eq_true_eq,AjC];omega),Ai9 (by simp only [Aa,decide_eq_true_eq,AjA,List.length_range,Ajh];omega),Al O,Rr q1 q2,Nv]
   rfl) (by
   unfold EW cK gX wI;dsimp only;rw [ino O];unfold wGr;rw [hn',Ai5])
  rw [hn',show Ab EW (blk bl 2,(n:Int),[],0,bl,wr,on,lf)=_ from h];simp only [AjW,Ajl,AjL,Ai3,Ajj];rw [AaW O O,Ai3];cases hg:grB bl.length (wGr bl)with
  | false=>rfl
  | true=>
   obtain ⟨g1,g2,g3⟩:=AcU O hg (Acs hu);rw [XY g1 O g3];simp only [AjW,Ajl,AjL,Ai3,Ajj];rw [QY (AfQ g3) u2];cases (Nl (wGr bl) == blk bl 2) <;> rfl
 .rw [decide_eq_false hn];rfl
theorem Kq {bl:Bls} {wr lf:Int} (on:Bool) (hd:gd bl wr lf=true) (hu:∀c∈bl,U8s c):GM bl wr on lf=some (wts bl):=by
 obtain ⟨hb,hk⟩:=K4 hd;have u2:=hu _ (Bz (O:2 < bl.length));have l2:=hk _ (Bz (O:2 < bl.length));have h4:=DG u2 4;unfold GM wts gX;rw [show bl[Int.toNat 2]?=some (blk bl 2) from Bo O,Ai3,show(blk bl 2)[Int.toNat 4]?=some (gb (blk bl 2) 4) from Ai O,Ai3,AI,w64 O O,Ai3];by_cases hn:1<=gb (blk bl 2) 4/\gb (blk bl 2) 4<=30
 .rw [decide_eq_true hn];obtain ⟨n,hn'⟩:=Ajy h4.1;have hwl:=YZ bl;rw [hn',Ai5]at hwl;have h:=An Dz (λk=>(blk bl 2,(List.range k).map (λk=>(num (blk bl 2) (5+2 * k),blk bl (3+k))),(n:Int),((k:Nat):Int),bl,wr,on,lf)) n (blk bl 2,wGr bl,bl,wr,on,lf) (λk hk'=>by
   have e1:IntKind.wrap .i64 (5+(IntKind.wrap .i64 (2 * (k:Int))))=((5+2 * k:Nat):Int):=by rw [w64 (n:=2 * (k:Int)) O O,w64 O O];omega
   have e3:IntKind.wrap .i64 (3+(k:Int))=((3+k:Nat):Int):=by rw [w64 O O];omega
   unfold Dz cK gX wI;dsimp only;rw [iy O,e1,e3,FK u2 O O,Ai3,iy O,Ai5,Bo O,Ai3,
    Ai9 (by simp only [Aa,decide_eq_true_eq,AjA,List.length_range,Ajh];omega),Al O,Nv]) (by
   unfold Dz cK gX wI;dsimp only;rw [ino O];unfold wGr;rw [hn',Ai5])
  rw [hn',show Ab Dz (blk bl 2,[],(n:Int),0,bl,wr,on,lf)=_ from h];simp only [AjW,Ajl,AjL,Ai3,Ajj];rw [Tx on hd O,Ai3];cases hg:grB bl.length (wGr bl)with
  | false=>rfl
  | true=>
   obtain ⟨g1,g2,g3⟩:=AcU O hg (Acs hu);rw [YE g1 O g3];simp only [AjW,Ajl,AjL,Ai3,Ajj];rw [UH (by rw [AdE g3];omega),Ai3];cases (Nl (wGr bl) == blk bl 2) <;> rfl
 .rw [decide_eq_false hn];rfl
end Go.V.G
set_option maxRecDepth 100000
namespace Go.V.G
open Go.V
def Mj (f h e r t:Int):Bool:=decide ((0<=f/\f<=h)/\h<=60) && (decide (1<=e/\e<=30) && (decide (33<=r/\r<=159) && decide (33<=t/\t<=159)))
theorem Zk {f h e r t:Int} (g:Mj f h e r t=true):∃(m n:Nat),r=(m:Int)/\t=(n:Int)/\SupOk f h e m n:=by
 simp only [Mj,Aja,decide_eq_true_eq]at g;obtain ⟨g1,g2,g3,g4⟩:=g;obtain ⟨m,hm⟩:=Ajy (O:0<=r);obtain ⟨n,hn⟩:=Ajy (O:0<=t);exact⟨m,n,hm,hn,⟨g1.1,g1.2,g2,O,O⟩⟩
theorem Wc (f h e r t:Int):Lv f h e r t=some (Mj f h e r t):=by
 unfold Lv Pp Mj;simp only [B8,Ai3];by_cases h1:0<=f/\f<=h <;> by_cases h2:h<=60 <;> by_cases h3:1<=e/\e<=30 <;> by_cases h4:33<=r/\r<=159 <;> simp [h1,h2,h3,h4]
theorem Yc (f h:Int):Hd f h=some (decide ((0<=f/\f<=h)/\h<=60)):=by
 unfold Hd;by_cases h1:0<=f <;> by_cases h2:f<=h <;> simp [h1,h2]
theorem Ac5 {f h e r t:Int} (g:Mj f h e r t=false):ER f h e r t=some ([],false):=by
 unfold ER Js cK;unfold Mj at g;simp only [Yc,AI,Ai3];by_cases h1:(0<=f/\f<=h)/\h<=60
 .rw [decide_eq_true h1]at g ⊢;by_cases h3:1<=e/\e<=30
  .rw [decide_eq_true h3]at g ⊢;by_cases h4:33<=r/\r<=159
   .rw [decide_eq_true h4]at g ⊢;simp only [Ajj]at g;rw [g];rfl
   .rw [decide_eq_false h4];rfl
  .rw [decide_eq_false h3];rfl
 .rw [decide_eq_false h1];rfl
abbrev Sup:=Int×(Int×(Int×(Int×Int)))
def Ti (c:List Int):Bool:=decide (c.length=128) && (Mj (gb c 4) (gb c 5) (gb c 6) (num c 8) (num c 10) && (M7 (gb c 4) (gb c 5) (gb c 6) (num c 8) (num c 10) == c))
def LX (c:List Int):Bool×Sup:=if Ti c=true then(true,gb c 4,gb c 5,gb c 6,num c 8,num c 10)else(false,0,0,0,0,0)
theorem Io {c:List Int} (hu:U8s c):LG c=some (LX c):=by
 unfold LG LX Ti gX wI;by_cases hl:c.length=128
 .have u:=DG hu;rw [ino O,iy O,show c[Int.toNat 4]?=some (gb c 4) from Ai O,Ai3,iy O,show c[Int.toNat 5]?=some (gb c 5) from Ai O,Ai3,iy O,show c[Int.toNat 6]?=some (gb c 6) from Ai O,Ai3,
   iy O,show c[Int.toNat 8]?=some (gb c 8) from Ai O,Ai3,iy O,show c[Int.toNat 9]?=some (gb c 9) from Ai O,Ai3,iy O,show c[Int.toNat 10]?=some (gb c 10) from Ai O,Ai3,iy O,show c[Int.toNat 11]?=some (gb c 11) from Ai O,Ai3,
   Rr (u 8) (u 9),Rr (u 10) (u 11),w64 (n:=gb c 4) (by have:=u 4;omega) (by have:=u 4;omega),w64 (n:=gb c 5) (by have:=u 5;omega) (by have:=u 5;omega),w64 (n:=gb c 6) (by have:=u 6;omega) (by have:=u 6;omega),Wc,Ai3,decide_eq_true hl,Ajj,
   show gb c 8 * 256+gb c 9=num c 8 from rfl,show gb c 10 * 256+gb c 11=num c 10 from rfl]
  cases hg:Mj (gb c 4) (gb c 5) (gb c 6) (num c 8) (num c 10)with
  | false=>rfl
  | true=>
   obtain ⟨m,n,hm,hn,hs⟩:=Zk hg;rw [hm,hn,Aat hs];simp only [AjW,Ajl,AjL,Ai3,Ajj];rw [QY (Af4 hs) hu];cases (M7 (gb c 4) (gb c 5) (gb c 6) (m:Int) (n:Int) == c) <;> rfl
 .rw [iy O,decide_eq_false hl];rfl
theorem On {c:List Int} (hu:U8s c):LP c=some (LX c):=by
 unfold LP LX Ti gX;by_cases hl:c.length=128
 .have u:=DG hu;rw [ino O,iy O,show c[Int.toNat 4]?=some (gb c 4) from Ai O,Ai3,iy O,show c[Int.toNat 5]?=some (gb c 5) from Ai O,Ai3,iy O,show c[Int.toNat 6]?=some (gb c 6) from Ai O,Ai3,
   show Cw c 8=some (num c 8) from FK (i:=8) hu O O,Ai3,show Cw c 10=some (num c 10) from FK (i:=10) hu O O,Ai3,
   w64 (n:=gb c 4) (by have:=u 4;omega) (by have:=u 4;omega),w64 (n:=gb c 5) (by have:=u 5;omega) (by have:=u 5;omega),w64 (n:=gb c 6) (by have:=u 6;omega) (by have:=u 6;omega),decide_eq_true hl,Ajj]
  cases hg:Mj (gb c 4) (gb c 5) (gb c 6) (num c 8) (num c 10)with
  | false=>rw [Ac5 hg];rfl
  | true=>
   obtain ⟨m,n,hm,hn,hs⟩:=Zk hg;rw [hm,hn,Aai hs];simp only [AjW,Ajl,AjL,Ai3,Ajj];rw [UH (by rw [Ade];omega),Ai3];cases (M7 (gb c 4) (gb c 5) (gb c 6) (m:Int) (n:Int) == c) <;> rfl
 .rw [iy O,decide_eq_false hl];rfl
def opB (bl:Bls):List Int:=(blk bl 1).take 20
def opG (bl:Bls):Bool:=gsp bl (opB bl) [] [] && rz (blk bl 1) 20
def opD (bl:Bls):Bool×(Bls×List Int):=if opG bl=true then(true,bl,opB bl)else(false,[],[])
theorem Vq {bl:Bls} (h1:bl.length<=160) (h2:40<=bl.length):SB bl (opB bl) [] []:=by
 exact⟨O,Z,Z⟩
theorem Ta {bl:Bls} {wr lf:Int} (on:Bool) (hd:gd bl wr lf=true) (hu:∀c∈bl,U8s c):Jc bl wr on lf=some (opD bl):=by
 obtain ⟨hb,hk⟩:=K4 hd;have l1:=hk _ (Bz (O:1 < bl.length));unfold Jc opD opG gX sX;rw [IU O,hd,Ai3,Ai8 Z,iy O,show bl[Int.toNat 1]?=some (blk bl 1) from Bo O,Ai3,UU (AeG O hk),Ai3,iy O,iy O,iy O,iy O,
  show(List.drop (Int.toNat 0) (blk bl 1)).take (Int.toNat 20 - Int.toNat 0)=opB bl from rfl,Ux (by unfold opB;rw [Ajd];omega),Ai3,S6 (Vq O O),Ai3]
 cases hg:gsp bl (opB bl) [] []with
 | false=>rfl
 | true=>
  simp only [AjW,Ajl,AjL,Ai3,Ajj];rw [iy O,iy O,iy O,iy O];have hcf:∀{l:List Int},l.length<=1048576->A9 l=some (l.any λv=>decide (¬ v=0)):=λ{l} hl=>by
   unfold A9 BN;obtain ⟨r,hr,h⟩:=IO A8 (λv=>decide (¬ v=0)) l (λk hk=>by
    unfold A8 JI gX wI;dsimp only;rw [iy O,iy O,Ai5,Ai hk,Ai3,Ai3,Al O];by_cases hz:gb l k=0 <;> simp [hz]) (by
    unfold A8 gX wI;dsimp only;rw [ino O])
   rw [hr,Ai3];rcases h with⟨rfl,h⟩ | ⟨k,rfl,h⟩
   .rw [h];rfl
   .rw [h];dsimp only;rw [Ai3,decide_eq_true O]
  rw [Ai5,show Int.toNat 20=20 from rfl,AjR (show(List.drop 20 (blk bl 1)).length<=(blk bl 1).length - 20 by rw [Ajw];omega),hcf (by rw [Ajw];omega),Ai3,MK];cases rz (blk bl 1) 20 <;> rfl
theorem Gz {bl:Bls} {wr lf:Int} (on:Bool) (hd:gd bl wr lf=true) (hu:∀c∈bl,U8s c):I7 bl wr on lf=some (opD bl):=by
 obtain ⟨hb,hk⟩:=K4 hd;have l1:=hk _ (Bz (O:1 < bl.length));have e1:bl[0+Int.toNat 1]?=some (blk bl 1):=Bo O;unfold I7 opD opG cK cZ sX;rw [HM O,hd,Ai3,Ai8 Z,Agc (AeG O hk),Ai3];dsimp only;rw [iy O,iy O,e1,Ai3,Ai3,iy O,iy O,iy O,iy O,Ai3,
  Ai9 (by simp only [Aa,decide_eq_true_eq,Ajd,AjC];omega),iy O,iy O,Ai3,Ai3,iy O,iy O,iy O,iy O,Ai3,
  AjD,show((blk bl 1).drop (Int.toNat 0)).take (Int.toNat 20 - Int.toNat 0)=opB bl from rfl,Ai5,show Int.toNat 20=20 from rfl,AjR (show(List.drop 20 (blk bl 1)).length<=(blk bl 1).length - 20 by rw [Ajw];omega)]
 have hdl:(List.drop 20 (blk bl 1)).length=108:=by rw [Ajw,l1]
 have h:=QR EC (λk=>(bl,((0+Int.toNat 1:Nat):Int),((20:Nat):Int),(((blk bl 1).length - 20:Nat):Int),(((List.drop 20 (blk bl 1)).length:Nat):Int),((k:Nat):Int),opB bl)) (List.drop 20 (blk bl 1)) (λv=>decide (¬ v=0)) false (bl,opB bl) (λk hk'=>by
  have e3:(blk bl 1)[20+k]?=some (gb (List.drop 20 (blk bl 1)) k):=by
   have:=Ai hk';rw [AjK]at this;exact this
  unfold EC cK cZ wI;dsimp only;rw [iy O,iy O,show Int.toNat ((0+Int.toNat 1:Nat):Int)=0+Int.toNat 1 from rfl,e1,Ai3,iy (by rw [Ajd,show Int.toNat ((20:Nat):Int)=20 from rfl,Ai5];omega),Ai3,show Int.toNat ((20:Nat):Int)=20 from rfl,Ai5 k,e3,Ai3,Al O];by_cases hz:gb (List.drop 20 (blk bl 1)) k=0 <;> simp [hz]) (by
  unfold EC cK cZ wI;dsimp only;rw [ino O])
 rw [show Ab EC (bl,((0+Int.toNat 1:Nat):Int),((20:Nat):Int),(((blk bl 1).length - 20:Nat):Int),(((List.drop 20 (blk bl 1)).length:Nat):Int),0,opB bl)=_ from h,MK];cases hz:rz (blk bl 1) 20 with
 | false=>simp
 | true=>
  simp only [AjW,Ajl,AjL,Ai3,AkD];rw [MF (Vq O O),Ai3];cases gsp bl (opB bl) [] [] <;> rfl
end Go.V.G
set_option maxRecDepth 100000
namespace Go.V.G
open Go.V
def rcC (b:Bls) (x y:List Int) (a:Int) (ch:List Int):Bool:=
 liv b x y a && (!decide (a∈ch) && (!decide (ch.length=9) && (decide (gb (blk b a.toNat) 0=82) && (!decide (124 < gb (blk b a.toNat) 3) && ((decide (num (blk b a.toNat) 1=0) || !decide (gb (blk b a.toNat) 3 < 124)) &&
  ((!decide (gb (blk b a.toNat) 3=0) || decide (ch.length=0)) && rz (blk b a.toNat) (4+(gb (blk b a.toNat) 3).toNat)))))))
def rcO (b:Bls) (a:Int):List Int:=((blk b a.toNat).drop 4).take (gb (blk b a.toNat) 3).toNat
def rcN (b:Bls) (x y:List Int):Nat->Int->List Int->List Int->Option (List Int×List Int)
 | 0,_,_,_=>none
 | f+1,a,d,ch=>if rcC b x y a ch=true then(if num (blk b a.toNat) 1=0 then some (d++rcO b a,ch++[a])else rcN b x y f (num (blk b a.toNat) 1) (d++rcO b a) (ch++[a]))else none
def rcd (b:Bls) (x y:List Int) (a:Int):Option (List Int×List Int):=rcN b x y 10 a [] []
def rcA (o:Option (List Int×List Int)):List Int×(List Int×Bool):=match o with
 | some p=>(p.1,p.2,true)
 | none=>([],[],false)
theorem Z4 {b:Bls} {x y z:List Int} (g:RS b x y) {a:Int} (ch:List Int) (hl:liv b x y a=true):∃m n:Nat,a=(m:Int)/\(33<=m/\m < b.length)/\gb (blk b m) 3=(n:Int)/\n<=255:=by
 obtain ⟨m,rfl,h1,h2,_⟩:=Cj hl;have:=g.u8 h2 3;obtain ⟨n,hn⟩:=Ajy this.1;exact⟨m,n,rfl,⟨h1,h2⟩,hn,O⟩
theorem Abr {b:Bls} {x y z:List Int} (g:RS b x y) (a:Int) {d ch:List Int} (hd:d.length<=10000) (hc:ch.length<=9) :
  Ew ((b,x,y,z),a,d,ch)=some (if rcC b x y a ch=true then(if num (blk b a.toNat) 1=0 then .inr (d++rcO b a,ch++[a],true)else .inl ((b,x,y,z),num (blk b a.toNat) 1,d++rcO b a,ch++[a]))else .inr ([],[],false)):=by
 unfold Ew cK gX sX wI;dsimp only;rw [J1 g,Ai3];cases hl:liv b x y a with
 | false=>unfold rcC;rw [hl];rfl
 | true=>
  obtain ⟨m,n,rfl,hm,hn,hn2⟩:=Z4 (z:=z) g ch hl;have hlen:=g.len hm.2;have hu:=g.hu _ (Bz hm.2);have hb:=Bo hm.2;unfold rcC rcO;rw [hl,Ai5];rw [FO O,Ai3];by_cases hin:(m:Int)∈ch
  .rw [decide_eq_true hin];rfl
  .rw [decide_eq_false hin];by_cases h9:ch.length=9
   .rw [decide_eq_true (show(ch.length:Int)=9 by omega),decide_eq_true h9];rfl
   .rw [decide_eq_false (O:¬ (ch.length:Int)=9),decide_eq_false h9];have hnum:=FK hu (i:=1) O O;have hnum':Cw (blk b m) 1=some (num (blk b m) 1):=hnum;have g3:(blk b m)[Int.toNat 3]?=some (n:Int):=by rw [<- hn];exact Ai O
    have g0:(blk b m)[Int.toNat 0]?=some (gb (blk b m) 0):=Ai O;have w5:IntKind.wrap .i64 (n:Int)=(n:Int):=w64 O O;have w4:IntKind.wrap .i64 (4+(n:Int))=((4+n:Nat):Int):=by rw [w64 O O];omega
    rw [hn];simp only [Ai3,AjW,Ajl,AjL,Ajj,AkY];rw [iy (show(0:Int)<=(m:Int) by omega),Ai5,hb,Ai3,hnum',Ai3,iy O,g3,Ai3,iy O,g0,Ai3,w5,w4,Ai5,Ai5];by_cases h82:gb (blk b m) 0=82
    .rw [ino (by simp [h82]),decide_eq_true h82];by_cases h124:(124:Int) < (n:Int)
     .rw [iy h124,decide_eq_true h124];rfl
     .rw [ino h124,decide_eq_false h124];have htk:List.take (128 - (4+n)) (List.drop (4+n) (blk b m))=(blk b m).drop (4+n):=AjR (by rw [Ajw];omega);have hcf:=Aag (l:=(blk b m).drop (4+n)) (by rw [Ajw];omega);rw [MK]at hcf;have hsub:4+n - Int.toNat 4=n:=by rw [show Int.toNat 4=4 from rfl];omega
      have ht:(List.drop (Int.toNat 4) (blk b m)).take (4+n - Int.toNat 4)=((blk b m).drop 4).take n:=by rw [hsub];rfl
      have htl:(((blk b m).drop 4).take n).length=n:=by rw [Ajd,Ajw];omega
      have hroom:Aa (d.length+(((blk b m).drop 4).take n).length) 1=true:=by rw [htl];simp only [Aa,decide_eq_true_eq];omega
      have hroom2:Aa (ch.length+([(m:Int)]:List Int).length) 8=true:=by simp only [Aa,decide_eq_true_eq,Ajh];omega
      have hlc:(((blk b m).length:Nat):Int)=128:=O
      rw [hlen];have j1:(0:Int)<=((4+n:Nat):Int):=O
      have j2:((4+n:Nat):Int)<=((128:Nat):Int):=O
      have j3:((128:Nat):Int)<=((128:Nat):Int):=O
      have j4:(0:Int)<=4:=O
      have j5:(4:Int)<=((4+n:Nat):Int):=O
      have k1:((n:Int) < 124)↔n < 124:=O
      have k2:((n:Int)=0)↔n=0:=O
      have k3:((ch.length:Int)=0)↔ch.length=0:=O
      simp only [iy j1,iy j2,iy j3,iy j4,iy j5,Ai5,htk,hcf,Ai3,ht,hroom,hroom2,Ajx,k1,k2,k3,decide_eq_true h82];have hz3:∀w:Bool,decide (n=0)=w\/decide (n=0) = !w:=by intro w;cases w <;> cases decide (n=0) <;> simp
      rcases hz3 true with hz | hz <;> rcases Alc (decide (ch.length=0))with hch | hch <;> rcases Alc (decide (n < 124))with hq | hq <;> cases hr:rz (blk b m) (4+n) <;> by_cases h0:num (blk b m) 1=0 <;>
       (first
        | (exfalso;simp only [decide_eq_true_eq,decide_eq_false_iff_not,AjW]at hz hq;omega)
        | simp only [h0,hz,hch,hq,hr,w4,iy j1,iy j2,iy j3,iy j4,iy j5,hlen,Ai5,Ai3,ht,hroom,hroom2,Ajx,AjL,AjW,AkY,Ajj,Akt,AkD,Ald,Alp,Bool.or_false,Bool.true_or,Akk,decide_true,decide_false,not_true_eq_false,not_false_eq_true,Ajl])
    .rw [iy h82,decide_eq_false h82];rfl
theorem AcD {b:Bls} {x y z:List Int} (h:SB b x y z) (g:RS b x y) {a:Int} (ha:¬ a=0) {d ch:List Int} (hd:d.length<=10000) (hc:ch.length<=9) :
  Dv (a,d,ch,b,x,y,z)=some (if rcC b x y a ch=true then .inl (num (blk b a.toNat) 1,d++rcO b a,ch++[a],b,x,y,z)else .inr (.inr false)):=by
 unfold Dv cK gX sX wI;dsimp only;rw [iy ha,Lb g,Ai3];cases hl:liv b x y a with
 | false=>unfold rcC;rw [hl];rfl
 | true=>
  obtain ⟨m,n,rfl,hm,hn,hn2⟩:=Z4 (z:=z) g ch hl;have hlen:=g.len hm.2;have hu:=g.hu _ (Bz hm.2);have hb:=Bo hm.2;unfold rcC rcO;rw [hl,Ai5];rw [Gw O,Ai3];by_cases hin:(m:Int)∈ch
  .rw [decide_eq_true hin];rfl
  .rw [decide_eq_false hin];by_cases h9:ch.length=9
   .rw [decide_eq_true (show(ch.length:Int)=9 by omega),decide_eq_true h9];rfl
   .rw [decide_eq_false (O:¬ (ch.length:Int)=9),decide_eq_false h9];have g3:(blk b m)[Int.toNat 3]?=some (n:Int):=by rw [<- hn];exact Ai O
    have g0:(blk b m)[Int.toNat 0]?=some (gb (blk b m) 0):=Ai O;have g1:(blk b m)[Int.toNat 1]?=some (gb (blk b m) 1):=Ai O;have g2:(blk b m)[Int.toNat 2]?=some (gb (blk b m) 2):=Ai O;have u1:=DG hu 1;have u2:=DG hu 2;have w1:IntKind.wrap .i64 (IntKind.wrap .i64 (IntKind.wrap .i64 (gb (blk b m) 1) * 256)+IntKind.wrap .i64 (gb (blk b m) 2))=num (blk b m) 1:=by
     rw [w64 (n:=gb (blk b m) 1) O O,w64 (n:=gb (blk b m) 1 * 256) O O,w64 (n:=gb (blk b m) 2) O O,w64 O O];rfl
    have w5:IntKind.wrap .i64 (n:Int)=(n:Int):=w64 O O;have w4:IntKind.wrap .i64 (4+(n:Int))=((4+n:Nat):Int):=by rw [w64 O O];omega
    rw [hn];simp only [Ai3,AjW,Ajl,AjL,Ajj,AkY];rw [iy (show(0:Int)<=(m:Int) by omega),Ai5,hb,Ai3,iy O,g1,Ai3,iy O,g2,Ai3,iy O,g3,Ai3,iy O,g0,Ai3,w1,w5,w4,Ai5];by_cases h82:gb (blk b m) 0=82
    .rw [ino (by simp [h82]),decide_eq_true h82];by_cases h124:(124:Int) < (n:Int)
     .rw [iy h124,decide_eq_true h124];rfl
     .rw [ino h124,decide_eq_false h124];have hcf:=Ow (c:=blk b m) (n:=4+n) O O;have hsub:4+n - Int.toNat 4=n:=by rw [show Int.toNat 4=4 from rfl];omega
      have ht:(List.drop (Int.toNat 4) (blk b m)).take (4+n - Int.toNat 4)=((blk b m).drop 4).take n:=by rw [hsub];rfl
      have htl:(((blk b m).drop 4).take n).length=n:=by rw [Ajd,Ajw];omega
      have hroom:Aa (d.length+(((blk b m).drop 4).take n).length) 1=true:=by rw [htl];simp only [Aa,decide_eq_true_eq];omega
      have hroom2:Aa (ch.length+([(m:Int)]:List Int).length) 8=true:=by simp only [Aa,decide_eq_true_eq,Ajh];omega
      rw [hcf];have j2:((4+n:Nat):Int)<=((128:Nat):Int):=O
      have j3:((128:Nat):Int)<=((128:Nat):Int):=O
      have j4:(0:Int)<=4:=O
      have j5:(4:Int)<=((4+n:Nat):Int):=O
      have k1:((n:Int)=124)↔¬ n < 124:=O
      have k4:((n:Int) < 124)↔n < 124:=O
      have k2:((n:Int)=0)↔n=0:=O
      have k3:((0:Int) < (ch.length:Int))↔¬ ch.length=0:=O
      simp only [k1,k2,k3,k4,Classical.not_not,decide_not,decide_eq_true h82];rcases Alc (decide (n=0))with hz | hz <;> rcases Alc (decide (ch.length=0))with hch | hch <;> rcases Alc (decide (n < 124))with hq | hq <;> cases hr:rz (blk b m) (4+n) <;> by_cases h0:num (blk b m) 1=0 <;>
       (first
        | (exfalso;simp only [decide_eq_true_eq,decide_eq_false_iff_not,AjW]at hz hq;omega)
        | simp only [h0,hz,hch,hq,hr,w4,iy j2,iy j3,iy j4,iy j5,hlen,Ai5,Ai3,ht,hroom,hroom2,Ajx,AjL,AjW,AkY,Ajj,Akt,AkD,Ald,Alp,Bool.or_false,Bool.true_or,Akk,decide_true,decide_false,not_true_eq_false,not_false_eq_true,Ajl])
    .rw [iy h82,decide_eq_false h82];rfl
theorem SY {b:Bls} {x y:List Int} {a:Int} {ch:List Int} (h:rcC b x y a ch=true):(rcO b a).length<=124:=by
 unfold rcC at h;simp only [Aja,Ajg,decide_eq_false_iff_not]at h;unfold rcO;rw [Ajd];have:=h.2.2.2.2.1;omega
theorem AeM {b:Bls} {x y:List Int} {a:Int} {ch:List Int} (h:rcC b x y a ch=true):¬ a=0:=by
 unfold rcC at h;rw [Aja]at h;obtain ⟨m,rfl,h1,_⟩:=Cj h.1;omega
theorem Z0 {b:Bls} {x y:List Int} {a:Int} {ch:List Int} (h:rcC b x y a ch=true):¬ ch.length=9:=by
 unfold rcC at h;simp only [Aja,Ajg,decide_eq_false_iff_not]at h;exact h.2.2.1
theorem Uf {b:Bls} {x y z:List Int} (g:RS b x y):∀(f:Nat) (a:Int) (d ch:List Int),d.length<=124 * ch.length->ch.length+f=10->ch.length<=9->
  Ab Ew ((b,x,y,z),a,d,ch)=some (rcA (rcN b x y f a d ch))
 | 0,a,d,ch,hd,hf,hc=>by omega
 | f+1,a,d,ch,hd,hf,hc=>by
  rw [AE,Abr g a O hc];unfold rcN;by_cases h:rcC b x y a ch=true
  .rw [Ai9 h,Ai9 h];have h9:=Z0 h;have h1:=SY h;by_cases h0:num (blk b a.toNat) 1=0
   .rw [Ai9 h0,Ai9 h0];rfl
   .rw [Ai8 h0,Ai8 h0];exact Uf g f _ _ _ (by simp only [Ajb,Ajh];omega) (by simp only [Ajb,Ajh];omega) (by simp only [Ajb,Ajh];omega)
  .rw [Ai8 h,Ai8 h];rfl
theorem Yp {b:Bls} {x y z:List Int} (g:RS b x y) (a:Int):GP (b,x,y,z) a=some (rcA (rcd b x y a)):=by
 unfold GP rcd;rw [Uf (z:=z) g 10 a [] [] Z rfl Z];rfl
theorem UA {b:Bls} {x y z:List Int} (h:SB b x y z) (g:RS b x y):∀(f:Nat) (a:Int) (d ch:List Int),d.length<=124 * ch.length->ch.length+f=10->ch.length<=9->¬ a=0->
  Ab Dv (a,d,ch,b,x,y,z)=some (match rcN b x y f a d ch with | some p=>.inl p | none=>.inr false)
 | 0,a,d,ch,hd,hf,hc,ha=>by omega
 | f+1,a,d,ch,hd,hf,hc,ha=>by
  rw [AE,AcD h g ha O hc];unfold rcN;by_cases hC:rcC b x y a ch=true
  .rw [Ai9 hC,Ai9 hC];have h9:=Z0 hC;have h1:=SY hC;by_cases h0:num (blk b a.toNat) 1=0
   .rw [Ai9 h0,h0];dsimp only;rw [AE];unfold Dv cK gX sX wI;dsimp only;rw [ino Z]
   .rw [Ai8 h0];exact UA h g f _ _ _ (by simp only [Ajb,Ajh];omega) (by simp only [Ajb,Ajh];omega) (by simp only [Ajb,Ajh];omega) h0
  .rw [Ai8 hC,Ai8 hC]
theorem AcL {b:Bls} {x y:List Int}:∀(f:Nat) (a:Int) (d ch:List Int) {p:List Int×List Int},rcN b x y f a d ch=some p->ch.length < p.2.length
 | 0,_,_,_,p,h=>by cases h
 | f+1,a,d,ch,p,h=>by
  unfold rcN at h;split at h
  .split at h
   .injection h with h;subst h;simp
   .have:=AcL f _ _ _ h;simp only [Ajb,Ajh]at this;omega
  .cases h
theorem XZ {b:Bls} {x y z:List Int} (h:SB b x y z) (g:RS b x y) (a:Int):J4 b x y z a=some (rcA (rcd b x y a)):=by
 unfold J4;by_cases ha:a=0
 .subst ha;rw [AE];have e1:Dv (0,[],[],b,x,y,z)=some (.inr (.inl ([],[]))):=by
   unfold Dv cK gX sX wI;dsimp only;rw [ino Z]
  rw [e1];have:rcd b x y 0=none:=by
   unfold rcd rcN;rw [Ai8 (λq=>AeM q rfl)]
  rw [this];rfl
 .rw [UA h g 10 a [] [] Z rfl Z ha];unfold rcd;cases e:rcN b x y 10 a [] []with
  | none=>rfl
  | some p=>
   have:=AcL _ _ _ _ e;simp only [Ai3];rw [decide_eq_true (show(0:Int) < (p.2.length:Int) by simp only [AjC]at this;omega)];rfl
end Go.V.G
set_option maxRecDepth 100000
namespace Go.V.G
open Go.V
def vl (b:Bls) (top:List Int) (k:Nat):Int:=gb (lfv b (gb top (k / 32))) (k % 32)
theorem Pr {b:Bls} {top:List Int} (ht:top.length=32) (root:Int) {k:Nat} (hk:k < 1024):ED root top (top.map (lfv b)) (k:Int)=some (vl b top k):=by
 obtain ⟨e1,e2⟩:=AfP (n:=(k:Int)) O;obtain ⟨e3,_⟩:=Afu (n:=(k:Int)) O;rw [Ai5]at e1 e2 e3;unfold ED cK gX wI;rw [iy O,e1,iy O,Ai5,AjI,Ai O,Aj0,Ai3,iy O,e3,iy O,Ai5,Ai (by rw [Zx];omega),Ai3];rfl
def ksT (b:Bls) (top:List Int) (n:Nat):List Kv:=((List.range n).filter λk=>decide (¬ vl b top k=0)).map λk=>(((k:Nat):Int),vl b top k)
theorem PV (b:Bls) (top:List Int) (n:Nat):(ksT b top n).length<=n:=by
 unfold ksT;rw [AjA];exact AjF (Akm _ _) Z
theorem Nr (b:Bls) (top:List Int) (n:Nat):ksT b top (n+1)=ksT b top n++(if vl b top n=0 then []else [((n:Int),vl b top n)]):=by
 unfold ksT;rw [AkL,Akz,AjM];by_cases h:vl b top n=0 <;> simp [h]
theorem Aaq {b:Bls} {top:List Int} (ht:top.length=32) (root:Int):Jg root top (top.map (lfv b))=some (ksT b top 1024):=by
 unfold Jg;have h:=An EY (λk=>(ksT b top k,((k:Nat):Int),root,top,top.map (lfv b))) 1024 (ksT b top 1024) (λk hk=>by
  have hl:=PV b top k;unfold EY cK wI;dsimp only;rw [iy O,Pr ht root hk,Ai3,Nr];by_cases hz:vl b top k=0
  .rw [ino (by simp [hz]),Ai3,Ai9 hz,Ajk,Al O]
  .rw [iy hz,Ai9 (by simp only [Aa,decide_eq_true_eq,Ajh];omega),Ai3,Ai8 hz,Al O]) (by
  unfold EY cK wI;dsimp only;rw [ino O])
 rw [show Ab EY ([],0,root,top,top.map (lfv b))=_ from h];rfl
def kL (b:Bls) (top:List Int) (k m:Nat):List Kv:=((List.range m).filter λi=>decide (¬ gb (lfs b (gb top k)) i=0)).map λi=>(((32 * k+i:Nat):Int),gb (lfs b (gb top k)) i)
theorem SN (b:Bls) (top:List Int) (k m:Nat):kL b top k (m+1)=kL b top k m++(if gb (lfs b (gb top k)) m=0 then []else [(((32 * k+m:Nat):Int),gb (lfs b (gb top k)) m)]):=by
 unfold kL;rw [AkL,Akz,AjM];by_cases h:gb (lfs b (gb top k)) m=0 <;> simp [h]
theorem Aby (b:Bls) (top:List Int) (k m:Nat):(kL b top k m).length<=m:=by
 unfold kL;rw [AjA];exact AjF (Akm _ _) Z
theorem ZB (b:Bls) (a:Int):(lfs b a).length<=32:=by
 unfold lfs;split
 .simp
 .rw [E8];exact AjB _
def kS (b:Bls) (top:List Int) (n:Nat):List Kv:=(List.range n).flatMap λk=>kL b top k (lfs b (gb top k)).length
theorem Ts (b:Bls) (top:List Int) (n:Nat):kS b top (n+1)=kS b top n++kL b top n (lfs b (gb top n)).length:=by
 unfold kS;rw [AkL,Akn];simp
theorem Abp (b:Bls) (top:List Int):∀n,(kS b top n).length<=32 * n
 | 0=>by simp [kS]
 | n+1=>by
  rw [Ts,Ajb];have h1:=Abp b top n;have h2:=Aby b top n (lfs b (gb top n)).length;have h3:=ZB b (gb top n);omega
theorem Ags {b:Bls} {top:List Int} {k i:Nat} (hi:i < 32):vl b top (32 * k+i)=gb (lfs b (gb top k)) i:=by
 unfold vl;rw [show(32 * k+i) / 32=k by omega,show(32 * k+i) % 32=i by omega];unfold lfv lfs;split
 .unfold gb zer;rw [List.getElem?_replicate_of_lt hi];simp
 .rfl
theorem Uu (b:Bls) (top:List Int) (n:Nat):∀m,m<=32->ksT b top (32 * n+m)=ksT b top (32 * n)++kL b top n m
 | 0,_=>by simp [kL]
 | m+1,h=>by
  rw [(O:32 * n+(m+1)=32 * n+m+1),Nr,Uu b top n m O,SN,Ajf,Ags O]
theorem Af7 (b:Bls) (top:List Int) (k:Nat):kL b top k 32=kL b top k (lfs b (gb top k)).length:=by
 by_cases h:gb top k=0
 .have e:lfs b (gb top k)=[]:=by unfold lfs;rw [Ai9 h]
  have:∀m,kL b top k m=[]:=by
   intro m
   induction m with
   | zero=>rfl
   | succ m ih=>rw [SN,ih,e];simp [gb]
  rw [this,this]
 .have e:(lfs b (gb top k)).length=32:=by unfold lfs;rw [Ai8 h,E8]
  rw [e]
theorem Abw (b:Bls) (top:List Int):∀n,kS b top n=ksT b top (32 * n)
 | 0=>rfl
 | n+1=>by rw [Ts,Abw b top n,(O:32 * (n+1)=32 * n+32),Uu b top n 32 O,Af7]
theorem Ach {b:Bls} {x y z top:List Int} {root:Int} (h:SB b x y z) (hg:gsp b x y z=true) (hu:∀c∈b,U8s c) (ht:tre b x y root=some top):Nw b x y z root=some (ksT b top 1024,true):=by
 have hl:=HR ht;have gs:=Sr hg;unfold Nw;rw [Hm h hu,hg,ht,Ai3];simp only [Option.isSome_some,Bool.and_self,AjW,Ajl,AjL];rw [OF (gs.rs h hu),ht,Ai3];dsimp only [trS];have h2:=An GX (λk=>(kS b top k,top.map (lfs b),((32:Nat):Int),((k:Nat):Int))) 32 (kS b top 32) (λk hk=>by
  have hgk:(top.map (lfs b))[k]?=some (lfs b (gb top k)):=by rw [AjI,Ai O];rfl
  have hll:=ZB b (gb top k);have h1:=An G8 (λi=>(kS b top k++kL b top k i,(k:Int),top.map (lfs b),((32:Nat):Int),(k:Int),((0+Int.toNat (k:Int):Nat):Int),(((lfs b (gb top k)).length:Nat):Int),((i:Nat):Int))) (lfs b (gb top k)).length (kS b top (k+1),top.map (lfs b),((32:Nat):Int),(k:Int)) (λi hi=>by
   have hkl:=Aby b top k i;have hks:=Abp b top k;have ew:IntKind.wrap .i64 ((IntKind.wrap .i64 (32 * (k:Int)))+(i:Int))=((32 * k+i:Nat):Int):=by rw [w64 (n:=32 * (k:Int)) O O,w64 O O];omega
   unfold G8 cK cZ wI;dsimp only;rw [iy O,iy O,Ai5,Ai5,Ajv,hgk,Ai3,iy O,Ai3,Ai5,Ajv,Ai hi,Ai3,ew,SN];by_cases hz:gb (lfs b (gb top k)) i=0
   .rw [ino (by simp [hz]),Ai3,Ai9 hz,Ajk];dsimp only;rw [Al O,Ai5]
   .rw [iy hz,Ai9 (by simp only [Aa,decide_eq_true_eq,Ajh,Ajb];omega),Ai3,Ai8 hz];dsimp only;rw [Al O,Ai5,Ajf]) (by
   unfold G8 cK cZ wI;dsimp only;rw [ino O,Ts])
  have e0:kS b top k++kL b top k 0=kS b top k:=by simp [kL]
  rw [e0]at h1;unfold GX cK cZ wI;dsimp only;rw [iy O,iy O,iy (by rw [AjA];omega),Ai5,Ajv,hgk,Ai3,Ai3];rw [show Ab G8 (kS b top k,(k:Int),top.map (lfs b),((32:Nat):Int),(k:Int),(k:Int),(((lfs b (gb top k)).length:Nat):Int),0)=some (kS b top (k+1),top.map (lfs b),((32:Nat):Int),(k:Int)) by
   rw [Ai5,Ajv]at h1;exact h1,Ai3]
  dsimp only;rw [Al O]) (by
  unfold GX cK cZ wI;dsimp only;rw [ino O])
 rw [AjA,hl,show Ab GX ([],top.map (lfs b),((32:Nat):Int),0)=_ from h2,Ai3,Abw]
theorem Aey {l:List Kv} (hl:l.length<=1048576) (key:Int) (a1 a2 a3 a4 a5:Int) (b:Bls) (x y z:List Int) (f:Int) (t:List UInt8) (r:List (Int×Int)) (cs:List (List Prt)) (rc:List Int) :
  DH a1 a2 a3 a4 a5 b x y z l f t r cs rc key=some (((l.find? λp=>decide (p.1=key)).map (·.2)).getD 0):=by
 unfold DH;rcases BQ D6 (λi=>(key,l,(l.length:Int),((i:Nat):Int))) (λi=>!decide ((sg l i).1=key)) (λi=>(sg l i).2) () l.length (λi hi=>by
  unfold D6 gX wI;dsimp only;rw [iy O,iy O,Ai5,IV hi,Ai3,Al O];by_cases h:(sg l i).1=key <;> simp [h]) (by
  unfold D6 gX wI;dsimp only;rw [ino O])with⟨ha,h⟩ | ⟨k,hk,hp,ha,h⟩
 .rw [show Ab D6 (key,l,(l.length:Int),0)=_ from h];have:l.find? (λp=>decide (p.1=key))=none:=by
   rw [List.find?_eq_none];intro p hp;obtain ⟨i,hi,rfl⟩:=AjH hp;have h1:=ha i hi;have h2:=IV hi;rw [Ai6 hi]at h2;injection h2 with h2
   rw [h2];simpa using h1
  rw [this];rfl
 .rw [show Ab D6 (key,l,(l.length:Int),0)=_ from h];have:l.find? (λp=>decide (p.1=key))=some (sg l k):=by
   rw [List.find?_eq_some_iff_getElem];have h2:=IV hk;rw [Ai6 hk]at h2;injection h2 with h2
   refine⟨by simpa using hp,k,hk,h2,λj hj=>?_⟩;have h3:=IV (O:j < l.length);rw [Ai6 (O:j < l.length)]at h3;injection h3 with h3
   rw [h3];exact ha j hj
  rw [this];rfl
theorem WZ (b:Bls) (top:List Int) (key:Nat):∀n,((ksT b top n).find? λp=>decide (p.1=(key:Int)))=if key < n/\¬ vl b top key=0 then some ((key:Int),vl b top key)else none
 | 0=>by simp [ksT]
 | n+1=>by
  rw [Nr,List.find?_append,WZ b top key n];by_cases hn:key=n
  .subst hn;rw [Ai8 O];by_cases hz:vl b top key=0
   .rw [Ai9 hz,Ai8 (λq=>q.2 hz)];rfl
   .rw [Ai8 hz,Ai9 ⟨O,hz⟩];simp
  .have hne:¬ (n:Int)=(key:Int):=O
   have e:List.find? (λp:Kv=>decide (p.1=(key:Int))) (if vl b top n=0 then []else [((n:Int),vl b top n)])=none:=by
    split
    .rfl
    .rw [List.find?_cons];simp [hne]
   rw [e,Option.or_none];by_cases hk:key < n/\¬ vl b top key=0
   .rw [Ai9 hk,Ai9 ⟨O,hk.2⟩]
   .rw [Ai8 hk,Ai8 (λq=>hk ⟨O,q.2⟩)]
theorem Ahc (b:Bls) (top:List Int) {key:Nat} (hk:key < 1024):(((ksT b top 1024).find? λp=>decide (p.1=(key:Int))).map (·.2)).getD 0=vl b top key:=by
 rw [WZ];by_cases h:vl b top key=0
 .rw [Ai8 (λq=>q.2 h),h];rfl
 .rw [Ai9 ⟨hk,h⟩];rfl
end Go.V.G
set_option maxRecDepth 100000
namespace Go.V.G
open Go.V
def skn (f k n:Nat):List (Int×Int):=((List.range n).filter λi=>decide (f<=i * 2 ^ k)).map λi=>((k:Int),((i:Nat):Int))
def stk (f h:Nat):Nat->List (Int×Int)
 | 0=>[]
 | k+1=>stk f h k++skn f k (h / 2 ^ k)
def sts (f h:Nat):List (Int×Int):=stk f h 6
theorem I3 (f k n:Nat):skn f k (n+1)=skn f k n++(if f<=n * 2 ^ k then [((k:Int),(n:Int))]else []):=by
 unfold skn;rw [AkL,Akz,AjM];by_cases h:f<=n * 2 ^ k <;> simp [h]
theorem SJ (f k n:Nat):(skn f k n).length<=n:=by
 unfold skn;rw [AjA];exact AjF (Akm _ _) Z
theorem PY (f h:Nat):∀k,(stk f h k).length<=k * h
 | 0=>by simp [stk]
 | k+1=>by
  unfold stk;rw [Ajb,Ak4];have h1:=PY f h k;have h2:=SJ f k (h / 2 ^ k);have h3:=Aln h (2 ^ k);omega
theorem NC (f k:Nat):∀n,n<=(f+2 ^ k - 1) / 2 ^ k->skn f k n=[]
 | 0,_=>rfl
 | n+1,hn=>by
  rw [I3,NC f k n O,Ai8,Ajk];have hp:0 < 2 ^ k:=AkG Z;have:=(Nat.le_div_iff_mul_le hp).1 hn;rw [Ak4]at this;omega
theorem AeU {f k n:Nat} (hn:(f+2 ^ k - 1) / 2 ^ k<=n):f<=n * 2 ^ k:=by
 have hp:0 < 2 ^ k:=AkG Z;have:¬ n+1<=(f+2 ^ k - 1) / 2 ^ k:=O
 rw [Nat.le_div_iff_mul_le hp,Ak4]at this;omega
theorem AaP:∀{k:Nat},k < 6->(2:Int) ^ (min (Int.toNat (k:Int)) (IntKind.bits .i64))=((2 ^ k:Nat):Int)/\2 ^ k<=32/\(2:Int) ^ (min (Int.toNat (IntKind.wrap .u64 (k:Int))) (IntKind.bits .i64))=((2 ^ k:Nat):Int)/\IntKind.wrap .u64 (k:Int)=(k:Int)
 | 0,_=>by decide
 | 1,_=>by decide
 | 2,_=>by decide
 | 3,_=>by decide
 | 4,_=>by decide
 | 5,_=>by decide
 | k+6,h=>by omega
theorem NV {k i:Nat} (hk:k < 6) (hi:i<=1000):IntKind.wrap .i64 ((i:Int) * (2:Int) ^ (min (Int.toNat (k:Int)) (IntKind.bits .i64)))=((i * 2 ^ k:Nat):Int):=by
 obtain ⟨h1,h2,_⟩:=AaP hk;rw [h1,<- Int.natCast_mul];have:i * 2 ^ k<=1000 * 32:=Nat.mul_le_mul hi h2;rw [w64 O O]
theorem lt_dv {h k i:Nat}:(i+1) * 2 ^ k<=h↔i < h / 2 ^ k:=by
 have hp:0 < 2 ^ k:=AkG Z;rw [<- Nat.le_div_iff_mul_le hp];omega
theorem NR {f h:Nat} (hh:h<=60):Kh (f:Int) (h:Int)=some (sts f h):=by
 unfold Kh;have h2:=An Iu (λk=>((f:Int),(h:Int),stk f h k,((k:Nat):Int))) 6 (sts f h) (λk hk=>by
  obtain ⟨p1,p2,p3,p4⟩:=AaP hk;have hp:0 < 2 ^ k:=AkG Z;have hdl:=Aln h (2 ^ k);have hsk:=PY f h k;have hkh:k * h<=6 * 60:=Nat.mul_le_mul O hh;have h1:=An H7 (λi=>((f:Int),(h:Int),stk f h k++skn f k i,(k:Int),((i:Nat):Int))) (h / 2 ^ k) ((f:Int),(h:Int),stk f h (k+1),(k:Int)) (λi hi=>by
   have hl:=SJ f k i;have hm:=(lt_dv (h:=h) (k:=k) (i:=i)).2 hi;unfold H7 cK cZ wI;dsimp only;rw [p4,iy O,Al O,NV hk O,iy O,iy O,NV hk O];by_cases hz:f<=i * 2 ^ k
   .rw [iy O,Ai9 (by simp only [Aa,decide_eq_true_eq,Ajh,Ajb];omega),Ai3,I3,Ai9 hz,Ajf];dsimp only;rw [Al O]
   .rw [ino O,Ai3,I3,Ai8 hz,Ajk];dsimp only;rw [Al O]) (by
   have hm:¬ (h / 2 ^ k+1) * 2 ^ k<=h:=λq=>Nat.lt_irrefl _ (lt_dv.1 q)
   unfold H7 cK cZ wI;dsimp only;rw [p4,iy O,Al O,NV hk O,ino O];rfl)
  have e0:stk f h k++skn f k 0=stk f h k:=by simp [skn]
  rw [e0]at h1;unfold Iu wI;dsimp only;rw [iy O,show Ab H7 ((f:Int),(h:Int),stk f h k,(k:Int),0)=_ from h1,Ai3];dsimp only;rw [Al O]) (by
  unfold Iu wI;dsimp only;rw [ino O];rfl)
 rw [show Ab Iu ((f:Int),(h:Int),[],0)=_ from h2];rfl
theorem SK {f h:Nat} (hf:f<=h) (hh:h<=60):Jk (f:Int) (h:Int)=some (sts f h):=by
 unfold Jk;have h2:=An EP (λk=>((f:Int),(h:Int),stk f h k,((k:Nat):Int))) 6 (sts f h) (λk hk=>by
  obtain ⟨p1,p2,p3,p4⟩:=AaP hk;have hp:0 < 2 ^ k:=AkG Z;have hdl:=Aln h (2 ^ k);have hsk:=PY f h k;have hkh:k * h<=6 * 60:=Nat.mul_le_mul O hh;have he0:(f+2 ^ k - 1) / 2 ^ k<=f+2 ^ k - 1:=Aln _ _;have h1:=An Gx (λj=>((f:Int),(h:Int),stk f h k++skn f k ((f+2 ^ k - 1) / 2 ^ k+j),(k:Int),(((f+2 ^ k - 1) / 2 ^ k+j:Nat):Int),(k:Int))) (h / 2 ^ k - (f+2 ^ k - 1) / 2 ^ k) ((f:Int),(h:Int),stk f h (k+1),(k:Int)) (λj hj=>by
   have hl:=SJ f k ((f+2 ^ k - 1) / 2 ^ k+j);have hm:=(lt_dv (h:=h) (k:=k) (i:=(f+2 ^ k - 1) / 2 ^ k+j)).2 O;unfold Gx cK cZ wI;dsimp only;rw [iy O,Al O,NV hk O,iy O,Ai9 (by simp only [Aa,decide_eq_true_eq,Ajh,Ajb];omega),<- Akl,I3,Ai9 (AeU O),Ajf]) (by
   have hm:¬ ((f+2 ^ k - 1) / 2 ^ k+(h / 2 ^ k - (f+2 ^ k - 1) / 2 ^ k)+1) * 2 ^ k<=h:=λq=>by have:=lt_dv.1 q;omega
   have es:skn f k ((f+2 ^ k - 1) / 2 ^ k+(h / 2 ^ k - (f+2 ^ k - 1) / 2 ^ k))=skn f k (h / 2 ^ k):=by
    by_cases hq:(f+2 ^ k - 1) / 2 ^ k<=h / 2 ^ k
    .rw [show(f+2 ^ k - 1) / 2 ^ k+(h / 2 ^ k - (f+2 ^ k - 1) / 2 ^ k)=h / 2 ^ k by omega]
    .rw [NC f k _ O,NC f k _ O]
   unfold Gx cK cZ wI;dsimp only;rw [iy O,Al O,NV hk O,ino O,es];rfl)
  rw [Akw,NC f k _ (AjB _),Ajk]at h1;have e1:IntKind.wrap .i64 (1 * ((2 ^ k:Nat):Int))=((2 ^ k:Nat):Int):=by rw [Int.one_mul,w64 O O]
  have e2:IntKind.wrap .i64 ((f:Int)+((2 ^ k:Nat):Int))=((f+2 ^ k:Nat):Int):=by rw [w64 O O];omega
  have e3:IntKind.wrap .i64 (((f+2 ^ k:Nat):Int) - 1)=((f+2 ^ k - 1:Nat):Int):=by rw [w64 O O];omega
  unfold EP cZ wI;dsimp only;rw [iy O,iy O,iy O,p1,e1,e2,e3,Ak7 _ O,<- Int.natCast_ediv,h1,Ai3];dsimp only;rw [Al O]) (by
  unfold EP cZ wI;dsimp only;rw [ino O];rfl)
 rw [show Ab EP ((f:Int),(h:Int),[],0)=_ from h2];rfl
def ky (s:Int×Int):Nat:=64 * s.1.toNat+s.2.toNat
structure St8 (f h:Nat) (s:Int×Int) (k i:Nat):Prop where
 e:s=((k:Int),(i:Int))
 hk:k < 6
 lo:f<=i * 2 ^ k
 hi:(i+1) * 2 ^ k<=h
theorem skn_mem {f k n:Nat} {s:Int×Int}:s∈skn f k n↔∃i,i < n/\f<=i * 2 ^ k/\s=((k:Int),((i:Nat):Int)):=by
 unfold skn;simp only [Ajq,AkT,AkJ,decide_eq_true_eq];constructor
 .rintro ⟨i,⟨h1,h2⟩,rfl⟩;exact⟨i,h1,h2,rfl⟩
 .rintro ⟨i,h1,h2,rfl⟩;exact⟨i,⟨h1,h2⟩,rfl⟩
theorem ZG {f h:Nat} {s:Int×Int}:∀{n:Nat},s∈stk f h n↔∃k i,k < n/\i < h / 2 ^ k/\f<=i * 2 ^ k/\s=(((k:Nat):Int),((i:Nat):Int))
 | 0=>by simp [stk]
 | n+1=>by
  unfold stk;rw [Ajc,ZG,skn_mem];constructor
  .rintro (⟨k,i,h1,h2⟩ | ⟨i,h1,h2⟩)
   .exact⟨k,i,O,h2⟩
   .exact⟨n,i,O,h1,h2⟩
  .rintro ⟨k,i,h1,h2⟩;by_cases hk:k=n
   .subst hk;exact .inr ⟨i,h2⟩
   .exact .inl ⟨k,i,O,h2⟩
theorem sts_mem {f h:Nat} {s:Int×Int}:s∈sts f h↔∃k i,St8 f h s k i:=by
 unfold sts;rw [ZG];constructor
 .rintro ⟨k,i,h1,h2,h3,h4⟩;exact⟨k,i,h4,h1,h3,lt_dv.2 h2⟩
 .rintro ⟨k,i,h⟩;exact⟨k,i,h.hk,lt_dv.1 h.hi,h.lo,h.e⟩
theorem St8.lt {f h k i:Nat} {s:Int×Int} (g:St8 f h s k i) (hh:h<=60):i < 60/\ky s=64 * k+i/\64 * k+i < 384:=by
 have h1:=lt_dv.1 g.hi;have h2:=Aln h (2 ^ k);have h3:=g.hk;refine⟨O,?_,O⟩;unfold ky;rw [g.e];simp
theorem Sn (a b c:Int):Bw a b c=some (decide (b<=a) && decide (a<=c)):=by
 unfold Bw;by_cases h:b<=a <;> simp [h]
theorem J7 {k i:Nat} (hk:k < 6) (hi:i < 64):FM (k:Int) (i:Int)=some ((64 * k+i:Nat):Int):=by
 unfold FM wI;rw [Sn,Ai3,decide_eq_true (show(0:Int)<=(k:Int) by omega),decide_eq_true (show(k:Int)<=5 by omega),Sn,Ai3,decide_eq_true (show(0:Int)<=(i:Int) by omega),decide_eq_true (show(i:Int)<=63 by omega)];simp only [Bool.and_self,AjW,Ajl,AjL,Ai3];rw [w64 (n:=64 * (k:Int)) O O,w64 O O]
 congr 1
theorem AaN {k i:Nat} (hk:k < 6) (hi:i < 64):Mx (k:Int) (i:Int)=some ((64 * k+i:Nat):Int):=by
 unfold Mx wI;rw [AI,Ai3,decide_eq_true (show(0:Int)<=(k:Int)/\(k:Int)<=5 by omega),AI,Ai3,decide_eq_true (show(0:Int)<=(i:Int)/\(i:Int)<=63 by omega)];simp only [Bool.and_self,AjW,Ajl,AjL,Ai3];rw [w64 (n:=64 * (k:Int)) O O,w64 O O]
 congr 1
theorem AbY {k i:Nat} (hk:k < 6) (hi:i < 64):EE (k:Int) (i:Int)=some ((i * 2 ^ k:Nat):Int):=by
 unfold EE cZ wI;rw [iy O,NV hk O]
theorem Afc {k i:Nat} (hk:k < 6) (hi:i < 64):Gm (k:Int) (i:Int)=some (((i+1) * 2 ^ k:Nat):Int):=by
 unfold Gm cZ wI;rw [iy O,Al O,NV hk O]
def ckn (f e n:Nat):List Nat:=((List.range n).map (f+1 + ·)).filter λr=>decide (r % e=0)
theorem QM (f e n:Nat):ckn f e (n+1)=ckn f e n++(if(f+1+n) % e=0 then [f+1+n]else []):=by
 unfold ckn;rw [AkL,AjM,Akz];by_cases h:(f+1+n) % e=0 <;> simp [h]
theorem P1 (f e n:Nat):(ckn f e n).length<=n:=by
 unfold ckn;exact AjF (Akm _ _) Z
def cks (f h e:Nat):List Nat:=ckn f e (h - f)
theorem cks_mem {f h e r:Nat}:r∈cks f h e↔f < r/\r<=h/\r % e=0:=by
 unfold cks ckn;simp only [AkT,Ajq,AkJ,decide_eq_true_eq];constructor
 .rintro ⟨⟨a,h1,rfl⟩,h2⟩;exact⟨O,O,h2⟩
 .rintro ⟨h1,h2,h3⟩;exact⟨⟨r - (f+1),O,O⟩,h3⟩
theorem VV {a e:Nat}:Int.tmod (a:Int) (e:Int)=((a % e:Nat):Int):=by
 rw [AkE O];rfl
theorem Yh {f h e:Nat} (hf:f<=h) (hh:h<=60) (he:0 < e) (he2:e<=30):ND (f:Int) (h:Int) (e:Int)=some ((cks f h e).map λr=>((r:Nat):Int)):=by
 unfold ND wI;have h2:=An Hc (λn=>((h:Int),(e:Int),(ckn f e n).map (λr=>((r:Nat):Int)),((f+1+n:Nat):Int))) (h - f) ((cks f h e).map λr=>((r:Nat):Int)) (λn hn=>by
  have hl:=P1 f e n;unfold Hc cK wI;dsimp only;rw [iy O,iy O,VV,QM];by_cases hz:(f+1+n) % e=0
  .rw [iy O,Ai9 (by simp only [Aa,decide_eq_true_eq,Ajh,AjA];omega),Ai3,Ai9 hz,AjM];dsimp only;rw [Al O];rfl
  .rw [ino O,Ai3,Ai8 hz,Ajk];dsimp only;rw [Al O];rfl) (by
  unfold Hc cK wI;dsimp only;rw [ino O];rfl)
 rw [Al O,show Ab Hc ((h:Int),(e:Int),[],((f+1:Nat):Int))=_ from h2];rfl
end Go.V.G
set_option maxRecDepth 100000
namespace Go.V.G
open Go.V
theorem Afx:Ris ([]:List Int):=by rw [ris_iff];exact List.Pairwise.nil
noncomputable abbrev srt (l:List Int):List Int:=pts [] l
theorem Jp {l:List Int} (h:l.length<=1000000):Ris (srt l)/\(srt l).length<=l.length/\∀v,v∈srt l↔v∈l:=by
 obtain ⟨h1,h2,h3⟩:=Acm Afx (l:=l) (by simp only [AjC];omega);refine⟨h1,by simpa using h2,λv=>by rw [h3 v];simp⟩
theorem FI {l:List Int} (h:l.length<=1000000) (v:Int):C3 (srt l) v=some (srt (l++[v]))/\HK (srt l) v=some (srt (l++[v])):=by
 obtain ⟨h1,h2,h3⟩:=Jp h;obtain ⟨p1,p2,_⟩:=LS (z:=srt l) O h1 v;have e:srt (l++[v])=pt (srt l) v:=AdW [] l v;rw [e];exact⟨p1,p2⟩
theorem Sg {l:List Int} {i:Nat} {v:Int} (h:l[i]?=some v):(l.take (i+1)).filter (λv=>decide (¬ v=0))=(l.take i).filter (λv=>decide (¬ v=0))++(if v=0 then []else [v]):=by
 rw [CN h,Akz];by_cases h0:v=0 <;> simp [h0]
def pgl (top:List Int) (root:Int):List Int:=(top++[root]).filter (λv=>decide (¬ v=0))
theorem Zw {top:List Int} {root:Int} (h:top.length=32):(pgl top root).length<=33:=by
 unfold pgl;have:=Akm (λv=>decide (¬ v=0)) (top++[root]);rw [Ajb,Ajh,h]at this;omega
theorem Adi {b:Bls} {x y z top:List Int} {root:Int} (h:SB b x y z) (hu:∀c∈b,U8s c) (hg:gsp b x y z=true) (ht:tre b x y root=some top):LO b x y z root=some (srt (pgl top root),true):=by
 have htl:=HR ht;unfold LO pgl cK;rw [Hm h hu,hg,ht,Ai3,Ai8 Z,OF ((Sr hg).rs h hu),ht,Ai3];unfold trS;dsimp only;rw [Ai9 (YY O _)];generalize hL:top++[root]=L;have hLl:L.length=33:=by rw [<- hL];simp [htl]
 have hl:=An F8 (λi=>(srt ((L.take i).filter (λv=>decide (¬ v=0))),L,(L.length:Int),((i:Nat):Int))) L.length (srt ((L.take L.length).filter (λv=>decide (¬ v=0)))) (λi hi=>by
  have hgi:=Ai hi;have hfl:=Akm (λv=>decide (¬ v=0)) (L.take i);rw [Ajd]at hfl;have hput:=(FI (l:=(L.take i).filter (λv=>decide (¬ v=0))) O (gb L i)).1;unfold F8 cK cZ wI;dsimp only;rw [iy O,iy O,iy O,Ajv,Ai5,hgi,Ai3,Sg hgi];by_cases h0:gb L i=0
  .rw [ino (not_not_intro h0),Ai3,Ai9 h0,Ajk];dsimp only;rw [Al O]
  .rw [iy h0,hput,Ai3,Ai3,Ai8 h0];dsimp only;rw [Al O]) (by
  unfold F8 cK cZ wI;dsimp only;rw [ino O])
 rw [show Ab F8 ([],L,(L.length:Int),0)=_ from hl,AjT];rfl
theorem Aea {top:List Int} (htl:top.length=32) (root:Int) (v:List (List Int)):H5 root top v=some (srt (pgl top root)):=by
 unfold H5 pgl cK;rw [AaD O,Ai3,Ai9 (YY O _)];generalize hL:top++[root]=L;have hLl:L.length=33:=by rw [<- hL];simp [htl]
 have hl:=An Eb (λi=>(srt ((L.take i).filter (λv=>decide (¬ v=0))),L,(L.length:Int),((i:Nat):Int))) L.length (srt ((L.take L.length).filter (λv=>decide (¬ v=0)))) (λi hi=>by
  have hgi:=Ai hi;have hfl:=Akm (λv=>decide (¬ v=0)) (L.take i);rw [Ajd]at hfl;have hput:=(FI (l:=(L.take i).filter (λv=>decide (¬ v=0))) O (gb L i)).2;unfold Eb cK cZ wI;dsimp only;rw [iy O,iy O,iy O,Ajv,Ai5,hgi,Ai3,Sg hgi];by_cases h0:gb L i=0
  .rw [ino (not_not_intro h0),Ai3,Ai9 h0,Ajk];dsimp only;rw [Al O]
  .rw [iy h0,hput,Ai3,Ai3,Ai8 h0];dsimp only;rw [Al O]) (by
  unfold Eb cK cZ wI;dsimp only;rw [ino O])
 rw [show Ab Eb ([],L,(L.length:Int),0)=_ from hl,AjT];rfl
def kyI (s:Int×Int):Int:=(ky s:Int)
def ckI (r:Nat):Int:=((384+r:Nat):Int)
def Iq (f h e:Nat):List Int:=(sts f h).map kyI++((cks f h e).map ckI++[448])
noncomputable def wnt (f h e:Nat):List Int:=srt (Iq f h e)
theorem HV {f h:Nat} (hh:h<=60):(sts f h).length<=360:=by
 have:=PY f h 6;unfold sts;omega
theorem MM {f h e:Nat} (hh:h<=60):(cks f h e).length<=60:=by
 have:=P1 f e (h - f);unfold cks;omega
theorem Ab1 {f h e:Nat} (hh:h<=60):(Iq f h e).length<=421:=by
 have h1:=HV (f:=f) hh;have h2:=MM (f:=f) (e:=e) hh;unfold Iq;simp only [Ajb,AjA,Ajh];omega
theorem Or {f h:Nat} {i:Nat} (hi:i < (sts f h).length):∃k j,St8 f h (sts f h)[i] k j:=sts_mem.1 (Ajt hi)
theorem Yk {f h e:Nat} (hf:f<=h) (hh:h<=60) (he:0 < e) (he2:e<=30):Jb (f:Int) (h:Int) (e:Int)=some (wnt f h e):=by
 have hsl:=HV (f:=f) hh;unfold Jb wI;rw [NR hh,Ai3];have h1:=An E4 (λi=>((f:Int),(h:Int),(e:Int),srt (((sts f h).map kyI).take i),sts f h,(((sts f h).length:Nat):Int),((i:Nat):Int))) (sts f h).length ((f:Int),(h:Int),(e:Int),srt ((sts f h).map kyI)) (λi hi=>by
  obtain ⟨k,j,g⟩:=Or hi;obtain ⟨l1,l2,l3⟩:=g.lt hh;have hk:=g.hk;have hget:(sts f h)[i]?=some ((sts f h)[i]):=Ai6 hi;have hml:((sts f h).map kyI)[i]?=some (((64 * k+j:Nat):Nat):Int):=by rw [AjI,hget];show some (kyI _)=_;unfold kyI;rw [l2]
  have hput:=(FI (l:=((sts f h).map kyI).take i) (by rw [Ajd,AjA];omega) ((64 * k+j:Nat):Int)).1;unfold E4 cK cZ wI;dsimp only;rw [iy O,iy O,iy O,Ajv,Ai5,hget,Ai3,Ai3];simp only [g.e];rw [J7 hk O,Ai3,hput,Ai3,Al O,CN hml]) (by
  unfold E4 cK cZ wI;dsimp only;rw [ino O,AjR Z])
 rw [show Ab E4 ((f:Int),(h:Int),(e:Int),[],sts f h,(((sts f h).length:Nat):Int),0)=_ from h1,Ai3];dsimp only;have h2:=An E1 (λn=>((h:Int),(e:Int),srt ((sts f h).map kyI++(ckn f e n).map ckI),((f+1+n:Nat):Int))) (h - f) (srt ((sts f h).map kyI++(cks f h e).map ckI)) (λn hn=>by
  have hl:=P1 f e n;unfold E1 cK wI;dsimp only;rw [iy O,iy O,VV,QM];by_cases hz:(f+1+n) % e=0
  .have hput:=(FI (l:=(sts f h).map kyI++(ckn f e n).map ckI) (by rw [Ajb,AjA,AjA];omega) (ckI (f+1+n))).1;have ew:IntKind.wrap .i64 (384+((f+1+n:Nat):Int))=ckI (f+1+n):=by rw [w64 O O];unfold ckI;omega
   rw [iy O,ew,hput,Ai3,Ai3,Ai9 hz,AjM,<- Ajf];dsimp only;rw [Al O];rfl
  .rw [ino O,Ai3,Ai8 hz,Ajk];dsimp only;rw [Al O];rfl) (by
  unfold E1 cK wI;dsimp only;rw [ino O];rfl)
 have e0:(sts f h).map kyI++(ckn f e 0).map ckI=(sts f h).map kyI:=by simp [ckn]
 rw [e0]at h2;have hcl:=MM (f:=f) (e:=e) hh;rw [Al O,show Ab E1 ((h:Int),(e:Int),srt ((sts f h).map kyI),((f+1:Nat):Int))=_ from h2,Ai3,
  (FI (l:=(sts f h).map kyI++(cks f h e).map ckI) (by rw [Ajb,AjA,AjA];omega) 448).1,Ajf]
 rfl
theorem AbZ {f h e:Nat} (hh:h<=60):Ris (wnt f h e)/\(wnt f h e).length<=421/\∀v,v∈wnt f h e↔v∈Iq f h e:=by
 have hl:=Ab1 (f:=f) (e:=e) hh;obtain ⟨h1,h2,h3⟩:=Jp (l:=Iq f h e) O;exact⟨h1,by unfold wnt;omega,h3⟩
theorem ZO (b:Bls) (top:List Int):∀n,((ksT b top n).map (·.1)).Pairwise (· < ·)/\∀v∈(ksT b top n).map (·.1),v < ((n:Nat):Int)
 | 0=>by simp [ksT]
 | n+1=>by
  obtain ⟨h1,h2⟩:=ZO b top n;rw [Nr,AjM];by_cases hz:vl b top n=0
  .rw [Ai9 hz];refine⟨by simpa using h1,λv hv=>?_⟩;have:=h2 v (by simpa using hv);omega
  .rw [Ai8 hz];refine⟨?_,λv hv=>?_⟩
   .rw [AkM];refine⟨h1,Z,λa ha c hc=>?_⟩;simp only [AjO,Alk,Aje]at hc;rw [hc];exact h2 a ha
   .rcases Ajc.1 hv with hv | hv
    .have:=h2 v hv;omega
    .simp only [AjO,Alk,Aje]at hv;omega
theorem ksT_mem {b:Bls} {top:List Int} {n:Nat} {v:Int}:v∈(ksT b top n).map (·.1)↔∃k:Nat,k < n/\¬ vl b top k=0/\v=(k:Int):=by
 unfold ksT;simp only [Aj2,Ajq,AkT,AkJ,decide_eq_true_eq,Function.comp];constructor
 .rintro ⟨k,⟨h1,h2⟩,rfl⟩;exact⟨k,h1,h2,rfl⟩
 .rintro ⟨k,h1,h2,rfl⟩;exact⟨k,⟨h1,h2⟩,rfl⟩
noncomputable def kok (b:Bls) (top:List Int) (f h e:Nat):Bool:=decide ((ksT b top 1024).map (·.1)=wnt f h e)
theorem Z3 {b:Bls} {top:List Int} {f h e:Nat} (hh:h<=60):kok b top f h e=true↔(∀k:Nat,k < 1024->¬ vl b top k=0->(k:Int)∈Iq f h e)/\∀k:Nat,k < 1024->(k:Int)∈Iq f h e->¬ vl b top k=0:=by
 obtain ⟨w1,_,w3⟩:=AbZ (f:=f) (e:=e) hh;unfold kok;rw [decide_eq_true_eq];constructor
 .intro q;refine⟨λk hk hv=>?_,λk hk hm=>?_⟩
  .rw [<- w3,<- q];exact ksT_mem.2 ⟨k,hk,hv,rfl⟩
  .rw [<- w3,<- q]at hm;obtain ⟨k',h1,h2,h3⟩:=ksT_mem.1 hm;have:k'=k:=O
   rw [<- this];exact h2
 .rintro ⟨q1,q2⟩;refine Zn (ris_iff.2 (ZO b top 1024).1) w1 λv=>?_
  rw [w3,ksT_mem];constructor
  .rintro ⟨k,h1,h2,rfl⟩;exact q1 k h1 h2
  .intro hm;have hb:∃k:Nat,k < 1024/\v=(k:Int):=by
    unfold Iq at hm;rcases Ajc.1 hm with hm | hm
    .obtain ⟨s,hs,rfl⟩:=Ajq.1 hm;obtain ⟨k,j,g⟩:=sts_mem.1 hs;obtain ⟨l1,l2,l3⟩:=g.lt hh;exact⟨ky s,O,rfl⟩
    .rcases Ajc.1 hm with hm | hm
     .obtain ⟨r,hr,rfl⟩:=Ajq.1 hm;have:=cks_mem.1 hr;exact⟨384+r,O,rfl⟩
     .exact⟨448,O,by simpa using hm⟩
   obtain ⟨k,hk,rfl⟩:=hb;exact⟨k,hk,q2 k hk hm,rfl⟩
end Go.V.G
set_option maxRecDepth 100000
namespace Go.V.G
open Go.V
theorem Ad9 {σ α:Type} {f:σ->α->Option σ} {xs:List α} {x y:σ} (h:∀l:List α,l.Perm xs->l.foldlM f x=some y):Nj f xs x=some y:=by
 have hx:∃y,∀l:List α,l.Perm xs->l.foldlM f x=some y:=⟨y,h⟩
 unfold Nj;rw [dif_pos hx];have h1:=hx.choose_spec xs (List.Perm.refl _);rw [h xs (List.Perm.refl _)]at h1;exact h1.symm
def ndb (l:List Int):Bool:=decide l.Nodup
theorem JQ {l:List Int} {v:Int}:(l++[v]).Nodup↔l.Nodup/\v∉l:=by
 rw [Ajp];constructor
 .rintro ⟨h1,_,h3⟩;exact⟨h1,λhv=>h3 v hv v Z rfl⟩
 .rintro ⟨h1,h2⟩;refine⟨h1,Z,λa ha c hc=>?_⟩;rw [Aje.1 hc];rintro rfl;exact h2 ha
theorem Xv (l:List Int) (v:Int):ndb (l++[v])=(ndb l && !decide (v∈l)):=by
 unfold ndb;by_cases h1:l.Nodup <;> by_cases h2:v∈l <;> simp [JQ,h1,h2]
def bd (fn:Bool) (l:List Int):Bool:=!(fn && ndb l)
theorem ZE (fn:Bool) (l:List Int) (v:Int):bd fn (l++[v])=if bd fn l=true then true else decide (v∈l):=by
 unfold bd;rw [Xv];cases fn <;> cases ndb l <;> simp
structure Led (C P bl:List Int):Prop where
 mem:∀v,v∈bl↔v∈C\/v∈P
 nd:bl.Nodup↔C.Nodup/\∀v∈P,v∉C
theorem Led.nil:Led [] [] []:=⟨Z,Z⟩
theorem Led.claim {C P bl:List Int} (h:Led C P bl) (v:Int):Led (C++[v]) P (bl++[v]):=by
 refine⟨λw=>?_,?_⟩
 .simp only [Ajc,Aje,h.mem w];constructor
  .rintro ((h | h) | h)
   .exact .inl (.inl h)
   .exact .inr h
   .exact .inl (.inr h)
  .rintro ((h | h) | h)
   .exact .inl (.inl h)
   .exact .inr h
   .exact .inl (.inr h)
 .rw [JQ,JQ,h.nd,h.mem];constructor
  .rintro ⟨⟨h1,h2⟩,h3⟩;refine⟨⟨h1,λq=>h3 (.inl q)⟩,λw hw hm=>?_⟩;rcases Ajc.1 hm with hm | hm
   .exact h2 w hw hm
   .rw [Aje.1 hm]at hw;exact h3 (.inr hw)
  .rintro ⟨⟨h1,h2⟩,h3⟩;refine⟨⟨h1,λw hw hm=>h3 w hw (Akx _ hm)⟩,?_⟩;rintro (q | q)
   .exact h2 q
   .exact h3 v q Z
theorem Led.claims {P:List Int}:∀{l C bl:List Int},Led C P bl->Led (C++l) P (bl++l)
 | [],C,bl,h=>by simpa using h
 | v::l,C,bl,h=>by
  have:=Led.claims (l:=l) (h.claim v);simpa using this
theorem Led.piece {C P bl:List Int} (h:Led C P bl) (v:Int):Led C (P++[v]) (if v∈P then bl else bl++[v]):=by
 by_cases hv:v∈P
 .rw [Ai9 hv];refine⟨λw=>?_,?_⟩
  .rw [h.mem w,Ajc,Aje];constructor
   .rintro (q | q)
    .exact .inl q
    .exact .inr (.inl q)
   .rintro (q | q | q)
    .exact .inl q
    .exact .inr q
    .exact .inr (by rw [q];exact hv)
  .rw [h.nd];constructor
   .rintro ⟨h1,h2⟩;refine⟨h1,λw hw=>?_⟩;rcases Ajc.1 hw with hw | hw
    .exact h2 w hw
    .rw [Aje.1 hw];exact h2 v hv
   .rintro ⟨h1,h2⟩;exact⟨h1,λw hw=>h2 w (Akx _ hw)⟩
 .rw [Ai8 hv];refine⟨λw=>?_,?_⟩
  .rw [Ajc,h.mem w,Ajc,Aje];constructor
   .rintro ((q | q) | q)
    .exact .inl q
    .exact .inr (.inl q)
    .exact .inr (.inr q)
   .rintro (q | q | q)
    .exact .inl (.inl q)
    .exact .inl (.inr q)
    .exact .inr q
  .rw [JQ,h.nd,h.mem];constructor
   .rintro ⟨⟨h1,h2⟩,h3⟩;refine⟨h1,λw hw=>?_⟩;rcases Ajc.1 hw with hw | hw
    .exact h2 w hw
    .rw [Aje.1 hw];exact λq=>h3 (.inl q)
   .rintro ⟨h1,h2⟩;refine⟨⟨h1,λw hw=>h2 w (Akx _ hw)⟩,?_⟩;rintro (q | q)
    .exact h2 v Z q
    .exact hv q
def bpn (P bl l:List Int):Nat->List Int
 | 0=>bl
 | i+1=>if gb l i∈P++l.take i then bpn P bl l i else bpn P bl l i++[gb l i]
theorem ZL {C P bl l:List Int} (h:Led C P bl):∀n,n<=l.length->Led C (P++l.take n) (bpn P bl l n)
 | 0,_=>by simpa [bpn] using h
 | n+1,hn=>by
  have h1:=(ZL (l:=l) h n O).piece (gb l n);rw [CN (Ai (O:n < l.length)),<- Ajf];exact h1
theorem Sv (P bl l:List Int):∀n,(bpn P bl l n).length<=bl.length+n
 | 0=>by simp [bpn]
 | n+1=>by
  have:=Sv P bl l n;unfold bpn;split
  .omega
  .rw [Ajb,Ajh];omega
theorem Ad7 (m:List (Int×Int)) (k v w:Int):CB (Dq m k v) w=if w=k then v else CB m w:=by
 induction m with
 | nil=>
  unfold Dq CB CB;by_cases h:k=w
  .subst h;simp
  .rw [Ai8 h,Ai8 (λq=>h q.symm)]
 | cons p m ih=>
  unfold Dq;by_cases h:p.1=k
  .rw [Ai9 h];unfold CB;by_cases hw:k=w
   .subst hw;simp
   .rw [Ai8 hw,Ai8 (λq=>hw q.symm),Ai8 (by rw [h];exact hw)]
  .rw [Ai8 h];unfold CB;by_cases hw:p.1=w
   .rw [Ai9 hw,Ai9 hw,Ai8 (by rw [<- hw];exact h)]
   .rw [Ai8 hw,Ai8 hw];exact ih
theorem TX (m:List (Int×Int)) (k v:Int):∀w,w∈(Dq m k v).map (·.1)↔w∈m.map (·.1)\/w=k:=by
 induction m with
 | nil=>intro w;simp [Dq]
 | cons p m ih=>
  intro w;unfold Dq;by_cases h:p.1=k
  .rw [Ai9 h];simp only [AjO,Ajm,h];constructor
   .rintro (q | q)
    .exact .inr q
    .exact .inl (.inr q)
   .rintro ((q | q) | q)
    .exact .inl q
    .exact .inr q
    .exact .inl q
  .rw [Ai8 h];simp only [AjO,Ajm,ih w];constructor
   .rintro (q | q | q)
    .exact .inl (.inl q)
    .exact .inl (.inr q)
    .exact .inr q
   .rintro ((q | q) | q)
    .exact .inl q
    .exact .inr (.inl q)
    .exact .inr (.inr q)
theorem AfR (m:List (Int×Int)) (k v:Int) (h:(m.map (·.1)).Nodup):((Dq m k v).map (·.1)).Nodup:=by
 induction m with
 | nil=>simp [Dq]
 | cons p m ih=>
  rw [AjO,AjV]at h;unfold Dq;by_cases hk:p.1=k
  .rw [Ai9 hk,AjO,AjV];rw [hk]at h;exact h
  .rw [Ai8 hk,AjO,AjV];refine⟨λq=>?_,ih h.2⟩;rcases (TX m k v p.1).1 q with q | q
   .exact h.1 q
   .exact hk q
theorem WI {m:List (Int×Int)} (h:(m.map (·.1)).Nodup):∀p∈m,CB m p.1=p.2:=by
 induction m with
 | nil=>intro p hp;cases hp
 | cons q m ih=>
  intro p hp;rw [AjO,AjV]at h;unfold CB;rcases Ajm.1 hp with rfl | hp
  .rw [Ai9 rfl]
  .rw [Ai8 (λe=>h.1 (by rw [e];exact List.mem_map_of_mem hp))];exact ih h.2 p hp
def std (P:List Int):List (Int×Int):=P.foldl (λm k=>Dq m k (CB m k+1)) []
theorem NU (P:List Int) (v:Int):std (P++[v])=Dq (std P) v (CB (std P) v+1):=by unfold std;rw [AkI];rfl
theorem Aek {p:List Int->Prop} (h0:p []) (h1:∀l v,p l->p (l++[v])) (l:List Int):p l:=by
 have:∀n,∀l:List Int,l.length=n->p l:=by
  intro n
  induction n with
  | zero=>intro l hl;rw [List.length_eq_zero_iff.1 hl];exact h0
  | succ n ih=>
   intro l hl;have e:=List.dropLast_concat_getLast (l:=l) (by intro q;rw [q]at hl;cases hl);rw [<- e];exact h1 _ _ (ih _ (by rw [List.length_dropLast];omega))
 exact this _ l rfl
theorem WK (P:List Int):(∀v,CB (std P) v=(P.count v:Int))/\((std P).map (·.1)).Nodup/\∀v,v∈(std P).map (·.1)↔v∈P:=by
 refine Aek (p:=λP=>(∀v,CB (std P) v=(P.count v:Int))/\((std P).map (·.1)).Nodup/\∀v,v∈(std P).map (·.1)↔v∈P) ?_ ?_ P
 .refine⟨λv=>by simp [std,CB],by simp [std],by simp [std]⟩
 .rintro P k ⟨h1,h2,h3⟩;refine⟨λv=>?_,?_,λv=>?_⟩
  .rw [NU,Ad7,h1,h1,List.count_append];by_cases h:v=k
   .subst h;rw [Ai9 rfl];simp
   .rw [Ai8 h];simp [List.count_cons,show ¬ k=v from λq=>h q.symm]
  .rw [NU];exact AfR _ _ _ h2
  .rw [NU,TX,h3,Ajc,Aje]
theorem std_zero {P:List Int} {v:Int}:CB (std P) v=0↔v∉P:=by
 rw [(WK P).1 v];have:=List.count_pos_iff (l:=P) (a:=v);constructor
 .intro h q;have:=this.2 q;omega
 .intro h;have:¬ 0 < P.count v:=λq=>h (this.1 q)
  omega
theorem M0 {l bl:List Int} (hl:bl.length+l.length<=100000) (fn:Bool) (ks rs:List Int) (d:Bls) (m:List (Int×Int)) :
  BI l ks bl rs (bd fn bl) d m=some (l,ks,bl++l,rs,bd fn (bl++l),d,m):=by
 unfold BI;have h:=An Ce (λi=>(l,(l.length:Int),((i:Nat):Int),ks,bl++l.take i,rs,bd fn (bl++l.take i),d,m)) l.length (l,ks,bl++l,rs,bd fn (bl++l),d,m) (λi hi=>by
  have hg:=Ai hi;unfold Ce cK cZ wI;dsimp only;rw [iy O,iy O,iy O,Ajv,Ai5,hg,Ai3,CN hg,<- Ajf,ZE];have hr:Aa ((bl++l.take i).length+([gb l i]:List Int).length) 8=true:=by simp only [Aa,decide_eq_true_eq,Ajh,Ajb,Ajd];omega
  by_cases hb:bd fn (bl++l.take i)=true
  .rw [Ai9 hb,Ai3,Ai9 hb,Ai9 hr,Al O]
  .rw [Ai8 hb,FO (by rw [Ajb,Ajd];omega),Ai3,Ai3,Ai8 hb,Ai9 hr,Al O]) (by
  unfold Ce cK cZ wI;dsimp only;rw [ino O,AjT])
 rw [Ali,Ajk]at h;rw [show Ab Ce (l,(l.length:Int),0,ks,bl,rs,bd fn bl,d,m)=_ from h];rfl
theorem YC {l bl:List Int} (hl:bl.length+l.length<=100000) (fn:Bool) (ks rs:List Int) (d:Bls) (m:List (Int×Int)) :
  Ek l ks bl rs (bd fn bl) d m=some (ks,bl++l,rs,bd fn (bl++l),d,m):=by
 unfold Ek;have h:=An CG (λi=>(l,(l.length:Int),((i:Nat):Int),ks,bl++l.take i,rs,bd fn (bl++l.take i),d,m)) l.length (ks,bl++l,rs,bd fn (bl++l),d,m) (λi hi=>by
  have hg:=Ai hi;unfold CG cK gX wI;dsimp only;rw [iy O,iy O,Ai5,hg,Ai3,CN hg,<- Ajf,ZE];have hr:Aa ((bl++l.take i).length+([gb l i]:List Int).length) 8=true:=by simp only [Aa,decide_eq_true_eq,Ajh,Ajb,Ajd];omega
  by_cases hb:bd fn (bl++l.take i)=true
  .rw [Ai9 hb,Ai3,Ai9 hb,Ai9 hr,Al O]
  .rw [Ai8 hb,FO (by rw [Ajb,Ajd];omega),Ai3,Ai3,Ai8 hb,Ai9 hr,Al O]) (by
  unfold CG cK gX wI;dsimp only;rw [ino O,AjT])
 rw [Ali,Ajk]at h;rw [show Ab CG (l,(l.length:Int),0,ks,bl,rs,bd fn bl,d,m)=_ from h];rfl
theorem R4 {b:Bls} {x y z:List Int} (g:RS b x y) (root:Int):H3 (b,x,y,z) root=some (tin b x y root):=by
 unfold H3 tin cK;rw [YS g,Ai3];cases hp:ptx b x y root with
 | none=>rfl
 | some l=>
  obtain ⟨⟨hall,hnd,hlen⟩,_⟩:=Iv hp;dsimp only;rw [Ai8 Z];have hL:=An Ea (λk=>(root,cat b (l.take k),l.take k,l.map (Dx b),(l.length:Int),((k:Nat):Int))) l.length (root,cat b l,l) (λk hk=>by
   have hpk:=hall _ (Ajt hk);have h1:=Sj (b:=b) (x:=x) (y:=y) (l:=l.take k) λv hv=>hall v (AkF hv)
   have h2:=Z8 b hpk;rw [Ajd]at h1;have hg:(l.map (Dx b))[k]?=some (Dx b l[k]):=by rw [AjI,Ai6 hk];rfl
   unfold Ea cK cZ wI;dsimp only;rw [iy O,iy O,iy (by rw [AjA];omega),Ajv,Ai5,hg,Ai3,Ai3,Ai3,
    show(Dx b l[k]).2.2=Gi b l[k] from rfl,show(Dx b l[k]).1=l[k] from rfl,iy O,Ai9 (by simp only [Aa,decide_eq_true_eq,Ajh,Ajd];omega),Al O,XO b hk,Aju hk]) (by
   unfold Ea cK cZ wI;dsimp only;rw [ino O,AjT])
  have hL':Ab Ea (root,([]:List UInt8),[],l.map (Dx b),(l.length:Int),0)=_:=hL;rw [AjA,hL',Ai3];dsimp only;rw [Ai9 (by simp only [Aa,decide_eq_true_eq,Ajh];omega)]
theorem VP {b:Bls} {x y z:List Int} (g:RS b x y) {root:Int} (hp:ptx b x y root=none) (ks bl rs:List Int) (w:Bool) (d:Bls) (a1:Int) (a2:Bool) (a3 a4 a5 a6 a7 a8:Int) (m:List (Int×Int)) :
  Bj root ks bl rs w d a1 a2 a3 a4 a5 a6 a7 a8 b x y z m=some ([],ks,bl,rs,true,d,a1,a2,a3,a4,a5,a6,a7,a8,b,x,y,z,m):=by
 unfold Bj sX wI;rw [R4 g,Ai3];unfold tin;rw [hp];rfl
theorem WO {b:Bls} {x y z:List Int} (g:RS b x y) {root:Int} {l:List Int} (hp:ptx b x y root=some l) {P bl:List Int} (hbl:bl.length<=90000) (hP:P.length<=90000) (fn:Bool) (ks rs:List Int) (d:Bls) (a1:Int) (a2:Bool) (a3 a4 a5 a6 a7 a8:Int) :
  Bj root ks bl rs (bd fn bl) d a1 a2 a3 a4 a5 a6 a7 a8 b x y z (std P) =
   some (cat b l,ks,bpn P (bl++[root]) l l.length,rs,bd fn (bpn P (bl++[root]) l l.length),d,a1,a2,a3,a4,a5,a6,a7,a8,b,x,y,z,std (P++l)):=by
 obtain ⟨⟨hall,hnd,hlen⟩,_⟩:=Iv hp;have hw:IntKind.wrap .i64 (((((l++[root]).length:Nat):Int)) - 1)=(l.length:Int):=by rw [Ajb,Ajh,w64 O O];omega
 have hle:(l++[root]).length=l.length+1:=by simp
 have e1:(List.drop l.length (l++[root])).take (l.length+1 - l.length)=[root]:=by
  rw [List.drop_left,(O:l.length+1 - l.length=1)];rfl
 have e2:(List.drop (Int.toNat 0) (l++[root])).take (l.length - Int.toNat 0)=l:=by
  rw [show Int.toNat 0=0 from rfl,Aj8,AkU,List.take_left]
 unfold Bj sX wI;rw [R4 g,Ai3];unfold tin;rw [hp];dsimp only;rw [Ai3];dsimp only;rw [Ai8 Z,hw,hle,iy O,iy O,iy O,iy O,Ai5,Ai5,e1,YC (by rw [Ajh];omega),Ai3];dsimp only;rw [iy O,iy O,iy O,iy O,e2];have h:=An B4 (λi=>(cat b l,l,(l.length:Int),((i:Nat):Int),ks,bpn P (bl++[root]) l i,rs,bd fn (bpn P (bl++[root]) l i),d,a1,a2,a3,a4,a5,a6,a7,a8,b,x,y,z,std (P++l.take i))) l.length
   (cat b l,ks,bpn P (bl++[root]) l l.length,rs,bd fn (bpn P (bl++[root]) l l.length),d,a1,a2,a3,a4,a5,a6,a7,a8,b,x,y,z,std (P++l)) (λi hi=>by
  have hg:=Ai hi;have hbn:=Sv P (bl++[root]) l i;rw [Ajb,Ajh]at hbn;have hc:IntKind.wrap .i64 (CB (std (P++l.take i)) (gb l i)+1)=CB (std (P++l.take i)) (gb l i)+1:=by
   rw [(WK _).1];have:=List.count_le_length (l:=P++l.take i) (a:=gb l i);rw [Ajb,Ajd]at this;rw [w64 O O]
  have hst:std (P++l.take (i+1))=Dq (std (P++l.take i)) (gb l i) (CB (std (P++l.take i)) (gb l i)+1):=by rw [CN hg,<- Ajf,NU]
  unfold B4 gX wI;dsimp only;rw [iy O,iy O,Ai5,hg,Ai3,hst];by_cases hz:gb l i∈P++l.take i
  .rw [ino (λq=>std_zero.1 q hz),Ai3];dsimp only;have e:bpn P (bl++[root]) l (i+1)=bpn P (bl++[root]) l i:=by show(if _ then _ else _)=_;rw [Ai9 hz]
   rw [e,hc,Al O]
  .rw [iy (std_zero.2 hz),M0 (by rw [Ajh];omega),Ai3];dsimp only;rw [Ai3];dsimp only;have e:bpn P (bl++[root]) l (i+1)=bpn P (bl++[root]) l i++[gb l i]:=by show(if _ then _ else _)=_;rw [Ai8 hz]
   rw [e,hc,Al O]) (by
  unfold B4 gX wI;dsimp only;rw [ino O,AjT])
 rw [Ali,Ajk]at h;rw [show Ab B4 (cat b l,l,(l.length:Int),0,ks,bl++[root],rs,bd fn (bl++[root]),d,a1,a2,a3,a4,a5,a6,a7,a8,b,x,y,z,std P)=_ from h];rfl
def rkd (b:Bls) (x y top:List Int) (k:Nat):List Int:=(rcA (rcd b x y (vl b top k))).1
def rkc (b:Bls) (x y top:List Int) (k:Nat):List Int:=(rcA (rcd b x y (vl b top k))).2.1
def rko (b:Bls) (x y top:List Int) (k:Nat):Bool:=(rcA (rcd b x y (vl b top k))).2.2
theorem Y7 {b:Bls} {x y:List Int}:∀(f:Nat) (a:Int) (d ch:List Int) {p:List Int×List Int},rcN b x y f a d ch=some p->p.2.length<=ch.length+f/\p.1.length<=d.length+124 * f
 | 0,_,_,_,p,h=>by cases h
 | f+1,a,d,ch,p,h=>by
  unfold rcN at h;split at h
  .rename_i hc;have ho:=SY hc;split at h
   .injection h with h;subst h;simp;omega
   .have:=Y7 f _ _ _ h;simp only [Ajb,Ajh]at this;omega
  .cases h
theorem He (b:Bls) (x y top:List Int) (k:Nat):(rkc b x y top k).length<=10/\(rkd b x y top k).length<=1240:=by
 unfold rkc rkd rcA;split
 .rename_i p hp;have:=Y7 _ _ _ _ hp;simp only [AjC]at this;dsimp only;omega
 .simp
theorem T9 {b:Bls} {x y z top:List Int} (g:RS b x y) (ht:top.length=32) {bl ks:List Int} (hbl:bl.length<=90000) (hks:ks.length<=90000) {k:Nat} (hk:k < 1024) (fn:Bool) (rs:List Int) (d:Bls) (a1:Int) (a2:Bool) (a3 a4 a5 a6 a7 a8 rt:Int) (m:List (Int×Int)) :
  Bv (k:Int) ks bl rs (bd fn bl) d a1 a2 a3 a4 a5 a6 a7 a8 b x y z rt top (top.map (lfv b)) m =
   some (rkd b x y top k,ks++[(k:Int)],bl++rkc b x y top k,rs,bd (fn && rko b x y top k) (bl++rkc b x y top k),d,a1,a2,a3,a4,a5,a6,a7,a8,b,x,y,z,rt,top,top.map (lfv b),m):=by
 have hl:=(He b x y top k).1;unfold Bv cK;rw [Ai9 (by simp only [Aa,decide_eq_true_eq,Ajh];omega),Pr ht rt hk,Ai3,Yp g,Ai3];have hb:(if bd fn bl=true then true else !(rko b x y top k))=bd (fn && rko b x y top k) bl:=by
  unfold bd;cases fn <;> cases ndb bl <;> cases rko b x y top k <;> rfl
 unfold rkd rkc rko at *;generalize rcA (rcd b x y (vl b top k))=q at *;obtain ⟨q1,q2,q3⟩:=q;dsimp only at *;have hc:=M0 (l:=q2) (bl:=bl) O (fn && q3) (ks++[(k:Int)]) rs d m;rw [<- hb]at hc;by_cases hw:bd fn bl=true
 .rw [Ai9 hw,Ai3];dsimp only;rw [Ai9 hw]at hc;rw [hc];rfl
 .rw [Ai8 hw,Ai3];dsimp only;rw [Ai8 hw]at hc;rw [hc];rfl
end Go.V.G
set_option maxRecDepth 100000
namespace Go.V.G
open Go.V
def okb (fn:Bool) (l:List Int):Bool:=fn && ndb l
theorem Xl (fn:Bool) (l:List Int) (v:Int):okb fn (l++[v])=if v∈l then false else okb fn l:=by
 unfold okb;rw [Xv];by_cases h:v∈l <;> simp [h]
def mny (n:Nat) (P:List Int):List Int:=(List.range n).map λk=>(P.count ((k:Nat):Int):Int)
theorem I1 (n:Nat) (P:List Int):(mny n P).length=n:=by simp [mny]
theorem Po {n k:Nat} (P:List Int) (h:k < n):(mny n P)[k]?=some (P.count (k:Int):Int):=by
 unfold mny;rw [AjI,Ak1 h];rfl
theorem Ad3 {n k:Nat} (P:List Int) (h:k < n):mny n (P++[(k:Int)])=(mny n P).set k ((P.count (k:Int):Int)+1):=by
 refine Aj1 λi=>?_
 rw [Alo,I1];by_cases hi:i < n
 .rw [Po _ hi,Po _ hi,List.count_append];by_cases hk:k=i
  .subst hk;rw [Ai9 rfl,Ai9 h];simp
  .rw [Ai8 hk];have:¬ (k:Int)=(i:Int):=O
   simp [List.count_cons,this]
 .rw [Ajr (by rw [I1];omega),Ajr (by rw [I1];omega)];by_cases hk:k=i
  .rw [Ai9 hk,Ai8 O]
  .rw [Ai8 hk]
theorem Sp {l C:List Int} (hl:C.length+l.length<=100000) (fn:Bool) (b:Bls) (x y z rs m:List Int) :
  BU l b x y z rs (srt C) m (okb fn C)=some (l,b,x,y,z,rs,srt (C++l),m,okb fn (C++l)):=by
 unfold BU;have h:=An B2 (λi=>(l,(l.length:Int),((i:Nat):Int),b,x,y,z,rs,srt (C++l.take i),m,okb fn (C++l.take i))) l.length (l,b,x,y,z,rs,srt (C++l),m,okb fn (C++l)) (λi hi=>by
  have hg:=Ai hi;have hcl:(C++l.take i).length<=1000000:=by rw [Ajb,Ajd];omega
  obtain ⟨o1,o2,o3⟩:=Jp hcl;unfold B2 cK cZ wI;dsimp only;rw [iy O,iy O,iy O,Ajv,Ai5,hg,Ai3,CN hg,<- Ajf,Xl,Gw O,Ai3];by_cases hb:gb l i∈C++l.take i
  .rw [Ai9 hb,decide_eq_true ((o3 _).2 hb),Ai9 rfl,Ai3];dsimp only;rw [(FI hcl _).1,Ai3,Al O]
  .rw [Ai8 hb,decide_eq_false (λq=>hb ((o3 _).1 q)),Ai8 Z,Ai3];dsimp only;rw [(FI hcl _).1,Ai3,Al O]) (by
  unfold B2 cK cZ wI;dsimp only;rw [ino O,AjT])
 rw [Ali,Ajk]at h;rw [show Ab B2 (l,(l.length:Int),0,b,x,y,z,rs,srt C,m,okb fn C)=_ from h];rfl
theorem YH {l C:List Int} (hl:C.length+l.length<=100000) (fn:Bool) (b:Bls) (x y z rs m:List Int) :
  DK l b x y z rs (srt C) m (okb fn C)=some (b,x,y,z,rs,srt (C++l),m,okb fn (C++l)):=by
 unfold DK;have h:=An Cp (λi=>(l,(l.length:Int),((i:Nat):Int),b,x,y,z,rs,srt (C++l.take i),m,okb fn (C++l.take i))) l.length (b,x,y,z,rs,srt (C++l),m,okb fn (C++l)) (λi hi=>by
  have hg:=Ai hi;have hcl:(C++l.take i).length<=1000000:=by rw [Ajb,Ajd];omega
  obtain ⟨o1,o2,o3⟩:=Jp hcl;unfold Cp gX wI;dsimp only;rw [iy O,iy O,Ai5,hg,Ai3,CN hg,<- Ajf,Xl,Gw O,Ai3];by_cases hb:gb l i∈C++l.take i
  .rw [Ai9 hb,decide_eq_true ((o3 _).2 hb),Ai9 rfl,Ai3];dsimp only;rw [(FI hcl _).1,Ai3,Al O]
  .rw [Ai8 hb,decide_eq_false (λq=>hb ((o3 _).1 q)),Ai8 Z,Ai3];dsimp only;rw [(FI hcl _).1,Ai3,Al O]) (by
  unfold Cp gX wI;dsimp only;rw [ino O,AjT])
 rw [Ali,Ajk]at h;rw [show Ab Cp (l,(l.length:Int),0,b,x,y,z,rs,srt C,m,okb fn C)=_ from h];rfl
theorem XG {b:Bls} {x y z:List Int} (g:RS b x y) {root:Int} (hp:ptx b x y root=none) (rs c m:List Int) (w:Bool) :
  BF root b x y z rs c m w=some ([],b,x,y,z,rs,c,m,false):=by
 unfold BF sX wI;rw [Qq g,Ai3];unfold tin;rw [hp];rfl
theorem VL {b:Bls} {x y z:List Int} (g:RS b x y) {root:Int} {l:List Int} (hp:ptx b x y root=some l) {P C:List Int} (hC:C.length<=90000) (hP:P.length<=90000) (fn:Bool) (rs:List Int) :
  BF root b x y z rs (srt C) (mny b.length P) (okb fn C)=some (cat b l,b,x,y,z,rs,srt (C++[root]),mny b.length (P++l),okb fn (C++[root])):=by
 obtain ⟨⟨hall,hnd,hlen⟩,_⟩:=Iv hp;have hw:IntKind.wrap .i64 (((((l++[root]).length:Nat):Int)) - 1)=(l.length:Int):=by rw [Ajb,Ajh,w64 O O];omega
 have hle:(l++[root]).length=l.length+1:=by simp
 have e1:(List.drop l.length (l++[root])).take (l.length+1 - l.length)=[root]:=by
  rw [List.drop_left,(O:l.length+1 - l.length=1)];rfl
 have e2:(List.drop (Int.toNat 0) (l++[root])).take (l.length - Int.toNat 0)=l:=by
  rw [show Int.toNat 0=0 from rfl,Aj8,AkU,List.take_left]
 unfold BF sX wI;rw [Qq g,Ai3];unfold tin;rw [hp];dsimp only;rw [Ai3];dsimp only;rw [Ai8 Z,hw,hle,iy O,iy O,iy O,iy O,Ai5,Ai5,e1,YH (by rw [Ajh];omega),Ai3];dsimp only;rw [iy O,iy O,iy O,iy O,e2];have h:=An Cv (λi=>(cat b l,l,(l.length:Int),((i:Nat):Int),b,x,y,z,rs,srt (C++[root]),mny b.length (P++l.take i),okb fn (C++[root]))) l.length
   (cat b l,b,x,y,z,rs,srt (C++[root]),mny b.length (P++l),okb fn (C++[root])) (λi hi=>by
  have hg:=Ai hi;have hmem:gb l i∈l:=by
   have:=Ajt hi;rw [Ai6 hi]at hg;injection hg with hg;rw [<- hg];exact this
  obtain ⟨m,hm1,hm2,hm3,_⟩:=PS (hall _ hmem);have hml:=I1 b.length (P++l.take i);have hc:=List.count_le_length (l:=P++l.take i) (a:=(m:Int));rw [Ajb,Ajd]at hc;unfold Cv cK cZ gX wI;dsimp only;rw [iy O,iy O,Ai5,hg,Ai3,hm1,iy O,iy O,Ai5,Ajv,Po _ hm3,Ai3,iy O,iy O,Ai3,Ai3,w64 (n:=(((P++l.take i).count (m:Int):Nat):Int)+1) O O,
   CN hg,<- Ajf,hm1,Ad3 _ hm3,Al O]) (by
  unfold Cv cK cZ gX wI;dsimp only;rw [ino O,AjT])
 rw [Ali,Ajk]at h;rw [show Ab Cv (cat b l,l,(l.length:Int),0,b,x,y,z,rs,srt (C++[root]),mny b.length P,okb fn (C++[root]))=_ from h];rfl
theorem Pv {b:Bls} {x y z top:List Int} (h:SB b x y z) (g:RS b x y) {C:List Int} (hC:C.length<=90000) {k:Nat} (fn:Bool) (rs m:List Int) :
  Ca (vl b top k) b x y z rs (srt C) m (okb fn C) =
   some (rkd b x y top k,b,x,y,z,rs,srt (C++rkc b x y top k),m,okb (fn && rko b x y top k) (C++rkc b x y top k)):=by
 have hl:=(He b x y top k).1;unfold Ca;rw [XZ h g,Ai3];have hb:(if okb fn C=true then rko b x y top k else false)=okb (fn && rko b x y top k) C:=by
  unfold okb;cases fn <;> cases ndb C <;> cases rko b x y top k <;> rfl
 unfold rkd rkc rko at *;generalize rcA (rcd b x y (vl b top k))=q at *;obtain ⟨q1,q2,q3⟩:=q;dsimp only at *;have hc:=Sp (l:=q2) (C:=C) O (fn && q3) b x y z rs m;rw [<- hb]at hc;by_cases hw:okb fn C=true
 .rw [Ai9 hw,Ai3];dsimp only;rw [Ai9 hw]at hc;rw [hc];rfl
 .rw [Ai8 hw,Ai3];dsimp only;rw [Ai8 hw]at hc;rw [hc];rfl
end Go.V.G
set_option maxRecDepth 100000
namespace Go.V.G
open Go.V
theorem SM {a b c:List Prt} (ha:AG a=true) (hb:AG b=true) (hc:AG c=true) (h1:tgt a=src b) (h2:tgt b=src c):AN (AN a b) c=AN a (AN b c):=by
 obtain ⟨b1,b2,b3,b4⟩:=Dw hb hc h2;obtain ⟨a1,a2,a3,a4⟩:=Dw ha hb h1;obtain ⟨p1,p2,_⟩:=Dw ha b1 O;obtain ⟨r1,r2,_⟩:=Dw a1 hc O;refine Me (Aq r1).1 (Aq p1).1 ?_;rw [p2,r2,a2,b2];exact Aaz _ _ _ (Kc hb hc h2).1 (Kc ha hb h1).1
theorem TU:∀{cs:List (List Prt)} {a d:List Prt},AG a=true->AG d=true->tgt a=src d->chn (tgt d) cs=true->Ez (AN a d) cs=AN a (Ez d cs)
 | [],_,_,_,_,_,_=>rfl
 | c::cs,a,d,ha,hd,ht,hc=>by
  obtain ⟨k1,k2,k3⟩:=Fi hc;obtain ⟨q1,q2,q3,q4⟩:=Dw hd k1 k2.symm;show Ez (AN (AN a d) c) cs=AN a (Ez (AN d c) cs);rw [SM ha hd k1 ht k2.symm];exact TU ha q1 O (by rw [q4];exact k3)
theorem Afa {n:Int} {xs ys:List (List Prt)} (h:chn n (xs++ys)=true) (h0:0<=n) (h1:n<=120) (hy:ys≠[]):btw n (xs++ys)=AN (btw n xs) (btw (D3 n xs) ys):=by
 rw [NX,Aja]at h;obtain ⟨b1,b2,b3⟩:=Xs h.1 h0 h1;cases ys with
 | nil=>exact absurd rfl hy
 | cons c cs=>
  obtain ⟨k1,k2,k3⟩:=Fi h.2;rw [Qx h.2];have e:btw n (xs++c::cs)=Ez (AN (btw n xs) c) cs:=by unfold btw;rw [AkI];rfl
  rw [e];exact TU b1 k1 O k3
section
variable {f:Int} {t:List UInt8} {r:List Rn} {cs:List (List Prt)}
theorem X9 (g:GH f t r cs) {a b c:Int} (h0:f<=a) (h1:a<=b) (h2:b < c) (h3:c<=f+cs.length):BT f t cs a c=AN (BT f t cs a b) (BT f t cs b c):=by
 obtain ⟨k1,k2⟩:=Wx g (a - f);have es:seg cs (a - f) (c - f)=seg cs (a - f) (b - f)++seg cs (b - f) (c - f):=by
  unfold seg;have:cs.drop (b - f).toNat=(cs.drop (a - f).toNat).drop ((b - f).toNat - (a - f).toNat):=by rw [Alh];congr 1;omega
  rw [this,<- List.take_add]
  congr 1;omega
 have hne:seg cs (b - f) (c - f)≠[]:=by
  intro q;have:=congrArg List.length q;unfold seg at this;rw [Ajd,Ajw,AjC]at this;omega
 have hc:=PO g (a - f) (c - f);rw [es]at hc;unfold BT;rw [es,Afa hc k1 k2 hne,YW g O O]
theorem Ql (g:GH f t r cs) {a:Int} (h0:f<=a) (h1:a < f+cs.length):cs[(a - f).toNat]?=some (BT f t cs a (a+1)):=by
 have hl:(a - f).toNat < cs.length:=O
 have es:seg cs (a - f) (a+1 - f)=[cs[(a - f).toNat]]:=by
  unfold seg;rw [show(a+1 - f).toNat - (a - f).toNat=1 by omega,AjJ hl];rfl
 have hc:=PO g (a - f) (a+1 - f);rw [es]at hc;unfold BT;rw [es,Qx hc,Ai6 hl];rfl
end
def frS (s:Int×Int):Nat:=s.2.toNat * 2 ^ s.1.toNat
def toS (s:Int×Int):Nat:=(s.2.toNat+1) * 2 ^ s.1.toNat
def bt (f:Int) (t:List UInt8) (cs:List (List Prt)) (s:Int×Int):List Prt:=BT f t cs (frS s:Int) (toS s:Int)
theorem St8.ft {f h k i:Nat} {s:Int×Int} (g:St8 f h s k i):frS s=i * 2 ^ k/\toS s=(i+1) * 2 ^ k/\f<=frS s/\frS s < toS s/\toS s<=h:=by
 have h1:=g.lo;have h2:=g.hi;have hp:0 < 2 ^ k:=AkG Z;have e1:frS s=i * 2 ^ k:=by unfold frS;rw [g.e];simp
 have e2:toS s=(i+1) * 2 ^ k:=by unfold toS;rw [g.e];simp
 rw [e1,e2];refine⟨rfl,rfl,h1,?_,h2⟩;rw [Ak4];omega
theorem VM (f k:Nat):∀n,(skn f k n).Pairwise (λa c=>ky a < ky c)/\∀s∈skn f k n,64 * k<=ky s/\ky s < 64 * k+n
 | 0=>by simp [skn]
 | n+1=>by
  obtain ⟨h1,h2⟩:=VM f k n;rw [I3];by_cases h:f<=n * 2 ^ k
  .rw [Ai9 h];have e:ky ((k:Int),(n:Int))=64 * k+n:=by unfold ky;simp
   refine⟨?_,λs hs=>?_⟩
   .rw [AkM];refine⟨h1,Z,λa ha c hc=>?_⟩;rw [Aje.1 hc,e];exact(h2 a ha).2
   .rcases Ajc.1 hs with hs | hs
    .have:=h2 s hs;omega
    .rw [Aje.1 hs,e];omega
  .rw [Ai8 h,Ajk];exact⟨h1,λs hs=>by have:=h2 s hs;omega⟩
theorem Xi {f h:Nat} (hh:h<=60):∀k,(stk f h k).Pairwise (λa c=>ky a < ky c)/\∀s∈stk f h k,ky s < 64 * k
 | 0=>by simp [stk]
 | k+1=>by
  obtain ⟨h1,h2⟩:=Xi (f:=f) hh k;obtain ⟨g1,g2⟩:=VM f k (h / 2 ^ k);have hd:=Aln h (2 ^ k);unfold stk;refine⟨?_,λs hs=>?_⟩
  .rw [AkM];refine⟨h1,g1,λa ha c hc=>?_⟩;have:=h2 a ha;have:=(g2 c hc).1;omega
  .rcases Ajc.1 hs with hs | hs
   .have:=h2 s hs;omega
   .have:=g2 s hs;omega
theorem Qy {f h:Nat} (hh:h<=60):(sts f h).Pairwise (λa c=>ky a < ky c):=(Xi hh 6).1
theorem Rf {f h:Nat} (hh:h<=60) {i:Nat} (hi:i < (sts f h).length) {s:Int×Int} (hs:s∈sts f h) (hk:ky s < ky (sts f h)[i]):s∈(sts f h).take i:=by
 obtain ⟨j,hj,rfl⟩:=AjH hs;have hp:=Qy (f:=f) hh;rw [List.pairwise_iff_getElem]at hp;have:j < i:=by
  rcases Nat.lt_trichotomy j i with q | q | q
  .exact q
  .subst q;omega
  .have:=hp i j hi hj q;omega
 rw [List.mem_take_iff_getElem];exact⟨j,O,rfl⟩
def O7 (B:Int×Int->List Prt) (A:List (List Prt)) (L:List (Int×Int)):List (List Prt):=L.foldl (λA s=>A.set (ky s) (B s)) A
theorem Xe (B:Int×Int->List Prt):∀(L:List (Int×Int)) (A:List (List Prt)),(O7 B A L).length=A.length
 | [],A=>rfl
 | s::L,A=>by
  show(O7 B (A.set (ky s) (B s)) L).length=_;rw [Xe B L,Aj7]
theorem Vt (B:Int×Int->List Prt):∀(L:List (Int×Int)) (A:List (List Prt)) (k:Nat),(∀s∈L,ky s≠k)->(O7 B A L)[k]?=A[k]?
 | [],A,k,_=>rfl
 | s::L,A,k,h=>by
  show(O7 B (A.set (ky s) (B s)) L)[k]?=_;rw [Vt B L _ k (λc hc=>h c (by simp [hc])),List.getElem?_set_ne (h s Z)]
theorem PL (B:Int×Int->List Prt):∀(L:List (Int×Int)) (A:List (List Prt)),L.Pairwise (λa c=>ky a < ky c)->∀s∈L,ky s < A.length->(O7 B A L)[ky s]?=some (B s)
 | [],A,_,s,hs,_=>by cases hs
 | c::L,A,hp,s,hs,hl=>by
  rw [List.pairwise_cons]at hp;show(O7 B (A.set (ky c) (B c)) L)[ky s]?=_;rcases Ajm.1 hs with rfl | hs
  .rw [Vt B L _ (ky s) (λd hd=>by have:=hp.1 d hd;omega),Aky hl]
  .exact PL B L _ hp.2 s hs (by rw [Aj7];exact hl)
def Gf (f:Int) (t:List UInt8) (cs:List (List Prt)) (L:List (Int×Int)):List (List Prt):=O7 (bt f t cs) (List.replicate 384 []) L
theorem Ab0 (f:Int) (t:List UInt8) (cs:List (List Prt)) (L:List (Int×Int)) (s:Int×Int):Gf f t cs (L++[s])=(Gf f t cs L).set (ky s) (bt f t cs s):=by
 unfold Gf O7;rw [AkI];rfl
theorem WJ (f:Int) (t:List UInt8) (cs:List (List Prt)) (L:List (Int×Int)):(Gf f t cs L).length=384:=by unfold Gf;rw [Xe,Akf]
theorem Ys {f:Nat} {t:List UInt8} {r:List Rn} {cs:List (List Prt)} (g:GH (f:Int) t r cs) {h:Nat} (hf:h=f+cs.length) (hh:h<=60) :
  Nu (f:Int) t r cs=some (Gf (f:Int) t cs (sts f h)):=by
 have hsl:=HV (f:=f) hh;unfold Nu O6 cK cZ wI;rw [iy O,iy O,Ai9 Ai1,Ai3,w64 O O,show(f:Int)+(cs.length:Int)=(h:Int) by omega,NR hh,Ai3];have hL:=An GV (λi=>(Gf (f:Int) t cs ((sts f h).take i),sts f h,(((sts f h).length:Nat):Int),((i:Nat):Int),(f:Int),t,r,cs)) (sts f h).length (Gf (f:Int) t cs (sts f h)) (λi hi=>by
  obtain ⟨k,j,g8⟩:=Or hi;obtain ⟨l1,l2,l3⟩:=g8.lt hh;obtain ⟨f1,f2,f3,f4,f5⟩:=g8.ft;have hk:=g8.hk;have hget:(sts f h)[i]?=some ((sts f h)[i]):=Ai6 hi;have hal:=WJ (f:Int) t cs ((sts f h).take i);unfold GV cK cZ gX wI;dsimp only;rw [iy O,iy O,iy O,Ajv,Ai5,hget,Ai3,Ai3,Aju hi,Ab0,l2];have ebt:bt (f:Int) t cs (sts f h)[i]=BT (f:Int) t cs ((j * 2 ^ k:Nat):Int) (((j+1) * 2 ^ k:Nat):Int):=by unfold bt;rw [f1,f2]
  rw [ebt];have hlo:=g8.lo;have hhi:=g8.hi;simp only [g8.e,Ajv];by_cases h0:k=0
  .subst h0;rw [Nat.pow_zero,Nat.mul_one]at hlo hhi;rw [Nat.pow_zero,Nat.mul_one,Nat.mul_one];have h1:=Ql g (a:=(j:Int)) O O;rw [iy O,w64 O O,iy O,h1,Ai3,iy O,iy O,Ai5,Ai6 (O:j < (Gf (f:Int) t cs ((sts f h).take i)).length),Ai3,Ai3,Ai3];dsimp only;rw [Al O,Nat.mul_zero,Ajv,show(((j+1:Nat)):Int)=(j:Int)+1 by omega]
  .obtain ⟨k',rfl⟩:∃k',k=k' + 1:=⟨k - 1,O⟩
   have hpk:2 ^ (k' + 1)=2 * 2 ^ k':=by rw [Nat.pow_succ];omega
   have hp:0 < 2 ^ k':=AkG Z;have m1:j * 2 ^ (k' + 1)=(2 * j) * 2 ^ k':=by rw [hpk,<- Nat.mul_assoc,Nat.mul_comm j 2]
   have m2:(j+1) * 2 ^ (k' + 1)=(2 * j+1+1) * 2 ^ k':=by rw [hpk,<- Nat.mul_assoc,Nat.mul_comm (j+1) 2];congr 1
   have m3:(2 * j+1) * 2 ^ k'=(2 * j) * 2 ^ k' + 2 ^ k':=Ak4 _ _;have m4:(2 * j+1+1) * 2 ^ k'=(2 * j+1) * 2 ^ k' + 2 ^ k':=Ak4 _ _;rw [m1]at hlo;rw [m2]at hhi;have ga:St8 f h ((k':Int),((2 * j:Nat):Int)) k' (2 * j):=⟨rfl,O,hlo,O⟩
   have gb':St8 f h ((k':Int),((2 * j+1:Nat):Int)) k' (2 * j+1):=⟨rfl,O,O,hhi⟩
   obtain ⟨a1,a2,a3⟩:=ga.lt hh;obtain ⟨b1,b2,b3⟩:=gb'.lt hh;obtain ⟨fa1,fa2,_⟩:=ga.ft;obtain ⟨fb1,fb2,_⟩:=gb'.ft;generalize hU:2 * j * 2 ^ k'=U at *;generalize hV:(2 * j+1) * 2 ^ k'=V at *;generalize hW:(2 * j+1+1) * 2 ^ k'=W at *;have pw:=(Qy (f:=f) hh).sublist (List.take_sublist i _);have ia:=PL (bt (f:Int) t cs) _ (List.replicate 384 []) pw _ (Rf hh hi (sts_mem.2 ⟨_,_,ga⟩) (by rw [a2,l2];omega)) (by rw [Akf,a2];omega);have ib:=PL (bt (f:Int) t cs) _ (List.replicate 384 []) pw _ (Rf hh hi (sts_mem.2 ⟨_,_,gb'⟩) (by rw [b2,l2];omega)) (by rw [Akf,b2];omega);rw [a2]at ia;rw [b2]at ib;have wk:IntKind.wrap .i64 (((k' + 1:Nat):Int) - 1)=(k':Int):=by rw [w64 O O];omega
   have wa:IntKind.wrap .i64 (IntKind.wrap .i64 (64 * (k':Int))+IntKind.wrap .i64 (2 * (j:Int)))=((64 * k' + 2 * j:Nat):Int):=by
    rw [w64 (n:=64 * (k':Int)) O O,w64 (n:=2 * (j:Int)) O O,w64 O O];omega
   have ga1:=Iy g (a:=(U:Int)) (b:=(V:Int)) O O;have gb1:=Iy g (a:=(V:Int)) (b:=(W:Int)) O O;have hcmp:=W7 ga1.1 gb1.1 (by rw [ga1.2.2,gb1.2.1]);have eA:bt (f:Int) t cs ((k':Int),((2 * j:Nat):Int))=BT (f:Int) t cs (U:Int) (V:Int):=by unfold bt;rw [fa1,fa2]
   have eB:bt (f:Int) t cs ((k':Int),((2 * j+1:Nat):Int))=BT (f:Int) t cs (V:Int) (W:Int):=by unfold bt;rw [fb1,fb2]
   rw [eA]at ia;rw [eB]at ib;rw [ino O,J7 hk O,Ai3,wk,wa,iy (show(0:Int)<=((64 * k' + 2 * j:Nat):Int) by omega),iy (show((64 * k' + 2 * j:Nat):Int) < (((Gf (f:Int) t cs ((sts f h).take i)).length:Nat):Int) by omega),Ai5,show(Gf (f:Int) t cs ((sts f h).take i))[64 * k' + 2 * j]?=_ from ia,Ai3,Al O,iy O,iy O,Ai5,
    show(Gf (f:Int) t cs ((sts f h).take i))[64 * k' + 2 * j+1]?=_ from ib,Ai3,hcmp,Ai3,iy O,iy O,Ai5,Ai6 (O:64 * (k' + 1)+j < (Gf (f:Int) t cs ((sts f h).take i)).length),Ai3,Ai3,Ai3]
   dsimp only;rw [Al O,m1,m2,X9 g (a:=(U:Int)) (b:=(V:Int)) (c:=(W:Int)) O O O O]) (by
  unfold GV cK cZ gX wI;dsimp only;rw [ino O,AjT])
 rw [show Ab GV (List.replicate (Int.toNat 384) ([]:List Prt),sts f h,(((sts f h).length:Nat):Int),0,(f:Int),t,r,cs)=_ from hL];rfl
theorem AfT {f:Int} {t:List UInt8} {cs:List (List Prt)} {f' h:Nat} (hh:h<=60) {s:Int×Int} (hs:s∈sts f' h):(Gf f t cs (sts f' h))[ky s]?=some (bt f t cs s):=by
 obtain ⟨k,j,g⟩:=sts_mem.1 hs;obtain ⟨l1,l2,l3⟩:=g.lt hh;exact PL _ _ _ (Qy hh) s hs (by rw [Akf];omega)
end Go.V.G
set_option maxRecDepth 100000
namespace Go.V.G
open Go.V
structure HD (t:List UInt8) (r:List Rn) (cs:List (List Prt)):Prop where
 ht:t.length<=130
 hr:r.length<=30
 hn:cs.length<=60
 hc:∀c∈cs,Sm 2000 c
theorem HD.hb {t:List UInt8} {r:List Rn} {cs:List (List Prt)} (h:HD t r cs):HB t r cs:=
 ⟨by have:=h.ht;omega,by have:=h.hr;omega,by have:=h.hn;omega,λc hc=>(h.hc c hc).mono O⟩
end Go.V.G
set_option maxRecDepth 100000
namespace Go.V.G
open Go.V
theorem Ut {l:List Rn} {i:Nat} (h:i < l.length):AL (l.take (i+1))=AL (l.take i)+l[i].2:=by
 rw [Aju h,Mh];simp [AL]
theorem O1 {l:List Rn} (hp:Pos l) (i:Nat):0<=AL (l.take i)/\AL (l.take i)<=AL l:=by
 have h2:AL l=AL (l.take i)+AL (l.drop i):=by rw [<- Mh,AjY]
 have h3:=DN (l:=l.drop i) λq hq=>hp q (Alb hq)
 have h4:=DN (l:=l.take i) λq hq=>hp q (AkF hq)
 omega
end Go.V.G
set_option maxRecDepth 100000
namespace Go.V.G
open Go.V
def CE:Nat->List Int->Option (List Prt)
 | 0,x=>if x=[]then some []else none
 | n+1,x=>match x with
  | []=>some []
  | [_]=>none
  | k::m::r=>
   if k=1 then(CE n r).map ((m,0,[]) :: ·)
   else if k=2 then(CE n r).map ((0,m,[]) :: ·)
   else if k=3/\m<=(r.length:Int)then(CE n (r.drop m.toNat)).map ((0,0,AF (r.take m.toNat)) :: ·)
   else none
theorem Np:∀n,CE n []=some []
 | 0=>rfl
 | _+1=>rfl
theorem Pz:∀(n:Nat) (x:List Int) (c:List Prt),Byt x->CE n x=some c->c.length<=x.length/\BX c<=x.length/\∀p∈c,(0<=p.1/\p.1<=255)/\(0<=p.2.1/\p.2.1<=255)
 | 0,x,c,hb,h=>by
  unfold CE at h;split at h
  .injection h with h;subst h;simp [BX]
  .cases h
 | n+1,[],c,hb,h=>by
  rw [Np]at h;injection h with h;subst h;simp [BX]
 | n+1,[a],c,hb,h=>by simp [CE]at h
 | n+1,k::m::r,c,hb,h=>by
  have hm:=hb m Z;have hr:Byt r:=λv hv=>hb v (by simp [hv])
  simp only [CE]at h;split at h
  .obtain ⟨c',h1,rfl⟩:=Aj5.1 h;obtain ⟨q1,q2,q3⟩:=Pz n r c' hr h1;refine⟨by simp only [Aji];omega,by simp only [BX,Aji,AjC]at q2 ⊢;omega,λp hp=>?_⟩;rcases Ajm.1 hp with rfl | hp
   .exact⟨hm,Ai2⟩
   .exact q3 p hp
  .split at h
   .obtain ⟨c',h1,rfl⟩:=Aj5.1 h;obtain ⟨q1,q2,q3⟩:=Pz n r c' hr h1;refine⟨by simp only [Aji];omega,by simp only [BX,Aji,AjC]at q2 ⊢;omega,λp hp=>?_⟩;rcases Ajm.1 hp with rfl | hp
    .exact⟨Ai2,hm⟩
    .exact q3 p hp
   .split at h
    .rename_i h3;obtain ⟨c',h1,rfl⟩:=Aj5.1 h;obtain ⟨q1,q2,q3⟩:=Pz n _ c' (λv hv=>hr v (Alb hv)) h1;rw [Ajw]at q1 q2;have ht:(AF (r.take m.toNat)).length=m.toNat:=by unfold AF;rw [AjA,Ajd];omega
     refine⟨by simp only [Aji];omega,by simp only [BX,Aji,ht]at q2 ⊢;omega,λp hp=>?_⟩;rcases Ajm.1 hp with rfl | hp
     .exact⟨Ai2,Ai2⟩
     .exact q3 p hp
    .cases h
theorem Zs {n:Nat} {x:List Int} {c:List Prt} (hb:Byt x) (h:CE n x=some c):Sm x.length c:=by
 obtain ⟨q1,q2,q3⟩:=Pz n x c hb h;exact⟨q1,q2,λp hp=>by obtain ⟨⟨a,b⟩,c,d⟩:=q3 p hp;exact⟨by unfold I64;omega,by unfold I64;omega⟩⟩
theorem Zp {l:List Prt} (h:l.length<=1099511627776) (x:Prt):Aa (List.length l+List.length [x]) 32=true:=by simp [Aa];omega
theorem Pf:∀(n:Nat) (rest:List Int) (acc:List Prt),rest.length<=n->Byt rest->n<=1000000000->n+acc.length<=1099511627776->
  Ab Az (rest,acc)=some (match CE n rest with | some c=>.inl (acc++c) | none=>.inr false)
 | n,[],acc,_,_,_,_=>by
  rw [AE,Np];unfold Az cK gX sX;simp
 | 0,a::r,acc,h,_,_,_=>by simp at h
 | n+1,[a],acc,_,_,_,_=>by
  rw [AE];unfold Az cK gX sX;simp [CE]
 | n+1,k::m::r,acc,h,hb,hn,ha=>by
  have hm:=hb m Z;have hr:Byt r:=λv hv=>hb v (by simp [hv])
  simp only [Aji]at h;have hl2:¬ ((List.length (k::m::r):Int)) < 2:=by simp;omega
  have hl0:(0:Int) < ((List.length (k::m::r):Int)):=by simp;omega
  have hl3:(2:Int)<=((List.length (k::m::r):Int)):=by simp;omega
  have g0:(k::m::r)[Int.toNat 0]?=some k:=rfl;have g1:(k::m::r)[Int.toNat 1]?=some m:=rfl;have w:IntKind.wrap .i64 m=m:=w64 O O;have room:=Zp (O:acc.length<=1099511627776);have ih:=λp=>Pf n r (acc++[p]) O hr O (by simp only [Ajb,Aji,AjC];omega)
  rw [AE];by_cases k1:k=1
  .subst k1;have hs:Az (1::m::r,acc)=some (.inl (r,acc++[(m,0,[])])):=by
    unfold Az cK gX sX;dsimp only;rw [Ns];simp only [hl0,hl2,hl3,g0,g1,decide_true,decide_false,Ajx,Ajl,AjL,Ai3,Akg,show(0:Int)<=1 from by omega,show(0:Int)<=2 from by omega,w,room]
   rw [hs];dsimp only;rw [ih,CE];simp only [Ajx];cases CE n r with
   | none=>rfl
   | some c=>simp
  .by_cases k2:k=2
   .subst k2;have hs:Az (2::m::r,acc)=some (.inl (r,acc++[(0,m,[])])):=by
     unfold Az cK gX sX;dsimp only;rw [Ns];simp only [hl0,hl2,hl3,g0,g1,decide_true,decide_false,Ajx,Ajl,AjL,Ai3,Akg,show(0:Int)<=1 from by omega,show(0:Int)<=2 from by omega,(O:¬ (2:Int)=1),w,room]
    rw [hs];dsimp only;rw [ih,CE];simp only [(O:¬ (2:Int)=1),Ajx,AjL];cases CE n r with
    | none=>rfl
    | some c=>simp
   .by_cases k3:k=3/\m<=(r.length:Int)
    .obtain ⟨rfl,k4⟩:=k3;have tk:(List.drop (Int.toNat 0) r).take (Int.toNat m - Int.toNat 0)=r.take m.toNat:=rfl;have dr:(List.drop (Int.toNat m) r).take (Int.toNat (List.length r:Int) - Int.toNat m)=r.drop m.toNat:=AjR (by rw [Ajw];omega);have hs:Az (3::m::r,acc)=some (.inl (r.drop m.toNat,acc++[(0,0,AF (r.take m.toNat))])):=by
      unfold Az cK gX sX;dsimp only;rw [Ns];simp only [hl0,hl2,hl3,g0,g1,decide_true,decide_false,Ajx,Ajl,AjL,Ai3,Akg,show(0:Int)<=1 from by omega,show(0:Int)<=2 from by omega,(O:¬ (3:Int)=1),(O:¬ (3:Int)=2),w,k4,hm.1,tk,dr,room]
     rw [hs];dsimp only;rw [Pf n (r.drop m.toNat) _ (by rw [Ajw];omega) (λv hv=>hr v (Alb hv)) O (by simp only [Ajb,Aji,AjC];omega),CE];simp only [k4,Ajx,AjL,and_self,(O:¬ (3:Int)=1),(O:¬ (3:Int)=2)];cases CE n (r.drop m.toNat)with
     | none=>rfl
     | some c=>simp
    .have hs:Az (k::m::r,acc)=some (.inr (.inr false)):=by
      unfold Az cK gX sX;dsimp only;rw [Ns];by_cases k3':k=3
      .subst k3';have:¬ m<=(r.length:Int):=λh=>k3 ⟨rfl,h⟩
       simp only [hl0,hl2,hl3,g0,g1,decide_true,decide_false,Ajx,Ajl,AjL,Ai3,Akg,show(0:Int)<=1 from by omega,show(0:Int)<=2 from by omega,(O:¬ (3:Int)=1),(O:¬ (3:Int)=2),w,this]
      .simp only [hl0,hl2,hl3,g0,g1,k1,k2,k3',decide_true,decide_false,Ajx,Ajl,AjL,Ai3,Akg,show(0:Int)<=1 from by omega,show(0:Int)<=2 from by omega,w]
     rw [hs,CE];simp only [k1,k2,k3,AjL]
def BO (x:List Int):List Prt×Bool:=match CE x.length x with
 | some c=>if AG c=true then(c,true)else([],false)
 | none=>([],false)
theorem QF (x:List Int):Sm 240 (BO x).1:=by
 unfold BO;split
 .split
  .rename_i h;exact C4 h
  .exact Sm.nil _
 .exact Sm.nil _
theorem Y6 {x:List Int} (hb:Byt x) (hl:x.length<=1000000000):ET x=some (BO x):=by
 unfold ET BO;rw [Pf x.length x [] (AjB _) hb hl Ai0];cases hd:CE x.length x with
 | none=>rfl
 | some c=>
  simp only [Ai3,AjD];rw [Pm (Zs hb hd) O,Ai3];cases hg:AG c <;> simp
theorem TG {b:List Int} (hb:Byt b) (hl:b.length<=1000000000):∀(n:Nat) (pos:Nat) (acc:List Prt),pos<=b.length->b.length - pos<=n->acc.length<=500->
  Ab Bk (b,acc,(pos:Int))=some (match CE n (b.drop pos)with | some c=>if acc.length+c.length<=500 then .inl (acc++c)else .inr false | none=>.inr false)
 | n,pos,acc,hp,hn,ha=>by
  by_cases he:pos=b.length
  .subst he;rw [AE,AkN,Np];unfold Bk cK gX sX wI;simp [ha]
  have hlt:pos < b.length:=O
  obtain ⟨n,rfl⟩:∃n',n=n' + 1:=⟨n - 1,O⟩
  have c0:(pos:Int) < (b.length:Int):=O
  have w1:IntKind.wrap .i64 ((pos:Int)+1)=((pos+1:Nat):Int):=by rw [w64 O O];omega
  by_cases he2:pos+1=b.length
  .have hd:b.drop pos=[b[pos]]:=by rw [AjJ hlt,he2,AkN]
   have c1:(b.length:Int)<=((pos+1:Nat):Int):=O
   rw [AE,hd];unfold Bk cK gX sX wI;simp only [w1,c0,c1,decide_true,Ajx,CE]
  have hlt2:pos+1 < b.length:=O
  have hd:b.drop pos=b[pos]::b[pos+1]::b.drop (pos+2):=by rw [AjJ hlt,AjJ hlt2]
  have c1:¬ (b.length:Int)<=((pos+1:Nat):Int):=O
  have g1:b[Int.toNat ((pos+1:Nat):Int)]?=some b[pos+1]:=by rw [Ai5];exact Ai6 hlt2
  have g0:b[Int.toNat (pos:Int)]?=some b[pos]:=by rw [Ai5];exact Ai6 hlt
  have hm:=hb _ (Ajt hlt2);have w:IntKind.wrap .i64 b[pos+1]=b[pos+1]:=w64 O O;have room:=Zp (O:acc.length<=1099511627776);have p0:(0:Int)<=(pos:Int):=O
  have p1:(0:Int)<=((pos+1:Nat):Int):=O
  have w2:IntKind.wrap .i64 ((pos:Int)+2)=((pos+2:Nat):Int):=by rw [w64 O O];omega
  have al:∀p:Prt,(List.length (acc++[p]):Int)=(acc.length:Int)+1:=λp=>by simp
  have nx:∀(p:Prt) (q:Nat),q<=b.length->b.length - q<=n->(if decide ((500:Int) < (List.length (acc++[p]):Int))=true then(some (.inr (.inr false)):Option ((List Int×(List Prt×Int))⊕(List Prt⊕Bool)))else some (.inl (b,acc++[p],(q:Int))))=Bk (b,acc,(pos:Int))->
    Ab Bk (b,acc,(pos:Int))=some (match (CE n (b.drop q)).map (p :: ·)with | some c=>if acc.length+c.length<=500 then .inl (acc++c)else .inr false | none=>.inr false):=by
   intro p q hq hqn hs;rw [AE,<- hs];by_cases h5:acc.length+1<=500
   .have h5':¬ (500:Int) < (List.length (acc++[p]):Int):=by rw [al];omega
    rw [Ai8 (by simpa using h5')];dsimp only;rw [TG hb hl n q (acc++[p]) hq hqn Ai0];cases CE n (b.drop q)with
    | none=>rfl
    | some c=>
     simp only [Aj0,Ajb,Aji,AjC,Ajf,AjS,AjD,Ajv,Akl,Nat.add_comm 1]
   .have h5':(500:Int) < (List.length (acc++[p]):Int):=by rw [al];omega
    rw [Ai9 (by simpa using h5')];cases CE n (b.drop q)with
    | none=>rfl
    | some c=>
     have:¬ acc.length+(p::c).length<=500:=by simp only [Aji];omega
     simp only [Aj0,this,AjL]
  rw [hd,CE];by_cases k1:b[pos]=1
  .simp only [k1,Ajx];refine nx _ (pos+2) O O ?_;unfold Bk cK gX sX wI;simp only [w1,w2,w,c0,c1,g0,g1,p0,p1,k1,decide_true,decide_false,Ajx,Ajl,AjL,Ai3,room]
  .by_cases k2:b[pos]=2
   .simp only [k2,(O:¬ (2:Int)=1),Ajx,AjL];refine nx _ (pos+2) O O ?_;unfold Bk cK gX sX wI;simp only [w1,w2,w,c0,c1,g0,g1,p0,p1,k2,decide_true,decide_false,Ajx,Ajl,AjL,Ai3,room,(O:¬ (2:Int)=1)]
   .by_cases k3:b[pos]=3
    .have w3:IntKind.wrap .i64 ((IntKind.wrap .i64 ((b.length:Int) - (pos:Int))) - 2)=((b.length - (pos+2):Nat):Int):=by rw [w64 (n:=(b.length:Int) - (pos:Int)) O O,w64 O O];omega
     have hdl:(b.drop (pos+2)).length=b.length - (pos+2):=Ajw;by_cases k4:b[pos+1]<=((b.length - (pos+2):Nat):Int)
     .obtain ⟨m,hme⟩:=Ajy hm.1;have k4':b[pos+1]<=(((b.drop (pos+2)).length:Nat):Int):=by rw [hdl];exact k4
      simp only [k3,k4',(O:¬ (3:Int)=1),(O:¬ (3:Int)=2),and_self,Ajx,AjL,Alh];have hq:pos+2+b[pos+1].toNat<=b.length:=O
      refine nx _ (pos+2+b[pos+1].toNat) hq O ?_;have w4:IntKind.wrap .i64 (((pos+2:Nat):Int)+b[pos+1])=((pos+2+b[pos+1].toNat:Nat):Int):=by rw [w64 O O];omega
      have w5:IntKind.wrap .i64 ((pos:Int)+b[pos+1])=((pos+b[pos+1].toNat:Nat):Int):=by rw [w64 O O];omega
      have w6:IntKind.wrap .i64 (((pos+b[pos+1].toNat:Nat):Int)+2)=((pos+2+b[pos+1].toNat:Nat):Int):=by rw [w64 O O];omega
      have k5:¬ ((b.length - (pos+2):Nat):Int) < b[pos+1]:=O
      have i1:(0:Int)<=((pos+2:Nat):Int):=O
      have i2:((pos+2:Nat):Int)<=((pos+2+b[pos+1].toNat:Nat):Int):=O
      have i3:((pos+2+b[pos+1].toNat:Nat):Int)<=(b.length:Int):=O
      have tk:(List.drop (Int.toNat ((pos+2:Nat):Int)) b).take (Int.toNat ((pos+2+b[pos+1].toNat:Nat):Int) - Int.toNat ((pos+2:Nat):Int))=(b.drop (pos+2)).take b[pos+1].toNat:=by
       rw [Ai5,Ai5];congr 1;omega
      unfold Bk cK gX sX wI;simp only [w1,w2,w,w3,w4,w5,w6,c0,c1,g0,g1,p0,p1,k3,k5,i1,i2,i3,tk,decide_true,decide_false,Ajx,Ajl,AjL,Ai3,Akg,room,(O:¬ (3:Int)=1),(O:¬ (3:Int)=2)]
     .have k4':¬ b[pos+1]<=(((b.drop (pos+2)).length:Nat):Int):=by rw [hdl];exact k4
      have k5:((b.length - (pos+2):Nat):Int) < b[pos+1]:=O
      simp only [k3,k4',(O:¬ (3:Int)=1),(O:¬ (3:Int)=2),and_false,AjL];rw [AE];unfold Bk cK gX sX wI;simp only [w1,w2,w,w3,c0,c1,g0,g1,p0,p1,k3,k5,decide_true,decide_false,Ajx,Ajl,AjL,Ai3,(O:¬ (3:Int)=1),(O:¬ (3:Int)=2)]
    .simp only [k1,k2,k3,false_and,AjL];rw [AE];unfold Bk cK gX sX wI;simp only [w1,w2,w,c0,c1,g0,g1,p0,p1,k1,k2,k3,decide_true,decide_false,Ajx,Ajl,AjL,Ai3]
theorem AfX {x:List Int} (hb:Byt x) (hl:x.length<=1000000000):Ij x=some (BO x):=by
 unfold Ij BO;have:=TG hb hl x.length 0 [] (AkC _) Z Z;rw [Aj8]at this;rw [show Ab Bk (x,[],0)=_ from this];cases hd:CE x.length x with
 | none=>rfl
 | some c=>
  simp only [AjC,Ajv,AjD];by_cases h5:c.length<=500
  .rw [Ai9 h5];simp only [Ai3];rw [LN (Zs hb hd) O,Ai3];cases hg:AG c <;> simp
  .rw [Ai8 h5];have hg:¬ AG c=true:=λh=>by have:=(C4 h).len;omega
   simp only [Ai3,Ai8 hg]
end Go.V.G
set_option maxRecDepth 100000
namespace Go.V.G
open Go.V
theorem M4 {l:List Rn} (h:AM l (AL l) 60=true):Pos l/\AL l<=120:=by
 obtain ⟨⟨q1,_⟩,_,q4⟩:=goodRuns_iff.1 h;exact⟨q4.pos,q1.2⟩
theorem Ur {l:List Rn} (hl:l.length<=1000000000):∀(n i:Nat),i+n=l.length->(∀q∈l.take i,1<=q.2)->AL (l.take i)<=240->
  Ab Ch (l,AL (l.take i),l,(l.length:Int),(i:Int))=some (.inl (l,AL l))\/(Ab Ch (l,AL (l.take i),l,(l.length:Int),(i:Int))=some (.inr false)/\AM l (AL l) 60=false)
 | 0,i,hi,hp,hs=>by
  left;obtain rfl:i=l.length:=O
  rw [AE];unfold Ch gX wI;dsimp only;rw [Ai8 Z,AjT]
 | n+1,i,hi,hp,hs=>by
  have hlt:i < l.length:=O
  have h0:0<=AL (l.take i):=DN hp;have e1:=Ut hlt;have c0:(i:Int) < (l.length:Int):=O
  have hge:l[Int.toNat (i:Int)]?=some l[i]:=by rw [Ai5];exact Ai6 hlt
  have p0:(0:Int)<=(i:Int):=O
  have bad:(¬ (1<=l[i].2/\l[i].2<=120)\/120 < AL (l.take i))->AM l (AL l) 60=false:=by
   intro h;cases hg:AM l (AL l) 60 with
   | false=>rfl
   | true=>
    obtain ⟨g1,g2⟩:=M4 hg;have h1:=g1 _ (Ajt hlt);have h2:=VA g1 _ (Ajt hlt);have h3:=O1 g1 i;omega
  by_cases h1:1<=l[i].2/\l[i].2<=120
  .by_cases h2:120 < AL (l.take i)
   .right;refine⟨?_,bad (.inr h2)⟩;rw [AE];unfold Ch gX wI;simp only [c0,p0,hge,decide_true,Ajx,Ai3,AI,h1,and_self,h2,AjW,Ajl,AjL]
   .have w:IntKind.wrap .i64 (AL (l.take i)+l[i].2)=AL (l.take (i+1)):=by rw [w64 O O,e1]
    have hs':Ch (l,AL (l.take i),l,(l.length:Int),(i:Int))=some (.inl (l,AL (l.take (i+1)),l,(l.length:Int),((i+1:Nat):Int))):=by
     unfold Ch gX wI;simp only [c0,p0,hge,decide_true,decide_false,Ajx,Ai3,AI,h1,and_self,h2,AjW,Ajl,AjL,w,Aw (O:l.length<=1099511627776) hlt]
    rw [AE,hs'];exact Ur hl n (i+1) O (λq hq=>by
     rw [Aju hlt]at hq;rcases Ajc.1 hq with hq | hq
     .exact hp q hq
     .rw [Aje.1 hq];exact h1.1) O
  .right;refine⟨?_,bad (.inl h1)⟩;rw [AE];unfold Ch gX wI;simp only [c0,p0,hge,decide_true,Ajx,Ai3,AI,h1,decide_false,AkY]
theorem UM {l:List Rn} (hl:l.length<=1000000000):Id l=some (AM l (AL l) 60):=by
 unfold Id;rcases Ur hl l.length 0 O Z (by simp [AL])with h | ⟨h,h2⟩
 .rw [show Ab Ch (l,0,l,(l.length:Int),0)=_ from h,Ai3];dsimp only;rw [Od O];rfl
 .rw [show Ab Ch (l,0,l,(l.length:Int),0)=_ from h,Ai3,h2]
theorem XF {l:List Rn} (hl:l.length<=1000000000):∀(n i:Nat),i+n=l.length->(∀q∈l.take i,1<=q.2)->AL (l.take i)<=120->
  (Ab DD (AL (l.take i),l,(l.length:Int),(i:Int))=some (.inl (AL l))/\0<=AL l)\/(Ab DD (AL (l.take i),l,(l.length:Int),(i:Int))=some (.inr (-1))/\AM l (AL l) 60=false)
 | 0,i,hi,hp,hs=>by
  left;obtain rfl:i=l.length:=O
  have h0:0<=AL (l.take l.length):=DN hp;rw [AjT]at h0 ⊢;refine⟨?_,h0⟩;rw [AE];unfold DD gX wI;dsimp only;rw [Ai8 Z]
 | n+1,i,hi,hp,hs=>by
  have hlt:i < l.length:=O
  have h0:0<=AL (l.take i):=DN hp;have e1:=Ut hlt;have c0:(i:Int) < (l.length:Int):=O
  have hge:l[Int.toNat (i:Int)]?=some l[i]:=by rw [Ai5];exact Ai6 hlt
  have p0:(0:Int)<=(i:Int):=O
  have w0:IntKind.wrap .i64 (120 - AL (l.take i))=120 - AL (l.take i):=w64 O O;by_cases h1:1<=l[i].2/\l[i].2<=120 - AL (l.take i)
  .have w:IntKind.wrap .i64 (AL (l.take i)+l[i].2)=AL (l.take (i+1)):=by rw [w64 O O,e1]
   have hs':DD (AL (l.take i),l,(l.length:Int),(i:Int))=some (.inl (AL (l.take (i+1)),l,(l.length:Int),((i+1:Nat):Int))):=by
    unfold DD gX wI;simp only [c0,p0,hge,decide_true,decide_false,Ajx,Ai3,B8,w0,h1,and_self,AjW,Ajl,AjL,w,Aw (O:l.length<=1099511627776) hlt]
   rw [AE,hs'];exact XF hl n (i+1) O (λq hq=>by
    rw [Aju hlt]at hq;rcases Ajc.1 hq with hq | hq
    .exact hp q hq
    .rw [Aje.1 hq];exact h1.1) O
  .right;refine⟨?_,?_⟩
   .rw [AE];unfold DD gX wI;simp only [c0,p0,hge,decide_true,Ajx,Ai3,B8,w0,h1,decide_false,AkY]
   .cases hg:AM l (AL l) 60 with
    | false=>rfl
    | true=>
     obtain ⟨g1,g2⟩:=M4 hg;have h1:=g1 _ (Ajt hlt);have h3:=O1 g1 (i+1);omega
theorem YD {l:List Rn} (hl:l.length<=1000000000):NI l=some (AM l (AL l) 60):=by
 unfold NI SE;rcases XF hl l.length 0 O Z (by simp [AL])with⟨h,h2⟩ | ⟨h,h2⟩
 .rw [show Ab DD (0,l,(l.length:Int),0)=_ from h];simp only [Ai3,h2,decide_true,Ajx];rw [N6 O];rfl
 .rw [show Ab DD (0,l,(l.length:Int),0)=_ from h,h2];rfl
theorem KV:∀(xs:List Int),(Bx xs).length=xs.length / 2
 | []=>rfl
 | [a]=>by simp [Bx]
 | a::b::xs=>by
  have:=KV xs;simp only [Bx,Aji];omega
theorem Acg:∀(xs:List Int) (i:Nat) (h:2 * i+1 < xs.length),(Bx xs)[i]?=some (xs[2 * i],xs[2 * i+1])
 | [],i,h=>by simp at h
 | [a],i,h=>by simp at h
 | a::b::xs,0,h=>rfl
 | a::b::xs,i+1,h=>by
  simp only [Aji]at h;have:=Acg xs i O;simp only [Bx,Akb,this];rfl
def rdR (x:List Int):List Rn×Bool:=if x.length % 2=0/\AM (Bx x) (AL (Bx x)) 60=true then(Bx x,true)else([],false)
theorem Ah4 {x:List Int} (hb:Byt x) (hl:x.length<=1048576):GC x=some (rdR x):=by
 unfold GC rdR;rw [Ai9 ⟨hl,hb⟩];by_cases h:x.length % 2=0
 .rw [Ai9 h,UM (by rw [KV];omega),Ai3];cases AM (Bx x) (AL (Bx x)) 60 <;> simp [h]
 .rw [Ai8 h,Ai8 (λq=>h q.1)]
theorem AhR {x:List Int} (hb:Byt x) (hl:x.length<=1048576):JR x=some (rdR x):=by
 unfold JR cK;have hm:Int.tmod (x.length:Int) 2=((x.length % 2:Nat):Int):=by rw [AkE O];omega
 rw [hm];by_cases h:x.length % 2=0
 .by_cases h2:240 < x.length
  .have hg:¬ AM (Bx x) (AL (Bx x)) 60=true:=λhg=>by
    obtain ⟨g1,g2⟩:=M4 hg;have:=MV g1;rw [KV]at this;omega
   have hr:rdR x=([],false):=Ai8 (λq=>hg q.2);rw [hr];have h3:(240:Int) < (x.length:Int):=O
   simp [h,h3]
  .have h3:¬ (240:Int) < (x.length:Int):=O
   have hloop:=An Fx (λi=>(x,(Bx x).take i,((2 * i:Nat):Int))) (x.length / 2) (Bx x) (λi hi=>by
    have c0:((2 * i:Nat):Int) < (x.length:Int):=O
    have i1:2 * i < x.length:=O
    have i2:2 * i+1 < x.length:=O
    have g0:x[Int.toNat ((2 * i:Nat):Int)]?=some x[2 * i]:=by rw [Ai5];exact Ai6 i1
    have w1:IntKind.wrap .i64 (((2 * i:Nat):Int)+1)=((2 * i+1:Nat):Int):=by rw [w64 O O];omega
    have w2:IntKind.wrap .i64 (((2 * i:Nat):Int)+2)=((2 * (i+1):Nat):Int):=by rw [w64 O O];omega
    have g1:x[Int.toNat ((2 * i+1:Nat):Int)]?=some x[2 * i+1]:=by rw [Ai5];exact Ai6 i2
    have b0:=hb _ (Ajt i1);have b1:=hb _ (Ajt i2);have w3:IntKind.wrap .i64 x[2 * i]=x[2 * i]:=w64 O O;have w4:IntKind.wrap .i64 x[2 * i+1]=x[2 * i+1]:=w64 O O;have hpl:i < (Bx x).length:=by rw [KV];exact hi
    have hpg:=Acg x i i2;have ht:(Bx x).take (i+1)=(Bx x).take i++[(x[2 * i],x[2 * i+1])]:=by
     rw [List.take_add_one,hpg];rfl
    unfold Fx cK gX wI;simp only [c0,w1,w2,w3,w4,g0,g1,decide_true,Ajx,Ai3,show(0:Int)<=((2 * i:Nat):Int) from by omega,show(0:Int)<=((2 * i+1:Nat):Int) from by omega,ht,
     show Aa (List.length ((Bx x).take i)+List.length ([(x[2 * i],x[2 * i+1])]:List (Int×Int))) 16=true from AeJ (by rw [Ajd,KV];simp;omega) O]) (by
    have c0:¬ ((2 * (x.length / 2):Nat):Int) < (x.length:Int):=O
    unfold Fx cK gX wI;simp only [c0,decide_false,Ajl,AjL];rw [AjR (by rw [KV];exact AjB _)])
   have hl0:Ab Fx (x,[],0)=some (Bx x):=by simpa using hloop
   simp only [h,h3,(O:¬ (2:Int)=0),not_false_eq_true,decide_true,decide_false,Ajx,Ajl,AjL,Ai3,hl0,(O:¬ (((0:Nat):Int))=1)];rw [YD (by rw [KV];omega),Ai3];unfold rdR;cases AM (Bx x) (AL (Bx x)) 60 <;> simp [h]
 .have h1:x.length % 2=1:=O
  have hr:rdR x=([],false):=Ai8 (λq=>h q.1);rw [hr];simp [h1]
theorem ZD (x:List Int):(rdR x).1.length<=120:=by
 unfold rdR;split
 .rename_i h;obtain ⟨g1,g2⟩:=M4 h.2;have:=MV g1;dsimp only;omega
 .simp
def be (x:List Int):Int:=x.foldl (λa b=>a * 256+b) 0
end Go.V.G
set_option maxRecDepth 100000
namespace Go.V.G
open Go.V
theorem whl {σ τ:Type} (L:σ->Option (σ⊕τ)) (st:Nat->σ) (fin:Nat->τ) (ok:Nat->Bool) (n:Nat)
  (step:∀j,j < n->ok j=true->L (st j)=some (.inl (st (j+1)))) (stop:∀j,j<=n->(j=n\/ok j=false)->L (st j)=some (.inr (fin j))) :
  ∃j,j<=n/\(j=n\/ok j=false)/\Ab L (st 0)=some (fin j):=by
 have:∀d,d<=n->∃j,j<=n/\(j=n\/ok j=false)/\Ab L (st (n - d))=some (fin j):=by
  intro d
  induction d with
  | zero=>intro _;exact⟨n,AjB _,.inl rfl,by rw [AE,AkU,stop n (AjB _) (.inl rfl)]⟩
  | succ d ih=>
   intro hd;by_cases h:ok (n - (d+1))=true
   .obtain ⟨j,h1,h2,h3⟩:=ih O;refine⟨j,h1,h2,?_⟩;rw [AE,step _ O h];rw [(O:n - d=n - (d+1)+1)]at h3;exact h3
   .have h':ok (n - (d+1))=false:=by simpa using h
    exact⟨n - (d+1),O,.inr h',by rw [AE,stop _ O (.inr h')]⟩
 have h:=this n (AjB _);rw [AkV]at h;exact h
theorem AgS {b:Bls} (hu:∀c∈b,U8s c) (a:Int):∀v∈rcO b a,0<=v/\v<=255:=by
 intro v hv;unfold rcO at hv;have hv:=Alb (AkF hv);by_cases h:a.toNat < b.length
 .exact hu _ (Bz h) v hv
 .unfold blk at hv;rw [Ajr O]at hv;cases hv
theorem Ab8 {b:Bls} {x y:List Int} (hu:∀c∈b,U8s c):∀(f:Nat) (a:Int) (d ch:List Int) {p:List Int×List Int},(∀v∈d,0<=v/\v<=255)->rcN b x y f a d ch=some p->∀v∈p.1,0<=v/\v<=255
 | 0,_,_,_,p,_,h=>by cases h
 | f+1,a,d,ch,p,hd,h=>by
  have hd':∀v∈d++rcO b a,0<=v/\v<=255:=λv hv=>by
   rcases Ajc.1 hv with hv | hv
   .exact hd v hv
   .exact AgS hu a v hv
  unfold rcN at h;split at h
  .split at h
   .injection h with h;subst h;exact hd'
   .exact Ab8 hu f _ _ _ hd' h
  .cases h
theorem J8 {b:Bls} {x y:List Int} (g:RS b x y) (top:List Int) (k:Nat):Byt (rkd b x y top k):=by
 intro v hv;unfold rkd rcA at hv;split at hv
 .rename_i p hp;exact Ab8 g.hu _ _ _ _ Z hp v hv
 .cases hv
theorem Aaj {b:Bls} {top:List Int} (a1 a2 a3 a4 a5:Int) (b':Bls) (x y z:List Int) (f:Int) (t:List UInt8) (r:List (Int×Int)) (cs:List (List Prt)) (rc:List Int) {k:Nat} (hk:k < 1024) :
  DH a1 a2 a3 a4 a5 b' x y z (ksT b top 1024) f t r cs rc (k:Int)=some (vl b top k):=by
 have:=PV b top 1024;rw [Aey O,Ahc b top hk]
theorem AeE {i:Nat} (hi:i < 64):FM 0 (i:Int)=some (i:Int):=by
 have:=J7 (k:=0) (i:=i) O hi;rw [Nat.mul_zero,Ajv]at this;exact this
def tpc (b:Bls) (x y:List Int) (a:Int):List Int:=(ptx b x y a).getD []
def tcl (b:Bls) (x y:List Int) (a:Int):List Int:=if(ptx b x y a).isSome=true then [a]else []
def tok (b:Bls) (x y:List Int) (a:Int):Bool:=(ptx b x y a).isSome
def ttx (b:Bls) (x y:List Int) (a:Int):List UInt8:=(tin b x y a).1
def btx (b:Bls) (x y:List Int) (P bl:List Int) (a:Int):List Int:=match ptx b x y a with
 | some l=>bpn P (bl++[a]) l l.length
 | none=>bl
theorem Rq (b:Bls) (x y:List Int) (a:Int):(tpc b x y a).length<=3/\(tcl b x y a).length<=1/\(ttx b x y a).length<=120:=by
 unfold tpc tcl ttx tin;cases h:ptx b x y a with
 | none=>simp
 | some l=>
  obtain ⟨⟨hall,_,hlen⟩,_⟩:=Iv h;have:=Sj hall;simp;omega
theorem Agg {b:Bls} {x y z:List Int} (g:RS b x y) (a:Int) {P C:List Int} (hC:C.length<=90000) (hP:P.length<=90000) (fn:Bool) (rs:List Int) :
  BF a b x y z rs (srt C) (mny b.length P) (okb fn C)=some (ttx b x y a,b,x,y,z,rs,srt (C++tcl b x y a),mny b.length (P++tpc b x y a),okb (fn && tok b x y a) (C++tcl b x y a)):=by
 unfold ttx tcl tpc tok tin;cases h:ptx b x y a with
 | none=>
  rw [XG g h];simp [okb]
 | some l=>
  rw [VL g h hC hP];simp
theorem Ahh {b:Bls} {x y z:List Int} (g:RS b x y) (a:Int) {P bl:List Int} (hbl:bl.length<=90000) (hP:P.length<=90000) (fn:Bool) (ks rs:List Int) (d:Bls) (a1:Int) (a2:Bool) (a3 a4 a5 a6 a7 a8:Int) :
  Bj a ks bl rs (bd fn bl) d a1 a2 a3 a4 a5 a6 a7 a8 b x y z (std P) =
   some (ttx b x y a,ks,btx b x y P bl a,rs,bd (fn && tok b x y a) (btx b x y P bl a),d,a1,a2,a3,a4,a5,a6,a7,a8,b,x,y,z,std (P++tpc b x y a)):=by
 unfold ttx tpc tok btx tin;cases h:ptx b x y a with
 | none=>
  rw [VP g h];simp [bd]
 | some l=>
  rw [WO g h hbl hP];simp
theorem ZJ {b:Bls} {x y C P bl:List Int} (h:Led C P bl) (a:Int):Led (C++tcl b x y a) (P++tpc b x y a) (btx b x y P bl a):=by
 unfold tcl tpc btx;cases hp:ptx b x y a with
 | none=>simpa using h
 | some l=>
  have:=ZL (l:=l) (h.claim a) l.length (AjB _);rw [AjT]at this;simpa using this
theorem Za (b:Bls) (x y P bl:List Int) (a:Int):(btx b x y P bl a).length<=bl.length+4:=by
 unfold btx;split
 .rename_i l hp;obtain ⟨⟨_,_,hlen⟩,_⟩:=Iv hp;have:=Sv P (bl++[a]) l l.length;rw [Ajb,Ajh]at this;omega
 .omega
section
variable {F H E R T:Int} {b:Bls} {x y z top:List Int}
theorem AhW {ks:List Kv} {w:List Int} (hl:ks.length=w.length) (hk:ks.length<=100000) (pg:List Int) :
  Ab EH (ks,pg,w,(ks.length:Int),0,0,0,0,0,0,0,[],F,H,E,R,T,b,x,y,z)=some (if ks.map (·.1)=w then .inl (ks,pg,0,0,0,0,0,0,[],F,H,E,R,T,b,x,y,z)else .inr (false,0,0,0,0,0,0,[])):=by
 have h:=HE EH (λi=>(ks,pg,w,(ks.length:Int),((i:Nat):Int),0,0,0,0,0,0,[],F,H,E,R,T,b,x,y,z)) (λi=>decide ((sg ks i).1=gb w i)) (false,0,0,0,0,0,0,[]) (ks,pg,0,0,0,0,0,0,[],F,H,E,R,T,b,x,y,z) ks.length (λi hi=>by
  unfold EH cK cZ wI;dsimp only;rw [iy O,iy O,iy O,Ajv,Ai5,IV hi,Ai3,Ai3,iy O,iy O,Ai O,Ai3];by_cases hq:(sg ks i).1=gb w i
  .rw [ino (not_not_intro hq),decide_eq_true hq,Ai9 rfl,Al O]
  .rw [iy hq,decide_eq_false hq,Ai8 Z]) (by
  unfold EH cK cZ wI;dsimp only;rw [ino O])
 rw [show Ab EH (ks,pg,w,(ks.length:Int),0,0,0,0,0,0,0,[],F,H,E,R,T,b,x,y,z)=_ from h];have e:((List.range ks.length).all λi=>decide ((sg ks i).1=gb w i))=decide (ks.map (·.1)=w):=by
  rw [Ak0,all_range,decide_eq_true_eq];constructor
  .intro q;refine Aj1 λi=>?_
   by_cases hi:i < ks.length
   .have:=q i hi;simp only [decide_eq_true_eq]at this;rw [AjI,IV hi,Ai O,<- this];rfl
   .rw [Ajr Ai0,Ajr O]
  .rintro q i hi;have h1:(ks.map (·.1))[i]?=w[i]?:=by rw [q]
   rw [AjI,IV hi,Ai O]at h1;injection h1 with h1
   exact decide_eq_true h1
 rw [e];by_cases hq:ks.map (·.1)=w <;> simp [hq]
def lod (b:Bls) (x y top:List Int) (f j:Nat):List (List Int):=(List.range j).map λi=>rkd b x y top (f+i)
def Cm (b:Bls) (x y top:List Int) (f j:Nat):List Int:=(List.range j).flatMap λi=>rkc b x y top (f+i)
def loo (b:Bls) (x y top:List Int) (f j:Nat):Bool:=(List.range j).all λi=>rko b x y top (f+i) && (BO (rkd b x y top (f+i))).2
theorem Ada (b:Bls) (x y top:List Int) (f j:Nat):lod b x y top f (j+1)=lod b x y top f j++[rkd b x y top (f+j)]:=by unfold lod;rw [Nv]
theorem QW (b:Bls) (x y top:List Int) (f j:Nat):Cm b x y top f (j+1)=Cm b x y top f j++rkc b x y top (f+j):=by unfold Cm;rw [AkL,Akn];simp
theorem VG (b:Bls) (x y top:List Int) (f j:Nat):loo b x y top f (j+1)=(loo b x y top f j && (rko b x y top (f+j) && (BO (rkd b x y top (f+j))).2)):=by unfold loo;rw [AkL,List.all_append];simp
theorem Tg (b:Bls) (x y top:List Int) (f:Nat):∀j,(Cm b x y top f j).length<=10 * j
 | 0=>by simp [Cm]
 | j+1=>by
  have h1:=Tg b x y top f j;have h2:=(He b x y top (f+j)).1;rw [QW,Ajb];omega
def chC (l:List (List Int)):List (List Prt):=l.map λc=>(BO c).1
theorem AdK (l:List (List Int)) (c:List Int):chC (l++[c])=chC l++[(BO c).1]:=by unfold chC;rw [AjM];rfl
theorem AhH (h:SB b x y z) (g:RS b x y) {f hd:Nat} (hf:f<=hd) (hh:hd<=60) {C rs m:List Int} (hC:C.length<=80000) (fn:Bool) (t:List UInt8) (r:List Rn) :
  ∃j,j<=hd - f/\(j=hd - f\/okb (fn && loo b x y top f j) (C++Cm b x y top f j)=false)/\
   Ab Gj ((f:Int),0,0,0,0,0,0,[],(f:Int),(hd:Int),E,R,T,b,x,y,z,(f:Int),(hd:Int),E,R,T,b,x,y,z,ksT b top 1024,0,[],(f:Int),t,r,[],b,x,y,z,rs,srt C,m,okb fn C) =
    some (0,0,0,0,0,0,[],(f:Int),(hd:Int),E,R,T,b,x,y,z,(f:Int),(hd:Int),E,R,T,b,x,y,z,ksT b top 1024,0,[],(f:Int),t,r,chC (lod b x y top f j),b,x,y,z,rs,srt (C++Cm b x y top f j),m,okb (fn && loo b x y top f j) (C++Cm b x y top f j)):=by
 have hw:=whl Gj (λj=>(((f+j:Nat):Int),0,0,0,0,0,0,[],(f:Int),(hd:Int),E,R,T,b,x,y,z,(f:Int),(hd:Int),E,R,T,b,x,y,z,ksT b top 1024,0,[],(f:Int),t,r,chC (lod b x y top f j),b,x,y,z,rs,srt (C++Cm b x y top f j),m,okb (fn && loo b x y top f j) (C++Cm b x y top f j)))
  (λj=>(0,0,0,0,0,0,[],(f:Int),(hd:Int),E,R,T,b,x,y,z,(f:Int),(hd:Int),E,R,T,b,x,y,z,ksT b top 1024,0,[],(f:Int),t,r,chC (lod b x y top f j),b,x,y,z,rs,srt (C++Cm b x y top f j),m,okb (fn && loo b x y top f j) (C++Cm b x y top f j)))
  (λj=>okb (fn && loo b x y top f j) (C++Cm b x y top f j)) (hd - f) (λj hj hok=>by
   have hll:=Tg b x y top f j;have hk:=He b x y top (f+j);have hr:=Pv (z:=z) (top:=top) h g (C:=C++Cm b x y top f j) (by rw [Ajb];omega) (k:=f+j) (fn && loo b x y top f j) rs m;have hcl:(chC (lod b x y top f j)).length=j:=by unfold chC lod;simp
   unfold Gj cK wI;dsimp only;rw [iy O,Ai3];dsimp only;rw [hok]at hr ⊢;rw [Ai9 rfl,AeE O,Ai3,Aaj _ _ _ _ _ _ _ _ _ _ _ _ _ _ O,Ai3,hr,Ai3];dsimp only;rw [AfX (J8 g top (f+j)) O,Ai3,QW,VG,Ada,AdK,<- Ajf];have hb:(if okb (fn && loo b x y top f j && rko b x y top (f+j)) (C++Cm b x y top f j++rkc b x y top (f+j))=true then(BO (rkd b x y top (f+j))).2 else false)=okb (fn && (loo b x y top f j && (rko b x y top (f+j) && (BO (rkd b x y top (f+j))).2))) (C++Cm b x y top f j++rkc b x y top (f+j)):=by
    unfold okb;cases fn <;> cases loo b x y top f j <;> cases rko b x y top (f+j) <;> cases ndb (C++Cm b x y top f j++rkc b x y top (f+j)) <;> cases (BO (rkd b x y top (f+j))).2 <;> rfl
   have hro:Aa ((chC (lod b x y top f j)).length+([(BO (rkd b x y top (f+j))).1]:List (List Prt)).length) 24=true:=by simp only [Aa,decide_eq_true_eq,Ajh];omega
   rw [<- hb];by_cases hq:okb (fn && loo b x y top f j && rko b x y top (f+j)) (C++Cm b x y top f j++rkc b x y top (f+j))=true
   .rw [Ai9 hq,Ai9 hq,Ai3];dsimp only;rw [Ai9 hro,Al O];rfl
   .rw [Ai8 hq,Ai8 hq,Ai3];dsimp only;rw [Ai9 hro,Al O];rfl) (λj hj hok=>by
   unfold Gj cK wI;dsimp only;by_cases hlt:j < hd - f
   .rw [iy O,Ai3];dsimp only;rcases hok with hok | hok
    .omega
    .rw [hok,Ai8 Z]
   .rw [ino O,Ai3];dsimp only;rw [Ai8 Z])
 obtain ⟨j,h1,h2,h3⟩:=hw;refine⟨j,h1,h2,?_⟩;have e0:lod b x y top f 0=[]:=rfl;have e1:Cm b x y top f 0=[]:=rfl;have e2:loo b x y top f 0=true:=rfl;rw [e0,e1,e2,Ajk,AkD]at h3;exact h3
end
end Go.V.G
set_option maxRecDepth 100000
namespace Go.V.G
open Go.V
def upk (L:List (Int×Int)):List (Int×Int):=L.filter λs=>decide (0 < s.1)
def upc (b:Bls) (x y top:List Int) (L:List (Int×Int)):List Int:=(upk L).flatMap λs=>rkc b x y top (ky s)
def upo (b:Bls) (x y top:List Int) (L:List (Int×Int)):Bool:=(upk L).all λs=>rko b x y top (ky s)
theorem V5 (L:List (Int×Int)) (s:Int×Int):upk (L++[s])=upk L++(if 0 < s.1 then [s]else []):=by
 unfold upk;rw [Akz];by_cases h:0 < s.1 <;> simp [h]
theorem AeB (b:Bls) (x y top:List Int) (L:List (Int×Int)) (s:Int×Int):upc b x y top (L++[s])=upc b x y top L++(if 0 < s.1 then rkc b x y top (ky s)else []):=by
 unfold upc;rw [V5,Akn];by_cases h:0 < s.1 <;> simp [h]
theorem Aeh (b:Bls) (x y top:List Int) (L:List (Int×Int)) (s:Int×Int):upo b x y top (L++[s])=(upo b x y top L && (if 0 < s.1 then rko b x y top (ky s)else true)):=by
 unfold upo;rw [V5,List.all_append];by_cases h:0 < s.1 <;> simp [h]
theorem ZC (b:Bls) (x y top:List Int) (L:List (Int×Int)):(upc b x y top L).length<=10 * L.length:=by
 unfold upc;have h1:(upk L).length<=L.length:=Akm _ _;have h2:∀M:List (Int×Int),(M.flatMap λs=>rkc b x y top (ky s)).length<=10 * M.length:=by
  intro M
  induction M with
  | nil=>simp
  | cons s M ih=>
   have:=(He b x y top (ky s)).1;rw [Akq,Ajb,Aji];omega
 have:=h2 (upk L);omega
def upe (b:Bls) (x y top:List Int) (f:Int) (t:List UInt8) (cs:List (List Prt)) (s:Int×Int):Bool:=!decide (0 < s.1) || (AF (rkd b x y top (ky s)) == AF (enc (bt f t cs s)))
def ckc (b:Bls) (x y top:List Int) (l:List Nat):List Int:=l.flatMap λr=>tcl b x y (vl b top (384+r))
def ckp (b:Bls) (x y top:List Int) (l:List Nat):List Int:=l.flatMap λr=>tpc b x y (vl b top (384+r))
def cko (b:Bls) (x y top:List Int) (l:List Nat):Bool:=l.all λr=>tok b x y (vl b top (384+r))
def cke (b:Bls) (x y top:List Int) (f:Nat) (t:List UInt8) (cs:List (List Prt)) (r:Nat):Bool:=ttx b x y (vl b top (384+r)) == txt t (cs.take (r - f))
theorem PF (b:Bls) (x y top:List Int):∀l:List Nat,(ckc b x y top l).length<=l.length/\(ckp b x y top l).length<=3 * l.length
 | []=>by simp [ckc,ckp]
 | r::l=>by
  have h1:=PF b x y top l;have h2:=Rq b x y (vl b top (384+r));unfold ckc ckp at *;rw [Akq,Akq,Ajb,Ajb,Aji];omega
def pcn (P:List Int) (n:Nat):List Int:=((List.range n).filter λk=>decide (0 < P.count ((k:Nat):Int))).map λk=>((k:Nat):Int)
theorem Adq (P:List Int) (n:Nat):pcn P (n+1)=pcn P n++(if 0 < P.count (n:Int)then [(n:Int)]else []):=by
 unfold pcn;rw [AkL,Akz,AjM];by_cases h:0 < P.count (n:Int)
 .rw [Ai9 h,List.filter_cons,Ai9 (decide_eq_true h)];rfl
 .rw [Ai8 h,List.filter_cons,Ai8 (by rw [decide_eq_false h];simp)];rfl
theorem Agf (P:List Int) (n:Nat):∀v∈pcn P n,v < ((n:Nat):Int):=by
 intro v hv;unfold pcn at hv;simp only [Ajq,AkT,AkJ]at hv;obtain ⟨k,⟨h1,_⟩,rfl⟩:=hv;omega
theorem Aff (P:List Int) (n:Nat):(pcn P n).length<=n:=by
 unfold pcn;rw [AjA];exact AjF (Akm _ _) Z
def stB (b:Bls) (x C P:List Int) (k:Nat):Bool:=(decide (P.count (k:Int)=0) || (!decide ((k:Int)∈C) && decide (gb (blk b k) 1=(P.count (k:Int):Int)))) && (decide (k < 33) || (bit x k == decide ((k:Int)∈C\/0 < P.count (k:Int))))
section
variable {E R T:Int} {b:Bls} {x y z top:List Int}
theorem Ah3 (h:SB b x y z) (g:RS b x y) {f hd:Nat} {t:List UInt8} {r:List Rn} {cs:List (List Prt)} (gh:GH (f:Int) t r cs) (hf:hd=f+cs.length) (hh:hd<=60) {C rs m:List Int} (hC:C.length<=80000) (fn:Bool) :
  (((sts f hd).all (upe b x y top (f:Int) t cs)=true/\
    Ab E6 (Gf (f:Int) t cs (sts f hd),sts f hd,(((sts f hd).length:Nat):Int),0,0,0,0,0,0,0,[],(f:Int),(hd:Int),E,R,T,b,x,y,z,(f:Int),(hd:Int),E,R,T,b,x,y,z,ksT b top 1024,0,[],(f:Int),t,r,cs,b,x,y,z,rs,srt C,m,okb fn C) =
     some (.inl (0,0,0,0,0,0,[],(f:Int),(hd:Int),E,R,T,b,x,y,z,(f:Int),(hd:Int),E,R,T,b,x,y,z,ksT b top 1024,0,[],(f:Int),t,r,cs,b,x,y,z,rs,srt (C++upc b x y top (sts f hd)),m,okb (fn && upo b x y top (sts f hd)) (C++upc b x y top (sts f hd)))))\/
   ((sts f hd).all (upe b x y top (f:Int) t cs)=false/\
    Ab E6 (Gf (f:Int) t cs (sts f hd),sts f hd,(((sts f hd).length:Nat):Int),0,0,0,0,0,0,0,[],(f:Int),(hd:Int),E,R,T,b,x,y,z,(f:Int),(hd:Int),E,R,T,b,x,y,z,ksT b top 1024,0,[],(f:Int),t,r,cs,b,x,y,z,rs,srt C,m,okb fn C) =
     some (.inr (false,0,0,0,0,0,0,[])))):=by
 have hsl:=HV (f:=f) hh;have hal:=WJ (f:Int) t cs (sts f hd);have hL:=BQ E6 (λi=>(Gf (f:Int) t cs (sts f hd),sts f hd,(((sts f hd).length:Nat):Int),((i:Nat):Int),0,0,0,0,0,0,[],(f:Int),(hd:Int),E,R,T,b,x,y,z,(f:Int),(hd:Int),E,R,T,b,x,y,z,ksT b top 1024,0,[],(f:Int),t,r,cs,b,x,y,z,rs,srt (C++upc b x y top ((sts f hd).take i)),m,okb (fn && upo b x y top ((sts f hd).take i)) (C++upc b x y top ((sts f hd).take i))))
  (λi=>upe b x y top (f:Int) t cs (((sts f hd)[i]?).getD (0,0))) (λ_=>(false,0,0,0,0,0,0,[])) (0,0,0,0,0,0,[],(f:Int),(hd:Int),E,R,T,b,x,y,z,(f:Int),(hd:Int),E,R,T,b,x,y,z,ksT b top 1024,0,[],(f:Int),t,r,cs,b,x,y,z,rs,srt (C++upc b x y top (sts f hd)),m,okb (fn && upo b x y top (sts f hd)) (C++upc b x y top (sts f hd))) (sts f hd).length (λi hi=>by
    obtain ⟨k,j,g8⟩:=Or hi;obtain ⟨l1,l2,l3⟩:=g8.lt hh;have hk:=g8.hk;have hget:(sts f hd)[i]?=some ((sts f hd)[i]):=Ai6 hi;have hul:=ZC b x y top ((sts f hd).take i);rw [Ajd]at hul;have hal2:=AfT (f:=(f:Int)) (t:=t) (cs:=cs) hh (Ajt hi);obtain ⟨f1,f2,f3,f4,f5⟩:=g8.ft;have hbt:AG (bt (f:Int) t cs (sts f hd)[i])=true:=(Iy gh (a:=(frS (sts f hd)[i]:Int)) (b:=(toS (sts f hd)[i]:Int)) O O).1;have hrec:=Pv (z:=z) (top:=top) h g (C:=C++upc b x y top ((sts f hd).take i)) (by rw [Ajb];omega) (k:=ky (sts f hd)[i]) (fn && upo b x y top ((sts f hd).take i)) rs m;unfold E6 cK cZ wI;dsimp only;rw [iy O,iy O,iy O,Ajv,Ai5,hget,Ai3,Ai3,Aju hi,AeB,Aeh,AjN];unfold upe;by_cases h0:0 < (sts f hd)[i].1
    .have e1:FM (sts f hd)[i].1 (sts f hd)[i].2=some (ky (sts f hd)[i]:Int):=by rw [l2];simp only [g8.e];exact J7 hk O
     rw [iy h0,e1,Ai3,Aaj _ _ _ _ _ _ _ _ _ _ _ _ _ _ O,Ai3,hrec,Ai3];dsimp only;rw [Ai3,iy O,iy O,Ajv,Ai5,hal2,Ai3,Abb (C4 hbt) O hbt,Ai3,Ai3,Ai9 h0,Ai9 h0,decide_eq_true h0,AjW,Akk,Ajf,Ak9];dsimp only;cases hq:(AF (rkd b x y top (ky (sts f hd)[i])) == AF (enc (bt (f:Int) t cs (sts f hd)[i])))with
     | true=>rw [Ai8 Z,Ai9 rfl,Al O]
     | false=>rw [Ai9 Z,Ai8 Z]
    .rw [ino h0,Ai3,Ai8 h0,Ai8 h0,decide_eq_false h0,Ajk,AkD];dsimp only;rw [Ai8 Z,Ai9 Z,Al O]) (by
    unfold E6 cK cZ wI;dsimp only;rw [ino O,AjT])
 have e0:upc b x y top ((sts f hd).take 0)=[]:=rfl;have e1:upo b x y top ((sts f hd).take 0)=true:=rfl;rw [e0,e1,Ajk,AkD]at hL;rcases hL with⟨ha,hl⟩ | ⟨k,hk,hp,_,hl⟩
 .refine .inl ⟨?_,hl⟩;rw [Ajz];intro s hs;obtain ⟨i,hi,rfl⟩:=AjH hs;have:=ha i hi;rw [Ai6 hi]at this;exact this
 .refine .inr ⟨?_,hl⟩;rw [Ai6 hk]at hp;cases hq:(sts f hd).all (upe b x y top (f:Int) t cs)with
  | false=>rfl
  | true=>
    have:=Ajz.1 hq _ (Ajt hk);rw [show upe b x y top (f:Int) t cs (sts f hd)[k]=false from hp]at this;cases this
theorem AhF (g:RS b x y) {f hd e:Nat} {t:List UInt8} {r:List Rn} {cs:List (List Prt)} (gh:GH (f:Int) t r cs) (hf:hd=f+cs.length) (hh:hd<=60) (he:0 < e) {C P rs:List Int} (hC:C.length<=80000) (hP:P.length<=80000) (fn:Bool) :
  ((cks f hd e).all (cke b x y top f t cs)=true/\
    Ab EL (((f+1:Nat):Int),0,0,0,0,0,0,[],(f:Int),(hd:Int),(e:Int),R,T,b,x,y,z,(f:Int),(hd:Int),(e:Int),R,T,b,x,y,z,ksT b top 1024,0,[],(f:Int),t,r,cs,b,x,y,z,rs,srt C,mny b.length P,okb fn C) =
     some (.inl (0,0,0,0,0,0,[],b,x,y,z,(f:Int),(hd:Int),(e:Int),R,T,b,x,y,z,ksT b top 1024,0,[],(f:Int),t,r,cs,b,x,y,z,rs,srt (C++ckc b x y top (cks f hd e)),mny b.length (P++ckp b x y top (cks f hd e)),okb (fn && cko b x y top (cks f hd e)) (C++ckc b x y top (cks f hd e)))))\/
   ((cks f hd e).all (cke b x y top f t cs)=false/\
    Ab EL (((f+1:Nat):Int),0,0,0,0,0,0,[],(f:Int),(hd:Int),(e:Int),R,T,b,x,y,z,(f:Int),(hd:Int),(e:Int),R,T,b,x,y,z,ksT b top 1024,0,[],(f:Int),t,r,cs,b,x,y,z,rs,srt C,mny b.length P,okb fn C) =
     some (.inr (false,0,0,0,0,0,0,[]))):=by
 have hL:=BQ EL (λn=>(((f+1+n:Nat):Int),0,0,0,0,0,0,[],(f:Int),(hd:Int),(e:Int),R,T,b,x,y,z,(f:Int),(hd:Int),(e:Int),R,T,b,x,y,z,ksT b top 1024,0,[],(f:Int),t,r,cs,b,x,y,z,rs,srt (C++ckc b x y top (ckn f e n)),mny b.length (P++ckp b x y top (ckn f e n)),okb (fn && cko b x y top (ckn f e n)) (C++ckc b x y top (ckn f e n))))
  (λn=>!decide ((f+1+n) % e=0) || cke b x y top f t cs (f+1+n)) (λ_=>(false,0,0,0,0,0,0,[])) (0,0,0,0,0,0,[],b,x,y,z,(f:Int),(hd:Int),(e:Int),R,T,b,x,y,z,ksT b top 1024,0,[],(f:Int),t,r,cs,b,x,y,z,rs,srt (C++ckc b x y top (cks f hd e)),mny b.length (P++ckp b x y top (cks f hd e)),okb (fn && cko b x y top (cks f hd e)) (C++ckc b x y top (cks f hd e))) (hd - f) (λn hn=>by
    have hnl:=P1 f e n;have hcl:=PF b x y top (ckn f e n);have htx:=Abl gh (x:=((f+1+n:Nat):Int)) O O;rw [show(((f+1+n:Nat):Int) - (f:Int)).toNat=f+1+n - f by omega]at htx;have ew:IntKind.wrap .i64 (384+((f+1+n:Nat):Int))=((384+(f+1+n):Nat):Int):=by rw [w64 O O];omega
    have hrt:=Agg (z:=z) g (vl b top (384+(f+1+n))) (P:=P++ckp b x y top (ckn f e n)) (C:=C++ckc b x y top (ckn f e n)) (by rw [Ajb];omega) (by rw [Ajb];omega) (fn && cko b x y top (ckn f e n)) rs;unfold EL cK wI;dsimp only;rw [iy O,iy O,VV,QM];by_cases hz:(f+1+n) % e=0
    .have a1:ckc b x y top (ckn f e n++[f+1+n])=ckc b x y top (ckn f e n)++tcl b x y (vl b top (384+(f+1+n))):=by unfold ckc;rw [Akn];simp
     have a2:ckp b x y top (ckn f e n++[f+1+n])=ckp b x y top (ckn f e n)++tpc b x y (vl b top (384+(f+1+n))):=by unfold ckp;rw [Akn];simp
     have a3:cko b x y top (ckn f e n++[f+1+n])=(cko b x y top (ckn f e n) && tok b x y (vl b top (384+(f+1+n)))):=by unfold cko;rw [List.all_append];simp
     rw [iy O,ew,Aaj _ _ _ _ _ _ _ _ _ _ _ _ _ _ O,Ai3,hrt,Ai3];dsimp only;rw [htx,Ai3,Ai3,Ai9 hz,a1,a2,a3,decide_eq_true hz,AjW,Akk,Ajf,Ajf,Ak9];dsimp only;unfold cke;cases hq:(ttx b x y (vl b top (384+(f+1+n))) == txt t (cs.take (f+1+n - f)))with
     | true=>rw [Ai8 Z,Ai9 rfl,Al O];rfl
     | false=>rw [Ai9 Z,Ai8 Z]
    .rw [ino O,Ai3,Ai8 hz,Ajk,decide_eq_false hz];dsimp only;rw [Ai8 Z,Ai9 Z,Al O];rfl) (by
    unfold EL cK wI;dsimp only;rw [ino O];rfl)
 have e0:ckc b x y top (ckn f e 0)=[]:=rfl;have e1:cko b x y top (ckn f e 0)=true:=rfl;have e2:ckp b x y top (ckn f e 0)=[]:=rfl;rw [e0,e1,e2,Ajk,Ajk,AkD]at hL;rcases hL with⟨ha,hl⟩ | ⟨k,hk,hp,_,hl⟩
 .refine .inl ⟨?_,hl⟩;rw [Ajz];intro q hq;obtain ⟨q1,q2,q3⟩:=cks_mem.1 hq;have:=ha (q - (f+1)) O;rw [(O:f+1+(q - (f+1))=q),decide_eq_true q3]at this;simpa using this
 .refine .inr ⟨?_,hl⟩;cases hq:(cks f hd e).all (cke b x y top f t cs)with
  | false=>rfl
  | true=>
    simp only [AkX,Bool.not_eq_false',decide_eq_true_eq]at hp;have:=Ajz.1 hq _ (cks_mem.2 (⟨O,O,hp.1⟩:f < f+1+k/\f+1+k<=hd/\(f+1+k) % e=0));rw [hp.2]at this;cases this
theorem AhT (g:RS b x y) {f hd e:Nat} {t:List UInt8} {r:List Rn} {cs:List (List Prt)} {ks:List Kv} {C P rs:List Int} (hC:C.length<=80000) (hP:P.length<=80000) (ok:Bool) :
  ((List.range b.length).all (stB b x C P)=true/\
    Ab EV (mny b.length P,(b.length:Int),0,0,0,0,0,0,0,[],b,x,y,z,(f:Int),(hd:Int),(e:Int),R,T,b,x,y,z,ks,0,[],(f:Int),t,r,cs,b,x,y,z,rs,srt C,ok) =
     some (.inl (0,0,0,0,0,0,[],(f:Int),(hd:Int),(e:Int),R,T,b,x,y,z,ks,0,[],(f:Int),t,r,cs,b,x,y,z,rs,srt (C++pcn P b.length),mny b.length P,ok)))\/
   ((List.range b.length).all (stB b x C P)=false/\
    Ab EV (mny b.length P,(b.length:Int),0,0,0,0,0,0,0,[],b,x,y,z,(f:Int),(hd:Int),(e:Int),R,T,b,x,y,z,ks,0,[],(f:Int),t,r,cs,b,x,y,z,rs,srt C,ok) =
     some (.inr (false,0,0,0,0,0,0,[]))):=by
 have hbl:=g.hn;have hxl:=g.hx;have hml:=I1 b.length P;have hL:=BQ EV (λk=>(mny b.length P,(b.length:Int),((k:Nat):Int),0,0,0,0,0,0,[],b,x,y,z,(f:Int),(hd:Int),(e:Int),R,T,b,x,y,z,ks,0,[],(f:Int),t,r,cs,b,x,y,z,rs,srt (C++pcn P k),ok))
  (stB b x C P) (λ_=>(false,0,0,0,0,0,0,[])) (0,0,0,0,0,0,[],(f:Int),(hd:Int),(e:Int),R,T,b,x,y,z,ks,0,[],(f:Int),t,r,cs,b,x,y,z,rs,srt (C++pcn P b.length),mny b.length P,ok) b.length (λk hk=>by
    have hpl:=Aff P k;have hc1:=List.count_le_length (l:=P) (a:=(k:Int));obtain ⟨o1,o2,o3⟩:=Jp (l:=C++pcn P k) (by rw [Ajb];omega);have hm1:(k:Int)∈srt (C++pcn P k)↔(k:Int)∈C:=by
     rw [o3,Ajc];exact⟨λq=>q.elim id λq=>by have:=Agf P k _ q;omega,.inl⟩
    have hlen:=g.len hk;have hu:=g.u8 hk 1;have hus:=JC (bits:=x) (k:=k) O O;have hst:stB b x C P k=((decide (P.count (k:Int)=0) || (!decide ((k:Int)∈C) && decide (gb (blk b k) 1=(P.count (k:Int):Int)))) && (decide (k < 33) || (bit x k == decide ((k:Int)∈C\/0 < P.count (k:Int))))):=rfl;rw [hst];unfold EV cK cZ gX wI;dsimp only;rw [iy O,iy O,iy O,Ajv,Ai5,Po P hk,Ai3,Adq];by_cases h0:0 < P.count (k:Int)
    .rw [iy O,Gw (by rw [Ajb]at o2;omega),Ai3,decide_eq_false (O:¬ P.count (k:Int)=0),Ai9 h0];by_cases hin:(k:Int)∈C
     .rw [decide_eq_true (hm1.2 hin),Ai9 rfl,Ai3,decide_eq_true hin];dsimp only;rw [Ai9 rfl];rfl
     .rw [decide_eq_false (λq=>hin (hm1.1 q)),Ai8 Z,iy O,Bo hk,Ai3,iy O,show Int.toNat 1=1 from rfl,Ai O,Ai3,Ai3,w64 (n:=gb (blk b k) 1) O O,decide_eq_false hin];dsimp only;by_cases hb:gb (blk b k) 1=(P.count (k:Int):Int)
      .obtain ⟨p1,p2,p3⟩:=Jp (l:=C++pcn P k++[(k:Int)]) (by simp only [Ajb,Ajh];omega);rw [decide_eq_false (not_not_intro hb),Ai8 Z,iy O,(FI (l:=C++pcn P k) (by rw [Ajb];omega) _).1,Ai3,Ai3,decide_eq_true hb];dsimp only;rw [<- Ajf];by_cases h33:k < 33
       .rw [ino O,Ai3,decide_eq_true h33];dsimp only;rw [Ai8 Z,Al O];rfl
       .have hm2:(k:Int)∈srt (C++pcn P k++[(k:Int)]):=(p3 _).2 Z;rw [iy O,hus,Ai3,Gw (by simp only [Ajb,Ajh]at p2;omega),Ai3,Ai3,decide_eq_false h33,decide_eq_true hm2,decide_eq_true (.inr h0:(k:Int)∈C\/0 < P.count (k:Int))];dsimp only;cases bit x k with
        | true=>rw [Ai8 Z,Al O];rfl
        | false=>rw [Ai9 Z];rfl
      .rw [decide_eq_true hb,Ai9 rfl,decide_eq_false hb];rfl
    .rw [ino O,Ai3,decide_eq_true (O:P.count (k:Int)=0),Ai8 h0,Ajk];dsimp only;rw [Ai8 Z,ino O,Ai3];dsimp only;by_cases h33:k < 33
     .rw [ino O,Ai3,decide_eq_true h33];dsimp only;rw [Ai8 Z,Al O];rfl
     .rw [iy O,hus,Ai3,Gw (by rw [Ajb]at o2;omega),Ai3,Ai3,decide_eq_false h33];dsimp only;by_cases hin:(k:Int)∈C
      .rw [decide_eq_true (hm1.2 hin),decide_eq_true (.inl hin:(k:Int)∈C\/0 < P.count (k:Int))];cases bit x k with
       | true=>rw [Ai8 Z,Al O];rfl
       | false=>rw [Ai9 Z];rfl
      .rw [decide_eq_false (λq=>hin (hm1.1 q)),decide_eq_false (λq=>q.elim hin h0:¬ ((k:Int)∈C\/0 < P.count (k:Int)))];cases bit x k with
       | true=>rw [Ai9 Z];rfl
       | false=>rw [Ai8 Z,Al O];rfl) (by
    unfold EV cK cZ gX wI;dsimp only;rw [ino O])
 have e0:pcn P 0=[]:=rfl;rw [e0,Ajk]at hL;rcases hL with⟨ha,hl⟩ | ⟨k,hk,hp,_,hl⟩
 .exact .inl ⟨all_range.2 ha,hl⟩
 .refine .inr ⟨?_,hl⟩;cases hq:(List.range b.length).all (stB b x C P)with
  | false=>rfl
  | true=>rw [all_range.1 hq k hk]at hp;cases hp
end
end Go.V.G
set_option maxRecDepth 100000
namespace Go.V.G
open Go.V
section defs
variable (b:Bls) (x top:List Int) (R T:Int) (f h e:Nat)
noncomputable def aC1:List Int:=srt (pgl top R)
noncomputable def aC2:List Int:=aC1 top R++tcl b x [] T
def aP2:List Int:=tpc b x [] T
noncomputable def aC3:List Int:=aC2 b x top R T++rkc b x [] top 448
noncomputable def aC4:List Int:=aC3 b x top R T++Cm b x [] top f (h - f)
noncomputable def aC5:List Int:=aC4 b x top R T f h++upc b x [] top (sts f h)
noncomputable def aC6:List Int:=aC5 b x top R T f h++ckc b x [] top (cks f h e)
def aP6:List Int:=aP2 b x T++ckp b x [] top (cks f h e)
def af3:Bool:=(tok b x [] T && rko b x [] top 448) && (rdR (rkd b x [] top 448)).2
def af4:Bool:=af3 b x top T && loo b x [] top f (h - f)
def af5:Bool:=af4 b x top T f h && upo b x [] top (sts f h)
def af6:Bool:=af5 b x top T f h && cko b x [] top (cks f h e)
def aT:List UInt8:=ttx b x [] T
def aR:List Rn:=(rdR (rkd b x [] top 448)).1
def aL:List (List Prt):=chC (lod b x [] top f (h - f))
noncomputable def aG:Bool:=Fh (f:Int) (aT b x T) (aR b x top) (aL b x top f h)
def aU:Bool:=(sts f h).all (upe b x [] top (f:Int) (aT b x T) (aL b x top f h))
def aK:Bool:=(cks f h e).all (cke b x [] top f (aT b x T) (aL b x top f h))
noncomputable def aS:Bool:=(List.range b.length).all (stB b x (aC6 b x top R T f h e) (aP6 b x top T f h e))
noncomputable def sC:Bool:=kok b top f h e && (okb (af4 b x top T f h) (aC4 b x top R T f h) && (aG b x top T f h && (aU b x top T f h && (aK b x top T f h e && (aS b x top R T f h e && okb (af6 b x top T f h e) (aC6 b x top R T f h e))))))
end defs
theorem AbN {b:Bls} {x top:List Int} {R T:Int} {f h e:Nat} (ht:top.length=32) (hh:h<=60):(aC1 top R).length<=33/\(aC2 b x top R T).length<=34/\(aC3 b x top R T).length<=44/\(aC4 b x top R T f h).length<=644/\(aC5 b x top R T f h).length<=4244/\(aC6 b x top R T f h e).length<=4304/\(aP2 b x T).length<=3/\(aP6 b x top T f h e).length<=183:=by
 have h1:=Zw (root:=R) ht;have h2:=(Jp (l:=pgl top R) O).2.1;have h3:=Rq b x [] T;have h4:=(He b x [] top 448).1;have h5:=Tg b x [] top f (h - f);have h6:=ZC b x [] top (sts f h);have h7:=HV (f:=f) hh;have h8:=PF b x [] top (cks f h e);have h9:=MM (f:=f) (e:=e) hh;unfold aC6 aC5 aC4 aC3 aC2 aC1 aP6 aP2;simp only [Ajb];omega
theorem Aer {fn c:Bool} {l:List Int}:(if okb fn l=true then c else false)=okb (fn && c) l:=by
 unfold okb;cases fn <;> cases c <;> cases ndb l <;> rfl
theorem V1 {b:Bls} {x y top:List Int} {f j:Nat}:∀{n:Nat},j<=n->loo b x y top f n=true->loo b x y top f j=true
 | 0,h,q=>by rw [(O:j=0)];exact q
 | n+1,h,q=>by
  by_cases hj:j=n+1
  .rw [hj];exact q
  .rw [VG,Aja]at q;exact V1 O q.1
theorem Zm {b:Bls} {x y top:List Int} {f j:Nat}:∀{n:Nat},j<=n->∃r,Cm b x y top f n=Cm b x y top f j++r
 | 0,h=>⟨[],by rw [(O:j=0)];simp⟩
 | n+1,h=>by
  by_cases hj:j=n+1
  .exact⟨[],by rw [hj];simp⟩
  .obtain ⟨r,hr⟩:=Zm (b:=b) (x:=x) (y:=y) (top:=top) (f:=f) (j:=j) (n:=n) O;exact⟨r++rkc b x y top (f+n),by rw [QW,hr,Ajf]⟩
theorem Aem {b:Bls} {x top:List Int} {R T:Int} {f h j:Nat} (q:okb (af3 b x top T && loo b x [] top f j) (aC3 b x top R T++Cm b x [] top f j)=false) (hj:j<=h - f):okb (af4 b x top T f h) (aC4 b x top R T f h)=false:=by
 cases hh:okb (af4 b x top T f h) (aC4 b x top R T f h)with
 | false=>rfl
 | true=>
  exfalso;unfold okb af4 aC4 ndb at *;simp only [Aja,decide_eq_true_eq]at hh;obtain ⟨⟨h1,h2⟩,h3⟩:=hh;obtain ⟨r,hr⟩:=Zm (b:=b) (x:=x) (y:=[]) (top:=top) (f:=f) hj;rw [hr,<- Ajf,Ajp]at h3;rw [h1,V1 hj h2,decide_eq_true h3.1]at q;cases q
theorem Ady {bl:Bls} {wr lf:Int} (on:Bool) {f h e:Nat} {R T:Int} {top:List Int} (hn:bl.length<=1048576) (hd:gd bl wr lf=true) (hu:∀c∈bl,U8s c) (hw:wts bl=[])
  (hs:LX (blk bl 0)=(true,(f:Int),(h:Int),(e:Int),R,T)) (ho:opG bl=true) (ht:tre bl (opB bl) [] R=some top) (hf:f<=h) (hh:h<=60) (he:0 < e) (he2:e<=30) :
  ∃q,Dn bl wr on lf=some q/\q.1=sC bl (opB bl) top R T f h e/\(sC bl (opB bl) top R T f h e=true->
   q=(true,(f:Int),(h:Int),(e:Int),R,T,bl,opB bl,[],[],ksT bl top 1024,(f:Int),aT bl (opB bl) T,aR bl (opB bl) top,aL bl (opB bl) top f h,srt (aC6 bl (opB bl) top R T f h e++pcn (aP6 bl (opB bl) top T f h e) bl.length))):=by
 obtain ⟨hb,hk⟩:=K4 hd;have sb:=Vq (bl:=bl) O O;have hog:gsp bl (opB bl) [] []=true:=by unfold opG at ho;rw [Aja]at ho;exact ho.1
 have g:=(Sr hog).rs sb hu;have htl:=HR ht;obtain ⟨l1,l2,l3,l4,l5,l6,l7,l8⟩:=AbN (b:=bl) (x:=opB bl) (top:=top) (R:=R) (T:=T) (f:=f) (h:=h) (e:=e) htl hh;have hkl:=PV bl top 1024;obtain ⟨w1,w2,w3⟩:=AbZ (f:=f) (e:=e) hh;unfold Dn cK cZ gX wI;rw [HM hn,hd,Ai3,Ai8 Z,Gn on hd hu,hw,Ai3,Ai3];dsimp only;rw [Ai8 Z,iy O,show Int.toNat 0=0 from rfl,Bo (O:0 < bl.length),Ai3,Io (hu _ (Bz O)),hs,Ai3];dsimp only;rw [Gz on hd hu,Ai3];unfold opD;rw [Ai9 ho];dsimp only;rw [Ai3];dsimp only;rw [Ai8 Z,Ai8 Z,Hm sb hu,hog,ht,Ai3,Ai3];dsimp only;rw [Ai8 Z,Ach sb hog hu ht,Ai3,Adi sb hu hog ht,Ai3,Yk hf hh he he2,Ai3];dsimp only;unfold sC;have hkok:kok bl top f h e=decide ((ksT bl top 1024).map (·.1)=wnt f h e):=rfl;by_cases hlen:(ksT bl top 1024).length=(wnt f h e).length
 .rw [ino (O:¬ ¬ (((ksT bl top 1024).length:Nat):Int)=(((wnt f h e).length:Nat):Int)),AhW hlen O,Ai3];by_cases hkq:(ksT bl top 1024).map (·.1)=wnt f h e
  .rw [Ai9 hkq];rw [hkok,decide_eq_true hkq,Ajj];dsimp only;rw [iy O,iy O,Ai9 (by simp only [Aa,decide_eq_true_eq,Ai5];omega),Ai5];have em:List.replicate bl.length (0:Int)=mny bl.length []:=by
    refine Aj1 λi=>?_
    by_cases hi:i < bl.length
    .rw [Po _ hi,List.getElem?_replicate_of_lt hi];simp
    .rw [Ajr Ai0,Ajr (by rw [I1];omega)]
   have ea:=Sp (l:=srt (pgl top R)) (C:=[]) (by have:(srt (pgl top R)).length<=33:=l1;simp only [AjC];omega) true bl (opB bl) [] [] [] (mny bl.length []);rw [AjD]at ea;rw [em,show BU (srt (pgl top R)) bl (opB bl) [] [] [] [] (mny bl.length []) true=_ from ea,Ai3];dsimp only;rw [show okb true (srt (pgl top R))=okb true (aC1 top R) from rfl,show srt (srt (pgl top R))=srt (aC1 top R) from rfl,Agg g T O Z true [],Ai3];dsimp only;rw [AjD,Ajj,show aC1 top R++tcl bl (opB bl) [] T=aC2 bl (opB bl) top R T from rfl,show tpc bl (opB bl) [] T=aP2 bl (opB bl) T from rfl];have hg448:=Aaj (b:=bl) (top:=top) (f:Int) (h:Int) (e:Int) R T bl (opB bl) [] [] 0 [] [] [] [] (k:=448) O;have hr448:=Pv (z:=[]) (top:=top) sb g (C:=aC2 bl (opB bl) top R T) O (k:=448) (tok bl (opB bl) [] T) [] (mny bl.length (aP2 bl (opB bl) T));have hlk:=He bl (opB bl) [] top 448;rw [show DH (f:Int) (h:Int) (e:Int) R T bl (opB bl) [] [] (ksT bl top 1024) 0 [] [] [] [] 448=_ from hg448,Ai3,hr448,Ai3];dsimp only;rw [AhR (J8 g top 448) O,Ai3,show aC2 bl (opB bl) top R T++rkc bl (opB bl) [] top 448=aC3 bl (opB bl) top R T from rfl];have eif:∀{α:Type} (F:Bool->Option α),(if okb (tok bl (opB bl) [] T && rko bl (opB bl) [] top 448) (aC3 bl (opB bl) top R T)=true then F (rdR (rkd bl (opB bl) [] top 448)).2 else F false)=F (okb (af3 bl (opB bl) top T) (aC3 bl (opB bl) top R T)):=by
    intro α F;have:=Aer (fn:=tok bl (opB bl) [] T && rko bl (opB bl) [] top 448) (c:=(rdR (rkd bl (opB bl) [] top 448)).2) (l:=aC3 bl (opB bl) top R T);unfold af3;rw [<- this];split <;> rfl
   rw [eif (λw=>some (0,0,0,0,0,0,[],(f:Int),(h:Int),(e:Int),R,T,bl,opB bl,[],[],(f:Int),(h:Int),(e:Int),R,T,bl,opB bl,[],[],ksT bl top 1024,0,[],(f:Int),ttx bl (opB bl) [] T,(rdR (rkd bl (opB bl) [] top 448)).1,bl,opB bl,[],[],[],srt (aC3 bl (opB bl) top R T),mny bl.length (aP2 bl (opB bl) T),w)),Ai3];dsimp only;obtain ⟨j,j1,j2,j3⟩:=AhH (E:=(e:Int)) (R:=R) (T:=T) (top:=top) sb g hf hh (C:=aC3 bl (opB bl) top R T) (rs:=[]) (m:=mny bl.length (aP2 bl (opB bl) T)) O (af3 bl (opB bl) top T) (ttx bl (opB bl) [] T) (rdR (rkd bl (opB bl) [] top 448)).1;rw [j3,Ai3];dsimp only;by_cases hok:okb (af3 bl (opB bl) top T && loo bl (opB bl) [] top f j) (aC3 bl (opB bl) top R T++Cm bl (opB bl) [] top f j)=true
   .have hj:j=h - f:=by
         rcases j2 with q | q
         .exact q
         .rw [hok]at q;cases q
    subst hj;have hok4:okb (af4 bl (opB bl) top T f h) (aC4 bl (opB bl) top R T f h)=true:=hok;rw [hok,Ai8 Z,hok4,Ajj];have hcl:(chC (lod bl (opB bl) [] top f (h - f))).length=h - f:=by unfold chC lod;simp
    have hHB:HB (ttx bl (opB bl) [] T) (rdR (rkd bl (opB bl) [] top 448)).1 (chC (lod bl (opB bl) [] top f (h - f))):=by
     have:=ZD (rkd bl (opB bl) [] top 448);have:=Rq bl (opB bl) [] T;refine⟨O,O,O,λc hc=>?_⟩;obtain ⟨x',_,rfl⟩:=Ajq.1 hc;exact(QF x').mono O
    rw [QO hHB,Ai3,Ai3];dsimp only;have hG:aG bl (opB bl) top T f h=Fh (f:Int) (ttx bl (opB bl) [] T) (rdR (rkd bl (opB bl) [] top 448)).1 (chC (lod bl (opB bl) [] top f (h - f))):=rfl;rw [<- hG];cases hgh:aG bl (opB bl) top T f h with
    | false=>
     rw [Ai9 Z];exact⟨_,rfl,rfl,λq=>by simp at q⟩
    | true=>
     rw [hgh]at hG;have gh:=goodH_iff.1 hG.symm;rw [Ai8 Z,Ys gh (h:=h) O hh,Ai3,NR hh,Ai3,Ajj];have e4:aC3 bl (opB bl) top R T++Cm bl (opB bl) [] top f (h - f)=aC4 bl (opB bl) top R T f h:=rfl;have e4':(af3 bl (opB bl) top T && loo bl (opB bl) [] top f (h - f))=af4 bl (opB bl) top T f h:=rfl;have r3:=Ah3 (E:=(e:Int)) (R:=R) (T:=T) (top:=top) sb g gh (hd:=h) O hh (C:=aC4 bl (opB bl) top R T f h) (rs:=[]) (m:=mny bl.length (aP2 bl (opB bl) T)) O (af4 bl (opB bl) top T f h);rw [hok4]at r3;rw [e4];rcases r3 with⟨u1,u2⟩ | ⟨u1,u2⟩
     .have hU:aU bl (opB bl) top T f h=true:=u1;rw [u2,Ai3,hU,Ajj];dsimp only;have r4:=AhF (R:=R) (T:=T) (top:=top) (z:=[]) g gh (hd:=h) (e:=e) O hh he (C:=aC5 bl (opB bl) top R T f h) (P:=aP2 bl (opB bl) T) (rs:=[]) O O (af5 bl (opB bl) top T f h);rw [Al O];rcases r4 with⟨v1,v2⟩ | ⟨v1,v2⟩
      .have hK:aK bl (opB bl) top T f h e=true:=v1;rw [show aC4 bl (opB bl) top R T f h++upc bl (opB bl) [] top (sts f h)=aC5 bl (opB bl) top R T f h from rfl,show(af4 bl (opB bl) top T f h && upo bl (opB bl) [] top (sts f h))=af5 bl (opB bl) top T f h from rfl,v2,Ai3,hK,Ajj];dsimp only;have r5:=AhT (R:=R) (T:=T) (z:=[]) g (f:=f) (hd:=h) (e:=e) (t:=ttx bl (opB bl) [] T) (r:=(rdR (rkd bl (opB bl) [] top 448)).1) (cs:=chC (lod bl (opB bl) [] top f (h - f))) (ks:=ksT bl top 1024) (C:=aC6 bl (opB bl) top R T f h e) (P:=aP6 bl (opB bl) top T f h e) (rs:=[]) O O (okb (af6 bl (opB bl) top T f h e) (aC6 bl (opB bl) top R T f h e));rw [I1,show aC5 bl (opB bl) top R T f h++ckc bl (opB bl) [] top (cks f h e)=aC6 bl (opB bl) top R T f h e from rfl,show(af5 bl (opB bl) top T f h && cko bl (opB bl) [] top (cks f h e))=af6 bl (opB bl) top T f h e from rfl,show aP2 bl (opB bl) T++ckp bl (opB bl) [] top (cks f h e)=aP6 bl (opB bl) top T f h e from rfl];rcases r5 with⟨t1,t2⟩ | ⟨t1,t2⟩
       .have hS:aS bl (opB bl) top R T f h e=true:=t1;rw [t2,Ai3,hS,Ajj];exact⟨_,rfl,rfl,λq=>by rw [q];rfl⟩
       .have hS:aS bl (opB bl) top R T f h e=false:=t1;rw [t2,Ai3,hS];exact⟨_,rfl,rfl,λq=>by simp at q⟩
      .have hK:aK bl (opB bl) top T f h e=false:=v1;rw [show aC4 bl (opB bl) top R T f h++upc bl (opB bl) [] top (sts f h)=aC5 bl (opB bl) top R T f h from rfl,show(af4 bl (opB bl) top T f h && upo bl (opB bl) [] top (sts f h))=af5 bl (opB bl) top T f h from rfl,v2,Ai3,hK];exact⟨_,rfl,rfl,λq=>by simp at q⟩
     .have hU:aU bl (opB bl) top T f h=false:=u1;rw [u2,Ai3,hU];exact⟨_,rfl,rfl,λq=>by simp at q⟩
   .have hok':okb (af3 bl (opB bl) top T && loo bl (opB bl) [] top f j) (aC3 bl (opB bl) top R T++Cm bl (opB bl) [] top f j)=false:=by simpa using hok
    have h4:okb (af4 bl (opB bl) top T f h) (aC4 bl (opB bl) top R T f h)=false:=Aem hok' j1;rw [hok',Ai9 Z,Ai3,h4];dsimp only;rw [Ai9 rfl];exact⟨_,rfl,rfl,λq=>by simp at q⟩
  .rw [Ai8 hkq,hkok,decide_eq_false hkq];exact⟨_,rfl,rfl,λq=>by simp at q⟩
 .rw [iy (O:¬ (((ksT bl top 1024).length:Nat):Int)=(((wnt f h e).length:Nat):Int)),hkok,decide_eq_false (λq=>hlen (by rw [<- q,AjA]))];exact⟨_,rfl,rfl,λq=>by simp at q⟩
end Go.V.G
set_option maxRecDepth 100000
namespace Go.V.G
open Go.V
theorem Ae7 {fn c:Bool} {l:List Int}:(if bd fn l=true then true else !c)=bd (fn && c) l:=by
 unfold bd;cases fn <;> cases c <;> cases ndb l <;> rfl
section
variable (b:Bls) (x y top:List Int)
def ipt (s:Int×Int):List Prt:=(BO (rkd b x y top (ky s))).1
def ioc (s:Int×Int):Bool:=rko b x y top (ky s) && (BO (rkd b x y top (ky s))).2
def ics (L:List (Int×Int)):List Int:=L.flatMap λs=>rkc b x y top (ky s)
def ich (L:List (Int×Int)):List (List Prt):=(L.filter λs=>decide (s.1=0)).map (ipt b x y top)
theorem AdM (L:List (Int×Int)) (s:Int×Int):ics b x y top (L++[s])=ics b x y top L++rkc b x y top (ky s):=by unfold ics;rw [Akn];simp
theorem Adc (L:List (Int×Int)) (s:Int×Int):ich b x y top (L++[s])=ich b x y top L++(if s.1=0 then [ipt b x y top s]else []):=by
 unfold ich;rw [Akz,AjM];by_cases h:s.1=0 <;> simp [h]
theorem Tq:∀L:List (Int×Int),(ics b x y top L).length<=10 * L.length
 | []=>by simp [ics]
 | s::L=>by
  have h1:=Tq L;have h2:=(He b x y top (ky s)).1;unfold ics at *;rw [Akq,Ajb,Aji];omega
theorem Afn (L:List (Int×Int)):(ich b x y top L).length<=L.length:=by
 unfold ich;rw [AjA];exact Akm _ _
end
section
variable {H E R T:Int} {b d:Bls} {x y z top:List Int} {wr lf rt:Int} {on:Bool}
theorem AhU (g:RS b x y) (ht:top.length=32) {f hd:Nat} (hf:f<=hd) (hh:hd<=60) {ks bl rs:List Int} {m:List (Int×Int)} (hbl:bl.length<=80000) (hks:ks.length<=80000) (fn:Bool) (tx:List UInt8) :
  Ab B0 (sts f hd,[],(((sts f hd).length:Nat):Int),0,ks,bl,rs,bd fn bl,m,d,wr,on,lf,(f:Int),H,E,R,T,b,x,y,z,rt,top,top.map (lfv b),(f:Int),tx,[],[]) =
   some (sts f hd,(sts f hd).map (ipt b x y top),ks++(sts f hd).map kyI,bl++ics b x y top (sts f hd),rs,bd (fn && (sts f hd).all (ioc b x y top)) (bl++ics b x y top (sts f hd)),m,d,wr,on,lf,(f:Int),H,E,R,T,b,x,y,z,rt,top,top.map (lfv b),(f:Int),tx,[],ich b x y top (sts f hd)):=by
 have hsl:=HV (f:=f) hh;have hL:=An B0 (λi=>(sts f hd,((sts f hd).take i).map (ipt b x y top),(((sts f hd).length:Nat):Int),((i:Nat):Int),ks++((sts f hd).take i).map kyI,bl++ics b x y top ((sts f hd).take i),rs,bd (fn && ((sts f hd).take i).all (ioc b x y top)) (bl++ics b x y top ((sts f hd).take i)),m,d,wr,on,lf,(f:Int),H,E,R,T,b,x,y,z,rt,top,top.map (lfv b),(f:Int),tx,[],ich b x y top ((sts f hd).take i))) (sts f hd).length
  (sts f hd,(sts f hd).map (ipt b x y top),ks++(sts f hd).map kyI,bl++ics b x y top (sts f hd),rs,bd (fn && (sts f hd).all (ioc b x y top)) (bl++ics b x y top (sts f hd)),m,d,wr,on,lf,(f:Int),H,E,R,T,b,x,y,z,rt,top,top.map (lfv b),(f:Int),tx,[],ich b x y top (sts f hd)) (λi hi=>by
   obtain ⟨k,j,g8⟩:=Or hi;obtain ⟨l1,l2,l3⟩:=g8.lt hh;have hk:=g8.hk;have hget:(sts f hd)[i]?=some ((sts f hd)[i]):=Ai6 hi;have hil:=Tq b x y top ((sts f hd).take i);have hcl:=Afn b x y top ((sts f hd).take i);rw [Ajd]at hil hcl;have hrk:=He b x y top (ky (sts f hd)[i]);have hrec:=T9 (z:=z) g ht (bl:=bl++ics b x y top ((sts f hd).take i)) (ks:=ks++((sts f hd).take i).map kyI) (by rw [Ajb];omega) (by rw [Ajb,AjA,Ajd];omega) (k:=ky (sts f hd)[i]) O (fn && ((sts f hd).take i).all (ioc b x y top)) rs d wr on lf (f:Int) H E R T rt m;have e1:Mx (sts f hd)[i].1 (sts f hd)[i].2=some (ky (sts f hd)[i]:Int):=by rw [l2];simp only [g8.e];exact AaN hk O
   have e2:((sts f hd).take i++[(sts f hd)[i]]).all (ioc b x y top)=(((sts f hd).take i).all (ioc b x y top) && (rko b x y top (ky (sts f hd)[i]) && (BO (rkd b x y top (ky (sts f hd)[i]))).2)):=by rw [List.all_append];simp [ioc]
   unfold B0 cK cZ wI;dsimp only;rw [iy O,iy O,iy O,Ajv,Ai5,hget,Ai3,Ai3,e1,Ai3,hrec,Ai3];dsimp only;rw [Y6 (J8 g top (ky (sts f hd)[i])) O,Ai3,Ai3,Aju hi,AdM,Adc,e2,AjM,AjM,Ajf,Ajf];dsimp only;have eb:(fn && (((sts f hd).take i).all (ioc b x y top) && (rko b x y top (ky (sts f hd)[i]) && (BO (rkd b x y top (ky (sts f hd)[i]))).2)))=((fn && (((sts f hd).take i).all (ioc b x y top) && rko b x y top (ky (sts f hd)[i]))) && (BO (rkd b x y top (ky (sts f hd)[i]))).2):=by simp [Ak9]
   have hb:=Ae7 (fn:=fn && (((sts f hd).take i).all (ioc b x y top) && rko b x y top (ky (sts f hd)[i]))) (c:=(BO (rkd b x y top (ky (sts f hd)[i]))).2) (l:=bl++(ics b x y top ((sts f hd).take i)++rkc b x y top (ky (sts f hd)[i])));rw [Ak9,eb];have ro1:Aa ((((sts f hd).take i).map (ipt b x y top)).length+([(BO (rkd b x y top (ky (sts f hd)[i]))).1]:List (List Prt)).length) 24=true:=by simp only [Aa,decide_eq_true_eq,Ajh,AjA,Ajd];omega
   have ro2:Aa ((ich b x y top ((sts f hd).take i)).length+([(BO (rkd b x y top (ky (sts f hd)[i]))).1]:List (List Prt)).length) 24=true:=by simp only [Aa,decide_eq_true_eq,Ajh];omega
   rw [<- hb];by_cases hq:bd (fn && (((sts f hd).take i).all (ioc b x y top) && rko b x y top (ky (sts f hd)[i]))) (bl++(ics b x y top ((sts f hd).take i)++rkc b x y top (ky (sts f hd)[i])))=true
   .rw [Ai9 hq,Ai9 hq,Ai3];dsimp only;rw [Ai9 ro1];by_cases h0:(sts f hd)[i].1=0
    .rw [iy h0,Ai9 ro2,Ai3,Ai9 h0];dsimp only;rw [Al O];rfl
    .rw [ino h0,Ai3,Ai8 h0,Ajk];dsimp only;rw [Al O];rfl
   .rw [Ai8 hq,Ai8 hq,Ai3];dsimp only;rw [Ai9 ro1];by_cases h0:(sts f hd)[i].1=0
    .rw [iy h0,Ai9 ro2,Ai3,Ai9 h0];dsimp only;rw [Al O];rfl
    .rw [ino h0,Ai3,Ai8 h0,Ajk];dsimp only;rw [Al O];rfl) (by
   unfold B0 cK cZ wI;dsimp only;rw [ino O,AjT])
 have e0:ics b x y top ((sts f hd).take 0)=[]:=rfl;have e1:((sts f hd).take 0).all (ioc b x y top)=true:=rfl;have e2:((sts f hd).take 0).map (ipt b x y top)=[]:=rfl;have e3:((sts f hd).take 0).map kyI=[]:=rfl;have e4:ich b x y top ((sts f hd).take 0)=[]:=rfl;rw [e0,e1,e2,e3,e4,Ajk,Ajk,AkD]at hL;exact hL
theorem AgH {a c:List Prt} (hn:a.length<=1048576):Au a c=some (decide (a=c)):=by
 unfold Au;by_cases hl:a.length=c.length
 .rw [ino O];have h:=HE Am (λi=>(a,c,(a.length:Int),((i:Nat):Int))) (λi=>decide (a[i]?=c[i]?)) false () a.length (λi hi=>by
   have hc:i < c.length:=O
   unfold Am gX wI;dsimp only;rw [iy O,iy O,Ai5,Ai6 hi,Ai3,iy O,Ai6 hc,Ai3,Al O];by_cases hq:a[i]=c[i]
   .rw [hq];simp
   .have:¬ (a[i].1=c[i].1/\a[i].2.1=c[i].2.1/\a[i].2.2=c[i].2.2):=λq=>hq (Prod.ext q.1 (Prod.ext q.2.1 q.2.2))
    have h2:(decide (a[i].1=c[i].1) && (decide (a[i].2.1=c[i].2.1) && ((a[i].2.2 == c[i].2.2) && true)))=false:=by
     cases h3:(decide (a[i].1=c[i].1) && (decide (a[i].2.1=c[i].2.1) && ((a[i].2.2 == c[i].2.2) && true)))with
     | false=>rfl
     | true=>
      simp only [Aja,decide_eq_true_eq,beq_iff_eq,and_true]at h3;exact absurd h3 this
    rw [h2];simp [hq]) (by
   unfold Am gX wI;dsimp only;rw [ino O])
  rw [show Ab Am (a,c,(a.length:Int),0)=_ from h,Ai3];have e:((List.range a.length).all λi=>decide (a[i]?=c[i]?))=decide (a=c):=by
   rw [Ak0,all_range,decide_eq_true_eq];constructor
   .intro q;refine Aj1 λi=>?_
    by_cases hi:i < a.length
    .simpa using q i hi
    .rw [Ajr O,Ajr O]
   .rintro rfl i _;simp
  rw [e];by_cases hq:a=c <;> simp [hq]
 .rw [iy O,decide_eq_false (λq=>hl (by rw [q]))]
theorem AgA {a c:List Int} (hn:a.length<=1048576):DJ a c=some (decide (a=c)):=by
 unfold DJ;by_cases hl:a.length=c.length
 .rw [ino O];have h:=HE Co (λi=>(a,c,(a.length:Int),((i:Nat):Int))) (λi=>decide (a[i]?=c[i]?)) false () a.length (λi hi=>by
   have hc:i < c.length:=O
   unfold Co gX wI;dsimp only;rw [iy O,iy O,Ai5,Ai6 hi,Ai3,iy O,Ai6 hc,Ai3,Al O];by_cases hq:a[i]=c[i]
   .rw [hq];simp
   .simp [hq]) (by
   unfold Co gX wI;dsimp only;rw [ino O])
  rw [show Ab Co (a,c,(a.length:Int),0)=_ from h,Ai3];have e:((List.range a.length).all λi=>decide (a[i]?=c[i]?))=decide (a=c):=by
   rw [Ak0,all_range,decide_eq_true_eq];constructor
   .intro q;refine Aj1 λi=>?_
    by_cases hi:i < a.length
    .simpa using q i hi
    .rw [Ajr O,Ajr O]
   .rintro rfl i _;simp
  rw [e];by_cases hq:a=c <;> simp [hq]
 .rw [iy O,decide_eq_false (λq=>hl (by rw [q]))]
theorem AaQ {a c:List Prt} (hn:a.length<=1048576):Ir a c=some (decide (a=c)):=by
 unfold Ir;rw [AgH hn];rfl
def ieq (b:Bls) (x y top:List Int) (f:Int) (t:List UInt8) (cs:List (List Prt)) (s:Int×Int):Bool:=decide (ipt b x y top s=bt f t cs s)
theorem AhE {f hd:Nat} {t:List UInt8} {r:List Rn} {cs:List (List Prt)} (gh:GH (f:Int) t r cs) (hf:hd=f+cs.length) (hh:hd<=60) {ks bl rs:List Int} {m:List (Int×Int)} (bad:Bool) :
  Ab BB ((sts f hd).map (ipt b x y top),sts f hd,(((sts f hd).length:Nat):Int),0,ks,bl,rs,bad,m,d,wr,on,lf,(f:Int),H,E,R,T,b,x,y,z,rt,top,top.map (lfv b),(f:Int),t,r,cs) =
   some (if(sts f hd).all (ieq b x y top (f:Int) t cs)=true then .inl (ks,bl,rs,bad,m,d,wr,on,lf,(f:Int),H,E,R,T,b,x,y,z,rt,top,top.map (lfv b),(f:Int),t,r,cs)
    else .inr (false,d,wr,on,lf,(f:Int),H,E,R,T,b,x,y,z,rt,top,top.map (lfv b),(f:Int),t,r,cs)):=by
 have hsl:=HV (f:=f) hh;have hL:=HE BB (λi=>((sts f hd).map (ipt b x y top),sts f hd,(((sts f hd).length:Nat):Int),((i:Nat):Int),ks,bl,rs,bad,m,d,wr,on,lf,(f:Int),H,E,R,T,b,x,y,z,rt,top,top.map (lfv b),(f:Int),t,r,cs))
  (λi=>ieq b x y top (f:Int) t cs (((sts f hd)[i]?).getD (0,0))) (false,d,wr,on,lf,(f:Int),H,E,R,T,b,x,y,z,rt,top,top.map (lfv b),(f:Int),t,r,cs) (ks,bl,rs,bad,m,d,wr,on,lf,(f:Int),H,E,R,T,b,x,y,z,rt,top,top.map (lfv b),(f:Int),t,r,cs) (sts f hd).length (λi hi=>by
   obtain ⟨k,j,g8⟩:=Or hi;obtain ⟨l1,l2,l3⟩:=g8.lt hh;obtain ⟨f1,f2,f3,f4,f5⟩:=g8.ft;have hk:=g8.hk;have hget:(sts f hd)[i]?=some ((sts f hd)[i]):=Ai6 hi;have hml:((sts f hd).map (ipt b x y top))[i]?=some (ipt b x y top (sts f hd)[i]):=by rw [AjI,hget];rfl
   have e1:EE (sts f hd)[i].1 (sts f hd)[i].2=some (frS (sts f hd)[i]:Int):=by rw [f1];simp only [g8.e];exact AbY hk O
   have e2:Gm (sts f hd)[i].1 (sts f hd)[i].2=some (toS (sts f hd)[i]:Int):=by rw [f2];simp only [g8.e];exact Afc hk O
   have hsm:=(QF (rkd b x y top (ky (sts f hd)[i]))).len;have hip:(ipt b x y top (sts f hd)[i]).length<=1048576:=by unfold ipt;omega
   unfold BB cK cZ wI;dsimp only;rw [iy O,iy O,iy O,Ajv,Ai5,hget,Ai3,Ai3,iy O,iy (by rw [AjA];omega),hml,Ai3,e1,Ai3,e2,Ai3,W5 gh O O O,Ai3,AaQ hip,Ai3,AjN];have he:ieq b x y top (f:Int) t cs (sts f hd)[i]=decide (ipt b x y top (sts f hd)[i]=BT (f:Int) t cs (frS (sts f hd)[i]:Int) (toS (sts f hd)[i]:Int)):=rfl;rw [he];by_cases hq:ipt b x y top (sts f hd)[i]=BT (f:Int) t cs (frS (sts f hd)[i]:Int) (toS (sts f hd)[i]:Int)
   .rw [decide_eq_true hq,Ai8 Z,Ai9 rfl,Al O]
   .rw [decide_eq_false hq,Ai9 Z,Ai8 Z]) (by
   unfold BB cK cZ wI;dsimp only;rw [ino O])
 have e:((List.range (sts f hd).length).all λi=>ieq b x y top (f:Int) t cs (((sts f hd)[i]?).getD (0,0)))=(sts f hd).all (ieq b x y top (f:Int) t cs):=by
  rw [Ak0,all_range,Ajz];constructor
  .intro q s hs;obtain ⟨i,hi,rfl⟩:=AjH hs;have:=q i hi;rw [Ai6 hi]at this;exact this
  .intro q i hi;rw [Ai6 hi];exact q _ (Ajt hi)
 rw [e]at hL;exact hL
def btl (b:Bls) (x y top:List Int):List Nat->List Int->List Int->List Int
 | [],P,bl=>bl
 | r::l,P,bl=>btl b x y top l (P++tpc b x y (vl b top (384+r))) (btx b x y P bl (vl b top (384+r)))
theorem WP (b:Bls) (x y top:List Int):∀(l:List Nat) (P bl:List Int) (r:Nat),btl b x y top (l++[r]) P bl=btx b x y (P++ckp b x y top l) (btl b x y top l P bl) (vl b top (384+r))
 | [],P,bl,r=>by simp [btl,ckp]
 | a::l,P,bl,r=>by
  have h:=WP b x y top l (P++tpc b x y (vl b top (384+a))) (btx b x y P bl (vl b top (384+a))) r;have e:ckp b x y top (a::l)=tpc b x y (vl b top (384+a))++ckp b x y top l:=by unfold ckp;rw [Akq]
  rw [e,<- Ajf];exact h
theorem Zi {b:Bls} {x y top:List Int}:∀(l:List Nat) {C P bl:List Int},Led C P bl->Led (C++ckc b x y top l) (P++ckp b x y top l) (btl b x y top l P bl)
 | [],C,P,bl,h=>by simpa [ckc,ckp,btl] using h
 | a::l,C,P,bl,h=>by
  have h1:=Zi (b:=b) (x:=x) (y:=y) (top:=top) l (ZJ (b:=b) (x:=x) (y:=y) h (vl b top (384+a)));have e1:ckp b x y top (a::l)=tpc b x y (vl b top (384+a))++ckp b x y top l:=by unfold ckp;rw [Akq]
  have e2:ckc b x y top (a::l)=tcl b x y (vl b top (384+a))++ckc b x y top l:=by unfold ckc;rw [Akq]
  rw [e1,e2,<- Ajf,<- Ajf];exact h1
theorem Tu (b:Bls) (x y top:List Int):∀(l:List Nat) (P bl:List Int),(btl b x y top l P bl).length<=bl.length+4 * l.length
 | [],P,bl=>by simp [btl]
 | a::l,P,bl=>by
  have h1:=Tu b x y top l (P++tpc b x y (vl b top (384+a))) (btx b x y P bl (vl b top (384+a)));have h2:=Za b x y P bl (vl b top (384+a));rw [Aji];show(btl b x y top l _ _).length<=_;omega
theorem AhD (g:RS b x y) (ht:top.length=32) {f hd e:Nat} {t:List UInt8} {r:List Rn} {cs:List (List Prt)} (gh:GH (f:Int) t r cs) (hf:hd=f+cs.length) (hh:hd<=60) {ks bl rs P:List Int} (hbl:bl.length<=80000) (hks:ks.length<=80000) (hP:P.length<=80000) (fn:Bool) :
  Ab BA ((cks f hd e).map (λr=>((r:Nat):Int)),((((cks f hd e).map (λr=>((r:Nat):Int))).length:Nat):Int),0,ks,bl,rs,bd fn bl,std P,d,wr,on,lf,(f:Int),H,E,R,T,b,x,y,z,rt,top,top.map (lfv b),(f:Int),t,r,cs) =
   some (if(cks f hd e).all (cke b x y top f t cs)=true then .inl (ks++(cks f hd e).map ckI,btl b x y top (cks f hd e) P bl,rs,bd (fn && cko b x y top (cks f hd e)) (btl b x y top (cks f hd e) P bl),std (P++ckp b x y top (cks f hd e)),d,wr,on,lf,(f:Int),H,E,R,T,b,x,y,z,rt,top,top.map (lfv b),(f:Int),t,r,cs)
    else .inr (false,d,wr,on,lf,(f:Int),H,E,R,T,b,x,y,z,rt,top,top.map (lfv b),(f:Int),t,r,cs)):=by
 have hcl:=MM (f:=f) (e:=e) hh;have hL:=HE BA (λi=>((cks f hd e).map (λr=>((r:Nat):Int)),((((cks f hd e).map (λr=>((r:Nat):Int))).length:Nat):Int),((i:Nat):Int),ks++((cks f hd e).take i).map ckI,btl b x y top ((cks f hd e).take i) P bl,rs,bd (fn && cko b x y top ((cks f hd e).take i)) (btl b x y top ((cks f hd e).take i) P bl),std (P++ckp b x y top ((cks f hd e).take i)),d,wr,on,lf,(f:Int),H,E,R,T,b,x,y,z,rt,top,top.map (lfv b),(f:Int),t,r,cs))
  (λi=>cke b x y top f t cs (((cks f hd e)[i]?).getD 0)) (false,d,wr,on,lf,(f:Int),H,E,R,T,b,x,y,z,rt,top,top.map (lfv b),(f:Int),t,r,cs) (ks++(cks f hd e).map ckI,btl b x y top (cks f hd e) P bl,rs,bd (fn && cko b x y top (cks f hd e)) (btl b x y top (cks f hd e) P bl),std (P++ckp b x y top (cks f hd e)),d,wr,on,lf,(f:Int),H,E,R,T,b,x,y,z,rt,top,top.map (lfv b),(f:Int),t,r,cs) (cks f hd e).length (λi hi=>by
   have hget:(cks f hd e)[i]?=some ((cks f hd e)[i]):=Ai6 hi;have hml:((cks f hd e).map (λr=>((r:Nat):Int)))[i]?=some (((cks f hd e)[i]:Nat):Int):=by rw [AjI,hget];rfl
   obtain ⟨q1,q2,q3⟩:=cks_mem.1 (Ajt hi);have htl:=(PF b x y top ((cks f hd e).take i)).2;have hbn:=Tu b x y top ((cks f hd e).take i) P bl;rw [Ajd]at htl hbn;have ew:IntKind.wrap .i64 (384+(((cks f hd e)[i]:Nat):Int))=((384+(cks f hd e)[i]:Nat):Int):=by rw [w64 O O];omega
   have htx:=TY gh (x:=(((cks f hd e)[i]:Nat):Int)) O O;rw [show((((cks f hd e)[i]:Nat):Int) - (f:Int)).toNat=(cks f hd e)[i] - f by omega]at htx;have hrt:=Ahh (z:=z) g (vl b top (384+(cks f hd e)[i])) (P:=P++ckp b x y top ((cks f hd e).take i)) (bl:=btl b x y top ((cks f hd e).take i) P bl) O (by rw [Ajb];omega) (fn && cko b x y top ((cks f hd e).take i)) (ks++((cks f hd e).take i).map ckI++[ckI (cks f hd e)[i]]) rs d wr on lf (f:Int) H E R T;have a2:ckp b x y top ((cks f hd e).take i++[(cks f hd e)[i]])=ckp b x y top ((cks f hd e).take i)++tpc b x y (vl b top (384+(cks f hd e)[i])):=by unfold ckp;rw [Akn];simp
   have a3:cko b x y top ((cks f hd e).take i++[(cks f hd e)[i]])=(cko b x y top ((cks f hd e).take i) && tok b x y (vl b top (384+(cks f hd e)[i]))):=by unfold cko;rw [List.all_append];simp
   unfold BA cK cZ wI;dsimp only;rw [iy (by rw [AjA];omega),iy O,iy (by rw [AjA];omega),Ajv,Ai5,hml,Ai3,ew,Ai9 (by simp only [Aa,decide_eq_true_eq,Ajh,Ajb,AjA,Ajd];omega),Pr ht rt O,Ai3,
    show((384+(cks f hd e)[i]:Nat):Int)=ckI (cks f hd e)[i] from rfl,hrt,Ai3]
   dsimp only;rw [htx,Ai3,hget,AjN,Aju hi,WP,a2,a3,AjM,Ajf,Ajf,Ak9];unfold cke;cases hq:(ttx b x y (vl b top (384+(cks f hd e)[i])) == txt t (cs.take ((cks f hd e)[i] - f)))with
   | true=>rw [Ai8 Z,Ai9 rfl,Al O];rfl
   | false=>rw [Ai9 Z,Ai8 Z]) (by
   unfold BA cK cZ wI;dsimp only;rw [ino (by rw [AjA];omega),AjT])
 have eq9:((List.range (cks f hd e).length).all λi=>cke b x y top f t cs (((cks f hd e)[i]?).getD 0))=(cks f hd e).all (cke b x y top f t cs):=by
  rw [Ak0,all_range,Ajz];constructor
  .intro q s hs;obtain ⟨i,hi,rfl⟩:=AjH hs;have:=q i hi;rw [Ai6 hi]at this;exact this
  .intro q i hi;rw [Ai6 hi];exact q _ (Ajt hi)
 rw [eq9]at hL;have e0:((cks f hd e).take 0).map ckI=[]:=rfl;have e1:cko b x y top ((cks f hd e).take 0)=true:=rfl;have e2:ckp b x y top ((cks f hd e).take 0)=[]:=rfl;have e3:btl b x y top ((cks f hd e).take 0) P bl=bl:=rfl;rw [e0,e1,e2,e3,Ajk,Ajk,AkD]at hL;exact hL
end
end Go.V.G