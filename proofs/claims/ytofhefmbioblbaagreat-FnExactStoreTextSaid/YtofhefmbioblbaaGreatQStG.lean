import Derived.Test.YtofhefmbioblbaaGreatQStA
import Derived.Test.YtofhefmbioblbaaGreatQStC
import Derived.Test.YtofhefmbioblbaaGreatQStF
set_option linter.unusedVariables false
set_option linter.unusedSimpArgs false
set_option maxRecDepth 100000
namespace Go.V.G
open Go.V
theorem UP:∀(l:List Int) (k:Nat),k < l.length->(l.flatMap D7)[2 * k]?=some (IntKind.wrap .u8 (gb l k / 256))/\(l.flatMap D7)[2 * k+1]?=some (IntKind.wrap .u8 (gb l k))
 | [],k,h=>by simp at h
 | a::l,0,_=>⟨rfl,rfl⟩
 | a::l,k+1,h=>by
  have ih:=UP l k (by simpa using h);have e:(a::l).flatMap D7=IntKind.wrap .u8 (a / 256)::IntKind.wrap .u8 a::l.flatMap D7:=rfl;have g:gb (a::l) (k+1)=gb l k:=rfl;rw [e,g,(O:2 * (k+1)=2 * k+1+1),AkU,AkU,AkU,AkU];exact ih
theorem UA {kind:Int} {l:List Int} (hl:l.length=32) (hv:V2 l):BO (Dq (pgb kind l))=l:=by
 have key:∀k,k < 32->num (Dq (pgb kind l)) (1+2 * k)=gb l k:=λk hk=>by
  obtain ⟨h1,h2⟩:=UP l k O;have hf:=OB l;have e:∀j,j < 64->gb (Dq (pgb kind l)) (1+j)=((l.flatMap D7)[j]?).getD 0:=λj hj=>by
   unfold Dq pgb gb;rw [AkG (by rw [AjU,hf,hl];simp;omega),Aky Z];simp
  have hvv:=hv _ (Akz (Ai (O:k < l.length)));unfold num;rw [(O:1+2 * k+1=1+(2 * k+1)),e (2 * k) O,e (2 * k+1) O,h1,h2,Akx,Akx,IntKind.wrap_u8,IntKind.wrap_u8];omega
 unfold BO;rw [show(List.range 32).map (λk=>num (Dq (pgb kind l)) (1+2 * k))=(List.range 32).map (gb l) from AkM λk hk=>key k (Als.1 hk)];exact Abv hl
theorem T8 (kind:Int) (l:List Int):gb (Dq (pgb kind l)) 0=kind:=rfl
theorem UE {kind:Int} {l:List Int} (hl:l.length=32):rz (Dq (pgb kind l)) 65=true:=AgU 65 (Aar kind hl).symm
structure Lf (b:Bls) (x y top:List Int) (root:Int) (k:Nat):Prop where
 lv:liv b x y (gb top k)=true
 kd:gb (blk b (gb top k).toNat) 0=81
 rz:rz (blk b (gb top k).toNat) 65=true
 nz:nz (BO (blk b (gb top k).toNat))=true
 vs:Mh b x (BO (blk b (gb top k).toNat))=false
 un:∀j,j < k->gb top j≠gb top k
 rt:root≠0/\liv b x y root=true/\gb (blk b root.toNat) 0=80
theorem KZ {b:Bls} {x y top:List Int} {root:Int} (h:tre b x y root=some top) {k:Nat} (hk:k < 32) (h0:gb top k≠0):Lf b x y top root k:=by
 have htl:=GP h;unfold tre at h;split at h
 .obtain rfl:=Ak7 h;exact absurd (Ac3 k) h0
 .rename_i hr;split at h
  .rename_i hc;obtain rfl:=Ak7 h;simp only [AjT]at hc;obtain ⟨c1,c2,c3⟩:=hc;have:=all_range.1 c3 k hk;unfold stG at this;rw [decide_eq_false h0,Ak3]at this;simp only [AjT,Aj0]at this;obtain ⟨p1,p2,p3,p4⟩:=this;unfold pgB at p1 c1;simp only [AjT,decide_eq_true_eq]at p1 c1;refine⟨p1.1,p1.2.1,p1.2.2,p2,p4,λj hj he=>?_,hr,c1.1,c1.2.1⟩;rw [AkV]at p3;have hm:gb (IF b root) j∈(IF b root).take k:=by
    have:((IF b root).take k)[j]?=some (gb (IF b root) j):=by rw [Aj7 hj,Ai O]
    exact Akz this
   have:=p3 _ hm;rw [he]at this;simp at this
  .cases h
theorem X1 {b:Bls} {x y top:List Int} {root:Int} (h:tre b x y root=some top) (h0:root≠0):liv b x y root=true/\gb (blk b root.toNat) 0=80:=by
 unfold tre at h;rw [AjR h0]at h;split at h
 .rename_i hc;simp only [AjT]at hc;have:=hc.1;unfold pgB at this;simp only [AjT,decide_eq_true_eq]at this;exact⟨this.1,this.2.1⟩
 .cases h
theorem M1 (top:List Int) (l:List Kv):∀k v,v∈Mq top l k->∃j,j < k/\v=gb top j/\gb top j≠0/\oth l j=true
 | 0,v,h=>by cases h
 | k+1,v,h=>by
  simp only [Mq]at h;split at h
  .rename_i ho;unfold goS at h;split at h
   .obtain ⟨j,h1,h2⟩:=M1 top l k v h;exact⟨j,O,h2⟩
   .rename_i hn;rcases AjV.1 h with h | h
    .obtain ⟨j,h1,h2⟩:=M1 top l k v h;exact⟨j,O,h2⟩
    .exact⟨k,O,AjX.1 h,hn,ho⟩
  .obtain ⟨j,h1,h2⟩:=M1 top l k v h;exact⟨j,O,h2⟩
theorem W2 {b:Bls} {x y:List Int} {m:Nat} (h1:33<=m) (h2:m < b.length) (h3:bit x m=true) (h4:(m:Int)∉y):liv b x y (m:Int)=true:=by
 unfold liv;rw [decide_eq_true O,AjO,h3,decide_eq_false h4];rfl
theorem Aie {b b':Bls} {x x':List Int} {v:Int} (hb:b'.length=b.length) (hl:b.length<=160) (hx:∀i,i < 160->bit x i=true->bit x' i=true) (h:isb b x v=true):isb b' x' v=true:=by
 unfold isb at h ⊢;simp only [AjT,decide_eq_true_eq]at h ⊢;rw [hb];exact⟨h.1,hx _ O h.2⟩
theorem Afs {b:Bls} {x y:List Int} {v:Int} (h:liv b x y v=true):isb b x v=true:=by
 unfold liv at h;unfold isb;simp only [AjT]at h ⊢;exact⟨h.1,h.2.1⟩
theorem bad_no {b:Bls} {x l:List Int}:Mh b x l=false↔∀v∈l,v=0\/isb b x v=true:=by
 unfold Mh;rw [AkV];constructor
 .intro h v hv;have:=h v hv;by_cases h0:v=0
  .exact .inl h0
  .right;rw [decide_eq_true h0,Aj3]at this;simpa using this
 .intro h v hv;rcases h v hv with h0 | h0
  .rw [decide_eq_false (not_not_intro h0)];simp
  .rw [h0];simp
theorem Afr {b:Bls} {x y top:List Int} {l:List Kv} {root:Int} (ht:tre b x y root=some top) (hl:∀s∈l,s.2=0\/liv b x y s.2=true) {k:Nat} (hk:k < 32):∀v∈av b top l k,v=0\/isb b x v=true:=by
 have h0:∀v∈lfv b (gb top k),v=0\/isb b x v=true:=by
  unfold lfv;split
  .intro v hv;exact .inl (Alt hv)
  .rename_i hn;exact bad_no.1 (KZ ht hk hn).vs
 unfold av;have key:∀(l:List Kv) (w:List Int),(∀v∈w,v=0\/isb b x v=true)->(∀s∈l,s.2=0\/liv b x y s.2=true)->∀v∈l.foldl (upd k) w,v=0\/isb b x v=true:=by
  intro l
  induction l with
  | nil=>intro w h _;exact h
  | cons s l ih=>
   intro w h hs;rw [Alj];refine ih _ ?_ λs' h'=>hs s' (by simp [h'])
   unfold upd;split
   .intro v hv;rcases AkS hv with hv | rfl
    .exact h v hv
    .exact(hs s Z).imp id Afs
   .exact h
 exact key l _ h0 hl
structure Tn (b:Bls) (x y z top:List Int) (l:List Kv) (root at_:Int) (b':Bls) (x' y' z':List Int):Prop where
 gs:GS b' x' y' z'
 bu:∀c∈b',U8s c
 bl:b'.length=b.length
 ux:U8s x'
 tr:∃nx,tre b' x' y' at_=some nx/\∀k,k < 32->lfv b' (gb nx k)=av b top l k
 ot:∀i,i < 160->bit x i=true->blk b' i=blk b i
theorem Sk.tn {b b':Bls} {x y z top x' y' z':List Int} {l:List Kv} {root at_:Int} (g:GS b x y z) (hu:∀c∈b,U8s c) (ht:tre b x y root=some top) (hs:Abp b x y l=true) (s:Sk b x y z top l root at_ b' x' y' z'):Tn b x y z top l root at_ b' x' y' z':=by
 obtain ⟨hl64,hk,hlv,_⟩:=Aft hs;have hb:=g.hb;have htl:=GP ht;have htv:=Aic hu ht;obtain ⟨hyr,hyl⟩:=g.ylen;obtain ⟨yr',yl',ym'⟩:=s.yl hyr O;have hw:=s.wk;obtain ⟨nx,b1,x1,z1,q1,tv,hq1,_,hnn,hend⟩:=s.ex;have hnl:=tv.nl;have hnv:=AiE hb.2 htv htl tv;have hyb:∀v∈y,∃m:Nat,v=((m:Nat):Int)/\(33<=m/\m < b.length)/\bit x m=true:=λv hv=>by
  obtain ⟨i,hi,rfl⟩:=Akq hv;have:=(Gl g.hy).2 i hi;exact⟨(y[i]).toNat,O,O,this.2.2⟩
 have hgone:∀v∈y',∃m:Nat,v=((m:Nat):Int)/\(33<=m/\m < b.length)/\bit x m=true:=λv hv=>by
  rcases (ym' v).1 hv with hv | hv
  .exact hyb v hv
  .rcases AjV.1 hv with hv | hv
   .obtain ⟨j,hj,rfl,hn,_⟩:=M1 _ _ _ _ hv;obtain ⟨m,e,h1,h2,h3,_⟩:=Cn (KZ ht hj hn).lv;exact⟨m,e,⟨h1,h2⟩,h3⟩
   .unfold rtL at hv;split at hv
    .cases hv
    .rename_i hr;rw [AjX]at hv;subst hv;obtain ⟨m,e,h1,h2,h3,_⟩:=Cn (X1 ht hr).1;exact⟨m,e,⟨h1,h2⟩,h3⟩
 have hup:(∀i,i < 160->bit x1 i=true->bit x' i=true)/\(∀i,i < 160->bit x1 i=true->blk b' i=blk b1 i)/\(∀c∈b',U8s c)/\(∀v∈z',v∈z1\/∃m:Nat,v=((m:Nat):Int)/\(33<=m/\m < b.length)/\bit x' m=true)/\(∀i,b.length<=i->i < 160->bit x' i=bit x1 i):=by
  rcases hend with⟨_,_,rfl,rfl,rfl⟩ | ⟨_,m,_,hm,hbm,rfl,rfl,rfl,_,_⟩
  .exact⟨λi _ h=>h,λi _ _=>rfl,tv.bu,λv hv=>.inl hv,λi _ _=>rfl⟩
  .have hx1:=tv.wk.hx;have hb1:=tv.wk.hb;have hz1:=tv.wk.hz;have hbit:∀i,i < 160->bit (setB x1 m) i=(decide (i=m) || bit x1 i):=λi hi=>P9 tv.wk.hu O O
   obtain ⟨_,_,z3,z4,z5⟩:=LQ (z:=z1) O tv.wk.hr ((m:Nat):Int);obtain ⟨_,_,_,_,y5⟩:=LQ (z:=pt z1 ((m:Nat):Int)) O z4 ((m:Nat):Int);refine⟨λi hi h=>by rw [hbit i hi,h,Al8],λi hi h=>?_,λc hc=>?_,λv hv=>?_,λi h1 h2=>by rw [hbit i h2,decide_eq_false (O:¬ i=m),Ak3]⟩
   .have him:m≠i:=by rintro rfl;rw [hbm]at h;cases h
    rw [J9 him,J9 him]
   .rcases AkS hc with hc | rfl
    .rcases AkS hc with hc | rfl
     .exact tv.bu c hc
     .exact XE
    .exact Ac9 O
   .have key:v∈z1\/v=((m:Nat):Int):=by
     rcases (y5 v).1 hv with hv | hv
     .exact(z5 v).1 hv
     .exact .inr hv
    rcases key with hv | rfl
    .exact .inl hv
    .exact .inr ⟨m,rfl,hm,by rw [hbit m O];simp⟩
 obtain ⟨up1,up2,up3,up4,up5⟩:=hup;have hx':∀i,i < 160->bit x i=true->bit x' i=true:=λi hi h=>up1 i hi (tv.ot i hi h).2
 have hblk:∀i,i < 160->bit x i=true->blk b' i=blk b i:=λi hi h=>by
  have:=tv.ot i hi h;rw [up2 i hi this.2];exact this.1
 have hbl:b'.length=b.length:=hw.hb;have hfree:∀m:Nat,bit x m=false->((m:Nat):Int)∉y':=λm hm hh=>by
  obtain ⟨m',e,_,h⟩:=hgone _ hh;obtain rfl:m=m':=O
  rw [hm]at h;cases h
 have hgs:GS b' x' y' z':=by
  refine⟨by rw [hbl];exact hb,hw.hx,hw.hk,λi hi=>?_,?_,?_⟩
  .rw [hbl];have hg:=g.hbits i hi;unfold bG at hg ⊢;by_cases h33:i < 33
   .have hl:=hw.hlow i h33;rw [hl,decide_eq_false (O:¬ b.length<=i)];simp
   .by_cases hin:b.length<=i
    .rw [up5 i hin hi,tv.hi i hin hi];rw [decide_eq_false h33]at hg ⊢;exact hg
    .rw [decide_eq_false h33,decide_eq_false hin];simp
  .rw [hbl];refine MR yr' λv hv=>?_
   obtain ⟨m,rfl,hm,hbm⟩:=hgone v hv;exact⟨O,O,by rw [AjO];exact hx' m O hbm⟩
  .rw [hbl];refine MR hw.hr λv hv=>?_
   have hnew:∀m:Nat,(33<=m/\m < b.length)->bit x' m=true->33<=((m:Nat):Int)/\((m:Nat):Int)<=(b.length:Int) - 1/\bit x' (((m:Nat):Int)).toNat=true:=λm hm h=>⟨O,O,by rw [AjO];exact h⟩
   rcases up4 v hv with hv | ⟨m,rfl,hm,h⟩
   .rcases tv.zm v hv with hv | ⟨m,rfl,hm,h⟩
    .obtain ⟨i,hi,rfl⟩:=Akq hv;have:=(Gl g.hz).2 i hi;exact⟨this.1,this.2.1,hx' _ O this.2.2⟩
    .exact hnew m hm (up1 m O h)
   .exact hnew m hm h
 refine⟨hgs,up3,hbl,hw.hu,?_,hblk⟩;have hleaf:∀k,k < 32->lfv b' (gb nx k)=av b top l k:=λk hk32=>by
  cases ho:oth l k with
  | false=>
   rw [Afl ho,tv.st k hk32 (.inr ho)];unfold lfv;split
   .rfl
   .rename_i hn;have lf:=KZ ht hk32 hn;obtain ⟨m,e,h1,h2,h3,_⟩:=Cn lf.lv;rw [e,AjO,hblk m O h3]
  | true=>
   cases hz:nz (av b top l k)with
   | false=>
    rw [tv.dz k hk32 ho hz];unfold lfv;rw [AjS rfl];have hal:=Sr b top l k;have hall:∀v∈av b top l k,v=0:=λv hv=>by
     unfold nz at hz;rw [AkV]at hz;have:=hz v hv;simpa using this
    refine(List.eq_replicate_iff.2 ⟨hal,hall⟩).symm
   | true=>
    obtain ⟨m,e,hm,_,h3,h4⟩:=tv.dn k hk32 ho hz;unfold lfv;rw [e,AjR O,AjO,up2 m O h3,h4,UA (Sr b top l k) (AiJ hu (λs hs=>Ahy hb.2 (hlv s hs)) k)]
 have hst:∀k,k < 32->stG b' x' y' nx k=true:=λk hk32=>by
  unfold stG;by_cases h0:gb nx k=0
  .rw [decide_eq_true h0,Bool.true_or]
  rw [decide_eq_false h0,Ak3];have hlk:=hleaf k hk32;have hpn:BO (blk b' (gb nx k).toNat)=av b top l k:=by
   rw [<- hlk];unfold lfv;rw [AjR h0]
  rw [hpn];have hbad:Mh b' x' (av b top l k)=false:=bad_no.2 λv hv=>(Afr ht hlv hk32 v hv).imp id (Aie hbl hb.2 hx')
  rw [hbad];have hne:∀j,j < k->gb nx j≠gb nx k->True:=λ_ _ _=>trivial
  have hun:(∀j,j < k->gb nx j≠gb nx k)->((nx.take k).any λv=>decide (v=gb nx k))=false:=λh=>by
   rw [AkV];intro v hv;obtain ⟨j,hj,rfl⟩:=Akq hv;rw [AjW]at hj;rw [List.getElem_take];have:=h j O;unfold gb at this;rw [AjP O,Akx]at this;unfold gb;simpa using this
  have hwhat:∀j,j < 32->gb nx j≠0->(∃m:Nat,gb nx j=((m:Nat):Int)/\bit x m=false)\/(gb nx j=gb top j/\gb top j≠0/\oth l j=false):=λj hj hjn=>by
   cases ho:oth l j with
   | false=>
    have:=tv.st j hj (.inr ho);exact .inr ⟨this,by rw [<- this];exact hjn,rfl⟩
   | true=>
    cases hz:nz (av b top l j)with
    | false=>exact absurd (tv.dz j hj ho hz) hjn
    | true=>obtain ⟨m,e,_,hx0,_,_⟩:=tv.dn j hj ho hz;exact .inl ⟨m,e,hx0⟩
  cases ho:oth l k with
  | true=>
   cases hz:nz (av b top l k)with
   | false=>exact absurd (tv.dz k hk32 ho hz) h0
   | true=>
    obtain ⟨m,e,hm,hx0,h3,h4⟩:=tv.dn k hk32 ho hz;have hb4:blk b' m=Dq (pgb 81 (av b top l k)):=by rw [up2 m O h3];exact h4
    have hp:pgB b' x' y' (gb nx k) 81=true:=by
     unfold pgB;rw [e,AjO,hb4,W2 O O (up1 m O h3) (hfree m hx0),decide_eq_true (T8 81 _),UE (Sr b top l k)];rfl
    have hd:=hun λj hj he=>by
     have hj0:gb nx j≠0:=by rw [he];exact h0
     rcases hwhat j O hj0 with⟨m2,e2,hx2⟩ | ⟨e2,hn2,_⟩
     .cases hoj:oth l j with
      | false=>
       have:=tv.st j O (.inr hoj);rw [this]at hj0;obtain ⟨m3,e3,_,_,h3x,_⟩:=Cn (KZ ht O hj0).lv;rw [this,e3]at e2;obtain rfl:m3=m2:=O
       rw [hx2]at h3x;cases h3x
      | true=>
       cases hzj:nz (av b top l j)with
       | false=>exact absurd (tv.dz j O hoj hzj) hj0
       | true=>exact tv.ds j k hj hk32 hoj ho hzj hz he
     .obtain ⟨m3,e3,_,_,h3x,_⟩:=Cn (KZ ht (O:j < 32) hn2).lv;rw [e2,e3,e]at he;obtain rfl:m3=m:=O
      rw [hx0]at h3x;cases h3x
    rw [hp,hd];rfl
  | false=>
   have e:=tv.st k hk32 (.inr ho);have hn:gb top k≠0:=by rw [<- e];exact h0
   have lf:=KZ ht hk32 hn;obtain ⟨m,em,h1,h2,h3,h4⟩:=Cn lf.lv;have hz:nz (av b top l k)=true:=by rw [Afl ho];unfold lfv;rw [AjR hn];exact lf.nz
   have hny:((m:Nat):Int)∉y':=λhh=>by
    rcases (ym' _).1 hh with hh | hh
    .exact h4 hh
    .rcases AjV.1 hh with hh | hh
     .obtain ⟨j,hj,ej,hnj,hoj⟩:=M1 _ _ _ _ hh;have hjk:j≠k:=by rintro rfl;rw [ho]at hoj;cases hoj
      rcases Nat.lt_or_gt_of_ne hjk with hl | hl
      .exact lf.un j hl (by rw [<- ej,em])
      .exact(KZ ht hj hnj).un k hl (by rw [<- ej,em])
     .unfold rtL at hh;split at hh
      .cases hh
      .rw [AjX]at hh;have hk80:=lf.rt.2.2;have hk81:=lf.kd;rw [em,AjO]at hk81;rw [<- hh,AjO,hk81]at hk80;omega
   have hbe:=hblk m O h3;have hp:pgB b' x' y' (gb nx k) 81=true:=by
    have hkd:=lf.kd;have hrz:=lf.rz;rw [em,AjO]at hkd hrz;unfold pgB;rw [e,em,AjO,hbe,W2 h1 O (hx' m O h3) hny,decide_eq_true hkd,hrz];rfl
   have hd:=hun λj hj he=>by
    have hj0:gb nx j≠0:=by rw [he];exact h0
    rcases hwhat j O hj0 with⟨m2,e2,hx2⟩ | ⟨e2,hn2,_⟩
    .rw [e2,e,em]at he;obtain rfl:m2=m:=O
     rw [hx2]at h3;cases h3
    .exact lf.un j hj (by rw [<- e2,he,e])
   rw [hp,hz,hd];rfl
 rcases hend with⟨hz,rfl,rfl,rfl,rfl⟩ | ⟨hz,m,rfl,hm,hbm,rfl,rfl,rfl,_,_⟩
 .refine⟨zer,by unfold tre;rw [AjS rfl],λk hk32=>?_⟩;have hall:∀v∈nx,v=0:=λv hv=>by
   unfold nz at hz;rw [AkV]at hz;have:=hz v hv;simpa using this
  have:nx=zer:=List.eq_replicate_iff.2 ⟨hnl,hall⟩;rw [<- this];exact hleaf k hk32
 .have hb1:=tv.wk.hb;have hbk:blk ((b1.set m Hy).set m (Dq (pgb 80 nx))) m=Dq (pgb 80 nx):=RJ (by rw [AkQ];omega);have htop:IF ((b1.set m Hy).set m (Dq (pgb 80 nx))) ((m:Nat):Int)=nx:=by
   unfold IF;rw [AjO,hbk,UA hnl hnv]
  have hx0:bit x m=false:=by
   cases h:bit x m with
   | false=>rfl
   | true=>have:=(tv.ot m O h).2;rw [hbm]at this;cases this
  have hx1:=tv.wk.hx;have hbit:bit (setB x1 m) m=true:=by rw [P9 tv.wk.hu O O];simp
  refine⟨nx,?_,hleaf⟩;unfold tre;rw [AjR O,htop];have hp:pgB ((b1.set m Hy).set m (Dq (pgb 80 nx))) (setB x1 m) y' ((m:Nat):Int) 80=true:=by
   unfold pgB;rw [AjO,hbk,W2 O O hbit (hfree m hx0),decide_eq_true (T8 80 _),UE hnl];rfl
  rw [hp,hz,all_range.2 hst];rfl
end Go.V.G
set_option maxRecDepth 100000
namespace Go.V.G
open Go.V
theorem Afj {b:Bls} (hb:b.length<=160) (hk:∀c∈b,c.length=128):Bd b:=⟨O,λc hc=>by have:=hk c hc;omega⟩
section
variable {b b':Bls} {x y z:List Int} {wr lf f hd ev:Int} {rt tx:Nat}
end
section
variable {b:Bls} {wr lf ev f:Int} {on:Bool} {t:List UInt8} {r:List Rn} {cs:List (List Prt)}
def okM (b:Bls) (wr lf ev f:Int) (t:List UInt8) (r:List Rn) (cs:List (List Prt)):Prop:=gd b wr lf=true/\wr<=999999900/\(1<=ev/\ev<=30)/\Fy f t r cs=true/\cs.length=0
end
end Go.V.G
set_option maxRecDepth 100000
namespace Go.V.G
open Go.V
theorem JB {b:Bls} {wr lf:Int} (h:gd b wr lf=true):(40<=b.length/\b.length<=160)/\∀c∈b,c.length=128:=by
 unfold gd at h;simp only [AjT,decide_eq_true_eq,Aki,beq_iff_eq]at h;exact⟨h.1,h.2.1⟩
section
variable {b:Bls} {wr lf ev f:Int} {t:List UInt8} {r:List Rn} {cs:List (List Prt)}
end
end Go.V.G
set_option maxRecDepth 100000
namespace Go.V.G
open Go.V
theorem H0 {σ τ ρ:Type} (L:σ->Option (σ⊕(τ⊕ρ))) (st:Nat->σ) (p:Nat->Bool) (e:ρ) (z:τ) (n:Nat)
  (step:∀i,i < n->L (st i)=some (if p i=true then .inl (st (i+1))else .inr (.inr e))) (last:L (st n)=some (.inr (.inl z))) :
  Ab L (st 0)=some (if(List.range n).all p=true then .inl z else .inr e):=by
 rcases BN L st p (λ_=>e) z n step last with⟨ha,hlp⟩ | ⟨k,hk,hp,_,hlp⟩
 .rw [hlp,AjS (all_range.2 ha)]
 .rw [hlp,AjR (λh=>by rw [all_range.1 h k hk]at hp;cases hp)]
def gG (n:Nat) (g:List Wr) (i:Nat):Bool:=decide ((gw g i).1=0\/(gw g i).1=1\/33<=(gw g i).1/\(gw g i).1<=(n:Int) - 1) && (decide ((gw g i).2.length=128) && (decide (i=0) || decide ((gw g (i - 1)).1 < (gw g i).1)))
def grB (n:Nat) (g:List Wr):Bool:=decide (1<=g.length/\g.length<=30) && (List.range g.length).all (gG n g)
theorem AfG {n:Nat} (hn:n<=1048576) (a:Int):R5 a (n:Int)=some (decide (a=0\/a=1\/33<=a/\a<=(n:Int) - 1)):=by
 unfold R5 wI;rw [w64 O O,Ca];by_cases h0:a=0 <;> by_cases h1:a=1 <;> simp [h0,h1]
theorem Abu {n:Nat} {g:List Wr} (hn:n<=1048576) (hg:g.length<=1048576):Lz g (n:Int)=some (grB n g):=by
 unfold Lz grB;rw [Ca,AjM];by_cases hl:1<=g.length/\g.length<=30
 .rw [decide_eq_true (show(1:Int)<=(g.length:Int)/\(g.length:Int)<=30 by omega),decide_eq_true hl];have h:=H0 Gx (λi=>(g,(n:Int),g,(g.length:Int),((i:Nat):Int))) (gG n g) false () g.length (λi hi=>by
   unfold Gx gG gX wI;dsimp only;rw [iy O,iy O,AjO,E2 hi,AjM,AfG hn,AjM];have hix:=Ak (i:=i) O;by_cases h1:(gw g i).1=0\/(gw g i).1=1\/33<=(gw g i).1/\(gw g i).1<=(n:Int) - 1
   .rw [decide_eq_true h1];by_cases h2:(gw g i).2.length=128
    .rw [ino (O:¬ ¬ (((gw g i).2.length:Nat):Int)=128),decide_eq_true h2];by_cases h3:i=0
     .subst h3;simp [show IntKind.wrap .i64 1=1 from w64 O O]
     .rw [iy (show(0:Int) < ((i:Nat):Int) by omega),im1 O O,iy O,AjO,E2 O,decide_eq_false h3];by_cases h4:(gw g (i - 1)).1 < (gw g i).1
      .rw [decide_eq_true h4];simp [(O:¬ (gw g i).1<=(gw g (i - 1)).1),hix]
      .rw [decide_eq_false h4];simp [show(gw g i).1<=(gw g (i - 1)).1 by omega]
    .rw [iy (O:¬ (((gw g i).2.length:Nat):Int)=128),decide_eq_false h2];rfl
   .rw [decide_eq_false h1];rfl) (by
   unfold Gx gX wI;dsimp only;rw [ino O])
  rw [show Ab Gx (g,(n:Int),g,(g.length:Int),0)=_ from h];cases (List.range g.length).all (gG n g) <;> rfl
 .rw [decide_eq_false (O:¬ ((1:Int)<=(g.length:Int)/\(g.length:Int)<=30)),decide_eq_false hl];rfl
def gI (g:List Wr) (i:Nat):Bool:=decide (0<=(gw g i).1/\(gw g i).1 < 160/\¬ (1 < (gw g i).1/\(gw g i).1 < 33)) && ((decide (i=0) || decide ((gw g (i - 1)).1 < (gw g i).1)) && decide ((gw g i).2.length=128))
theorem W8 {g:List Wr} (hg:g.length<=1048576):Ls g=some ((List.range g.length).all (gI g) && decide (1<=g.length/\g.length<=30)):=by
 unfold Ls;have h:=H0 Gy (λi=>(g,g,(g.length:Int),((i:Nat):Int))) (gI g) false g g.length (λi hi=>by
  unfold Gy gI gX wI;dsimp only;rw [iy O,iy O,AjO,E2 hi,AjM];by_cases h1:(gw g i).1 < 0
  .rw [iy h1,decide_eq_false (O:¬ (0<=(gw g i).1/\(gw g i).1 < 160/\¬ (1 < (gw g i).1/\(gw g i).1 < 33)))];rfl
  .rw [ino h1];by_cases h2:(160:Int)<=(gw g i).1
   .rw [iy h2,decide_eq_false (O:¬ (0<=(gw g i).1/\(gw g i).1 < 160/\¬ (1 < (gw g i).1/\(gw g i).1 < 33)))];rfl
   .rw [ino h2];have key:(if decide ((0:Int) < ((i:Nat):Int))=true then
      (if decide ((0:Int)<=IntKind.wrap .i64 (((i:Nat):Int) - 1))=true then
       Option.bind (g[Int.toNat (IntKind.wrap .i64 (((i:Nat):Int) - 1))]?) λr2=>
        if decide ((gw g i).1<=r2.1)=true then some (g,g,(g.length:Int),((i:Nat):Int),true)else some (g,g,(g.length:Int),((i:Nat):Int),decide (¬ (((gw g i).2.length:Nat):Int)=128))
      else none)else some (g,g,(g.length:Int),((i:Nat):Int),decide (¬ (((gw g i).2.length:Nat):Int)=128))) =
      some (g,g,(g.length:Int),((i:Nat):Int),!((decide (i=0) || decide ((gw g (i - 1)).1 < (gw g i).1)) && decide ((gw g i).2.length=128))):=by
     have e:decide (¬ (((gw g i).2.length:Nat):Int)=128) = !decide ((gw g i).2.length=128):=by
      by_cases h:(gw g i).2.length=128 <;> simp [h];omega
     by_cases h3:i=0
     .subst h3;rw [e];simp
     .rw [iy (show(0:Int) < ((i:Nat):Int) by omega),im1 O O,iy O,AjO,E2 O,AjM,decide_eq_false h3,e];by_cases h4:(gw g (i - 1)).1 < (gw g i).1
      .rw [decide_eq_true h4,ino O];simp
      .rw [decide_eq_false h4,iy O];simp
    have fin:decide (0<=(gw g i).1/\(gw g i).1 < 160/\¬ (1 < (gw g i).1/\(gw g i).1 < 33)) = !(decide (1 < (gw g i).1) && decide ((gw g i).1 < 33)):=by
     by_cases h3:1 < (gw g i).1 <;> by_cases h4:(gw g i).1 < 33 <;> simp [h3,h4] <;> omega
    rw [fin];by_cases h3:1 < (gw g i).1
    .rw [iy h3,decide_eq_true h3];by_cases h4:(gw g i).1 < 33
     .rw [iy h4,decide_eq_true h4];rfl
     .rw [ino h4,decide_eq_false h4,key,AjM];dsimp only;rw [Ak O];cases ((decide (i=0) || decide ((gw g (i - 1)).1 < (gw g i).1)) && decide ((gw g i).2.length=128)) <;> rfl
    .rw [ino h3,decide_eq_false h3,key,AjM];dsimp only;rw [Ak O];cases ((decide (i=0) || decide ((gw g (i - 1)).1 < (gw g i).1)) && decide ((gw g i).2.length=128)) <;> rfl) (by
  unfold Gy gX wI;dsimp only;rw [ino O])
 rw [show Ab Gy (g,g,(g.length:Int),0)=_ from h];have e:decide ((1:Int)<=(g.length:Int)/\(g.length:Int)<=30)=decide (1<=g.length/\g.length<=30):=decide_eq_decide.2 O;cases (List.range g.length).all (gI g)with
 | true=>rw [AjS rfl,AjM];dsimp only;rw [AH,e];rfl
 | false=>rfl
theorem Aif {g:List Wr} {w:Wr} (h:w∈g):∃i,i < g.length/\gw g i=w:=by
 obtain ⟨i,hi,rfl⟩:=Akq h;exact⟨i,hi,by have:=E2 hi;rw [AjP hi]at this;injection this with this;exact this.symm⟩
theorem AcL {n:Nat} {g:List Wr} (hn:40<=n) (h:grB n g=true) (hu:∀w∈g,U8s w.2):GrOk n g/\1<=g.length/\g.length<=30:=by
 simp only [grB,AjT,decide_eq_true_eq]at h;obtain ⟨h1,h2⟩:=h;have h3:=all_range.1 h2;have at_:∀w∈g,(0<=w.1/\w.1 < (n:Int))/\w.2.length=128:=λw hw=>by
  obtain ⟨i,hi,rfl⟩:=Aif hw;have:=h3 i hi;simp only [gG,AjT,decide_eq_true_eq]at this;exact⟨O,this.2.1⟩
 exact⟨⟨O,λw hw=>(at_ w hw).1,λw hw=>(at_ w hw).2,hu⟩,h1⟩
theorem SY {bl:Bls} {wr lf:Int} (on:Bool) {g:List Wr} (hd:gd bl wr lf=true) (hg:g.length<=1048576):Jq bl wr on lf g=some (grB bl.length g):=by
 obtain ⟨hb,-⟩:=JB hd;unfold Jq gX wI;rw [I9 O,hd,AjM,AjS rfl,W8 hg,AjM];by_cases hl:1<=g.length/\g.length<=30
 .cases hi:(List.range g.length).all (gI g)with
  | false=>
   rw [Alc];have:grB bl.length g=false:=by
    rw [Bool.eq_false_iff];intro h;simp only [grB,AjT,decide_eq_true_eq]at h;have h3:=all_range.1 h.2;have:(List.range g.length).all (gI g)=true:=all_range.2 λi hi=>by
     have:=h3 i hi;simp only [gG,AjT,decide_eq_true_eq]at this;simp only [gI,AjT,decide_eq_true_eq];exact⟨O,this.2.2,this.2.1⟩
    rw [hi]at this;cases this
   rw [this];rfl
  | true=>
   have h3:=all_range.1 hi;have h4:∀i,i < g.length->(0<=(gw g i).1/\(gw g i).1 < 160/\¬ (1 < (gw g i).1/\(gw g i).1 < 33))/\(i=0\/(gw g (i - 1)).1 < (gw g i).1)/\(gw g i).2.length=128:=λi hi=>by
    have:=h3 i hi;simp only [gI,AjT,Ak2,decide_eq_true_eq]at this;exact⟨this.1,this.2.1,this.2.2⟩
   rw [Aj3,decide_eq_true hl,AjS rfl,im1 O O,iy O,AjO,E2 O,AjM];unfold N3 wI;rw [AH,w64 O O];have up:∀d i,i+d < g.length->(gw g i).1<=(gw g (i+d)).1:=by
    intro d
    induction d with
    | zero=>intro i _;exact AkZ _
    | succ d ih=>
     intro i h;have h5:=ih i O;have h6:=(h4 (i+(d+1)) h).2.1;rw [(O:i+(d+1) - 1=i+d)]at h6;rcases h6 with h6 | h6
     .omega
     .omega
   have e:grB bl.length g=decide (0<=(gw g (g.length - 1)).1/\(gw g (g.length - 1)).1<=(bl.length:Int) - 1):=by
    unfold grB;rw [decide_eq_true hl,Aj3];have h0:=h4 (g.length - 1) O;by_cases hlast:(gw g (g.length - 1)).1<=(bl.length:Int) - 1
    .rw [decide_eq_true (show 0<=(gw g (g.length - 1)).1/\(gw g (g.length - 1)).1<=(bl.length:Int) - 1 from⟨h0.1.1,hlast⟩)];refine all_range.2 λi hi=>?_
     have h5:=h4 i hi;have h6:=up (g.length - 1 - i) i O;rw [(O:i+(g.length - 1 - i)=g.length - 1)]at h6;simp only [gG,AjT,Ak2,decide_eq_true_eq];exact⟨O,h5.2.2,h5.2.1⟩
    .rw [decide_eq_false (λh=>hlast h.2),Bool.eq_false_iff];intro h;have:=all_range.1 h (g.length - 1) O;simp only [gG,AjT,decide_eq_true_eq]at this;omega
   rw [e];rfl
 .have:grB bl.length g=false:=by unfold grB;rw [decide_eq_false hl,Alc]
  rw [this,decide_eq_false hl,AlY];rfl
def wGr (bl:Bls):List Wr:=(List.range (gb (blk bl 2) 4).toNat).map λk=>(num (blk bl 2) (5+2 * k),blk bl (3+k))
theorem Z0 (bl:Bls):(wGr bl).length=(gb (blk bl 2) 4).toNat:=by simp [wGr]
theorem AcJ {bl:Bls} (hu:∀c∈bl,U8s c):∀w∈wGr bl,U8s w.2:=λw hw=>by
 simp only [wGr,Aj9]at hw;obtain ⟨k,_,rfl⟩:=hw;intro v hv;by_cases h:3+k < bl.length
 .exact hu _ (BA h) v hv
 .simp only [blk]at hv;rw [Aka O]at hv;simp at hv
def wts (bl:Bls):List Wr:=if(decide (1<=gb (blk bl 2) 4/\gb (blk bl 2) 4<=30) && (grB bl.length (wGr bl) && (Np (wGr bl) == blk bl 2)))=true then wGr bl else []
theorem Nw {α:Type} (f:Nat->α) (k:Nat):(List.range (k+1)).map f=(List.range k).map f++[f k]:=by rw [Alu,Akv];rfl
theorem Gn {bl:Bls} {wr lf:Int} (on:Bool) (hd:gd bl wr lf=true) (hu:∀c∈bl,U8s c):Jv bl wr on lf=some (wts bl):=by
 obtain ⟨hb,hk⟩:=JB hd;have u2:=hu _ (BA (O:2 < bl.length));have l2:=hk _ (BA (O:2 < bl.length));have h4:=DH u2 4;unfold Jv wts gX;rw [show bl[Int.toNat 2]?=some (blk bl 2) from Bp O,AjM,show(blk bl 2)[Int.toNat 4]?=some (gb (blk bl 2) 4) from Ai O,AjM,Ca,w64 O O,AjM];by_cases hn:1<=gb (blk bl 2) 4/\gb (blk bl 2) 4<=30
 .rw [decide_eq_true hn];obtain ⟨n,hn'⟩:=Akg h4.1;have hwl:=Z0 bl;rw [hn',AjO]at hwl;have h:=An EJ (λk=>(blk bl 2,(n:Int),(List.range k).map (λk=>(num (blk bl 2) (5+2 * k),blk bl (3+k))),((k:Nat):Int),bl,wr,on,lf)) n (blk bl 2,wGr bl,bl,wr,on,lf) (λk hk'=>by
   have e1:IntKind.wrap .i64 (5+(IntKind.wrap .i64 (2 * ((k:Nat):Int))))=((5+2 * k:Nat):Int):=by rw [w64 (n:=2 * ((k:Nat):Int)) O O,w64 O O];omega
   have e2:IntKind.wrap .i64 (6+(IntKind.wrap .i64 (2 * ((k:Nat):Int))))=((5+2 * k+1:Nat):Int):=by rw [w64 (n:=2 * ((k:Nat):Int)) O O,w64 O O];omega
   have e3:IntKind.wrap .i64 (3+((k:Nat):Int))=((3+k:Nat):Int):=by rw [w64 O O];omega
   have l3:=hk _ (BA (O:3+k < bl.length));have q1:=DH u2 (5+2 * k);have q2:=DH u2 (5+2 * k+1);unfold EJ cK gX wI;dsimp only;rw [iy O,e1,e2,e3,iy O,AjO,Ai O,AjM,iy O,AjO,Ai O,AjM,iy O,AjO,Bp O,AjM,
    AjS (by simp only [Aa,decide_eq_true_eq,Akl];omega),AjS (by simp only [Aa,decide_eq_true_eq,Akj,List.length_range,AjZ];omega),Ak O,SD q1 q2,Nw]
   rfl) (by
   unfold EJ cK gX wI;dsimp only;rw [ino O];unfold wGr;rw [hn',AjO])
  rw [hn',show Ab EJ (blk bl 2,(n:Int),[],0,bl,wr,on,lf)=_ from h];simp only [AkF,Aj4,Aku,AjM,Aj3];rw [Abu O O,AjM];cases hg:grB bl.length (wGr bl)with
  | false=>rfl
  | true=>
   obtain ⟨g1,g2,g3⟩:=AcL O hg (AcJ hu);rw [YV g1 O g3];simp only [AkF,Aj4,Aku,AjM,Aj3];rw [QR (Agi g3) u2];cases (Np (wGr bl) == blk bl 2) <;> rfl
 .rw [decide_eq_false hn];rfl
theorem K6 {bl:Bls} {wr lf:Int} (on:Bool) (hd:gd bl wr lf=true) (hu:∀c∈bl,U8s c):GW bl wr on lf=some (wts bl):=by
 obtain ⟨hb,hk⟩:=JB hd;have u2:=hu _ (BA (O:2 < bl.length));have l2:=hk _ (BA (O:2 < bl.length));have h4:=DH u2 4;unfold GW wts gX;rw [show bl[Int.toNat 2]?=some (blk bl 2) from Bp O,AjM,show(blk bl 2)[Int.toNat 4]?=some (gb (blk bl 2) 4) from Ai O,AjM,AH,w64 O O,AjM];by_cases hn:1<=gb (blk bl 2) 4/\gb (blk bl 2) 4<=30
 .rw [decide_eq_true hn];obtain ⟨n,hn'⟩:=Akg h4.1;have hwl:=Z0 bl;rw [hn',AjO]at hwl;have h:=An DE (λk=>(blk bl 2,(List.range k).map (λk=>(num (blk bl 2) (5+2 * k),blk bl (3+k))),(n:Int),((k:Nat):Int),bl,wr,on,lf)) n (blk bl 2,wGr bl,bl,wr,on,lf) (λk hk'=>by
   have e1:IntKind.wrap .i64 (5+(IntKind.wrap .i64 (2 * ((k:Nat):Int))))=((5+2 * k:Nat):Int):=by rw [w64 (n:=2 * ((k:Nat):Int)) O O,w64 O O];omega
   have e3:IntKind.wrap .i64 (3+((k:Nat):Int))=((3+k:Nat):Int):=by rw [w64 O O];omega
   unfold DE cK gX wI;dsimp only;rw [iy O,e1,e3,FV u2 O O,AjM,iy O,AjO,Bp O,AjM,
    AjS (by simp only [Aa,decide_eq_true_eq,Akj,List.length_range,AjZ];omega),Ak O,Nw]) (by
   unfold DE cK gX wI;dsimp only;rw [ino O];unfold wGr;rw [hn',AjO])
  rw [hn',show Ab DE (blk bl 2,[],(n:Int),0,bl,wr,on,lf)=_ from h];simp only [AkF,Aj4,Aku,AjM,Aj3];rw [SY on hd O,AjM];cases hg:grB bl.length (wGr bl)with
  | false=>rfl
  | true=>
   obtain ⟨g1,g2,g3⟩:=AcL O hg (AcJ hu);rw [YD g1 O g3];simp only [AkF,Aj4,Aku,AjM,Aj3];rw [UZ (by rw [Ady g3];omega),AjM];cases (Np (wGr bl) == blk bl 2) <;> rfl
 .rw [decide_eq_false hn];rfl
end Go.V.G
set_option maxRecDepth 100000
namespace Go.V.G
open Go.V
def Ml (f h e r t:Int):Bool:=decide ((0<=f/\f<=h)/\h<=60) && (decide (1<=e/\e<=30) && (decide (33<=r/\r<=159) && decide (33<=t/\t<=159)))
theorem ZD {f h e r t:Int} (g:Ml f h e r t=true):∃(m n:Nat),r=(m:Int)/\t=(n:Int)/\SupOk f h e m n:=by
 simp only [Ml,AjT,decide_eq_true_eq]at g;obtain ⟨g1,g2,g3,g4⟩:=g;obtain ⟨m,hm⟩:=Akg (O:0<=r);obtain ⟨n,hn⟩:=Akg (O:0<=t);exact⟨m,n,hm,hn,⟨g1.1,g1.2,g2,O,O⟩⟩
theorem Yh (f h e r t:Int):L7 f h e r t=some (Ml f h e r t):=by
 unfold L7 OI Ml;simp only [Ca,AjM];by_cases h1:0<=f/\f<=h <;> by_cases h2:h<=60 <;> by_cases h3:1<=e/\e<=30 <;> by_cases h4:33<=r/\r<=159 <;> simp [h1,h2,h3,h4]
theorem YW (f h:Int):Ht f h=some (decide ((0<=f/\f<=h)/\h<=60)):=by
 unfold Ht;by_cases h1:0<=f <;> by_cases h2:f<=h <;> simp [h1,h2]
theorem Aek {f h e r t:Int} (g:Ml f h e r t=false):EQ f h e r t=some ([],false):=by
 unfold EQ JL cK;unfold Ml at g;simp only [YW,AH,AjM];by_cases h1:(0<=f/\f<=h)/\h<=60
 .rw [decide_eq_true h1]at g ⊢;by_cases h3:1<=e/\e<=30
  .rw [decide_eq_true h3]at g ⊢;by_cases h4:33<=r/\r<=159
   .rw [decide_eq_true h4]at g ⊢;simp only [Aj3]at g;rw [g];rfl
   .rw [decide_eq_false h4];rfl
  .rw [decide_eq_false h3];rfl
 .rw [decide_eq_false h1];rfl
abbrev Sup:=Int×(Int×(Int×(Int×Int)))
def TF (c:List Int):Bool:=decide (c.length=128) && (Ml (gb c 4) (gb c 5) (gb c 6) (num c 8) (num c 10) && (Nk (gb c 4) (gb c 5) (gb c 6) (num c 8) (num c 10) == c))
def MA (c:List Int):Bool×Sup:=if TF c=true then(true,gb c 4,gb c 5,gb c 6,num c 8,num c 10)else(false,0,0,0,0,0)
theorem IA {c:List Int} (hu:U8s c):LY c=some (MA c):=by
 unfold LY MA TF gX wI;by_cases hl:c.length=128
 .have u:=DH hu;rw [ino O,iy O,show c[Int.toNat 4]?=some (gb c 4) from Ai O,AjM,iy O,show c[Int.toNat 5]?=some (gb c 5) from Ai O,AjM,iy O,show c[Int.toNat 6]?=some (gb c 6) from Ai O,AjM,
   iy O,show c[Int.toNat 8]?=some (gb c 8) from Ai O,AjM,iy O,show c[Int.toNat 9]?=some (gb c 9) from Ai O,AjM,iy O,show c[Int.toNat 10]?=some (gb c 10) from Ai O,AjM,iy O,show c[Int.toNat 11]?=some (gb c 11) from Ai O,AjM,
   SD (u 8) (u 9),SD (u 10) (u 11),w64 (n:=gb c 4) (by have:=u 4;omega) (by have:=u 4;omega),w64 (n:=gb c 5) (by have:=u 5;omega) (by have:=u 5;omega),w64 (n:=gb c 6) (by have:=u 6;omega) (by have:=u 6;omega),Yh,AjM,decide_eq_true hl,Aj3,
   show gb c 8 * 256+gb c 9=num c 8 from rfl,show gb c 10 * 256+gb c 11=num c 10 from rfl]
  cases hg:Ml (gb c 4) (gb c 5) (gb c 6) (num c 8) (num c 10)with
  | false=>rfl
  | true=>
   obtain ⟨m,n,hm,hn,hs⟩:=ZD hg;rw [hm,hn,Abi hs];simp only [AkF,Aj4,Aku,AjM,Aj3];rw [QR (AgC hs) hu];cases (Nk (gb c 4) (gb c 5) (gb c 6) (m:Int) (n:Int) == c) <;> rfl
 .rw [iy O,decide_eq_false hl];rfl
theorem PM {c:List Int} (hu:U8s c):LW c=some (MA c):=by
 unfold LW MA TF gX;by_cases hl:c.length=128
 .have u:=DH hu;rw [ino O,iy O,show c[Int.toNat 4]?=some (gb c 4) from Ai O,AjM,iy O,show c[Int.toNat 5]?=some (gb c 5) from Ai O,AjM,iy O,show c[Int.toNat 6]?=some (gb c 6) from Ai O,AjM,
   show Cw c 8=some (num c 8) from FV (i:=8) hu O O,AjM,show Cw c 10=some (num c 10) from FV (i:=10) hu O O,AjM,
   w64 (n:=gb c 4) (by have:=u 4;omega) (by have:=u 4;omega),w64 (n:=gb c 5) (by have:=u 5;omega) (by have:=u 5;omega),w64 (n:=gb c 6) (by have:=u 6;omega) (by have:=u 6;omega),decide_eq_true hl,Aj3]
  cases hg:Ml (gb c 4) (gb c 5) (gb c 6) (num c 8) (num c 10)with
  | false=>rw [Aek hg];rfl
  | true=>
   obtain ⟨m,n,hm,hn,hs⟩:=ZD hg;rw [hm,hn,Abr hs];simp only [AkF,Aj4,Aku,AjM,Aj3];rw [UZ (by rw [AeH];omega),AjM];cases (Nk (gb c 4) (gb c 5) (gb c 6) (m:Int) (n:Int) == c) <;> rfl
 .rw [iy O,decide_eq_false hl];rfl
def opB (bl:Bls):List Int:=(blk bl 1).take 20
def opG (bl:Bls):Bool:=gsp bl (opB bl) [] [] && rz (blk bl 1) 20
def opD (bl:Bls):Bool×(Bls×List Int):=if opG bl=true then(true,bl,opB bl)else(false,[],[])
theorem RQ {bl:Bls} (h1:bl.length<=160) (h2:40<=bl.length):SB bl (opB bl) [] []:=by
 exact⟨O,Z,Z⟩
theorem S9 {bl:Bls} {wr lf:Int} (on:Bool) (hd:gd bl wr lf=true) (hu:∀c∈bl,U8s c):Jy bl wr on lf=some (opD bl):=by
 obtain ⟨hb,hk⟩:=JB hd;have l1:=hk _ (BA (O:1 < bl.length));unfold Jy opD opG gX sX;rw [I9 O,hd,AjM,AjR Z,iy O,show bl[Int.toNat 1]?=some (blk bl 1) from Bp O,AjM,Vu (Afj O hk),AjM,iy O,iy O,iy O,iy O,
  show(List.drop (Int.toNat 0) (blk bl 1)).take (Int.toNat 20 - Int.toNat 0)=opB bl from rfl,Uj (by unfold opB;rw [AjW];omega),AjM,Tf (RQ O O),AjM]
 cases hg:gsp bl (opB bl) [] []with
 | false=>rfl
 | true=>
  simp only [AkF,Aj4,Aku,AjM,Aj3];rw [iy O,iy O,iy O,iy O];have hcf:∀{l:List Int},l.length<=1048576->A9 l=some (l.any λv=>decide (¬ v=0)):=λ{l} hl=>by
   unfold A9 BP;obtain ⟨r,hr,h⟩:=IX A8 (λv=>decide (¬ v=0)) l (λk hk=>by
    unfold A8 JW gX wI;dsimp only;rw [iy O,iy O,AjO,Ai hk,AjM,AjM,Ak O];by_cases hz:gb l k=0 <;> simp [hz]) (by
    unfold A8 gX wI;dsimp only;rw [ino O])
   rw [hr,AjM];rcases h with⟨rfl,h⟩ | ⟨k,rfl,h⟩
   .rw [h];rfl
   .rw [h];dsimp only;rw [AjM,decide_eq_true O]
  rw [AjO,show Int.toNat 20=20 from rfl,AkA (show(List.drop 20 (blk bl 1)).length<=(blk bl 1).length - 20 by rw [Akf];omega),hcf (by rw [Akf];omega),AjM,M8];cases rz (blk bl 1) 20 <;> rfl
theorem GQ {bl:Bls} {wr lf:Int} (on:Bool) (hd:gd bl wr lf=true) (hu:∀c∈bl,U8s c):Js bl wr on lf=some (opD bl):=by
 obtain ⟨hb,hk⟩:=JB hd;have l1:=hk _ (BA (O:1 < bl.length));have e1:bl[0+Int.toNat 1]?=some (blk bl 1):=Bp O;unfold Js opD opG cK cZ sX;rw [HZ O,hd,AjM,AjR Z,Ah2 (Afj O hk),AjM];dsimp only;rw [iy O,iy O,e1,AjM,AjM,iy O,iy O,iy O,iy O,AjM,
  AjS (by simp only [Aa,decide_eq_true_eq,AjW,Akl];omega),iy O,iy O,AjM,AjM,iy O,iy O,iy O,iy O,AjM,
  Akm,show((blk bl 1).drop (Int.toNat 0)).take (Int.toNat 20 - Int.toNat 0)=opB bl from rfl,AjO,show Int.toNat 20=20 from rfl,AkA (show(List.drop 20 (blk bl 1)).length<=(blk bl 1).length - 20 by rw [Akf];omega)]
 have hdl:(List.drop 20 (blk bl 1)).length=108:=by rw [Akf,l1]
 have h:=QZ EK (λk=>(bl,((0+Int.toNat 1:Nat):Int),((20:Nat):Int),(((blk bl 1).length - 20:Nat):Int),(((List.drop 20 (blk bl 1)).length:Nat):Int),((k:Nat):Int),opB bl)) (List.drop 20 (blk bl 1)) (λv=>decide (¬ v=0)) false (bl,opB bl) (λk hk'=>by
  have e3:(blk bl 1)[20+k]?=some (gb (List.drop 20 (blk bl 1)) k):=by
   have:=Ai hk';rw [Akt]at this;exact this
  unfold EK cK cZ wI;dsimp only;rw [iy O,iy O,show Int.toNat ((0+Int.toNat 1:Nat):Int)=0+Int.toNat 1 from rfl,e1,AjM,iy (by rw [AjW,show Int.toNat ((20:Nat):Int)=20 from rfl,AjO];omega),AjM,show Int.toNat ((20:Nat):Int)=20 from rfl,AjO k,e3,AjM,Ak O];by_cases hz:gb (List.drop 20 (blk bl 1)) k=0 <;> simp [hz]) (by
  unfold EK cK cZ wI;dsimp only;rw [ino O])
 rw [show Ab EK (bl,((0+Int.toNat 1:Nat):Int),((20:Nat):Int),(((blk bl 1).length - 20:Nat):Int),(((List.drop 20 (blk bl 1)).length:Nat):Int),0,opB bl)=_ from h,M8];cases hz:rz (blk bl 1) 20 with
 | false=>simp
 | true=>
  simp only [AkF,Aj4,Aku,AjM,Alm];rw [MY (RQ O O),AjM];cases gsp bl (opB bl) [] [] <;> rfl
end Go.V.G
set_option maxRecDepth 100000
namespace Go.V.G
open Go.V
def rcC (b:Bls) (x y:List Int) (a:Int) (ch:List Int):Bool:=
 liv b x y a && (!decide (a∈ch) && (!decide (ch.length=9) && (decide (gb (blk b a.toNat) 0=82) && (!decide (124 < gb (blk b a.toNat) 3) && ((decide (num (blk b a.toNat) 1=0) || !decide (gb (blk b a.toNat) 3 < 124)) &&
  ((!decide (gb (blk b a.toNat) 3=0) || decide (ch.length=0)) && rz (blk b a.toNat) (4+(gb (blk b a.toNat) 3).toNat)))))))
def rcO (b:Bls) (a:Int):List Int:=((blk b a.toNat).drop 4).take (gb (blk b a.toNat) 3).toNat
def rcN (b:Bls) (x y:List Int):Nat->Int->List Int->List Int->Option (List Int×List Int)
 | 0,_,_,_=>none
 | f+1,a,d,ch=>if rcC b x y a ch=true then(if num (blk b a.toNat) 1=0 then some (d++rcO b a,ch++[a])else rcN b x y f (num (blk b a.toNat) 1) (d++rcO b a) (ch++[a]))else none
def rcd (b:Bls) (x y:List Int) (a:Int):Option (List Int×List Int):=rcN b x y 10 a [] []
def rcA (o:Option (List Int×List Int)):List Int×(List Int×Bool):=match o with
 | some p=>(p.1,p.2,true)
 | none=>([],[],false)
theorem ZH {b:Bls} {x y z:List Int} (g:RS b x y) {a:Int} (ch:List Int) (hl:liv b x y a=true):∃m n:Nat,a=(m:Int)/\(33<=m/\m < b.length)/\gb (blk b m) 3=(n:Int)/\n<=255:=by
 obtain ⟨m,rfl,h1,h2,_⟩:=Cn hl;have:=g.u8 h2 3;obtain ⟨n,hn⟩:=Akg this.1;exact⟨m,n,rfl,⟨h1,h2⟩,hn,O⟩
theorem AbS {b:Bls} {x y z:List Int} (g:RS b x y) (a:Int) {d ch:List Int} (hd:d.length<=10000) (hc:ch.length<=9) :
  EG ((b,x,y,z),a,d,ch)=some (if rcC b x y a ch=true then(if num (blk b a.toNat) 1=0 then .inr (d++rcO b a,ch++[a],true)else .inl ((b,x,y,z),num (blk b a.toNat) 1,d++rcO b a,ch++[a]))else .inr ([],[],false)):=by
 unfold EG cK gX sX wI;dsimp only;rw [Kc g,AjM];cases hl:liv b x y a with
 | false=>unfold rcC;rw [hl];rfl
 | true=>
  obtain ⟨m,n,rfl,hm,hn,hn2⟩:=ZH (z:=z) g ch hl;have hlen:=g.len hm.2;have hu:=g.hu _ (BA hm.2);have hb:=Bp hm.2;unfold rcC rcO;rw [hl,AjO];rw [FX O,AjM];by_cases hin:(m:Int)∈ch
  .rw [decide_eq_true hin];rfl
  .rw [decide_eq_false hin];by_cases h9:ch.length=9
   .rw [decide_eq_true (show(ch.length:Int)=9 by omega),decide_eq_true h9];rfl
   .rw [decide_eq_false (O:¬ (ch.length:Int)=9),decide_eq_false h9];have hnum:=FV hu (i:=1) O O;have hnum':Cw (blk b m) 1=some (num (blk b m) 1):=hnum;have g3:(blk b m)[Int.toNat 3]?=some (n:Int):=by rw [<- hn];exact Ai O
    have g0:(blk b m)[Int.toNat 0]?=some (gb (blk b m) 0):=Ai O;have w5:IntKind.wrap .i64 (n:Int)=(n:Int):=w64 O O;have w4:IntKind.wrap .i64 (4+(n:Int))=((4+n:Nat):Int):=by rw [w64 O O];omega
    rw [hn];simp only [AjM,AkF,Aj4,Aku,Aj3,AlH];rw [iy (show(0:Int)<=(m:Int) by omega),AjO,hb,AjM,hnum',AjM,iy O,g3,AjM,iy O,g0,AjM,w5,w4,AjO,AjO];by_cases h82:gb (blk b m) 0=82
    .rw [ino (by simp [h82]),decide_eq_true h82];by_cases h124:(124:Int) < (n:Int)
     .rw [iy h124,decide_eq_true h124];rfl
     .rw [ino h124,decide_eq_false h124];have htk:List.take (128 - (4+n)) (List.drop (4+n) (blk b m))=(blk b m).drop (4+n):=AkA (by rw [Akf];omega);have hcf:=AbB (l:=(blk b m).drop (4+n)) (by rw [Akf];omega);rw [M8]at hcf;have hsub:4+n - Int.toNat 4=n:=by rw [show Int.toNat 4=4 from rfl];omega
      have ht:(List.drop (Int.toNat 4) (blk b m)).take (4+n - Int.toNat 4)=((blk b m).drop 4).take n:=by rw [hsub];rfl
      have htl:(((blk b m).drop 4).take n).length=n:=by rw [AjW,Akf];omega
      have hroom:Aa (d.length+(((blk b m).drop 4).take n).length) 1=true:=by rw [htl];simp only [Aa,decide_eq_true_eq];omega
      have hroom2:Aa (ch.length+([(m:Int)]:List Int).length) 8=true:=by simp only [Aa,decide_eq_true_eq,AjZ];omega
      have hlc:(((blk b m).length:Nat):Int)=128:=O
      rw [hlen];have j1:(0:Int)<=((4+n:Nat):Int):=O
      have j2:((4+n:Nat):Int)<=((128:Nat):Int):=O
      have j3:((128:Nat):Int)<=((128:Nat):Int):=O
      have j4:(0:Int)<=4:=O
      have j5:(4:Int)<=((4+n:Nat):Int):=O
      have k1:((n:Int) < 124)↔n < 124:=O
      have k2:((n:Int)=0)↔n=0:=O
      have k3:((ch.length:Int)=0)↔ch.length=0:=O
      simp only [iy j1,iy j2,iy j3,iy j4,iy j5,AjO,htk,hcf,AjM,ht,hroom,hroom2,Akh,k1,k2,k3,decide_eq_true h82];have hz3:∀w:Bool,decide (n=0)=w\/decide (n=0) = !w:=by intro w;cases w <;> cases decide (n=0) <;> simp
      rcases hz3 true with hz | hz <;> rcases AlX (decide (ch.length=0))with hch | hch <;> rcases AlX (decide (n < 124))with hq | hq <;> cases hr:rz (blk b m) (4+n) <;> by_cases h0:num (blk b m) 1=0 <;>
       (first
        | (exfalso;simp only [decide_eq_true_eq,decide_eq_false_iff_not,AkF]at hz hq;omega)
        | simp only [h0,hz,hch,hq,hr,w4,iy j1,iy j2,iy j3,iy j4,iy j5,hlen,AjO,AjM,ht,hroom,hroom2,Akh,Aku,AkF,AlH,Aj3,Alc,Alm,AlY,Al8,Bool.or_false,Bool.true_or,Ak3,decide_true,decide_false,not_true_eq_false,not_false_eq_true,Aj4])
    .rw [iy h82,decide_eq_false h82];rfl
theorem Ada {b:Bls} {x y z:List Int} (h:SB b x y z) (g:RS b x y) {a:Int} (ha:¬ a=0) {d ch:List Int} (hd:d.length<=10000) (hc:ch.length<=9) :
  Dy (a,d,ch,b,x,y,z)=some (if rcC b x y a ch=true then .inl (num (blk b a.toNat) 1,d++rcO b a,ch++[a],b,x,y,z)else .inr (.inr false)):=by
 unfold Dy cK gX sX wI;dsimp only;rw [iy ha,LD g,AjM];cases hl:liv b x y a with
 | false=>unfold rcC;rw [hl];rfl
 | true=>
  obtain ⟨m,n,rfl,hm,hn,hn2⟩:=ZH (z:=z) g ch hl;have hlen:=g.len hm.2;have hu:=g.hu _ (BA hm.2);have hb:=Bp hm.2;unfold rcC rcO;rw [hl,AjO];rw [Gp O,AjM];by_cases hin:(m:Int)∈ch
  .rw [decide_eq_true hin];rfl
  .rw [decide_eq_false hin];by_cases h9:ch.length=9
   .rw [decide_eq_true (show(ch.length:Int)=9 by omega),decide_eq_true h9];rfl
   .rw [decide_eq_false (O:¬ (ch.length:Int)=9),decide_eq_false h9];have g3:(blk b m)[Int.toNat 3]?=some (n:Int):=by rw [<- hn];exact Ai O
    have g0:(blk b m)[Int.toNat 0]?=some (gb (blk b m) 0):=Ai O;have g1:(blk b m)[Int.toNat 1]?=some (gb (blk b m) 1):=Ai O;have g2:(blk b m)[Int.toNat 2]?=some (gb (blk b m) 2):=Ai O;have u1:=DH hu 1;have u2:=DH hu 2;have w1:IntKind.wrap .i64 (IntKind.wrap .i64 (IntKind.wrap .i64 (gb (blk b m) 1) * 256)+IntKind.wrap .i64 (gb (blk b m) 2))=num (blk b m) 1:=by
     rw [w64 (n:=gb (blk b m) 1) O O,w64 (n:=gb (blk b m) 1 * 256) O O,w64 (n:=gb (blk b m) 2) O O,w64 O O];rfl
    have w5:IntKind.wrap .i64 (n:Int)=(n:Int):=w64 O O;have w4:IntKind.wrap .i64 (4+(n:Int))=((4+n:Nat):Int):=by rw [w64 O O];omega
    rw [hn];simp only [AjM,AkF,Aj4,Aku,Aj3,AlH];rw [iy (show(0:Int)<=(m:Int) by omega),AjO,hb,AjM,iy O,g1,AjM,iy O,g2,AjM,iy O,g3,AjM,iy O,g0,AjM,w1,w5,w4,AjO];by_cases h82:gb (blk b m) 0=82
    .rw [ino (by simp [h82]),decide_eq_true h82];by_cases h124:(124:Int) < (n:Int)
     .rw [iy h124,decide_eq_true h124];rfl
     .rw [ino h124,decide_eq_false h124];have hcf:=Pz (c:=blk b m) (n:=4+n) O O;have hsub:4+n - Int.toNat 4=n:=by rw [show Int.toNat 4=4 from rfl];omega
      have ht:(List.drop (Int.toNat 4) (blk b m)).take (4+n - Int.toNat 4)=((blk b m).drop 4).take n:=by rw [hsub];rfl
      have htl:(((blk b m).drop 4).take n).length=n:=by rw [AjW,Akf];omega
      have hroom:Aa (d.length+(((blk b m).drop 4).take n).length) 1=true:=by rw [htl];simp only [Aa,decide_eq_true_eq];omega
      have hroom2:Aa (ch.length+([(m:Int)]:List Int).length) 8=true:=by simp only [Aa,decide_eq_true_eq,AjZ];omega
      rw [hcf];have j2:((4+n:Nat):Int)<=((128:Nat):Int):=O
      have j3:((128:Nat):Int)<=((128:Nat):Int):=O
      have j4:(0:Int)<=4:=O
      have j5:(4:Int)<=((4+n:Nat):Int):=O
      have k1:((n:Int)=124)↔¬ n < 124:=O
      have k4:((n:Int) < 124)↔n < 124:=O
      have k2:((n:Int)=0)↔n=0:=O
      have k3:((0:Int) < (ch.length:Int))↔¬ ch.length=0:=O
      simp only [k1,k2,k3,k4,Classical.not_not,decide_not,decide_eq_true h82];rcases AlX (decide (n=0))with hz | hz <;> rcases AlX (decide (ch.length=0))with hch | hch <;> rcases AlX (decide (n < 124))with hq | hq <;> cases hr:rz (blk b m) (4+n) <;> by_cases h0:num (blk b m) 1=0 <;>
       (first
        | (exfalso;simp only [decide_eq_true_eq,decide_eq_false_iff_not,AkF]at hz hq;omega)
        | simp only [h0,hz,hch,hq,hr,w4,iy j2,iy j3,iy j4,iy j5,hlen,AjO,AjM,ht,hroom,hroom2,Akh,Aku,AkF,AlH,Aj3,Alc,Alm,AlY,Al8,Bool.or_false,Bool.true_or,Ak3,decide_true,decide_false,not_true_eq_false,not_false_eq_true,Aj4])
    .rw [iy h82,decide_eq_false h82];rfl
theorem TT {b:Bls} {x y:List Int} {a:Int} {ch:List Int} (h:rcC b x y a ch=true):(rcO b a).length<=124:=by
 unfold rcC at h;simp only [AjT,Aj0,decide_eq_false_iff_not]at h;unfold rcO;rw [AjW];have:=h.2.2.2.2.1;omega
theorem Afg {b:Bls} {x y:List Int} {a:Int} {ch:List Int} (h:rcC b x y a ch=true):¬ a=0:=by
 unfold rcC at h;rw [AjT]at h;obtain ⟨m,rfl,h1,_⟩:=Cn h.1;omega
theorem Z6 {b:Bls} {x y:List Int} {a:Int} {ch:List Int} (h:rcC b x y a ch=true):¬ ch.length=9:=by
 unfold rcC at h;simp only [AjT,Aj0,decide_eq_false_iff_not]at h;exact h.2.2.1
theorem Ux {b:Bls} {x y z:List Int} (g:RS b x y):∀(f:Nat) (a:Int) (d ch:List Int),d.length<=124 * ch.length->ch.length+f=10->ch.length<=9->
  Ab EG ((b,x,y,z),a,d,ch)=some (rcA (rcN b x y f a d ch))
 | 0,a,d,ch,hd,hf,hc=>by omega
 | f+1,a,d,ch,hd,hf,hc=>by
  rw [Ar,AbS g a O hc];unfold rcN;by_cases h:rcC b x y a ch=true
  .rw [AjS h,AjS h];have h9:=Z6 h;have h1:=TT h;by_cases h0:num (blk b a.toNat) 1=0
   .rw [AjS h0,AjS h0];rfl
   .rw [AjR h0,AjR h0];exact Ux g f _ _ _ (by simp only [AjU,AjZ];omega) (by simp only [AjU,AjZ];omega) (by simp only [AjU,AjZ];omega)
  .rw [AjR h,AjR h];rfl
theorem YC {b:Bls} {x y z:List Int} (g:RS b x y) (a:Int):GT (b,x,y,z) a=some (rcA (rcd b x y a)):=by
 unfold GT rcd;rw [Ux (z:=z) g 10 a [] [] Z rfl Z];rfl
theorem UD {b:Bls} {x y z:List Int} (h:SB b x y z) (g:RS b x y):∀(f:Nat) (a:Int) (d ch:List Int),d.length<=124 * ch.length->ch.length+f=10->ch.length<=9->¬ a=0->
  Ab Dy (a,d,ch,b,x,y,z)=some (match rcN b x y f a d ch with | some p=>.inl p | none=>.inr false)
 | 0,a,d,ch,hd,hf,hc,ha=>by omega
 | f+1,a,d,ch,hd,hf,hc,ha=>by
  rw [Ar,Ada h g ha O hc];unfold rcN;by_cases hC:rcC b x y a ch=true
  .rw [AjS hC,AjS hC];have h9:=Z6 hC;have h1:=TT hC;by_cases h0:num (blk b a.toNat) 1=0
   .rw [AjS h0,h0];dsimp only;rw [Ar];unfold Dy cK gX sX wI;dsimp only;rw [ino Z]
   .rw [AjR h0];exact UD h g f _ _ _ (by simp only [AjU,AjZ];omega) (by simp only [AjU,AjZ];omega) (by simp only [AjU,AjZ];omega) h0
  .rw [AjR hC,AjR hC]
theorem Adw {b:Bls} {x y:List Int}:∀(f:Nat) (a:Int) (d ch:List Int) {p:List Int×List Int},rcN b x y f a d ch=some p->ch.length < p.2.length
 | 0,_,_,_,p,h=>by cases h
 | f+1,a,d,ch,p,h=>by
  unfold rcN at h;split at h
  .split at h
   .injection h with h;subst h;simp
   .have:=Adw f _ _ _ h;simp only [AjU,AjZ]at this;omega
  .cases h
theorem YF {b:Bls} {x y z:List Int} (h:SB b x y z) (g:RS b x y) (a:Int):Kh b x y z a=some (rcA (rcd b x y a)):=by
 unfold Kh;by_cases ha:a=0
 .subst ha;rw [Ar];have e1:Dy (0,[],[],b,x,y,z)=some (.inr (.inl ([],[]))):=by
   unfold Dy cK gX sX wI;dsimp only;rw [ino Z]
  rw [e1];have:rcd b x y 0=none:=by
   unfold rcd rcN;rw [AjR (λq=>Afg q rfl)]
  rw [this];rfl
 .rw [UD h g 10 a [] [] Z rfl Z ha];unfold rcd;cases e:rcN b x y 10 a [] []with
  | none=>rfl
  | some p=>
   have:=Adw _ _ _ _ e;simp only [AjM];rw [decide_eq_true (show(0:Int) < (p.2.length:Int) by simp only [Akl]at this;omega)];rfl
end Go.V.G
set_option maxRecDepth 100000
namespace Go.V.G
open Go.V
def vl (b:Bls) (top:List Int) (k:Nat):Int:=gb (lfv b (gb top (k / 32))) (k % 32)
theorem LV {b:Bls} {top:List Int} (ht:top.length=32) (root:Int) {k:Nat} (hk:k < 1024):DW root top (top.map (lfv b)) (k:Int)=some (vl b top k):=by
 obtain ⟨e1,e2⟩:=Ago (n:=(k:Int)) O;obtain ⟨e3,_⟩:=AfM (n:=(k:Int)) O;rw [AjO]at e1 e2 e3;unfold DW cK gX wI;rw [iy O,e1,iy O,AjO,Akr,Ai O,AkJ,AjM,iy O,e3,iy O,AjO,Ai (by rw [ZE];omega),AjM];rfl
def ksT (b:Bls) (top:List Int) (n:Nat):List Kv:=((List.range n).filter λk=>decide (¬ vl b top k=0)).map λk=>(((k:Nat):Int),vl b top k)
theorem Qb (b:Bls) (top:List Int) (n:Nat):(ksT b top n).length<=n:=by
 unfold ksT;rw [Akj];exact Ako (Ak5 _ _) Z
theorem NU (b:Bls) (top:List Int) (n:Nat):ksT b top (n+1)=ksT b top n++(if vl b top n=0 then []else [((n:Int),vl b top n)]):=by
 unfold ksT;rw [Alu,Ali,Akv];by_cases h:vl b top n=0 <;> simp [h]
theorem Abq {b:Bls} {top:List Int} (ht:top.length=32) (root:Int):Ju root top (top.map (lfv b))=some (ksT b top 1024):=by
 unfold Ju;have h:=An EM (λk=>(ksT b top k,((k:Nat):Int),root,top,top.map (lfv b))) 1024 (ksT b top 1024) (λk hk=>by
  have hl:=Qb b top k;unfold EM cK wI;dsimp only;rw [iy O,LV ht root hk,AjM,NU];by_cases hz:vl b top k=0
  .rw [ino (by simp [hz]),AjM,AjS hz,Aj2,Ak O]
  .rw [iy hz,AjS (by simp only [Aa,decide_eq_true_eq,AjZ];omega),AjM,AjR hz,Ak O]) (by
  unfold EM cK wI;dsimp only;rw [ino O])
 rw [show Ab EM ([],0,root,top,top.map (lfv b))=_ from h];rfl
def kL (b:Bls) (top:List Int) (k m:Nat):List Kv:=((List.range m).filter λi=>decide (¬ gb (lfs b (gb top k)) i=0)).map λi=>(((32 * k+i:Nat):Int),gb (lfs b (gb top k)) i)
theorem TG (b:Bls) (top:List Int) (k m:Nat):kL b top k (m+1)=kL b top k m++(if gb (lfs b (gb top k)) m=0 then []else [(((32 * k+m:Nat):Int),gb (lfs b (gb top k)) m)]):=by
 unfold kL;rw [Alu,Ali,Akv];by_cases h:gb (lfs b (gb top k)) m=0 <;> simp [h]
theorem Adv (b:Bls) (top:List Int) (k m:Nat):(kL b top k m).length<=m:=by
 unfold kL;rw [Akj];exact Ako (Ak5 _ _) Z
theorem Aal (b:Bls) (a:Int):(lfs b a).length<=32:=by
 unfold lfs;split
 .simp
 .rw [Fh];exact Akk _
def kS (b:Bls) (top:List Int) (n:Nat):List Kv:=(List.range n).flatMap λk=>kL b top k (lfs b (gb top k)).length
theorem TX (b:Bls) (top:List Int) (n:Nat):kS b top (n+1)=kS b top n++kL b top n (lfs b (gb top n)).length:=by
 unfold kS;rw [Alu,Ak6];simp
theorem Ab2 (b:Bls) (top:List Int):∀n,(kS b top n).length<=32 * n
 | 0=>by simp [kS]
 | n+1=>by
  rw [TX,AjU];have h1:=Ab2 b top n;have h2:=Adv b top n (lfs b (gb top n)).length;have h3:=Aal b (gb top n);omega
theorem AhH {b:Bls} {top:List Int} {k i:Nat} (hi:i < 32):vl b top (32 * k+i)=gb (lfs b (gb top k)) i:=by
 unfold vl;rw [show(32 * k+i) / 32=k by omega,show(32 * k+i) % 32=i by omega];unfold lfv lfs;split
 .unfold gb zer;rw [List.getElem?_replicate_of_lt hi];simp
 .rfl
theorem Uu (b:Bls) (top:List Int) (n:Nat):∀m,m<=32->ksT b top (32 * n+m)=ksT b top (32 * n)++kL b top n m
 | 0,_=>by simp [kL]
 | m+1,h=>by
  rw [(O:32 * n+(m+1)=32 * n+m+1),NU,Uu b top n m O,TG,AjY,AhH O]
theorem AgA (b:Bls) (top:List Int) (k:Nat):kL b top k 32=kL b top k (lfs b (gb top k)).length:=by
 by_cases h:gb top k=0
 .have e:lfs b (gb top k)=[]:=by unfold lfs;rw [AjS h]
  have:∀m,kL b top k m=[]:=by
   intro m
   induction m with
   | zero=>rfl
   | succ m ih=>rw [TG,ih,e];simp [gb]
  rw [this,this]
 .have e:(lfs b (gb top k)).length=32:=by unfold lfs;rw [AjR h,Fh]
  rw [e]
theorem AcX (b:Bls) (top:List Int):∀n,kS b top n=ksT b top (32 * n)
 | 0=>rfl
 | n+1=>by rw [TX,AcX b top n,(O:32 * (n+1)=32 * n+32),Uu b top n 32 O,AgA]
theorem AcO {b:Bls} {x y z top:List Int} {root:Int} (h:SB b x y z) (hg:gsp b x y z=true) (hu:∀c∈b,U8s c) (ht:tre b x y root=some top):Ni b x y z root=some (ksT b top 1024,true):=by
 have hl:=GP ht;have gs:=Qe hg;unfold Ni;rw [HC h hu,hg,ht,AjM];simp only [Option.isSome_some,Bool.and_self,AkF,Aj4,Aku];rw [OT (gs.rs h hu),ht,AjM];dsimp only [trS];have h2:=An Hp (λk=>(kS b top k,top.map (lfs b),((32:Nat):Int),((k:Nat):Int))) 32 (kS b top 32) (λk hk=>by
  have hgk:(top.map (lfs b))[k]?=some (lfs b (gb top k)):=by rw [Akr,Ai O];rfl
  have hll:=Aal b (gb top k);have h1:=An Hq (λi=>(kS b top k++kL b top k i,((k:Nat):Int),top.map (lfs b),((32:Nat):Int),((k:Nat):Int),((0+Int.toNat ((k:Nat):Int):Nat):Int),(((lfs b (gb top k)).length:Nat):Int),((i:Nat):Int))) (lfs b (gb top k)).length (kS b top (k+1),top.map (lfs b),((32:Nat):Int),((k:Nat):Int)) (λi hi=>by
   have hkl:=Adv b top k i;have hks:=Ab2 b top k;have ew:IntKind.wrap .i64 ((IntKind.wrap .i64 (32 * ((k:Nat):Int)))+((i:Nat):Int))=((32 * k+i:Nat):Int):=by rw [w64 (n:=32 * ((k:Nat):Int)) O O,w64 O O];omega
   unfold Hq cK cZ wI;dsimp only;rw [iy O,iy O,AjO,AjO,Ake,hgk,AjM,iy O,AjM,AjO,Ake,Ai hi,AjM,ew,TG];by_cases hz:gb (lfs b (gb top k)) i=0
   .rw [ino (by simp [hz]),AjM,AjS hz,Aj2];dsimp only;rw [Ak O,AjO]
   .rw [iy hz,AjS (by simp only [Aa,decide_eq_true_eq,AjZ,AjU];omega),AjM,AjR hz];dsimp only;rw [Ak O,AjO,AjY]) (by
   unfold Hq cK cZ wI;dsimp only;rw [ino O,TX])
  have e0:kS b top k++kL b top k 0=kS b top k:=by simp [kL]
  rw [e0]at h1;unfold Hp cK cZ wI;dsimp only;rw [iy O,iy O,iy (by rw [Akj];omega),AjO,Ake,hgk,AjM,AjM];rw [show Ab Hq (kS b top k,((k:Nat):Int),top.map (lfs b),((32:Nat):Int),((k:Nat):Int),((k:Nat):Int),(((lfs b (gb top k)).length:Nat):Int),0)=some (kS b top (k+1),top.map (lfs b),((32:Nat):Int),((k:Nat):Int)) by
   rw [AjO,Ake]at h1;exact h1,AjM]
  dsimp only;rw [Ak O]) (by
  unfold Hp cK cZ wI;dsimp only;rw [ino O])
 rw [Akj,hl,show Ab Hp ([],top.map (lfs b),((32:Nat):Int),0)=_ from h2,AjM,AcX]
theorem Aev {l:List Kv} (hl:l.length<=1048576) (key:Int) (a1 a2 a3 a4 a5:Int) (b:Bls) (x y z:List Int) (f:Int) (t:List UInt8) (r:List (Int×Int)) (cs:List (List Prt)) (rc:List Int) :
  DK a1 a2 a3 a4 a5 b x y z l f t r cs rc key=some (((l.find? λp=>decide (p.1=key)).map (·.2)).getD 0):=by
 unfold DK;rcases BN Eb (λi=>(key,l,(l.length:Int),((i:Nat):Int))) (λi=>!decide ((sg l i).1=key)) (λi=>(sg l i).2) () l.length (λi hi=>by
  unfold Eb gX wI;dsimp only;rw [iy O,iy O,AjO,I7 hi,AjM,Ak O];by_cases h:(sg l i).1=key <;> simp [h]) (by
  unfold Eb gX wI;dsimp only;rw [ino O])with⟨ha,h⟩ | ⟨k,hk,hp,ha,h⟩
 .rw [show Ab Eb (key,l,(l.length:Int),0)=_ from h];have:l.find? (λp=>decide (p.1=key))=none:=by
   rw [List.find?_eq_none];intro p hp;obtain ⟨i,hi,rfl⟩:=Akq hp;have h1:=ha i hi;have h2:=I7 hi;rw [AjP hi]at h2;injection h2 with h2
   rw [h2];simpa using h1
  rw [this];rfl
 .rw [show Ab Eb (key,l,(l.length:Int),0)=_ from h];have:l.find? (λp=>decide (p.1=key))=some (sg l k):=by
   rw [List.find?_eq_some_iff_getElem];have h2:=I7 hk;rw [AjP hk]at h2;injection h2 with h2
   refine⟨by simpa using hp,k,hk,h2,λj hj=>?_⟩;have h3:=I7 (O:j < l.length);rw [AjP (O:j < l.length)]at h3;injection h3 with h3
   rw [h3];exact ha j hj
  rw [this];rfl
theorem Yi (b:Bls) (top:List Int) (key:Nat):∀n,((ksT b top n).find? λp=>decide (p.1=(key:Int)))=if key < n/\¬ vl b top key=0 then some ((key:Int),vl b top key)else none
 | 0=>by simp [ksT]
 | n+1=>by
  rw [NU,List.find?_append,Yi b top key n];by_cases hn:key=n
  .subst hn;rw [AjR O];by_cases hz:vl b top key=0
   .rw [AjS hz,AjR (λq=>q.2 hz)];rfl
   .rw [AjR hz,AjS ⟨O,hz⟩];simp
  .have hne:¬ ((n:Nat):Int)=(key:Int):=O
   have e:List.find? (λp:Kv=>decide (p.1=(key:Int))) (if vl b top n=0 then []else [(((n:Nat):Int),vl b top n)])=none:=by
    split
    .rfl
    .rw [List.find?_cons];simp [hne]
   rw [e,Option.or_none];by_cases hk:key < n/\¬ vl b top key=0
   .rw [AjS hk,AjS ⟨O,hk.2⟩]
   .rw [AjR hk,AjR (λq=>hk ⟨O,q.2⟩)]
theorem AgH (b:Bls) (top:List Int) {key:Nat} (hk:key < 1024):(((ksT b top 1024).find? λp=>decide (p.1=(key:Int))).map (·.2)).getD 0=vl b top key:=by
 rw [Yi];by_cases h:vl b top key=0
 .rw [AjR (λq=>q.2 h),h];rfl
 .rw [AjS ⟨hk,h⟩];rfl
end Go.V.G
set_option maxRecDepth 100000
namespace Go.V.G
open Go.V
def skn (f k n:Nat):List (Int×Int):=((List.range n).filter λi=>decide (f<=i * 2 ^ k)).map λi=>((k:Int),((i:Nat):Int))
def stk (f h:Nat):Nat->List (Int×Int)
 | 0=>[]
 | k+1=>stk f h k++skn f k (h / 2 ^ k)
def sts (f h:Nat):List (Int×Int):=stk f h 6
theorem IU (f k n:Nat):skn f k (n+1)=skn f k n++(if f<=n * 2 ^ k then [((k:Int),(n:Int))]else []):=by
 unfold skn;rw [Alu,Ali,Akv];by_cases h:f<=n * 2 ^ k <;> simp [h]
theorem Ti (f k n:Nat):(skn f k n).length<=n:=by
 unfold skn;rw [Akj];exact Ako (Ak5 _ _) Z
theorem PS (f h:Nat):∀k,(stk f h k).length<=k * h
 | 0=>by simp [stk]
 | k+1=>by
  unfold stk;rw [AjU,AlN];have h1:=PS f h k;have h2:=Ti f k (h / 2 ^ k);have h3:=Al6 h (2 ^ k);omega
theorem NC (f k:Nat):∀n,n<=(f+2 ^ k - 1) / 2 ^ k->skn f k n=[]
 | 0,_=>rfl
 | n+1,hn=>by
  rw [IU,NC f k n O,AjR,Aj2];have hp:0 < 2 ^ k:=Alp Z;have:=(Nat.le_div_iff_mul_le hp).1 hn;rw [AlN]at this;omega
theorem AfP {f k n:Nat} (hn:(f+2 ^ k - 1) / 2 ^ k<=n):f<=n * 2 ^ k:=by
 have hp:0 < 2 ^ k:=Alp Z;have:¬ n+1<=(f+2 ^ k - 1) / 2 ^ k:=O
 rw [Nat.le_div_iff_mul_le hp,AlN]at this;omega
theorem P3:∀{k:Nat},k < 6->(2:Int) ^ (min (Int.toNat (k:Int)) (IntKind.bits .i64))=((2 ^ k:Nat):Int)/\2 ^ k<=32/\(2:Int) ^ (min (Int.toNat (IntKind.wrap .u64 (k:Int))) (IntKind.bits .i64))=((2 ^ k:Nat):Int)/\IntKind.wrap .u64 (k:Int)=(k:Int)
 | 0,_=>by decide
 | 1,_=>by decide
 | 2,_=>by decide
 | 3,_=>by decide
 | 4,_=>by decide
 | 5,_=>by decide
 | k+6,h=>by omega
theorem NW {k i:Nat} (hk:k < 6) (hi:i<=1000):IntKind.wrap .i64 ((i:Int) * (2:Int) ^ (min (Int.toNat (k:Int)) (IntKind.bits .i64)))=((i * 2 ^ k:Nat):Int):=by
 obtain ⟨h1,h2,_⟩:=P3 hk;rw [h1,<- Int.natCast_mul];have:i * 2 ^ k<=1000 * 32:=Nat.mul_le_mul hi h2;rw [w64 O O]
theorem lt_dv {h k i:Nat}:(i+1) * 2 ^ k<=h↔i < h / 2 ^ k:=by
 have hp:0 < 2 ^ k:=Alp Z;rw [<- Nat.le_div_iff_mul_le hp];omega
theorem NG {f h:Nat} (hh:h<=60):Kq (f:Int) (h:Int)=some (sts f h):=by
 unfold Kq;have h2:=An IG (λk=>((f:Int),(h:Int),stk f h k,((k:Nat):Int))) 6 (sts f h) (λk hk=>by
  obtain ⟨p1,p2,p3,p4⟩:=P3 hk;have hp:0 < 2 ^ k:=Alp Z;have hdl:=Al6 h (2 ^ k);have hsk:=PS f h k;have hkh:k * h<=6 * 60:=Nat.mul_le_mul O hh;have h1:=An IJ (λi=>((f:Int),(h:Int),stk f h k++skn f k i,((k:Nat):Int),((i:Nat):Int))) (h / 2 ^ k) ((f:Int),(h:Int),stk f h (k+1),((k:Nat):Int)) (λi hi=>by
   have hl:=Ti f k i;have hm:=(lt_dv (h:=h) (k:=k) (i:=i)).2 hi;unfold IJ cK cZ wI;dsimp only;rw [p4,iy O,Ak O,NW hk O,iy O,iy O,NW hk O];by_cases hz:f<=i * 2 ^ k
   .rw [iy O,AjS (by simp only [Aa,decide_eq_true_eq,AjZ,AjU];omega),AjM,IU,AjS hz,AjY];dsimp only;rw [Ak O]
   .rw [ino O,AjM,IU,AjR hz,Aj2];dsimp only;rw [Ak O]) (by
   have hm:¬ (h / 2 ^ k+1) * 2 ^ k<=h:=λq=>Nat.lt_irrefl _ (lt_dv.1 q)
   unfold IJ cK cZ wI;dsimp only;rw [p4,iy O,Ak O,NW hk O,ino O];rfl)
  have e0:stk f h k++skn f k 0=stk f h k:=by simp [skn]
  rw [e0]at h1;unfold IG wI;dsimp only;rw [iy O,show Ab IJ ((f:Int),(h:Int),stk f h k,((k:Nat):Int),0)=_ from h1,AjM];dsimp only;rw [Ak O]) (by
  unfold IG wI;dsimp only;rw [ino O];rfl)
 rw [show Ab IG ((f:Int),(h:Int),[],0)=_ from h2];rfl
theorem S6 {f h:Nat} (hf:f<=h) (hh:h<=60):Jn (f:Int) (h:Int)=some (sts f h):=by
 unfold Jn;have h2:=An EY (λk=>((f:Int),(h:Int),stk f h k,((k:Nat):Int))) 6 (sts f h) (λk hk=>by
  obtain ⟨p1,p2,p3,p4⟩:=P3 hk;have hp:0 < 2 ^ k:=Alp Z;have hdl:=Al6 h (2 ^ k);have hsk:=PS f h k;have hkh:k * h<=6 * 60:=Nat.mul_le_mul O hh;have he0:(f+2 ^ k - 1) / 2 ^ k<=f+2 ^ k - 1:=Al6 _ _;have h1:=An GL (λj=>((f:Int),(h:Int),stk f h k++skn f k ((f+2 ^ k - 1) / 2 ^ k+j),((k:Nat):Int),(((f+2 ^ k - 1) / 2 ^ k+j:Nat):Int),((k:Nat):Int))) (h / 2 ^ k - (f+2 ^ k - 1) / 2 ^ k) ((f:Int),(h:Int),stk f h (k+1),((k:Nat):Int)) (λj hj=>by
   have hl:=Ti f k ((f+2 ^ k - 1) / 2 ^ k+j);have hm:=(lt_dv (h:=h) (k:=k) (i:=(f+2 ^ k - 1) / 2 ^ k+j)).2 O;unfold GL cK cZ wI;dsimp only;rw [iy O,Ak O,NW hk O,iy O,AjS (by simp only [Aa,decide_eq_true_eq,AjZ,AjU];omega),<- Ak4,IU,AjS (AfP O),AjY]) (by
   have hm:¬ ((f+2 ^ k - 1) / 2 ^ k+(h / 2 ^ k - (f+2 ^ k - 1) / 2 ^ k)+1) * 2 ^ k<=h:=λq=>by have:=lt_dv.1 q;omega
   have es:skn f k ((f+2 ^ k - 1) / 2 ^ k+(h / 2 ^ k - (f+2 ^ k - 1) / 2 ^ k))=skn f k (h / 2 ^ k):=by
    by_cases hq:(f+2 ^ k - 1) / 2 ^ k<=h / 2 ^ k
    .rw [show(f+2 ^ k - 1) / 2 ^ k+(h / 2 ^ k - (f+2 ^ k - 1) / 2 ^ k)=h / 2 ^ k by omega]
    .rw [NC f k _ O,NC f k _ O]
   unfold GL cK cZ wI;dsimp only;rw [iy O,Ak O,NW hk O,ino O,es];rfl)
  rw [Alf,NC f k _ (Akk _),Aj2]at h1;have e1:IntKind.wrap .i64 (1 * ((2 ^ k:Nat):Int))=((2 ^ k:Nat):Int):=by rw [Int.one_mul,w64 O O]
  have e2:IntKind.wrap .i64 ((f:Int)+((2 ^ k:Nat):Int))=((f+2 ^ k:Nat):Int):=by rw [w64 O O];omega
  have e3:IntKind.wrap .i64 (((f+2 ^ k:Nat):Int) - 1)=((f+2 ^ k - 1:Nat):Int):=by rw [w64 O O];omega
  unfold EY cZ wI;dsimp only;rw [iy O,iy O,iy O,p1,e1,e2,e3,AlR _ O,<- Int.natCast_ediv,h1,AjM];dsimp only;rw [Ak O]) (by
  unfold EY cZ wI;dsimp only;rw [ino O];rfl)
 rw [show Ab EY ((f:Int),(h:Int),[],0)=_ from h2];rfl
def ky (s:Int×Int):Nat:=64 * s.1.toNat+s.2.toNat
structure St8 (f h:Nat) (s:Int×Int) (k i:Nat):Prop where
 e:s=((k:Int),(i:Int))
 hk:k < 6
 lo:f<=i * 2 ^ k
 hi:(i+1) * 2 ^ k<=h
theorem skn_mem {f k n:Nat} {s:Int×Int}:s∈skn f k n↔∃i,i < n/\f<=i * 2 ^ k/\s=((k:Int),((i:Nat):Int)):=by
 unfold skn;simp only [Aj9,AlC,Als,decide_eq_true_eq];constructor
 .rintro ⟨i,⟨h1,h2⟩,rfl⟩;exact⟨i,h1,h2,rfl⟩
 .rintro ⟨i,h1,h2,rfl⟩;exact⟨i,⟨h1,h2⟩,rfl⟩
theorem Zz {f h:Nat} {s:Int×Int}:∀{n:Nat},s∈stk f h n↔∃k i,k < n/\i < h / 2 ^ k/\f<=i * 2 ^ k/\s=(((k:Nat):Int),((i:Nat):Int))
 | 0=>by simp [stk]
 | n+1=>by
  unfold stk;rw [AjV,Zz,skn_mem];constructor
  .rintro (⟨k,i,h1,h2⟩ | ⟨i,h1,h2⟩)
   .exact⟨k,i,O,h2⟩
   .exact⟨n,i,O,h1,h2⟩
  .rintro ⟨k,i,h1,h2⟩;by_cases hk:k=n
   .subst hk;exact .inr ⟨i,h2⟩
   .exact .inl ⟨k,i,O,h2⟩
theorem sts_mem {f h:Nat} {s:Int×Int}:s∈sts f h↔∃k i,St8 f h s k i:=by
 unfold sts;rw [Zz];constructor
 .rintro ⟨k,i,h1,h2,h3,h4⟩;exact⟨k,i,h4,h1,h3,lt_dv.2 h2⟩
 .rintro ⟨k,i,h⟩;exact⟨k,i,h.hk,lt_dv.1 h.hi,h.lo,h.e⟩
theorem St8.lt {f h k i:Nat} {s:Int×Int} (g:St8 f h s k i) (hh:h<=60):i < 60/\ky s=64 * k+i/\64 * k+i < 384:=by
 have h1:=lt_dv.1 g.hi;have h2:=Al6 h (2 ^ k);have h3:=g.hk;refine⟨O,?_,O⟩;unfold ky;rw [g.e];simp
theorem NI (a b c:Int):Bt a b c=some (decide (b<=a) && decide (a<=c)):=by
 unfold Bt;by_cases h:b<=a <;> simp [h]
theorem JX {k i:Nat} (hk:k < 6) (hi:i < 64):FS (k:Int) (i:Int)=some ((64 * k+i:Nat):Int):=by
 unfold FS wI;rw [NI,AjM,decide_eq_true (show(0:Int)<=(k:Int) by omega),decide_eq_true (show(k:Int)<=5 by omega),NI,AjM,decide_eq_true (show(0:Int)<=(i:Int) by omega),decide_eq_true (show(i:Int)<=63 by omega)];simp only [Bool.and_self,AkF,Aj4,Aku,AjM];rw [w64 (n:=64 * (k:Int)) O O,w64 O O]
 congr 1
theorem AaW {k i:Nat} (hk:k < 6) (hi:i < 64):MH (k:Int) (i:Int)=some ((64 * k+i:Nat):Int):=by
 unfold MH wI;rw [AH,AjM,decide_eq_true (show(0:Int)<=(k:Int)/\(k:Int)<=5 by omega),AH,AjM,decide_eq_true (show(0:Int)<=(i:Int)/\(i:Int)<=63 by omega)];simp only [Bool.and_self,AkF,Aj4,Aku,AjM];rw [w64 (n:=64 * (k:Int)) O O,w64 O O]
 congr 1
theorem AcD {k i:Nat} (hk:k < 6) (hi:i < 64):ER (k:Int) (i:Int)=some ((i * 2 ^ k:Nat):Int):=by
 unfold ER cZ wI;rw [iy O,NW hk O]
theorem Af1 {k i:Nat} (hk:k < 6) (hi:i < 64):Ge (k:Int) (i:Int)=some (((i+1) * 2 ^ k:Nat):Int):=by
 unfold Ge cZ wI;rw [iy O,Ak O,NW hk O]
def ckn (f e n:Nat):List Nat:=((List.range n).map (f+1 + ·)).filter λr=>decide (r % e=0)
theorem NJ (f e n:Nat):ckn f e (n+1)=ckn f e n++(if(f+1+n) % e=0 then [f+1+n]else []):=by
 unfold ckn;rw [Alu,Akv,Ali];by_cases h:(f+1+n) % e=0 <;> simp [h]
theorem MJ (f e n:Nat):(ckn f e n).length<=n:=by
 unfold ckn;exact Ako (Ak5 _ _) Z
def cks (f h e:Nat):List Nat:=ckn f e (h - f)
theorem cks_mem {f h e r:Nat}:r∈cks f h e↔f < r/\r<=h/\r % e=0:=by
 unfold cks ckn;simp only [AlC,Aj9,Als,decide_eq_true_eq];constructor
 .rintro ⟨⟨a,h1,rfl⟩,h2⟩;exact⟨O,O,h2⟩
 .rintro ⟨h1,h2,h3⟩;exact⟨⟨r - (f+1),O,O⟩,h3⟩
theorem M7 {a e:Nat}:Int.tmod (a:Int) (e:Int)=((a % e:Nat):Int):=by
 rw [Aln O];rfl
theorem Qv {f h e:Nat} (hf:f<=h) (hh:h<=60) (he:0 < e) (he2:e<=30):KQ (f:Int) (h:Int) (e:Int)=some ((cks f h e).map λr=>((r:Nat):Int)):=by
 unfold KQ wI;have h2:=An Hr (λn=>((h:Int),(e:Int),(ckn f e n).map (λr=>((r:Nat):Int)),((f+1+n:Nat):Int))) (h - f) ((cks f h e).map λr=>((r:Nat):Int)) (λn hn=>by
  have hl:=MJ f e n;unfold Hr cK wI;dsimp only;rw [iy O,iy O,M7,NJ];by_cases hz:(f+1+n) % e=0
  .rw [iy O,AjS (by simp only [Aa,decide_eq_true_eq,AjZ,Akj];omega),AjM,AjS hz,Akv];dsimp only;rw [Ak O];rfl
  .rw [ino O,AjM,AjR hz,Aj2];dsimp only;rw [Ak O];rfl) (by
  unfold Hr cK wI;dsimp only;rw [ino O];rfl)
 rw [Ak O,show Ab Hr ((h:Int),(e:Int),[],((f+1:Nat):Int))=_ from h2];rfl
end Go.V.G
set_option maxRecDepth 100000
namespace Go.V.G
open Go.V
theorem AfL:Ris ([]:List Int):=by rw [ris_iff];exact List.Pairwise.nil
noncomputable abbrev srt (l:List Int):List Int:=pts [] l
theorem JI {l:List Int} (h:l.length<=1000000):Ris (srt l)/\(srt l).length<=l.length/\∀v,v∈srt l↔v∈l:=by
 obtain ⟨h1,h2,h3⟩:=Acv AfL (l:=l) (by simp only [Akl];omega);refine⟨h1,by simpa using h2,λv=>by rw [h3 v];simp⟩
theorem FR {l:List Int} (h:l.length<=1000000) (v:Int):C3 (srt l) v=some (srt (l++[v]))/\HY (srt l) v=some (srt (l++[v])):=by
 obtain ⟨h1,h2,h3⟩:=JI h;obtain ⟨p1,p2,_⟩:=LQ (z:=srt l) O h1 v;have e:srt (l++[v])=pt (srt l) v:=Adz [] l v;rw [e];exact⟨p1,p2⟩
theorem SC {l:List Int} {i:Nat} {v:Int} (h:l[i]?=some v):(l.take (i+1)).filter (λv=>decide (¬ v=0))=(l.take i).filter (λv=>decide (¬ v=0))++(if v=0 then []else [v]):=by
 rw [CW h,Ali];by_cases h0:v=0 <;> simp [h0]
def pgl (top:List Int) (root:Int):List Int:=(top++[root]).filter (λv=>decide (¬ v=0))
theorem Z7 {top:List Int} {root:Int} (h:top.length=32):(pgl top root).length<=33:=by
 unfold pgl;have:=Ak5 (λv=>decide (¬ v=0)) (top++[root]);rw [AjU,AjZ,h]at this;omega
theorem Aej {b:Bls} {x y z top:List Int} {root:Int} (h:SB b x y z) (hu:∀c∈b,U8s c) (hg:gsp b x y z=true) (ht:tre b x y root=some top):L0 b x y z root=some (srt (pgl top root),true):=by
 have htl:=GP ht;unfold L0 pgl cK;rw [HC h hu,hg,ht,AjM,AjR Z,OT ((Qe hg).rs h hu),ht,AjM];unfold trS;dsimp only;rw [AjS (Aac O _)];generalize hL:top++[root]=L;have hLl:L.length=33:=by rw [<- hL];simp [htl]
 have hl:=An Gu (λi=>(srt ((L.take i).filter (λv=>decide (¬ v=0))),L,(L.length:Int),((i:Nat):Int))) L.length (srt ((L.take L.length).filter (λv=>decide (¬ v=0)))) (λi hi=>by
  have hgi:=Ai hi;have hfl:=Ak5 (λv=>decide (¬ v=0)) (L.take i);rw [AjW]at hfl;have hput:=(FR (l:=(L.take i).filter (λv=>decide (¬ v=0))) O (gb L i)).1;unfold Gu cK cZ wI;dsimp only;rw [iy O,iy O,iy O,Ake,AjO,hgi,AjM,SC hgi];by_cases h0:gb L i=0
  .rw [ino (not_not_intro h0),AjM,AjS h0,Aj2];dsimp only;rw [Ak O]
  .rw [iy h0,hput,AjM,AjM,AjR h0];dsimp only;rw [Ak O]) (by
  unfold Gu cK cZ wI;dsimp only;rw [ino O])
 rw [show Ab Gu ([],L,(L.length:Int),0)=_ from hl,AkC];rfl
theorem Ae0 {top:List Int} (htl:top.length=32) (root:Int) (v:List (List Int)):II root top v=some (srt (pgl top root)):=by
 unfold II pgl cK;rw [Aba O,AjM,AjS (Aac O _)];generalize hL:top++[root]=L;have hLl:L.length=33:=by rw [<- hL];simp [htl]
 have hl:=An Eg (λi=>(srt ((L.take i).filter (λv=>decide (¬ v=0))),L,(L.length:Int),((i:Nat):Int))) L.length (srt ((L.take L.length).filter (λv=>decide (¬ v=0)))) (λi hi=>by
  have hgi:=Ai hi;have hfl:=Ak5 (λv=>decide (¬ v=0)) (L.take i);rw [AjW]at hfl;have hput:=(FR (l:=(L.take i).filter (λv=>decide (¬ v=0))) O (gb L i)).2;unfold Eg cK cZ wI;dsimp only;rw [iy O,iy O,iy O,Ake,AjO,hgi,AjM,SC hgi];by_cases h0:gb L i=0
  .rw [ino (not_not_intro h0),AjM,AjS h0,Aj2];dsimp only;rw [Ak O]
  .rw [iy h0,hput,AjM,AjM,AjR h0];dsimp only;rw [Ak O]) (by
  unfold Eg cK cZ wI;dsimp only;rw [ino O])
 rw [show Ab Eg ([],L,(L.length:Int),0)=_ from hl,AkC];rfl
def kyI (s:Int×Int):Int:=(ky s:Int)
def ckI (r:Nat):Int:=((384+r:Nat):Int)
def IH (f h e:Nat):List Int:=(sts f h).map kyI++((cks f h e).map ckI++[448])
noncomputable def wnt (f h e:Nat):List Int:=srt (IH f h e)
theorem H3 {f h:Nat} (hh:h<=60):(sts f h).length<=360:=by
 have:=PS f h 6;unfold sts;omega
theorem M3 {f h e:Nat} (hh:h<=60):(cks f h e).length<=60:=by
 have:=MJ f e (h - f);unfold cks;omega
theorem AcQ {f h e:Nat} (hh:h<=60):(IH f h e).length<=421:=by
 have h1:=H3 (f:=f) hh;have h2:=M3 (f:=f) (e:=e) hh;unfold IH;simp only [AjU,Akj,AjZ];omega
theorem Pf {f h:Nat} {i:Nat} (hi:i < (sts f h).length):∃k j,St8 f h (sts f h)[i] k j:=sts_mem.1 (Akc hi)
theorem Y4 {f h e:Nat} (hf:f<=h) (hh:h<=60) (he:0 < e) (he2:e<=30):Jm (f:Int) (h:Int) (e:Int)=some (wnt f h e):=by
 have hsl:=H3 (f:=f) hh;unfold Jm wI;rw [NG hh,AjM];have h1:=An Fc (λi=>((f:Int),(h:Int),(e:Int),srt (((sts f h).map kyI).take i),sts f h,(((sts f h).length:Nat):Int),((i:Nat):Int))) (sts f h).length ((f:Int),(h:Int),(e:Int),srt ((sts f h).map kyI)) (λi hi=>by
  obtain ⟨k,j,g⟩:=Pf hi;obtain ⟨l1,l2,l3⟩:=g.lt hh;have hk:=g.hk;have hget:(sts f h)[i]?=some ((sts f h)[i]):=AjP hi;have hml:((sts f h).map kyI)[i]?=some (((64 * k+j:Nat):Nat):Int):=by rw [Akr,hget];show some (kyI _)=_;unfold kyI;rw [l2]
  have hput:=(FR (l:=((sts f h).map kyI).take i) (by rw [AjW,Akj];omega) ((64 * k+j:Nat):Int)).1;unfold Fc cK cZ wI;dsimp only;rw [iy O,iy O,iy O,Ake,AjO,hget,AjM,AjM];simp only [g.e];rw [JX hk O,AjM,hput,AjM,Ak O,CW hml]) (by
  unfold Fc cK cZ wI;dsimp only;rw [ino O,AkA Z])
 rw [show Ab Fc ((f:Int),(h:Int),(e:Int),[],sts f h,(((sts f h).length:Nat):Int),0)=_ from h1,AjM];dsimp only;have h2:=An EO (λn=>((h:Int),(e:Int),srt ((sts f h).map kyI++(ckn f e n).map ckI),((f+1+n:Nat):Int))) (h - f) (srt ((sts f h).map kyI++(cks f h e).map ckI)) (λn hn=>by
  have hl:=MJ f e n;unfold EO cK wI;dsimp only;rw [iy O,iy O,M7,NJ];by_cases hz:(f+1+n) % e=0
  .have hput:=(FR (l:=(sts f h).map kyI++(ckn f e n).map ckI) (by rw [AjU,Akj,Akj];omega) (ckI (f+1+n))).1;have ew:IntKind.wrap .i64 (384+((f+1+n:Nat):Int))=ckI (f+1+n):=by rw [w64 O O];unfold ckI;omega
   rw [iy O,ew,hput,AjM,AjM,AjS hz,Akv,<- AjY];dsimp only;rw [Ak O];rfl
  .rw [ino O,AjM,AjR hz,Aj2];dsimp only;rw [Ak O];rfl) (by
  unfold EO cK wI;dsimp only;rw [ino O];rfl)
 have e0:(sts f h).map kyI++(ckn f e 0).map ckI=(sts f h).map kyI:=by simp [ckn]
 rw [e0]at h2;have hcl:=M3 (f:=f) (e:=e) hh;rw [Ak O,show Ab EO ((h:Int),(e:Int),srt ((sts f h).map kyI),((f+1:Nat):Int))=_ from h2,AjM,
  (FR (l:=(sts f h).map kyI++(cks f h e).map ckI) (by rw [AjU,Akj,Akj];omega) 448).1,AjY]
 rfl
theorem Adb {f h e:Nat} (hh:h<=60):Ris (wnt f h e)/\(wnt f h e).length<=421/\∀v,v∈wnt f h e↔v∈IH f h e:=by
 have hl:=AcQ (f:=f) (e:=e) hh;obtain ⟨h1,h2,h3⟩:=JI (l:=IH f h e) O;exact⟨h1,by unfold wnt;omega,h3⟩
theorem Zo (b:Bls) (top:List Int):∀n,((ksT b top n).map (·.1)).Pairwise (· < ·)/\∀v∈(ksT b top n).map (·.1),v < ((n:Nat):Int)
 | 0=>by simp [ksT]
 | n+1=>by
  obtain ⟨h1,h2⟩:=Zo b top n;rw [NU,Akv];by_cases hz:vl b top n=0
  .rw [AjS hz];refine⟨by simpa using h1,λv hv=>?_⟩;have:=h2 v (by simpa using hv);omega
  .rw [AjR hz];refine⟨?_,λv hv=>?_⟩
   .rw [Alv];refine⟨h1,Z,λa ha c hc=>?_⟩;simp only [Akw,AlO,AjX]at hc;rw [hc];exact h2 a ha
   .rcases AjV.1 hv with hv | hv
    .have:=h2 v hv;omega
    .simp only [Akw,AlO,AjX]at hv;omega
theorem ksT_mem {b:Bls} {top:List Int} {n:Nat} {v:Int}:v∈(ksT b top n).map (·.1)↔∃k:Nat,k < n/\¬ vl b top k=0/\v=(k:Int):=by
 unfold ksT;simp only [AkL,Aj9,AlC,Als,decide_eq_true_eq,Function.comp];constructor
 .rintro ⟨k,⟨h1,h2⟩,rfl⟩;exact⟨k,h1,h2,rfl⟩
 .rintro ⟨k,h1,h2,rfl⟩;exact⟨k,⟨h1,h2⟩,rfl⟩
noncomputable def kok (b:Bls) (top:List Int) (f h e:Nat):Bool:=decide ((ksT b top 1024).map (·.1)=wnt f h e)
theorem Z5 {b:Bls} {top:List Int} {f h e:Nat} (hh:h<=60):kok b top f h e=true↔(∀k:Nat,k < 1024->¬ vl b top k=0->((k:Nat):Int)∈IH f h e)/\∀k:Nat,k < 1024->((k:Nat):Int)∈IH f h e->¬ vl b top k=0:=by
 obtain ⟨w1,_,w3⟩:=Adb (f:=f) (e:=e) hh;unfold kok;rw [decide_eq_true_eq];constructor
 .intro q;refine⟨λk hk hv=>?_,λk hk hm=>?_⟩
  .rw [<- w3,<- q];exact ksT_mem.2 ⟨k,hk,hv,rfl⟩
  .rw [<- w3,<- q]at hm;obtain ⟨k',h1,h2,h3⟩:=ksT_mem.1 hm;have:k'=k:=O
   rw [<- this];exact h2
 .rintro ⟨q1,q2⟩;refine Aah (ris_iff.2 (Zo b top 1024).1) w1 λv=>?_
  rw [w3,ksT_mem];constructor
  .rintro ⟨k,h1,h2,rfl⟩;exact q1 k h1 h2
  .intro hm;have hb:∃k:Nat,k < 1024/\v=((k:Nat):Int):=by
    unfold IH at hm;rcases AjV.1 hm with hm | hm
    .obtain ⟨s,hs,rfl⟩:=Aj9.1 hm;obtain ⟨k,j,g⟩:=sts_mem.1 hs;obtain ⟨l1,l2,l3⟩:=g.lt hh;exact⟨ky s,O,rfl⟩
    .rcases AjV.1 hm with hm | hm
     .obtain ⟨r,hr,rfl⟩:=Aj9.1 hm;have:=cks_mem.1 hr;exact⟨384+r,O,rfl⟩
     .exact⟨448,O,by simpa using hm⟩
   obtain ⟨k,hk,rfl⟩:=hb;exact⟨k,hk,q2 k hk hm,rfl⟩
end Go.V.G
set_option maxRecDepth 100000
namespace Go.V.G
open Go.V
theorem Ae9 {σ α:Type} {f:σ->α->Option σ} {xs:List α} {x y:σ} (h:∀l:List α,l.Perm xs->l.foldlM f x=some y):Nl f xs x=some y:=by
 have hx:∃y,∀l:List α,l.Perm xs->l.foldlM f x=some y:=⟨y,h⟩
 unfold Nl;rw [dif_pos hx];have h1:=hx.choose_spec xs (List.Perm.refl _);rw [h xs (List.Perm.refl _)]at h1;exact h1.symm
def ndb (l:List Int):Bool:=decide l.Nodup
theorem J0 {l:List Int} {v:Int}:(l++[v]).Nodup↔l.Nodup/\v∉l:=by
 rw [Aj8];constructor
 .rintro ⟨h1,_,h3⟩;exact⟨h1,λhv=>h3 v hv v Z rfl⟩
 .rintro ⟨h1,h2⟩;refine⟨h1,Z,λa ha c hc=>?_⟩;rw [AjX.1 hc];rintro rfl;exact h2 ha
theorem X2 (l:List Int) (v:Int):ndb (l++[v])=(ndb l && !decide (v∈l)):=by
 unfold ndb;by_cases h1:l.Nodup <;> by_cases h2:v∈l <;> simp [J0,h1,h2]
def bd (fn:Bool) (l:List Int):Bool:=!(fn && ndb l)
theorem ZA (fn:Bool) (l:List Int) (v:Int):bd fn (l++[v])=if bd fn l=true then true else decide (v∈l):=by
 unfold bd;rw [X2];cases fn <;> cases ndb l <;> simp
structure Led (C P bl:List Int):Prop where
 mem:∀v,v∈bl↔v∈C\/v∈P
 nd:bl.Nodup↔C.Nodup/\∀v∈P,v∉C
theorem Led.nil:Led [] [] []:=⟨Z,Z⟩
theorem Led.claim {C P bl:List Int} (h:Led C P bl) (v:Int):Led (C++[v]) P (bl++[v]):=by
 refine⟨λw=>?_,?_⟩
 .simp only [AjV,AjX,h.mem w];constructor
  .rintro ((h | h) | h)
   .exact .inl (.inl h)
   .exact .inr h
   .exact .inl (.inr h)
  .rintro ((h | h) | h)
   .exact .inl (.inl h)
   .exact .inr h
   .exact .inl (.inr h)
 .rw [J0,J0,h.nd,h.mem];constructor
  .rintro ⟨⟨h1,h2⟩,h3⟩;refine⟨⟨h1,λq=>h3 (.inl q)⟩,λw hw hm=>?_⟩;rcases AjV.1 hm with hm | hm
   .exact h2 w hw hm
   .rw [AjX.1 hm]at hw;exact h3 (.inr hw)
  .rintro ⟨⟨h1,h2⟩,h3⟩;refine⟨⟨h1,λw hw hm=>h3 w hw (Alg _ hm)⟩,?_⟩;rintro (q | q)
   .exact h2 q
   .exact h3 v q Z
theorem Led.claims {P:List Int}:∀{l C bl:List Int},Led C P bl->Led (C++l) P (bl++l)
 | [],C,bl,h=>by simpa using h
 | v::l,C,bl,h=>by
  have:=Led.claims (l:=l) (h.claim v);simpa using this
theorem Led.piece {C P bl:List Int} (h:Led C P bl) (v:Int):Led C (P++[v]) (if v∈P then bl else bl++[v]):=by
 by_cases hv:v∈P
 .rw [AjS hv];refine⟨λw=>?_,?_⟩
  .rw [h.mem w,AjV,AjX];constructor
   .rintro (q | q)
    .exact .inl q
    .exact .inr (.inl q)
   .rintro (q | q | q)
    .exact .inl q
    .exact .inr q
    .exact .inr (by rw [q];exact hv)
  .rw [h.nd];constructor
   .rintro ⟨h1,h2⟩;refine⟨h1,λw hw=>?_⟩;rcases AjV.1 hw with hw | hw
    .exact h2 w hw
    .rw [AjX.1 hw];exact h2 v hv
   .rintro ⟨h1,h2⟩;exact⟨h1,λw hw=>h2 w (Alg _ hw)⟩
 .rw [AjR hv];refine⟨λw=>?_,?_⟩
  .rw [AjV,h.mem w,AjV,AjX];constructor
   .rintro ((q | q) | q)
    .exact .inl q
    .exact .inr (.inl q)
    .exact .inr (.inr q)
   .rintro (q | q | q)
    .exact .inl (.inl q)
    .exact .inl (.inr q)
    .exact .inr q
  .rw [J0,h.nd,h.mem];constructor
   .rintro ⟨⟨h1,h2⟩,h3⟩;refine⟨h1,λw hw=>?_⟩;rcases AjV.1 hw with hw | hw
    .exact h2 w hw
    .rw [AjX.1 hw];exact λq=>h3 (.inl q)
   .rintro ⟨h1,h2⟩;refine⟨⟨h1,λw hw=>h2 w (Alg _ hw)⟩,?_⟩;rintro (q | q)
    .exact h2 v Z q
    .exact hv q
def bpn (P bl l:List Int):Nat->List Int
 | 0=>bl
 | i+1=>if gb l i∈P++l.take i then bpn P bl l i else bpn P bl l i++[gb l i]
theorem ZZ {C P bl l:List Int} (h:Led C P bl):∀n,n<=l.length->Led C (P++l.take n) (bpn P bl l n)
 | 0,_=>by simpa [bpn] using h
 | n+1,hn=>by
  have h1:=(ZZ (l:=l) h n O).piece (gb l n);rw [CW (Ai (O:n < l.length)),<- AjY];exact h1
theorem TQ (P bl l:List Int):∀n,(bpn P bl l n).length<=bl.length+n
 | 0=>by simp [bpn]
 | n+1=>by
  have:=TQ P bl l n;unfold bpn;split
  .omega
  .rw [AjU,AjZ];omega
theorem AdW (m:List (Int×Int)) (k v w:Int):CB (Ds m k v) w=if w=k then v else CB m w:=by
 induction m with
 | nil=>
  unfold Ds CB CB;by_cases h:k=w
  .subst h;simp
  .rw [AjR h,AjR (λq=>h q.symm)]
 | cons p m ih=>
  unfold Ds;by_cases h:p.1=k
  .rw [AjS h];unfold CB;by_cases hw:k=w
   .subst hw;simp
   .rw [AjR hw,AjR (λq=>hw q.symm),AjR (by rw [h];exact hw)]
  .rw [AjR h];unfold CB;by_cases hw:p.1=w
   .rw [AjS hw,AjS hw,AjR (by rw [<- hw];exact h)]
   .rw [AjR hw,AjR hw];exact ih
theorem UX (m:List (Int×Int)) (k v:Int):∀w,w∈(Ds m k v).map (·.1)↔w∈m.map (·.1)\/w=k:=by
 induction m with
 | nil=>intro w;simp [Ds]
 | cons p m ih=>
  intro w;unfold Ds;by_cases h:p.1=k
  .rw [AjS h];simp only [Akw,Aj5,h];constructor
   .rintro (q | q)
    .exact .inr q
    .exact .inl (.inr q)
   .rintro ((q | q) | q)
    .exact .inl q
    .exact .inr q
    .exact .inl q
  .rw [AjR h];simp only [Akw,Aj5,ih w];constructor
   .rintro (q | q | q)
    .exact .inl (.inl q)
    .exact .inl (.inr q)
    .exact .inr q
   .rintro ((q | q) | q)
    .exact .inl q
    .exact .inr (.inl q)
    .exact .inr (.inr q)
theorem Af0 (m:List (Int×Int)) (k v:Int) (h:(m.map (·.1)).Nodup):((Ds m k v).map (·.1)).Nodup:=by
 induction m with
 | nil=>simp [Ds]
 | cons p m ih=>
  rw [Akw,AkE]at h;unfold Ds;by_cases hk:p.1=k
  .rw [AjS hk,Akw,AkE];rw [hk]at h;exact h
  .rw [AjR hk,Akw,AkE];refine⟨λq=>?_,ih h.2⟩;rcases (UX m k v p.1).1 q with q | q
   .exact h.1 q
   .exact hk q
theorem WR {m:List (Int×Int)} (h:(m.map (·.1)).Nodup):∀p∈m,CB m p.1=p.2:=by
 induction m with
 | nil=>intro p hp;cases hp
 | cons q m ih=>
  intro p hp;rw [Akw,AkE]at h;unfold CB;rcases Aj5.1 hp with rfl | hp
  .rw [AjS rfl]
  .rw [AjR (λe=>h.1 (by rw [e];exact List.mem_map_of_mem hp))];exact ih h.2 p hp
def std (P:List Int):List (Int×Int):=P.foldl (λm k=>Ds m k (CB m k+1)) []
theorem Ng (P:List Int) (v:Int):std (P++[v])=Ds (std P) v (CB (std P) v+1):=by unfold std;rw [Alr];rfl
theorem AdL {p:List Int->Prop} (h0:p []) (h1:∀l v,p l->p (l++[v])) (l:List Int):p l:=by
 have:∀n,∀l:List Int,l.length=n->p l:=by
  intro n
  induction n with
  | zero=>intro l hl;rw [List.length_eq_zero_iff.1 hl];exact h0
  | succ n ih=>
   intro l hl;have e:=List.dropLast_concat_getLast (l:=l) (by intro q;rw [q]at hl;cases hl);rw [<- e];exact h1 _ _ (ih _ (by rw [List.length_dropLast];omega))
 exact this _ l rfl
theorem Ya (P:List Int):(∀v,CB (std P) v=(P.count v:Int))/\((std P).map (·.1)).Nodup/\∀v,v∈(std P).map (·.1)↔v∈P:=by
 refine AdL (p:=λP=>(∀v,CB (std P) v=(P.count v:Int))/\((std P).map (·.1)).Nodup/\∀v,v∈(std P).map (·.1)↔v∈P) ?_ ?_ P
 .refine⟨λv=>by simp [std,CB],by simp [std],by simp [std]⟩
 .rintro P k ⟨h1,h2,h3⟩;refine⟨λv=>?_,?_,λv=>?_⟩
  .rw [Ng,AdW,h1,h1,List.count_append];by_cases h:v=k
   .subst h;rw [AjS rfl];simp
   .rw [AjR h];simp [List.count_cons,show ¬ k=v from λq=>h q.symm]
  .rw [Ng];exact Af0 _ _ _ h2
  .rw [Ng,UX,h3,AjV,AjX]
theorem std_zero {P:List Int} {v:Int}:CB (std P) v=0↔v∉P:=by
 rw [(Ya P).1 v];have:=List.count_pos_iff (l:=P) (a:=v);constructor
 .intro h q;have:=this.2 q;omega
 .intro h;have:¬ 0 < P.count v:=λq=>h (this.1 q)
  omega
theorem Oa {l bl:List Int} (hl:bl.length+l.length<=100000) (fn:Bool) (ks rs:List Int) (d:Bls) (m:List (Int×Int)) :
  BH l ks bl rs (bd fn bl) d m=some (l,ks,bl++l,rs,bd fn (bl++l),d,m):=by
 unfold BH;have h:=An Cg (λi=>(l,(l.length:Int),((i:Nat):Int),ks,bl++l.take i,rs,bd fn (bl++l.take i),d,m)) l.length (l,ks,bl++l,rs,bd fn (bl++l),d,m) (λi hi=>by
  have hg:=Ai hi;unfold Cg cK cZ wI;dsimp only;rw [iy O,iy O,iy O,Ake,AjO,hg,AjM,CW hg,<- AjY,ZA];have hr:Aa ((bl++l.take i).length+([gb l i]:List Int).length) 8=true:=by simp only [Aa,decide_eq_true_eq,AjZ,AjU,AjW];omega
  by_cases hb:bd fn (bl++l.take i)=true
  .rw [AjS hb,AjM,AjS hb,AjS hr,Ak O]
  .rw [AjR hb,FX (by rw [AjU,AjW];omega),AjM,AjM,AjR hb,AjS hr,Ak O]) (by
  unfold Cg cK cZ wI;dsimp only;rw [ino O,AkC])
 rw [Al3,Aj2]at h;rw [show Ab Cg (l,(l.length:Int),0,ks,bl,rs,bd fn bl,d,m)=_ from h];rfl
theorem Zi {l bl:List Int} (hl:bl.length+l.length<=100000) (fn:Bool) (ks rs:List Int) (d:Bls) (m:List (Int×Int)) :
  Ef l ks bl rs (bd fn bl) d m=some (ks,bl++l,rs,bd fn (bl++l),d,m):=by
 unfold Ef;have h:=An CH (λi=>(l,(l.length:Int),((i:Nat):Int),ks,bl++l.take i,rs,bd fn (bl++l.take i),d,m)) l.length (ks,bl++l,rs,bd fn (bl++l),d,m) (λi hi=>by
  have hg:=Ai hi;unfold CH cK gX wI;dsimp only;rw [iy O,iy O,AjO,hg,AjM,CW hg,<- AjY,ZA];have hr:Aa ((bl++l.take i).length+([gb l i]:List Int).length) 8=true:=by simp only [Aa,decide_eq_true_eq,AjZ,AjU,AjW];omega
  by_cases hb:bd fn (bl++l.take i)=true
  .rw [AjS hb,AjM,AjS hb,AjS hr,Ak O]
  .rw [AjR hb,FX (by rw [AjU,AjW];omega),AjM,AjM,AjR hb,AjS hr,Ak O]) (by
  unfold CH cK gX wI;dsimp only;rw [ino O,AkC])
 rw [Al3,Aj2]at h;rw [show Ab CH (l,(l.length:Int),0,ks,bl,rs,bd fn bl,d,m)=_ from h];rfl
theorem Sl {b:Bls} {x y z:List Int} (g:RS b x y) (root:Int):Il (b,x,y,z) root=some (tin b x y root):=by
 unfold Il tin cK;rw [Zj g,AjM];cases hp:ptx b x y root with
 | none=>rfl
 | some l=>
  obtain ⟨⟨hall,hnd,hlen⟩,_⟩:=IE hp;dsimp only;rw [AjR Z];have hL:=An Ei (λk=>(root,cat b (l.take k),l.take k,l.map (Dx b),(l.length:Int),((k:Nat):Int))) l.length (root,cat b l,l) (λk hk=>by
   have hpk:=hall _ (Akc hk);have h1:=RI (b:=b) (x:=x) (y:=y) (l:=l.take k) λv hv=>hall v (Alo hv)
   have h2:=Abz b hpk;rw [AjW]at h1;have hg:(l.map (Dx b))[k]?=some (Dx b l[k]):=by rw [Akr,AjP hk];rfl
   unfold Ei cK cZ wI;dsimp only;rw [iy O,iy O,iy (by rw [Akj];omega),Ake,AjO,hg,AjM,AjM,AjM,
    show(Dx b l[k]).2.2=Gk b l[k] from rfl,show(Dx b l[k]).1=l[k] from rfl,iy O,AjS (by simp only [Aa,decide_eq_true_eq,AjZ,AjW];omega),Ak O,X6 b hk,Akd hk]) (by
   unfold Ei cK cZ wI;dsimp only;rw [ino O,AkC])
  have hL':Ab Ei (root,([]:List UInt8),[],l.map (Dx b),(l.length:Int),0)=_:=hL;rw [Akj,hL',AjM];dsimp only;rw [AjS (by simp only [Aa,decide_eq_true_eq,AjZ];omega)]
theorem VP {b:Bls} {x y z:List Int} (g:RS b x y) {root:Int} (hp:ptx b x y root=none) (ks bl rs:List Int) (w:Bool) (d:Bls) (a1:Int) (a2:Bool) (a3 a4 a5 a6 a7 a8:Int) (m:List (Int×Int)) :
  Bj root ks bl rs w d a1 a2 a3 a4 a5 a6 a7 a8 b x y z m=some ([],ks,bl,rs,true,d,a1,a2,a3,a4,a5,a6,a7,a8,b,x,y,z,m):=by
 unfold Bj sX wI;rw [Sl g,AjM];unfold tin;rw [hp];rfl
theorem XL {b:Bls} {x y z:List Int} (g:RS b x y) {root:Int} {l:List Int} (hp:ptx b x y root=some l) {P bl:List Int} (hbl:bl.length<=90000) (hP:P.length<=90000) (fn:Bool) (ks rs:List Int) (d:Bls) (a1:Int) (a2:Bool) (a3 a4 a5 a6 a7 a8:Int) :
  Bj root ks bl rs (bd fn bl) d a1 a2 a3 a4 a5 a6 a7 a8 b x y z (std P) =
   some (cat b l,ks,bpn P (bl++[root]) l l.length,rs,bd fn (bpn P (bl++[root]) l l.length),d,a1,a2,a3,a4,a5,a6,a7,a8,b,x,y,z,std (P++l)):=by
 obtain ⟨⟨hall,hnd,hlen⟩,_⟩:=IE hp;have hw:IntKind.wrap .i64 (((((l++[root]).length:Nat):Int)) - 1)=(l.length:Int):=by rw [AjU,AjZ,w64 O O];omega
 have hle:(l++[root]).length=l.length+1:=by simp
 have e1:(List.drop l.length (l++[root])).take (l.length+1 - l.length)=[root]:=by
  rw [List.drop_left,(O:l.length+1 - l.length=1)];rfl
 have e2:(List.drop (Int.toNat 0) (l++[root])).take (l.length - Int.toNat 0)=l:=by
  rw [show Int.toNat 0=0 from rfl,AkR,AlD,List.take_left]
 unfold Bj sX wI;rw [Sl g,AjM];unfold tin;rw [hp];dsimp only;rw [AjM];dsimp only;rw [AjR Z,hw,hle,iy O,iy O,iy O,iy O,AjO,AjO,e1,Zi (by rw [AjZ];omega),AjM];dsimp only;rw [iy O,iy O,iy O,iy O,e2];have h:=An B5 (λi=>(cat b l,l,(l.length:Int),((i:Nat):Int),ks,bpn P (bl++[root]) l i,rs,bd fn (bpn P (bl++[root]) l i),d,a1,a2,a3,a4,a5,a6,a7,a8,b,x,y,z,std (P++l.take i))) l.length
   (cat b l,ks,bpn P (bl++[root]) l l.length,rs,bd fn (bpn P (bl++[root]) l l.length),d,a1,a2,a3,a4,a5,a6,a7,a8,b,x,y,z,std (P++l)) (λi hi=>by
  have hg:=Ai hi;have hbn:=TQ P (bl++[root]) l i;rw [AjU,AjZ]at hbn;have hc:IntKind.wrap .i64 (CB (std (P++l.take i)) (gb l i)+1)=CB (std (P++l.take i)) (gb l i)+1:=by
   rw [(Ya _).1];have:=List.count_le_length (l:=P++l.take i) (a:=gb l i);rw [AjU,AjW]at this;rw [w64 O O]
  have hst:std (P++l.take (i+1))=Ds (std (P++l.take i)) (gb l i) (CB (std (P++l.take i)) (gb l i)+1):=by rw [CW hg,<- AjY,Ng]
  unfold B5 gX wI;dsimp only;rw [iy O,iy O,AjO,hg,AjM,hst];by_cases hz:gb l i∈P++l.take i
  .rw [ino (λq=>std_zero.1 q hz),AjM];dsimp only;have e:bpn P (bl++[root]) l (i+1)=bpn P (bl++[root]) l i:=by show(if _ then _ else _)=_;rw [AjS hz]
   rw [e,hc,Ak O]
  .rw [iy (std_zero.2 hz),Oa (by rw [AjZ];omega),AjM];dsimp only;rw [AjM];dsimp only;have e:bpn P (bl++[root]) l (i+1)=bpn P (bl++[root]) l i++[gb l i]:=by show(if _ then _ else _)=_;rw [AjR hz]
   rw [e,hc,Ak O]) (by
  unfold B5 gX wI;dsimp only;rw [ino O,AkC])
 rw [Al3,Aj2]at h;rw [show Ab B5 (cat b l,l,(l.length:Int),0,ks,bl++[root],rs,bd fn (bl++[root]),d,a1,a2,a3,a4,a5,a6,a7,a8,b,x,y,z,std P)=_ from h];rfl
def rkd (b:Bls) (x y top:List Int) (k:Nat):List Int:=(rcA (rcd b x y (vl b top k))).1
def rkc (b:Bls) (x y top:List Int) (k:Nat):List Int:=(rcA (rcd b x y (vl b top k))).2.1
def rko (b:Bls) (x y top:List Int) (k:Nat):Bool:=(rcA (rcd b x y (vl b top k))).2.2
theorem ZK {b:Bls} {x y:List Int}:∀(f:Nat) (a:Int) (d ch:List Int) {p:List Int×List Int},rcN b x y f a d ch=some p->p.2.length<=ch.length+f/\p.1.length<=d.length+124 * f
 | 0,_,_,_,p,h=>by cases h
 | f+1,a,d,ch,p,h=>by
  unfold rcN at h;split at h
  .rename_i hc;have ho:=TT hc;split at h
   .injection h with h;subst h;simp;omega
   .have:=ZK f _ _ _ h;simp only [AjU,AjZ]at this;omega
  .cases h
theorem Hg (b:Bls) (x y top:List Int) (k:Nat):(rkc b x y top k).length<=10/\(rkd b x y top k).length<=1240:=by
 unfold rkc rkd rcA;split
 .rename_i p hp;have:=ZK _ _ _ _ hp;simp only [Akl]at this;dsimp only;omega
 .simp
theorem UW {b:Bls} {x y z top:List Int} (g:RS b x y) (ht:top.length=32) {bl ks:List Int} (hbl:bl.length<=90000) (hks:ks.length<=90000) {k:Nat} (hk:k < 1024) (fn:Bool) (rs:List Int) (d:Bls) (a1:Int) (a2:Bool) (a3 a4 a5 a6 a7 a8 rt:Int) (m:List (Int×Int)) :
  Bw (k:Int) ks bl rs (bd fn bl) d a1 a2 a3 a4 a5 a6 a7 a8 b x y z rt top (top.map (lfv b)) m =
   some (rkd b x y top k,ks++[(k:Int)],bl++rkc b x y top k,rs,bd (fn && rko b x y top k) (bl++rkc b x y top k),d,a1,a2,a3,a4,a5,a6,a7,a8,b,x,y,z,rt,top,top.map (lfv b),m):=by
 have hl:=(Hg b x y top k).1;unfold Bw cK;rw [AjS (by simp only [Aa,decide_eq_true_eq,AjZ];omega),LV ht rt hk,AjM,YC g,AjM];have hb:(if bd fn bl=true then true else !(rko b x y top k))=bd (fn && rko b x y top k) bl:=by
  unfold bd;cases fn <;> cases ndb bl <;> cases rko b x y top k <;> rfl
 unfold rkd rkc rko at *;generalize rcA (rcd b x y (vl b top k))=q at *;obtain ⟨q1,q2,q3⟩:=q;dsimp only at *;have hc:=Oa (l:=q2) (bl:=bl) O (fn && q3) (ks++[(k:Int)]) rs d m;rw [<- hb]at hc;by_cases hw:bd fn bl=true
 .rw [AjS hw,AjM];dsimp only;rw [AjS hw]at hc;rw [hc];rfl
 .rw [AjR hw,AjM];dsimp only;rw [AjR hw]at hc;rw [hc];rfl
end Go.V.G
set_option maxRecDepth 100000
namespace Go.V.G
open Go.V
def okb (fn:Bool) (l:List Int):Bool:=fn && ndb l
theorem WF (fn:Bool) (l:List Int) (v:Int):okb fn (l++[v])=if v∈l then false else okb fn l:=by
 unfold okb;rw [X2];by_cases h:v∈l <;> simp [h]
def mny (n:Nat) (P:List Int):List Int:=(List.range n).map λk=>(P.count ((k:Nat):Int):Int)
theorem Jb (n:Nat) (P:List Int):(mny n P).length=n:=by simp [mny]
theorem Pe {n k:Nat} (P:List Int) (h:k < n):(mny n P)[k]?=some (P.count (k:Int):Int):=by
 unfold mny;rw [Akr,AlK h];rfl
theorem AeY {n k:Nat} (P:List Int) (h:k < n):mny n (P++[(k:Int)])=(mny n P).set k ((P.count (k:Int):Int)+1):=by
 refine AkK λi=>?_
 rw [Al7,Jb];by_cases hi:i < n
 .rw [Pe _ hi,Pe _ hi,List.count_append];by_cases hk:k=i
  .subst hk;rw [AjS rfl,AjS h];simp
  .rw [AjR hk];have:¬ (k:Int)=((i:Nat):Int):=O
   simp [List.count_cons,this]
 .rw [Aka (by rw [Jb];omega),Aka (by rw [Jb];omega)];by_cases hk:k=i
  .rw [AjS hk,AjR O]
  .rw [AjR hk]
theorem Sw {l C:List Int} (hl:C.length+l.length<=100000) (fn:Bool) (b:Bls) (x y z rs m:List Int) :
  BV l b x y z rs (srt C) m (okb fn C)=some (l,b,x,y,z,rs,srt (C++l),m,okb fn (C++l)):=by
 unfold BV;have h:=An B1 (λi=>(l,(l.length:Int),((i:Nat):Int),b,x,y,z,rs,srt (C++l.take i),m,okb fn (C++l.take i))) l.length (l,b,x,y,z,rs,srt (C++l),m,okb fn (C++l)) (λi hi=>by
  have hg:=Ai hi;have hcl:(C++l.take i).length<=1000000:=by rw [AjU,AjW];omega
  obtain ⟨o1,o2,o3⟩:=JI hcl;unfold B1 cK cZ wI;dsimp only;rw [iy O,iy O,iy O,Ake,AjO,hg,AjM,CW hg,<- AjY,WF,Gp O,AjM];by_cases hb:gb l i∈C++l.take i
  .rw [AjS hb,decide_eq_true ((o3 _).2 hb),AjS rfl,AjM];dsimp only;rw [(FR hcl _).1,AjM,Ak O]
  .rw [AjR hb,decide_eq_false (λq=>hb ((o3 _).1 q)),AjR Z,AjM];dsimp only;rw [(FR hcl _).1,AjM,Ak O]) (by
  unfold B1 cK cZ wI;dsimp only;rw [ino O,AkC])
 rw [Al3,Aj2]at h;rw [show Ab B1 (l,(l.length:Int),0,b,x,y,z,rs,srt C,m,okb fn C)=_ from h];rfl
theorem YY {l C:List Int} (hl:C.length+l.length<=100000) (fn:Bool) (b:Bls) (x y z rs m:List Int) :
  DL l b x y z rs (srt C) m (okb fn C)=some (b,x,y,z,rs,srt (C++l),m,okb fn (C++l)):=by
 unfold DL;have h:=An Co (λi=>(l,(l.length:Int),((i:Nat):Int),b,x,y,z,rs,srt (C++l.take i),m,okb fn (C++l.take i))) l.length (b,x,y,z,rs,srt (C++l),m,okb fn (C++l)) (λi hi=>by
  have hg:=Ai hi;have hcl:(C++l.take i).length<=1000000:=by rw [AjU,AjW];omega
  obtain ⟨o1,o2,o3⟩:=JI hcl;unfold Co gX wI;dsimp only;rw [iy O,iy O,AjO,hg,AjM,CW hg,<- AjY,WF,Gp O,AjM];by_cases hb:gb l i∈C++l.take i
  .rw [AjS hb,decide_eq_true ((o3 _).2 hb),AjS rfl,AjM];dsimp only;rw [(FR hcl _).1,AjM,Ak O]
  .rw [AjR hb,decide_eq_false (λq=>hb ((o3 _).1 q)),AjR Z,AjM];dsimp only;rw [(FR hcl _).1,AjM,Ak O]) (by
  unfold Co gX wI;dsimp only;rw [ino O,AkC])
 rw [Al3,Aj2]at h;rw [show Ab Co (l,(l.length:Int),0,b,x,y,z,rs,srt C,m,okb fn C)=_ from h];rfl
theorem WX {b:Bls} {x y z:List Int} (g:RS b x y) {root:Int} (hp:ptx b x y root=none) (rs c m:List Int) (w:Bool) :
  BF root b x y z rs c m w=some ([],b,x,y,z,rs,c,m,false):=by
 unfold BF sX wI;rw [QI g,AjM];unfold tin;rw [hp];rfl
theorem WH {b:Bls} {x y z:List Int} (g:RS b x y) {root:Int} {l:List Int} (hp:ptx b x y root=some l) {P C:List Int} (hC:C.length<=90000) (hP:P.length<=90000) (fn:Bool) (rs:List Int) :
  BF root b x y z rs (srt C) (mny b.length P) (okb fn C)=some (cat b l,b,x,y,z,rs,srt (C++[root]),mny b.length (P++l),okb fn (C++[root])):=by
 obtain ⟨⟨hall,hnd,hlen⟩,_⟩:=IE hp;have hw:IntKind.wrap .i64 (((((l++[root]).length:Nat):Int)) - 1)=(l.length:Int):=by rw [AjU,AjZ,w64 O O];omega
 have hle:(l++[root]).length=l.length+1:=by simp
 have e1:(List.drop l.length (l++[root])).take (l.length+1 - l.length)=[root]:=by
  rw [List.drop_left,(O:l.length+1 - l.length=1)];rfl
 have e2:(List.drop (Int.toNat 0) (l++[root])).take (l.length - Int.toNat 0)=l:=by
  rw [show Int.toNat 0=0 from rfl,AkR,AlD,List.take_left]
 unfold BF sX wI;rw [QI g,AjM];unfold tin;rw [hp];dsimp only;rw [AjM];dsimp only;rw [AjR Z,hw,hle,iy O,iy O,iy O,iy O,AjO,AjO,e1,YY (by rw [AjZ];omega),AjM];dsimp only;rw [iy O,iy O,iy O,iy O,e2];have h:=An Ct (λi=>(cat b l,l,(l.length:Int),((i:Nat):Int),b,x,y,z,rs,srt (C++[root]),mny b.length (P++l.take i),okb fn (C++[root]))) l.length
   (cat b l,b,x,y,z,rs,srt (C++[root]),mny b.length (P++l),okb fn (C++[root])) (λi hi=>by
  have hg:=Ai hi;have hmem:gb l i∈l:=by
   have:=Akc hi;rw [AjP hi]at hg;injection hg with hg;rw [<- hg];exact this
  obtain ⟨m,hm1,hm2,hm3,_⟩:=Qa (hall _ hmem);have hml:=Jb b.length (P++l.take i);have hc:=List.count_le_length (l:=P++l.take i) (a:=(m:Int));rw [AjU,AjW]at hc;unfold Ct cK cZ gX wI;dsimp only;rw [iy O,iy O,AjO,hg,AjM,hm1,iy O,iy O,AjO,Ake,Pe _ hm3,AjM,iy O,iy O,AjM,AjM,w64 (n:=(((P++l.take i).count (m:Int):Nat):Int)+1) O O,
   CW hg,<- AjY,hm1,AeY _ hm3,Ak O]) (by
  unfold Ct cK cZ gX wI;dsimp only;rw [ino O,AkC])
 rw [Al3,Aj2]at h;rw [show Ab Ct (cat b l,l,(l.length:Int),0,b,x,y,z,rs,srt (C++[root]),mny b.length P,okb fn (C++[root]))=_ from h];rfl
theorem Pv {b:Bls} {x y z top:List Int} (h:SB b x y z) (g:RS b x y) {C:List Int} (hC:C.length<=90000) {k:Nat} (fn:Bool) (rs m:List Int) :
  B9 (vl b top k) b x y z rs (srt C) m (okb fn C) =
   some (rkd b x y top k,b,x,y,z,rs,srt (C++rkc b x y top k),m,okb (fn && rko b x y top k) (C++rkc b x y top k)):=by
 have hl:=(Hg b x y top k).1;unfold B9;rw [YF h g,AjM];have hb:(if okb fn C=true then rko b x y top k else false)=okb (fn && rko b x y top k) C:=by
  unfold okb;cases fn <;> cases ndb C <;> cases rko b x y top k <;> rfl
 unfold rkd rkc rko at *;generalize rcA (rcd b x y (vl b top k))=q at *;obtain ⟨q1,q2,q3⟩:=q;dsimp only at *;have hc:=Sw (l:=q2) (C:=C) O (fn && q3) b x y z rs m;rw [<- hb]at hc;by_cases hw:okb fn C=true
 .rw [AjS hw,AjM];dsimp only;rw [AjS hw]at hc;rw [hc];rfl
 .rw [AjR hw,AjM];dsimp only;rw [AjR hw]at hc;rw [hc];rfl
end Go.V.G
set_option maxRecDepth 100000
namespace Go.V.G
open Go.V
theorem SW {a b c:List Prt} (ha:AG a=true) (hb:AG b=true) (hc:AG c=true) (h1:tgt a=src b) (h2:tgt b=src c):AN (AN a b) c=AN a (AN b c):=by
 obtain ⟨b1,b2,b3,b4⟩:=Dw hb hc h2;obtain ⟨a1,a2,a3,a4⟩:=Dw ha hb h1;obtain ⟨p1,p2,_⟩:=Dw ha b1 O;obtain ⟨r1,r2,_⟩:=Dw a1 hc O;refine Ma (Aq r1).1 (Aq p1).1 ?_;rw [p2,r2,a2,b2];exact AbD _ _ _ (Kz hb hc h2).1 (Kz ha hb h1).1
theorem Uc:∀{cs:List (List Prt)} {a d:List Prt},AG a=true->AG d=true->tgt a=src d->chn (tgt d) cs=true->EB (AN a d) cs=AN a (EB d cs)
 | [],_,_,_,_,_,_=>rfl
 | c::cs,a,d,ha,hd,ht,hc=>by
  obtain ⟨k1,k2,k3⟩:=Fj hc;obtain ⟨q1,q2,q3,q4⟩:=Dw hd k1 k2.symm;show EB (AN (AN a d) c) cs=AN a (EB (AN d c) cs);rw [SW ha hd k1 ht k2.symm];exact Uc ha q1 O (by rw [q4];exact k3)
theorem Agz {n:Int} {xs ys:List (List Prt)} (h:chn n (xs++ys)=true) (h0:0<=n) (h1:n<=120) (hy:ys≠[]):btw n (xs++ys)=AN (btw n xs) (btw (D5 n xs) ys):=by
 rw [Nc,AjT]at h;obtain ⟨b1,b2,b3⟩:=VU h.1 h0 h1;cases ys with
 | nil=>exact absurd rfl hy
 | cons c cs=>
  obtain ⟨k1,k2,k3⟩:=Fj h.2;rw [Rr h.2];have e:btw n (xs++c::cs)=EB (AN (btw n xs) c) cs:=by unfold btw;rw [Alr];rfl
  rw [e];exact Uc b1 k1 O k3
section
variable {f:Int} {t:List UInt8} {r:List Rn} {cs:List (List Prt)}
theorem Y0 (g:GH f t r cs) {a b c:Int} (h0:f<=a) (h1:a<=b) (h2:b < c) (h3:c<=f+cs.length):BW f t cs a c=AN (BW f t cs a b) (BW f t cs b c):=by
 obtain ⟨k1,k2⟩:=X3 g (a - f);have es:seg cs (a - f) (c - f)=seg cs (a - f) (b - f)++seg cs (b - f) (c - f):=by
  unfold seg;have:cs.drop (b - f).toNat=(cs.drop (a - f).toNat).drop ((b - f).toNat - (a - f).toNat):=by rw [Al2];congr 1;omega
  rw [this,<- List.take_add]
  congr 1;omega
 have hne:seg cs (b - f) (c - f)≠[]:=by
  intro q;have:=congrArg List.length q;unfold seg at this;rw [AjW,Akf,Akl]at this;omega
 have hc:=Qg g (a - f) (c - f);rw [es]at hc;unfold BW;rw [es,Agz hc k1 k2 hne,Z4 g O O]
theorem QF (g:GH f t r cs) {a:Int} (h0:f<=a) (h1:a < f+cs.length):cs[(a - f).toNat]?=some (BW f t cs a (a+1)):=by
 have hl:(a - f).toNat < cs.length:=O
 have es:seg cs (a - f) (a+1 - f)=[cs[(a - f).toNat]]:=by
  unfold seg;rw [show(a+1 - f).toNat - (a - f).toNat=1 by omega,Aks hl];rfl
 have hc:=Qg g (a - f) (a+1 - f);rw [es]at hc;unfold BW;rw [es,Rr hc,AjP hl];rfl
end
def frS (s:Int×Int):Nat:=s.2.toNat * 2 ^ s.1.toNat
def toS (s:Int×Int):Nat:=(s.2.toNat+1) * 2 ^ s.1.toNat
def bt (f:Int) (t:List UInt8) (cs:List (List Prt)) (s:Int×Int):List Prt:=BW f t cs (frS s:Int) (toS s:Int)
theorem St8.ft {f h k i:Nat} {s:Int×Int} (g:St8 f h s k i):frS s=i * 2 ^ k/\toS s=(i+1) * 2 ^ k/\f<=frS s/\frS s < toS s/\toS s<=h:=by
 have h1:=g.lo;have h2:=g.hi;have hp:0 < 2 ^ k:=Alp Z;have e1:frS s=i * 2 ^ k:=by unfold frS;rw [g.e];simp
 have e2:toS s=(i+1) * 2 ^ k:=by unfold toS;rw [g.e];simp
 rw [e1,e2];refine⟨rfl,rfl,h1,?_,h2⟩;rw [AlN];omega
theorem VM (f k:Nat):∀n,(skn f k n).Pairwise (λa c=>ky a < ky c)/\∀s∈skn f k n,64 * k<=ky s/\ky s < 64 * k+n
 | 0=>by simp [skn]
 | n+1=>by
  obtain ⟨h1,h2⟩:=VM f k n;rw [IU];by_cases h:f<=n * 2 ^ k
  .rw [AjS h];have e:ky ((k:Int),((n:Nat):Int))=64 * k+n:=by unfold ky;simp
   refine⟨?_,λs hs=>?_⟩
   .rw [Alv];refine⟨h1,Z,λa ha c hc=>?_⟩;rw [AjX.1 hc,e];exact(h2 a ha).2
   .rcases AjV.1 hs with hs | hs
    .have:=h2 s hs;omega
    .rw [AjX.1 hs,e];omega
  .rw [AjR h,Aj2];exact⟨h1,λs hs=>by have:=h2 s hs;omega⟩
theorem Wm {f h:Nat} (hh:h<=60):∀k,(stk f h k).Pairwise (λa c=>ky a < ky c)/\∀s∈stk f h k,ky s < 64 * k
 | 0=>by simp [stk]
 | k+1=>by
  obtain ⟨h1,h2⟩:=Wm (f:=f) hh k;obtain ⟨g1,g2⟩:=VM f k (h / 2 ^ k);have hd:=Al6 h (2 ^ k);unfold stk;refine⟨?_,λs hs=>?_⟩
  .rw [Alv];refine⟨h1,g1,λa ha c hc=>?_⟩;have:=h2 a ha;have:=(g2 c hc).1;omega
  .rcases AjV.1 hs with hs | hs
   .have:=h2 s hs;omega
   .have:=g2 s hs;omega
theorem Q3 {f h:Nat} (hh:h<=60):(sts f h).Pairwise (λa c=>ky a < ky c):=(Wm hh 6).1
theorem RK {f h:Nat} (hh:h<=60) {i:Nat} (hi:i < (sts f h).length) {s:Int×Int} (hs:s∈sts f h) (hk:ky s < ky (sts f h)[i]):s∈(sts f h).take i:=by
 obtain ⟨j,hj,rfl⟩:=Akq hs;have hp:=Q3 (f:=f) hh;rw [List.pairwise_iff_getElem]at hp;have:j < i:=by
  rcases Nat.lt_trichotomy j i with q | q | q
  .exact q
  .subst q;omega
  .have:=hp i j hi hj q;omega
 rw [List.mem_take_iff_getElem];exact⟨j,O,rfl⟩
def Pn (B:Int×Int->List Prt) (A:List (List Prt)) (L:List (Int×Int)):List (List Prt):=L.foldl (λA s=>A.set (ky s) (B s)) A
theorem WT (B:Int×Int->List Prt):∀(L:List (Int×Int)) (A:List (List Prt)),(Pn B A L).length=A.length
 | [],A=>rfl
 | s::L,A=>by
  show(Pn B (A.set (ky s) (B s)) L).length=_;rw [WT B L,AkQ]
theorem WG (B:Int×Int->List Prt):∀(L:List (Int×Int)) (A:List (List Prt)) (k:Nat),(∀s∈L,ky s≠k)->(Pn B A L)[k]?=A[k]?
 | [],A,k,_=>rfl
 | s::L,A,k,h=>by
  show(Pn B (A.set (ky s) (B s)) L)[k]?=_;rw [WG B L _ k (λc hc=>h c (by simp [hc])),List.getElem?_set_ne (h s Z)]
theorem PP (B:Int×Int->List Prt):∀(L:List (Int×Int)) (A:List (List Prt)),L.Pairwise (λa c=>ky a < ky c)->∀s∈L,ky s < A.length->(Pn B A L)[ky s]?=some (B s)
 | [],A,_,s,hs,_=>by cases hs
 | c::L,A,hp,s,hs,hl=>by
  rw [List.pairwise_cons]at hp;show(Pn B (A.set (ky c) (B c)) L)[ky s]?=_;rcases Aj5.1 hs with rfl | hs
  .rw [WG B L _ (ky s) (λd hd=>by have:=hp.1 d hd;omega),Alh hl]
  .exact PP B L _ hp.2 s hs (by rw [AkQ];exact hl)
def Gq (f:Int) (t:List UInt8) (cs:List (List Prt)) (L:List (Int×Int)):List (List Prt):=Pn (bt f t cs) (List.replicate 384 []) L
theorem AbU (f:Int) (t:List UInt8) (cs:List (List Prt)) (L:List (Int×Int)) (s:Int×Int):Gq f t cs (L++[s])=(Gq f t cs L).set (ky s) (bt f t cs s):=by
 unfold Gq Pn;rw [Alr];rfl
theorem Xk (f:Int) (t:List UInt8) (cs:List (List Prt)) (L:List (Int×Int)):(Gq f t cs L).length=384:=by unfold Gq;rw [WT,AkY]
theorem Yt {f:Nat} {t:List UInt8} {r:List Rn} {cs:List (List Prt)} (g:GH (f:Int) t r cs) {h:Nat} (hf:h=f+cs.length) (hh:h<=60) :
  Nz (f:Int) t r cs=some (Gq (f:Int) t cs (sts f h)):=by
 have hsl:=H3 (f:=f) hh;unfold Nz Pa cK cZ wI;rw [iy O,iy O,AjS AjK,AjM,w64 O O,show(f:Int)+(cs.length:Int)=(h:Int) by omega,NG hh,AjM];have hL:=An Hd (λi=>(Gq (f:Int) t cs ((sts f h).take i),sts f h,(((sts f h).length:Nat):Int),((i:Nat):Int),(f:Int),t,r,cs)) (sts f h).length (Gq (f:Int) t cs (sts f h)) (λi hi=>by
  obtain ⟨k,j,g8⟩:=Pf hi;obtain ⟨l1,l2,l3⟩:=g8.lt hh;obtain ⟨f1,f2,f3,f4,f5⟩:=g8.ft;have hk:=g8.hk;have hget:(sts f h)[i]?=some ((sts f h)[i]):=AjP hi;have hal:=Xk (f:Int) t cs ((sts f h).take i);unfold Hd cK cZ gX wI;dsimp only;rw [iy O,iy O,iy O,Ake,AjO,hget,AjM,AjM,Akd hi,AbU,l2];have ebt:bt (f:Int) t cs (sts f h)[i]=BW (f:Int) t cs ((j * 2 ^ k:Nat):Int) (((j+1) * 2 ^ k:Nat):Int):=by unfold bt;rw [f1,f2]
  rw [ebt];have hlo:=g8.lo;have hhi:=g8.hi;simp only [g8.e,Ake];by_cases h0:k=0
  .subst h0;rw [Nat.pow_zero,Nat.mul_one]at hlo hhi;rw [Nat.pow_zero,Nat.mul_one,Nat.mul_one];have h1:=QF g (a:=(j:Int)) O O;rw [iy O,w64 O O,iy O,h1,AjM,iy O,iy O,AjO,AjP (O:j < (Gq (f:Int) t cs ((sts f h).take i)).length),AjM,AjM,AjM];dsimp only;rw [Ak O,Nat.mul_zero,Ake,show(((j+1:Nat)):Int)=(j:Int)+1 by omega]
  .obtain ⟨k',rfl⟩:∃k',k=k' + 1:=⟨k - 1,O⟩
   have hpk:2 ^ (k' + 1)=2 * 2 ^ k':=by rw [Nat.pow_succ];omega
   have hp:0 < 2 ^ k':=Alp Z;have m1:j * 2 ^ (k' + 1)=(2 * j) * 2 ^ k':=by rw [hpk,<- Nat.mul_assoc,Nat.mul_comm j 2]
   have m2:(j+1) * 2 ^ (k' + 1)=(2 * j+1+1) * 2 ^ k':=by rw [hpk,<- Nat.mul_assoc,Nat.mul_comm (j+1) 2];congr 1
   have m3:(2 * j+1) * 2 ^ k'=(2 * j) * 2 ^ k' + 2 ^ k':=AlN _ _;have m4:(2 * j+1+1) * 2 ^ k'=(2 * j+1) * 2 ^ k' + 2 ^ k':=AlN _ _;rw [m1]at hlo;rw [m2]at hhi;have ga:St8 f h (((k':Nat):Int),((2 * j:Nat):Int)) k' (2 * j):=⟨rfl,O,hlo,O⟩
   have gb':St8 f h (((k':Nat):Int),((2 * j+1:Nat):Int)) k' (2 * j+1):=⟨rfl,O,O,hhi⟩
   obtain ⟨a1,a2,a3⟩:=ga.lt hh;obtain ⟨b1,b2,b3⟩:=gb'.lt hh;obtain ⟨fa1,fa2,_⟩:=ga.ft;obtain ⟨fb1,fb2,_⟩:=gb'.ft;generalize hU:2 * j * 2 ^ k'=U at *;generalize hV:(2 * j+1) * 2 ^ k'=V at *;generalize hW:(2 * j+1+1) * 2 ^ k'=W at *;have pw:=(Q3 (f:=f) hh).sublist (List.take_sublist i _);have ia:=PP (bt (f:Int) t cs) _ (List.replicate 384 []) pw _ (RK hh hi (sts_mem.2 ⟨_,_,ga⟩) (by rw [a2,l2];omega)) (by rw [AkY,a2];omega);have ib:=PP (bt (f:Int) t cs) _ (List.replicate 384 []) pw _ (RK hh hi (sts_mem.2 ⟨_,_,gb'⟩) (by rw [b2,l2];omega)) (by rw [AkY,b2];omega);rw [a2]at ia;rw [b2]at ib;have wk:IntKind.wrap .i64 (((k' + 1:Nat):Int) - 1)=((k':Nat):Int):=by rw [w64 O O];omega
   have wa:IntKind.wrap .i64 (IntKind.wrap .i64 (64 * ((k':Nat):Int))+IntKind.wrap .i64 (2 * (j:Int)))=((64 * k' + 2 * j:Nat):Int):=by
    rw [w64 (n:=64 * ((k':Nat):Int)) O O,w64 (n:=2 * (j:Int)) O O,w64 O O];omega
   have ga1:=IK g (a:=(U:Int)) (b:=(V:Int)) O O;have gb1:=IK g (a:=(V:Int)) (b:=(W:Int)) O O;have hcmp:=XT ga1.1 gb1.1 (by rw [ga1.2.2,gb1.2.1]);have eA:bt (f:Int) t cs (((k':Nat):Int),((2 * j:Nat):Int))=BW (f:Int) t cs (U:Int) (V:Int):=by unfold bt;rw [fa1,fa2]
   have eB:bt (f:Int) t cs (((k':Nat):Int),((2 * j+1:Nat):Int))=BW (f:Int) t cs (V:Int) (W:Int):=by unfold bt;rw [fb1,fb2]
   rw [eA]at ia;rw [eB]at ib;rw [ino O,JX hk O,AjM,wk,wa,iy (show(0:Int)<=((64 * k' + 2 * j:Nat):Int) by omega),iy (show((64 * k' + 2 * j:Nat):Int) < (((Gq (f:Int) t cs ((sts f h).take i)).length:Nat):Int) by omega),AjO,show(Gq (f:Int) t cs ((sts f h).take i))[64 * k' + 2 * j]?=_ from ia,AjM,Ak O,iy O,iy O,AjO,
    show(Gq (f:Int) t cs ((sts f h).take i))[64 * k' + 2 * j+1]?=_ from ib,AjM,hcmp,AjM,iy O,iy O,AjO,AjP (O:64 * (k' + 1)+j < (Gq (f:Int) t cs ((sts f h).take i)).length),AjM,AjM,AjM]
   dsimp only;rw [Ak O,m1,m2,Y0 g (a:=(U:Int)) (b:=(V:Int)) (c:=(W:Int)) O O O O]) (by
  unfold Hd cK cZ gX wI;dsimp only;rw [ino O,AkC])
 rw [show Ab Hd (List.replicate (Int.toNat 384) ([]:List Prt),sts f h,(((sts f h).length:Nat):Int),0,(f:Int),t,r,cs)=_ from hL];rfl
theorem AfD {f:Int} {t:List UInt8} {cs:List (List Prt)} {f' h:Nat} (hh:h<=60) {s:Int×Int} (hs:s∈sts f' h):(Gq f t cs (sts f' h))[ky s]?=some (bt f t cs s):=by
 obtain ⟨k,j,g⟩:=sts_mem.1 hs;obtain ⟨l1,l2,l3⟩:=g.lt hh;exact PP _ _ _ (Q3 hh) s hs (by rw [AkY];omega)
end Go.V.G
set_option maxRecDepth 100000
namespace Go.V.G
open Go.V
structure HD (t:List UInt8) (r:List Rn) (cs:List (List Prt)):Prop where
 ht:t.length<=130
 hr:r.length<=30
 hn:cs.length<=60
 hc:∀c∈cs,Sm 2000 c
theorem HD.hb {t:List UInt8} {r:List Rn} {cs:List (List Prt)} (h:HD t r cs):HB t r cs:=
 ⟨by have:=h.ht;omega,by have:=h.hr;omega,by have:=h.hn;omega,λc hc=>(h.hc c hc).mono O⟩
end Go.V.G
set_option maxRecDepth 100000
namespace Go.V.G
open Go.V
theorem Uw {l:List Rn} {i:Nat} (h:i < l.length):AL (l.take (i+1))=AL (l.take i)+l[i].2:=by
 rw [Akd h,Mc];simp [AL]
theorem Pt {l:List Rn} (hp:Pos l) (i:Nat):0<=AL (l.take i)/\AL (l.take i)<=AL l:=by
 have h2:AL l=AL (l.take i)+AL (l.drop i):=by rw [<- Mc,AkH]
 have h3:=DP (l:=l.drop i) λq hq=>hp q (AlV hq)
 have h4:=DP (l:=l.take i) λq hq=>hp q (Alo hq)
 omega
end Go.V.G
set_option maxRecDepth 100000
namespace Go.V.G
open Go.V
def CC:Nat->List Int->Option (List Prt)
 | 0,x=>if x=[]then some []else none
 | n+1,x=>match x with
  | []=>some []
  | [_]=>none
  | k::m::r=>
   if k=1 then(CC n r).map ((m,0,[]) :: ·)
   else if k=2 then(CC n r).map ((0,m,[]) :: ·)
   else if k=3/\m<=(r.length:Int)then(CC n (r.drop m.toNat)).map ((0,0,AF (r.take m.toNat)) :: ·)
   else none
theorem NX:∀n,CC n []=some []
 | 0=>rfl
 | _+1=>rfl
theorem P7:∀(n:Nat) (x:List Int) (c:List Prt),Byt x->CC n x=some c->c.length<=x.length/\BX c<=x.length/\∀p∈c,(0<=p.1/\p.1<=255)/\(0<=p.2.1/\p.2.1<=255)
 | 0,x,c,hb,h=>by
  unfold CC at h;split at h
  .injection h with h;subst h;simp [BX]
  .cases h
 | n+1,[],c,hb,h=>by
  rw [NX]at h;injection h with h;subst h;simp [BX]
 | n+1,[a],c,hb,h=>by simp [CC]at h
 | n+1,k::m::r,c,hb,h=>by
  have hm:=hb m Z;have hr:Byt r:=λv hv=>hb v (by simp [hv])
  simp only [CC]at h;split at h
  .obtain ⟨c',h1,rfl⟩:=AkO.1 h;obtain ⟨q1,q2,q3⟩:=P7 n r c' hr h1;refine⟨by simp only [Aj1];omega,by simp only [BX,Aj1,Akl]at q2 ⊢;omega,λp hp=>?_⟩;rcases Aj5.1 hp with rfl | hp
   .exact⟨hm,AjL⟩
   .exact q3 p hp
  .split at h
   .obtain ⟨c',h1,rfl⟩:=AkO.1 h;obtain ⟨q1,q2,q3⟩:=P7 n r c' hr h1;refine⟨by simp only [Aj1];omega,by simp only [BX,Aj1,Akl]at q2 ⊢;omega,λp hp=>?_⟩;rcases Aj5.1 hp with rfl | hp
    .exact⟨AjL,hm⟩
    .exact q3 p hp
   .split at h
    .rename_i h3;obtain ⟨c',h1,rfl⟩:=AkO.1 h;obtain ⟨q1,q2,q3⟩:=P7 n _ c' (λv hv=>hr v (AlV hv)) h1;rw [Akf]at q1 q2;have ht:(AF (r.take m.toNat)).length=m.toNat:=by unfold AF;rw [Akj,AjW];omega
     refine⟨by simp only [Aj1];omega,by simp only [BX,Aj1,ht]at q2 ⊢;omega,λp hp=>?_⟩;rcases Aj5.1 hp with rfl | hp
     .exact⟨AjL,AjL⟩
     .exact q3 p hp
    .cases h
theorem Z1 {n:Nat} {x:List Int} {c:List Prt} (hb:Byt x) (h:CC n x=some c):Sm x.length c:=by
 obtain ⟨q1,q2,q3⟩:=P7 n x c hb h;exact⟨q1,q2,λp hp=>by obtain ⟨⟨a,b⟩,c,d⟩:=q3 p hp;exact⟨by unfold I64;omega,by unfold I64;omega⟩⟩
theorem ZF {l:List Prt} (h:l.length<=1099511627776) (x:Prt):Aa (List.length l+List.length [x]) 32=true:=by simp [Aa];omega
theorem PO:∀(n:Nat) (rest:List Int) (acc:List Prt),rest.length<=n->Byt rest->n<=1000000000->n+acc.length<=1099511627776->
  Ab AA (rest,acc)=some (match CC n rest with | some c=>.inl (acc++c) | none=>.inr false)
 | n,[],acc,_,_,_,_=>by
  rw [Ar,NX];unfold AA cK gX sX;simp
 | 0,a::r,acc,h,_,_,_=>by simp at h
 | n+1,[a],acc,_,_,_,_=>by
  rw [Ar];unfold AA cK gX sX;simp [CC]
 | n+1,k::m::r,acc,h,hb,hn,ha=>by
  have hm:=hb m Z;have hr:Byt r:=λv hv=>hb v (by simp [hv])
  simp only [Aj1]at h;have hl2:¬ ((List.length (k::m::r):Int)) < 2:=by simp;omega
  have hl0:(0:Int) < ((List.length (k::m::r):Int)):=by simp;omega
  have hl3:(2:Int)<=((List.length (k::m::r):Int)):=by simp;omega
  have g0:(k::m::r)[Int.toNat 0]?=some k:=rfl;have g1:(k::m::r)[Int.toNat 1]?=some m:=rfl;have w:IntKind.wrap .i64 m=m:=w64 O O;have room:=ZF (O:acc.length<=1099511627776);have ih:=λp=>PO n r (acc++[p]) O hr O (by simp only [AjU,Aj1,Akl];omega)
  rw [Ar];by_cases k1:k=1
  .subst k1;have hs:AA (1::m::r,acc)=some (.inl (r,acc++[(m,0,[])])):=by
    unfold AA cK gX sX;dsimp only;rw [NA];simp only [hl0,hl2,hl3,g0,g1,decide_true,decide_false,Akh,Aj4,Aku,AjM,AkZ,show(0:Int)<=1 from by omega,show(0:Int)<=2 from by omega,w,room]
   rw [hs];dsimp only;rw [ih,CC];simp only [Akh];cases CC n r with
   | none=>rfl
   | some c=>simp
  .by_cases k2:k=2
   .subst k2;have hs:AA (2::m::r,acc)=some (.inl (r,acc++[(0,m,[])])):=by
     unfold AA cK gX sX;dsimp only;rw [NA];simp only [hl0,hl2,hl3,g0,g1,decide_true,decide_false,Akh,Aj4,Aku,AjM,AkZ,show(0:Int)<=1 from by omega,show(0:Int)<=2 from by omega,(O:¬ (2:Int)=1),w,room]
    rw [hs];dsimp only;rw [ih,CC];simp only [(O:¬ (2:Int)=1),Akh,Aku];cases CC n r with
    | none=>rfl
    | some c=>simp
   .by_cases k3:k=3/\m<=(r.length:Int)
    .obtain ⟨rfl,k4⟩:=k3;have tk:(List.drop (Int.toNat 0) r).take (Int.toNat m - Int.toNat 0)=r.take m.toNat:=rfl;have dr:(List.drop (Int.toNat m) r).take (Int.toNat (List.length r:Int) - Int.toNat m)=r.drop m.toNat:=AkA (by rw [Akf];omega);have hs:AA (3::m::r,acc)=some (.inl (r.drop m.toNat,acc++[(0,0,AF (r.take m.toNat))])):=by
      unfold AA cK gX sX;dsimp only;rw [NA];simp only [hl0,hl2,hl3,g0,g1,decide_true,decide_false,Akh,Aj4,Aku,AjM,AkZ,show(0:Int)<=1 from by omega,show(0:Int)<=2 from by omega,(O:¬ (3:Int)=1),(O:¬ (3:Int)=2),w,k4,hm.1,tk,dr,room]
     rw [hs];dsimp only;rw [PO n (r.drop m.toNat) _ (by rw [Akf];omega) (λv hv=>hr v (AlV hv)) O (by simp only [AjU,Aj1,Akl];omega),CC];simp only [k4,Akh,Aku,and_self,(O:¬ (3:Int)=1),(O:¬ (3:Int)=2)];cases CC n (r.drop m.toNat)with
     | none=>rfl
     | some c=>simp
    .have hs:AA (k::m::r,acc)=some (.inr (.inr false)):=by
      unfold AA cK gX sX;dsimp only;rw [NA];by_cases k3':k=3
      .subst k3';have:¬ m<=(r.length:Int):=λh=>k3 ⟨rfl,h⟩
       simp only [hl0,hl2,hl3,g0,g1,decide_true,decide_false,Akh,Aj4,Aku,AjM,AkZ,show(0:Int)<=1 from by omega,show(0:Int)<=2 from by omega,(O:¬ (3:Int)=1),(O:¬ (3:Int)=2),w,this]
      .simp only [hl0,hl2,hl3,g0,g1,k1,k2,k3',decide_true,decide_false,Akh,Aj4,Aku,AjM,AkZ,show(0:Int)<=1 from by omega,show(0:Int)<=2 from by omega,w]
     rw [hs,CC];simp only [k1,k2,k3,Aku]
def BQ (x:List Int):List Prt×Bool:=match CC x.length x with
 | some c=>if AG c=true then(c,true)else([],false)
 | none=>([],false)
theorem Rq (x:List Int):Sm 240 (BQ x).1:=by
 unfold BQ;split
 .split
  .rename_i h;exact C5 h
  .exact Sm.nil _
 .exact Sm.nil _
theorem Aap {x:List Int} (hb:Byt x) (hl:x.length<=1000000000):E4 x=some (BQ x):=by
 unfold E4 BQ;rw [PO x.length x [] (Akk _) hb hl AjJ];cases hd:CC x.length x with
 | none=>rfl
 | some c=>
  simp only [AjM,Akm];rw [OV (Z1 hb hd) O,AjM];cases hg:AG c <;> simp
theorem Ub {b:List Int} (hb:Byt b) (hl:b.length<=1000000000):∀(n:Nat) (pos:Nat) (acc:List Prt),pos<=b.length->b.length - pos<=n->acc.length<=500->
  Ab Bk (b,acc,(pos:Int))=some (match CC n (b.drop pos)with | some c=>if acc.length+c.length<=500 then .inl (acc++c)else .inr false | none=>.inr false)
 | n,pos,acc,hp,hn,ha=>by
  by_cases he:pos=b.length
  .subst he;rw [Ar,Alw,NX];unfold Bk cK gX sX wI;simp [ha]
  have hlt:pos < b.length:=O
  obtain ⟨n,rfl⟩:∃n',n=n' + 1:=⟨n - 1,O⟩
  have c0:(pos:Int) < (b.length:Int):=O
  have w1:IntKind.wrap .i64 ((pos:Int)+1)=((pos+1:Nat):Int):=by rw [w64 O O];omega
  by_cases he2:pos+1=b.length
  .have hd:b.drop pos=[b[pos]]:=by rw [Aks hlt,he2,Alw]
   have c1:(b.length:Int)<=((pos+1:Nat):Int):=O
   rw [Ar,hd];unfold Bk cK gX sX wI;simp only [w1,c0,c1,decide_true,Akh,CC]
  have hlt2:pos+1 < b.length:=O
  have hd:b.drop pos=b[pos]::b[pos+1]::b.drop (pos+2):=by rw [Aks hlt,Aks hlt2]
  have c1:¬ (b.length:Int)<=((pos+1:Nat):Int):=O
  have g1:b[Int.toNat ((pos+1:Nat):Int)]?=some b[pos+1]:=by rw [AjO];exact AjP hlt2
  have g0:b[Int.toNat (pos:Int)]?=some b[pos]:=by rw [AjO];exact AjP hlt
  have hm:=hb _ (Akc hlt2);have w:IntKind.wrap .i64 b[pos+1]=b[pos+1]:=w64 O O;have room:=ZF (O:acc.length<=1099511627776);have p0:(0:Int)<=(pos:Int):=O
  have p1:(0:Int)<=((pos+1:Nat):Int):=O
  have w2:IntKind.wrap .i64 ((pos:Int)+2)=((pos+2:Nat):Int):=by rw [w64 O O];omega
  have al:∀p:Prt,(List.length (acc++[p]):Int)=(acc.length:Int)+1:=λp=>by simp
  have nx:∀(p:Prt) (q:Nat),q<=b.length->b.length - q<=n->(if decide ((500:Int) < (List.length (acc++[p]):Int))=true then(some (.inr (.inr false)):Option ((List Int×(List Prt×Int))⊕(List Prt⊕Bool)))else some (.inl (b,acc++[p],(q:Int))))=Bk (b,acc,(pos:Int))->
    Ab Bk (b,acc,(pos:Int))=some (match (CC n (b.drop q)).map (p :: ·)with | some c=>if acc.length+c.length<=500 then .inl (acc++c)else .inr false | none=>.inr false):=by
   intro p q hq hqn hs;rw [Ar,<- hs];by_cases h5:acc.length+1<=500
   .have h5':¬ (500:Int) < (List.length (acc++[p]):Int):=by rw [al];omega
    rw [AjR (by simpa using h5')];dsimp only;rw [Ub hb hl n q (acc++[p]) hq hqn AjJ];cases CC n (b.drop q)with
    | none=>rfl
    | some c=>
     simp only [AkJ,AjU,Aj1,Akl,AjY,AkB,Akm,Ake,Ak4,Nat.add_comm 1]
   .have h5':(500:Int) < (List.length (acc++[p]):Int):=by rw [al];omega
    rw [AjS (by simpa using h5')];cases CC n (b.drop q)with
    | none=>rfl
    | some c=>
     have:¬ acc.length+(p::c).length<=500:=by simp only [Aj1];omega
     simp only [AkJ,this,Aku]
  rw [hd,CC];by_cases k1:b[pos]=1
  .simp only [k1,Akh];refine nx _ (pos+2) O O ?_;unfold Bk cK gX sX wI;simp only [w1,w2,w,c0,c1,g0,g1,p0,p1,k1,decide_true,decide_false,Akh,Aj4,Aku,AjM,room]
  .by_cases k2:b[pos]=2
   .simp only [k2,(O:¬ (2:Int)=1),Akh,Aku];refine nx _ (pos+2) O O ?_;unfold Bk cK gX sX wI;simp only [w1,w2,w,c0,c1,g0,g1,p0,p1,k2,decide_true,decide_false,Akh,Aj4,Aku,AjM,room,(O:¬ (2:Int)=1)]
   .by_cases k3:b[pos]=3
    .have w3:IntKind.wrap .i64 ((IntKind.wrap .i64 ((b.length:Int) - (pos:Int))) - 2)=((b.length - (pos+2):Nat):Int):=by rw [w64 (n:=(b.length:Int) - (pos:Int)) O O,w64 O O];omega
     have hdl:(b.drop (pos+2)).length=b.length - (pos+2):=Akf;by_cases k4:b[pos+1]<=((b.length - (pos+2):Nat):Int)
     .obtain ⟨m,hme⟩:=Akg hm.1;have k4':b[pos+1]<=(((b.drop (pos+2)).length:Nat):Int):=by rw [hdl];exact k4
      simp only [k3,k4',(O:¬ (3:Int)=1),(O:¬ (3:Int)=2),and_self,Akh,Aku,Al2];have hq:pos+2+b[pos+1].toNat<=b.length:=O
      refine nx _ (pos+2+b[pos+1].toNat) hq O ?_;have w4:IntKind.wrap .i64 (((pos+2:Nat):Int)+b[pos+1])=((pos+2+b[pos+1].toNat:Nat):Int):=by rw [w64 O O];omega
      have w5:IntKind.wrap .i64 ((pos:Int)+b[pos+1])=((pos+b[pos+1].toNat:Nat):Int):=by rw [w64 O O];omega
      have w6:IntKind.wrap .i64 (((pos+b[pos+1].toNat:Nat):Int)+2)=((pos+2+b[pos+1].toNat:Nat):Int):=by rw [w64 O O];omega
      have k5:¬ ((b.length - (pos+2):Nat):Int) < b[pos+1]:=O
      have i1:(0:Int)<=((pos+2:Nat):Int):=O
      have i2:((pos+2:Nat):Int)<=((pos+2+b[pos+1].toNat:Nat):Int):=O
      have i3:((pos+2+b[pos+1].toNat:Nat):Int)<=(b.length:Int):=O
      have tk:(List.drop (Int.toNat ((pos+2:Nat):Int)) b).take (Int.toNat ((pos+2+b[pos+1].toNat:Nat):Int) - Int.toNat ((pos+2:Nat):Int))=(b.drop (pos+2)).take b[pos+1].toNat:=by
       rw [AjO,AjO];congr 1;omega
      unfold Bk cK gX sX wI;simp only [w1,w2,w,w3,w4,w5,w6,c0,c1,g0,g1,p0,p1,k3,k5,i1,i2,i3,tk,decide_true,decide_false,Akh,Aj4,Aku,AjM,AkZ,room,(O:¬ (3:Int)=1),(O:¬ (3:Int)=2)]
     .have k4':¬ b[pos+1]<=(((b.drop (pos+2)).length:Nat):Int):=by rw [hdl];exact k4
      have k5:((b.length - (pos+2):Nat):Int) < b[pos+1]:=O
      simp only [k3,k4',(O:¬ (3:Int)=1),(O:¬ (3:Int)=2),and_false,Aku];rw [Ar];unfold Bk cK gX sX wI;simp only [w1,w2,w,w3,c0,c1,g0,g1,p0,p1,k3,k5,decide_true,decide_false,Akh,Aj4,Aku,AjM,(O:¬ (3:Int)=1),(O:¬ (3:Int)=2)]
    .simp only [k1,k2,k3,false_and,Aku];rw [Ar];unfold Bk cK gX sX wI;simp only [w1,w2,w,c0,c1,g0,g1,p0,p1,k1,k2,k3,decide_true,decide_false,Akh,Aj4,Aku,AjM]
theorem AfO {x:List Int} (hb:Byt x) (hl:x.length<=1000000000):Ig x=some (BQ x):=by
 unfold Ig BQ;have:=Ub hb hl x.length 0 [] (All _) Z Z;rw [AkR]at this;rw [show Ab Bk (x,[],0)=_ from this];cases hd:CC x.length x with
 | none=>rfl
 | some c=>
  simp only [Akl,Ake,Akm];by_cases h5:c.length<=500
  .rw [AjS h5];simp only [AjM];rw [LT (Z1 hb hd) O,AjM];cases hg:AG c <;> simp
  .rw [AjR h5];have hg:¬ AG c=true:=λh=>by have:=(C5 h).len;omega
   simp only [AjM,AjR hg]
end Go.V.G
set_option maxRecDepth 100000
namespace Go.V.G
open Go.V
theorem NV {l:List Rn} (h:AM l (AL l) 60=true):Pos l/\AL l<=120:=by
 obtain ⟨⟨q1,_⟩,_,q4⟩:=goodRuns_iff.1 h;exact⟨q4.pos,q1.2⟩
theorem Ur {l:List Rn} (hl:l.length<=1000000000):∀(n i:Nat),i+n=l.length->(∀q∈l.take i,1<=q.2)->AL (l.take i)<=240->
  Ab Ch (l,AL (l.take i),l,(l.length:Int),(i:Int))=some (.inl (l,AL l))\/(Ab Ch (l,AL (l.take i),l,(l.length:Int),(i:Int))=some (.inr false)/\AM l (AL l) 60=false)
 | 0,i,hi,hp,hs=>by
  left;obtain rfl:i=l.length:=O
  rw [Ar];unfold Ch gX wI;dsimp only;rw [AjR Z,AkC]
 | n+1,i,hi,hp,hs=>by
  have hlt:i < l.length:=O
  have h0:0<=AL (l.take i):=DP hp;have e1:=Uw hlt;have c0:(i:Int) < (l.length:Int):=O
  have hge:l[Int.toNat (i:Int)]?=some l[i]:=by rw [AjO];exact AjP hlt
  have p0:(0:Int)<=(i:Int):=O
  have bad:(¬ (1<=l[i].2/\l[i].2<=120)\/120 < AL (l.take i))->AM l (AL l) 60=false:=by
   intro h;cases hg:AM l (AL l) 60 with
   | false=>rfl
   | true=>
    obtain ⟨g1,g2⟩:=NV hg;have h1:=g1 _ (Akc hlt);have h2:=V8 g1 _ (Akc hlt);have h3:=Pt g1 i;omega
  by_cases h1:1<=l[i].2/\l[i].2<=120
  .by_cases h2:120 < AL (l.take i)
   .right;refine⟨?_,bad (.inr h2)⟩;rw [Ar];unfold Ch gX wI;simp only [c0,p0,hge,decide_true,Akh,AjM,AH,h1,and_self,h2,AkF,Aj4,Aku]
   .have w:IntKind.wrap .i64 (AL (l.take i)+l[i].2)=AL (l.take (i+1)):=by rw [w64 O O,e1]
    have hs':Ch (l,AL (l.take i),l,(l.length:Int),(i:Int))=some (.inl (l,AL (l.take (i+1)),l,(l.length:Int),((i+1:Nat):Int))):=by
     unfold Ch gX wI;simp only [c0,p0,hge,decide_true,decide_false,Akh,AjM,AH,h1,and_self,h2,AkF,Aj4,Aku,w,Ax (O:l.length<=1099511627776) hlt]
    rw [Ar,hs'];exact Ur hl n (i+1) O (λq hq=>by
     rw [Akd hlt]at hq;rcases AjV.1 hq with hq | hq
     .exact hp q hq
     .rw [AjX.1 hq];exact h1.1) O
  .right;refine⟨?_,bad (.inl h1)⟩;rw [Ar];unfold Ch gX wI;simp only [c0,p0,hge,decide_true,Akh,AjM,AH,h1,decide_false,AlH]
theorem Vt {l:List Rn} (hl:l.length<=1000000000):Iw l=some (AM l (AL l) 60):=by
 unfold Iw;rcases Ur hl l.length 0 O Z (by simp [AL])with h | ⟨h,h2⟩
 .rw [show Ab Ch (l,0,l,(l.length:Int),0)=_ from h,AjM];dsimp only;rw [Ov O];rfl
 .rw [show Ab Ch (l,0,l,(l.length:Int),0)=_ from h,AjM,h2]
theorem Xa {l:List Rn} (hl:l.length<=1000000000):∀(n i:Nat),i+n=l.length->(∀q∈l.take i,1<=q.2)->AL (l.take i)<=120->
  (Ab DN (AL (l.take i),l,(l.length:Int),(i:Int))=some (.inl (AL l))/\0<=AL l)\/(Ab DN (AL (l.take i),l,(l.length:Int),(i:Int))=some (.inr (-1))/\AM l (AL l) 60=false)
 | 0,i,hi,hp,hs=>by
  left;obtain rfl:i=l.length:=O
  have h0:0<=AL (l.take l.length):=DP hp;rw [AkC]at h0 ⊢;refine⟨?_,h0⟩;rw [Ar];unfold DN gX wI;dsimp only;rw [AjR Z]
 | n+1,i,hi,hp,hs=>by
  have hlt:i < l.length:=O
  have h0:0<=AL (l.take i):=DP hp;have e1:=Uw hlt;have c0:(i:Int) < (l.length:Int):=O
  have hge:l[Int.toNat (i:Int)]?=some l[i]:=by rw [AjO];exact AjP hlt
  have p0:(0:Int)<=(i:Int):=O
  have w0:IntKind.wrap .i64 (120 - AL (l.take i))=120 - AL (l.take i):=w64 O O;by_cases h1:1<=l[i].2/\l[i].2<=120 - AL (l.take i)
  .have w:IntKind.wrap .i64 (AL (l.take i)+l[i].2)=AL (l.take (i+1)):=by rw [w64 O O,e1]
   have hs':DN (AL (l.take i),l,(l.length:Int),(i:Int))=some (.inl (AL (l.take (i+1)),l,(l.length:Int),((i+1:Nat):Int))):=by
    unfold DN gX wI;simp only [c0,p0,hge,decide_true,decide_false,Akh,AjM,Ca,w0,h1,and_self,AkF,Aj4,Aku,w,Ax (O:l.length<=1099511627776) hlt]
   rw [Ar,hs'];exact Xa hl n (i+1) O (λq hq=>by
    rw [Akd hlt]at hq;rcases AjV.1 hq with hq | hq
    .exact hp q hq
    .rw [AjX.1 hq];exact h1.1) O
  .right;refine⟨?_,?_⟩
   .rw [Ar];unfold DN gX wI;simp only [c0,p0,hge,decide_true,Akh,AjM,Ca,w0,h1,decide_false,AlH]
   .cases hg:AM l (AL l) 60 with
    | false=>rfl
    | true=>
     obtain ⟨g1,g2⟩:=NV hg;have h1:=g1 _ (Akc hlt);have h3:=Pt g1 (i+1);omega
theorem YB {l:List Rn} (hl:l.length<=1000000000):Nm l=some (AM l (AL l) 60):=by
 unfold Nm TK;rcases Xa hl l.length 0 O Z (by simp [AL])with⟨h,h2⟩ | ⟨h,h2⟩
 .rw [show Ab DN (0,l,(l.length:Int),0)=_ from h];simp only [AjM,h2,decide_true,Akh];rw [On O];rfl
 .rw [show Ab DN (0,l,(l.length:Int),0)=_ from h,h2];rfl
theorem KM:∀(xs:List Int),(Bx xs).length=xs.length / 2
 | []=>rfl
 | [a]=>by simp [Bx]
 | a::b::xs=>by
  have:=KM xs;simp only [Bx,Aj1];omega
theorem Ac1:∀(xs:List Int) (i:Nat) (h:2 * i+1 < xs.length),(Bx xs)[i]?=some (xs[2 * i],xs[2 * i+1])
 | [],i,h=>by simp at h
 | [a],i,h=>by simp at h
 | a::b::xs,0,h=>rfl
 | a::b::xs,i+1,h=>by
  simp only [Aj1]at h;have:=Ac1 xs i O;simp only [Bx,AkU,this];rfl
def rdR (x:List Int):List Rn×Bool:=if x.length % 2=0/\AM (Bx x) (AL (Bx x)) 60=true then(Bx x,true)else([],false)
theorem AiN {x:List Int} (hb:Byt x) (hl:x.length<=1048576):GV x=some (rdR x):=by
 unfold GV rdR;rw [AjS ⟨hl,hb⟩];by_cases h:x.length % 2=0
 .rw [AjS h,Vt (by rw [KM];omega),AjM];cases AM (Bx x) (AL (Bx x)) 60 <;> simp [h]
 .rw [AjR h,AjR (λq=>h q.1)]
theorem Aix {x:List Int} (hb:Byt x) (hl:x.length<=1048576):J7 x=some (rdR x):=by
 unfold J7 cK;have hm:Int.tmod (x.length:Int) 2=((x.length % 2:Nat):Int):=by rw [Aln O];omega
 rw [hm];by_cases h:x.length % 2=0
 .by_cases h2:240 < x.length
  .have hg:¬ AM (Bx x) (AL (Bx x)) 60=true:=λhg=>by
    obtain ⟨g1,g2⟩:=NV hg;have:=MZ g1;rw [KM]at this;omega
   have hr:rdR x=([],false):=AjR (λq=>hg q.2);rw [hr];have h3:(240:Int) < (x.length:Int):=O
   simp [h,h3]
  .have h3:¬ (240:Int) < (x.length:Int):=O
   have hloop:=An FH (λi=>(x,(Bx x).take i,((2 * i:Nat):Int))) (x.length / 2) (Bx x) (λi hi=>by
    have c0:((2 * i:Nat):Int) < (x.length:Int):=O
    have i1:2 * i < x.length:=O
    have i2:2 * i+1 < x.length:=O
    have g0:x[Int.toNat ((2 * i:Nat):Int)]?=some x[2 * i]:=by rw [AjO];exact AjP i1
    have w1:IntKind.wrap .i64 (((2 * i:Nat):Int)+1)=((2 * i+1:Nat):Int):=by rw [w64 O O];omega
    have w2:IntKind.wrap .i64 (((2 * i:Nat):Int)+2)=((2 * (i+1):Nat):Int):=by rw [w64 O O];omega
    have g1:x[Int.toNat ((2 * i+1:Nat):Int)]?=some x[2 * i+1]:=by rw [AjO];exact AjP i2
    have b0:=hb _ (Akc i1);have b1:=hb _ (Akc i2);have w3:IntKind.wrap .i64 x[2 * i]=x[2 * i]:=w64 O O;have w4:IntKind.wrap .i64 x[2 * i+1]=x[2 * i+1]:=w64 O O;have hpl:i < (Bx x).length:=by rw [KM];exact hi
    have hpg:=Ac1 x i i2;have ht:(Bx x).take (i+1)=(Bx x).take i++[(x[2 * i],x[2 * i+1])]:=by
     rw [List.take_add_one,hpg];rfl
    unfold FH cK gX wI;simp only [c0,w1,w2,w3,w4,g0,g1,decide_true,Akh,AjM,show(0:Int)<=((2 * i:Nat):Int) from by omega,show(0:Int)<=((2 * i+1:Nat):Int) from by omega,ht,
     show Aa (List.length ((Bx x).take i)+List.length ([(x[2 * i],x[2 * i+1])]:List (Int×Int))) 16=true from Afb (by rw [AjW,KM];simp;omega) O]) (by
    have c0:¬ ((2 * (x.length / 2):Nat):Int) < (x.length:Int):=O
    unfold FH cK gX wI;simp only [c0,decide_false,Aj4,Aku];rw [AkA (by rw [KM];exact Akk _)])
   have hl0:Ab FH (x,[],0)=some (Bx x):=by simpa using hloop
   simp only [h,h3,(O:¬ (2:Int)=0),not_false_eq_true,decide_true,decide_false,Akh,Aj4,Aku,AjM,hl0,(O:¬ (((0:Nat):Int))=1)];rw [YB (by rw [KM];omega),AjM];unfold rdR;cases AM (Bx x) (AL (Bx x)) 60 <;> simp [h]
 .have h1:x.length % 2=1:=O
  have hr:rdR x=([],false):=AjR (λq=>h q.1);rw [hr];simp [h1]
theorem ZR (x:List Int):(rdR x).1.length<=120:=by
 unfold rdR;split
 .rename_i h;obtain ⟨g1,g2⟩:=NV h.2;have:=MZ g1;dsimp only;omega
 .simp
def be (x:List Int):Int:=x.foldl (λa b=>a * 256+b) 0
end Go.V.G
set_option maxRecDepth 100000
namespace Go.V.G
open Go.V
theorem whl {σ τ:Type} (L:σ->Option (σ⊕τ)) (st:Nat->σ) (fin:Nat->τ) (ok:Nat->Bool) (n:Nat)
  (step:∀j,j < n->ok j=true->L (st j)=some (.inl (st (j+1)))) (stop:∀j,j<=n->(j=n\/ok j=false)->L (st j)=some (.inr (fin j))) :
  ∃j,j<=n/\(j=n\/ok j=false)/\Ab L (st 0)=some (fin j):=by
 have:∀d,d<=n->∃j,j<=n/\(j=n\/ok j=false)/\Ab L (st (n - d))=some (fin j):=by
  intro d
  induction d with
  | zero=>intro _;exact⟨n,Akk _,.inl rfl,by rw [Ar,AlD,stop n (Akk _) (.inl rfl)]⟩
  | succ d ih=>
   intro hd;by_cases h:ok (n - (d+1))=true
   .obtain ⟨j,h1,h2,h3⟩:=ih O;refine⟨j,h1,h2,?_⟩;rw [Ar,step _ O h];rw [(O:n - d=n - (d+1)+1)]at h3;exact h3
   .have h':ok (n - (d+1))=false:=by simpa using h
    exact⟨n - (d+1),O,.inr h',by rw [Ar,stop _ O (.inr h')]⟩
 have h:=this n (Akk _);rw [AlE]at h;exact h
theorem Ahb {b:Bls} (hu:∀c∈b,U8s c) (a:Int):∀v∈rcO b a,0<=v/\v<=255:=by
 intro v hv;unfold rcO at hv;have hv:=AlV (Alo hv);by_cases h:a.toNat < b.length
 .exact hu _ (BA h) v hv
 .unfold blk at hv;rw [Aka O]at hv;cases hv
theorem Ac5 {b:Bls} {x y:List Int} (hu:∀c∈b,U8s c):∀(f:Nat) (a:Int) (d ch:List Int) {p:List Int×List Int},(∀v∈d,0<=v/\v<=255)->rcN b x y f a d ch=some p->∀v∈p.1,0<=v/\v<=255
 | 0,_,_,_,p,_,h=>by cases h
 | f+1,a,d,ch,p,hd,h=>by
  have hd':∀v∈d++rcO b a,0<=v/\v<=255:=λv hv=>by
   rcases AjV.1 hv with hv | hv
   .exact hd v hv
   .exact Ahb hu a v hv
  unfold rcN at h;split at h
  .split at h
   .injection h with h;subst h;exact hd'
   .exact Ac5 hu f _ _ _ hd' h
  .cases h
theorem KC {b:Bls} {x y:List Int} (g:RS b x y) (top:List Int) (k:Nat):Byt (rkd b x y top k):=by
 intro v hv;unfold rkd rcA at hv;split at hv
 .rename_i p hp;exact Ac5 g.hu _ _ _ _ Z hp v hv
 .cases hv
theorem Abg {b:Bls} {top:List Int} (a1 a2 a3 a4 a5:Int) (b':Bls) (x y z:List Int) (f:Int) (t:List UInt8) (r:List (Int×Int)) (cs:List (List Prt)) (rc:List Int) {k:Nat} (hk:k < 1024) :
  DK a1 a2 a3 a4 a5 b' x y z (ksT b top 1024) f t r cs rc (k:Int)=some (vl b top k):=by
 have:=Qb b top 1024;rw [Aev O,AgH b top hk]
theorem Ae1 {i:Nat} (hi:i < 64):FS 0 (i:Int)=some (i:Int):=by
 have:=JX (k:=0) (i:=i) O hi;rw [Nat.mul_zero,Ake]at this;exact this
def tpc (b:Bls) (x y:List Int) (a:Int):List Int:=(ptx b x y a).getD []
def tcl (b:Bls) (x y:List Int) (a:Int):List Int:=if(ptx b x y a).isSome=true then [a]else []
def tok (b:Bls) (x y:List Int) (a:Int):Bool:=(ptx b x y a).isSome
def ttx (b:Bls) (x y:List Int) (a:Int):List UInt8:=(tin b x y a).1
def btx (b:Bls) (x y:List Int) (P bl:List Int) (a:Int):List Int:=match ptx b x y a with
 | some l=>bpn P (bl++[a]) l l.length
 | none=>bl
theorem RV (b:Bls) (x y:List Int) (a:Int):(tpc b x y a).length<=3/\(tcl b x y a).length<=1/\(ttx b x y a).length<=120:=by
 unfold tpc tcl ttx tin;cases h:ptx b x y a with
 | none=>simp
 | some l=>
  obtain ⟨⟨hall,_,hlen⟩,_⟩:=IE h;have:=RI hall;simp;omega
theorem Ag2 {b:Bls} {x y z:List Int} (g:RS b x y) (a:Int) {P C:List Int} (hC:C.length<=90000) (hP:P.length<=90000) (fn:Bool) (rs:List Int) :
  BF a b x y z rs (srt C) (mny b.length P) (okb fn C)=some (ttx b x y a,b,x,y,z,rs,srt (C++tcl b x y a),mny b.length (P++tpc b x y a),okb (fn && tok b x y a) (C++tcl b x y a)):=by
 unfold ttx tcl tpc tok tin;cases h:ptx b x y a with
 | none=>
  rw [WX g h];simp [okb]
 | some l=>
  rw [WH g h hC hP];simp
theorem Ahx {b:Bls} {x y z:List Int} (g:RS b x y) (a:Int) {P bl:List Int} (hbl:bl.length<=90000) (hP:P.length<=90000) (fn:Bool) (ks rs:List Int) (d:Bls) (a1:Int) (a2:Bool) (a3 a4 a5 a6 a7 a8:Int) :
  Bj a ks bl rs (bd fn bl) d a1 a2 a3 a4 a5 a6 a7 a8 b x y z (std P) =
   some (ttx b x y a,ks,btx b x y P bl a,rs,bd (fn && tok b x y a) (btx b x y P bl a),d,a1,a2,a3,a4,a5,a6,a7,a8,b,x,y,z,std (P++tpc b x y a)):=by
 unfold ttx tpc tok btx tin;cases h:ptx b x y a with
 | none=>
  rw [VP g h];simp [bd]
 | some l=>
  rw [XL g h hbl hP];simp
theorem ZJ {b:Bls} {x y C P bl:List Int} (h:Led C P bl) (a:Int):Led (C++tcl b x y a) (P++tpc b x y a) (btx b x y P bl a):=by
 unfold tcl tpc btx;cases hp:ptx b x y a with
 | none=>simpa using h
 | some l=>
  have:=ZZ (l:=l) (h.claim a) l.length (Akk _);rw [AkC]at this;simpa using this
theorem ZX (b:Bls) (x y P bl:List Int) (a:Int):(btx b x y P bl a).length<=bl.length+4:=by
 unfold btx;split
 .rename_i l hp;obtain ⟨⟨_,_,hlen⟩,_⟩:=IE hp;have:=TQ P (bl++[a]) l l.length;rw [AjU,AjZ]at this;omega
 .omega
section
variable {F H E R T:Int} {b:Bls} {x y z top:List Int}
theorem Aiy {ks:List Kv} {w:List Int} (hl:ks.length=w.length) (hk:ks.length<=100000) (pg:List Int) :
  Ab EN (ks,pg,w,(ks.length:Int),0,0,0,0,0,0,0,[],F,H,E,R,T,b,x,y,z)=some (if ks.map (·.1)=w then .inl (ks,pg,0,0,0,0,0,0,[],F,H,E,R,T,b,x,y,z)else .inr (false,0,0,0,0,0,0,[])):=by
 have h:=H0 EN (λi=>(ks,pg,w,(ks.length:Int),((i:Nat):Int),0,0,0,0,0,0,[],F,H,E,R,T,b,x,y,z)) (λi=>decide ((sg ks i).1=gb w i)) (false,0,0,0,0,0,0,[]) (ks,pg,0,0,0,0,0,0,[],F,H,E,R,T,b,x,y,z) ks.length (λi hi=>by
  unfold EN cK cZ wI;dsimp only;rw [iy O,iy O,iy O,Ake,AjO,I7 hi,AjM,AjM,iy O,iy O,Ai O,AjM];by_cases hq:(sg ks i).1=gb w i
  .rw [ino (not_not_intro hq),decide_eq_true hq,AjS rfl,Ak O]
  .rw [iy hq,decide_eq_false hq,AjR Z]) (by
  unfold EN cK cZ wI;dsimp only;rw [ino O])
 rw [show Ab EN (ks,pg,w,(ks.length:Int),0,0,0,0,0,0,0,[],F,H,E,R,T,b,x,y,z)=_ from h];have e:((List.range ks.length).all λi=>decide ((sg ks i).1=gb w i))=decide (ks.map (·.1)=w):=by
  rw [AlJ,all_range,decide_eq_true_eq];constructor
  .intro q;refine AkK λi=>?_
   by_cases hi:i < ks.length
   .have:=q i hi;simp only [decide_eq_true_eq]at this;rw [Akr,I7 hi,Ai O,<- this];rfl
   .rw [Aka AjJ,Aka O]
  .rintro q i hi;have h1:(ks.map (·.1))[i]?=w[i]?:=by rw [q]
   rw [Akr,I7 hi,Ai O]at h1;injection h1 with h1
   exact decide_eq_true h1
 rw [e];by_cases hq:ks.map (·.1)=w <;> simp [hq]
def lod (b:Bls) (x y top:List Int) (f j:Nat):List (List Int):=(List.range j).map λi=>rkd b x y top (f+i)
def Ci (b:Bls) (x y top:List Int) (f j:Nat):List Int:=(List.range j).flatMap λi=>rkc b x y top (f+i)
def loo (b:Bls) (x y top:List Int) (f j:Nat):Bool:=(List.range j).all λi=>rko b x y top (f+i) && (BQ (rkd b x y top (f+i))).2
theorem Ae4 (b:Bls) (x y top:List Int) (f j:Nat):lod b x y top f (j+1)=lod b x y top f j++[rkd b x y top (f+j)]:=by unfold lod;rw [Nw]
theorem Rv (b:Bls) (x y top:List Int) (f j:Nat):Ci b x y top f (j+1)=Ci b x y top f j++rkc b x y top (f+j):=by unfold Ci;rw [Alu,Ak6];simp
theorem WE (b:Bls) (x y top:List Int) (f j:Nat):loo b x y top f (j+1)=(loo b x y top f j && (rko b x y top (f+j) && (BQ (rkd b x y top (f+j))).2)):=by unfold loo;rw [Alu,List.all_append];simp
theorem Td (b:Bls) (x y top:List Int) (f:Nat):∀j,(Ci b x y top f j).length<=10 * j
 | 0=>by simp [Ci]
 | j+1=>by
  have h1:=Td b x y top f j;have h2:=(Hg b x y top (f+j)).1;rw [Rv,AjU];omega
def chC (l:List (List Int)):List (List Prt):=l.map λc=>(BQ c).1
theorem Aet (l:List (List Int)) (c:List Int):chC (l++[c])=chC l++[(BQ c).1]:=by unfold chC;rw [Akv];rfl
theorem AiA (h:SB b x y z) (g:RS b x y) {f hd:Nat} (hf:f<=hd) (hh:hd<=60) {C rs m:List Int} (hC:C.length<=80000) (fn:Bool) (t:List UInt8) (r:List Rn) :
  ∃j,j<=hd - f/\(j=hd - f\/okb (fn && loo b x y top f j) (C++Ci b x y top f j)=false)/\
   Ab Gf ((f:Int),0,0,0,0,0,0,[],(f:Int),(hd:Int),E,R,T,b,x,y,z,(f:Int),(hd:Int),E,R,T,b,x,y,z,ksT b top 1024,0,[],(f:Int),t,r,[],b,x,y,z,rs,srt C,m,okb fn C) =
    some (0,0,0,0,0,0,[],(f:Int),(hd:Int),E,R,T,b,x,y,z,(f:Int),(hd:Int),E,R,T,b,x,y,z,ksT b top 1024,0,[],(f:Int),t,r,chC (lod b x y top f j),b,x,y,z,rs,srt (C++Ci b x y top f j),m,okb (fn && loo b x y top f j) (C++Ci b x y top f j)):=by
 have hw:=whl Gf (λj=>(((f+j:Nat):Int),0,0,0,0,0,0,[],(f:Int),(hd:Int),E,R,T,b,x,y,z,(f:Int),(hd:Int),E,R,T,b,x,y,z,ksT b top 1024,0,[],(f:Int),t,r,chC (lod b x y top f j),b,x,y,z,rs,srt (C++Ci b x y top f j),m,okb (fn && loo b x y top f j) (C++Ci b x y top f j)))
  (λj=>(0,0,0,0,0,0,[],(f:Int),(hd:Int),E,R,T,b,x,y,z,(f:Int),(hd:Int),E,R,T,b,x,y,z,ksT b top 1024,0,[],(f:Int),t,r,chC (lod b x y top f j),b,x,y,z,rs,srt (C++Ci b x y top f j),m,okb (fn && loo b x y top f j) (C++Ci b x y top f j)))
  (λj=>okb (fn && loo b x y top f j) (C++Ci b x y top f j)) (hd - f) (λj hj hok=>by
   have hll:=Td b x y top f j;have hk:=Hg b x y top (f+j);have hr:=Pv (z:=z) (top:=top) h g (C:=C++Ci b x y top f j) (by rw [AjU];omega) (k:=f+j) (fn && loo b x y top f j) rs m;have hcl:(chC (lod b x y top f j)).length=j:=by unfold chC lod;simp
   unfold Gf cK wI;dsimp only;rw [iy O,AjM];dsimp only;rw [hok]at hr ⊢;rw [AjS rfl,Ae1 O,AjM,Abg _ _ _ _ _ _ _ _ _ _ _ _ _ _ O,AjM,hr,AjM];dsimp only;rw [AfO (KC g top (f+j)) O,AjM,Rv,WE,Ae4,Aet,<- AjY];have hb:(if okb (fn && loo b x y top f j && rko b x y top (f+j)) (C++Ci b x y top f j++rkc b x y top (f+j))=true then(BQ (rkd b x y top (f+j))).2 else false)=okb (fn && (loo b x y top f j && (rko b x y top (f+j) && (BQ (rkd b x y top (f+j))).2))) (C++Ci b x y top f j++rkc b x y top (f+j)):=by
    unfold okb;cases fn <;> cases loo b x y top f j <;> cases rko b x y top (f+j) <;> cases ndb (C++Ci b x y top f j++rkc b x y top (f+j)) <;> cases (BQ (rkd b x y top (f+j))).2 <;> rfl
   have hro:Aa ((chC (lod b x y top f j)).length+([(BQ (rkd b x y top (f+j))).1]:List (List Prt)).length) 24=true:=by simp only [Aa,decide_eq_true_eq,AjZ];omega
   rw [<- hb];by_cases hq:okb (fn && loo b x y top f j && rko b x y top (f+j)) (C++Ci b x y top f j++rkc b x y top (f+j))=true
   .rw [AjS hq,AjS hq,AjM];dsimp only;rw [AjS hro,Ak O];rfl
   .rw [AjR hq,AjR hq,AjM];dsimp only;rw [AjS hro,Ak O];rfl) (λj hj hok=>by
   unfold Gf cK wI;dsimp only;by_cases hlt:j < hd - f
   .rw [iy O,AjM];dsimp only;rcases hok with hok | hok
    .omega
    .rw [hok,AjR Z]
   .rw [ino O,AjM];dsimp only;rw [AjR Z])
 obtain ⟨j,h1,h2,h3⟩:=hw;refine⟨j,h1,h2,?_⟩;have e0:lod b x y top f 0=[]:=rfl;have e1:Ci b x y top f 0=[]:=rfl;have e2:loo b x y top f 0=true:=rfl;rw [e0,e1,e2,Aj2,Alm]at h3;exact h3
end
end Go.V.G
set_option maxRecDepth 100000
namespace Go.V.G
open Go.V
def upk (L:List (Int×Int)):List (Int×Int):=L.filter λs=>decide (0 < s.1)
def upc (b:Bls) (x y top:List Int) (L:List (Int×Int)):List Int:=(upk L).flatMap λs=>rkc b x y top (ky s)
def upo (b:Bls) (x y top:List Int) (L:List (Int×Int)):Bool:=(upk L).all λs=>rko b x y top (ky s)
theorem Xb (L:List (Int×Int)) (s:Int×Int):upk (L++[s])=upk L++(if 0 < s.1 then [s]else []):=by
 unfold upk;rw [Ali];by_cases h:0 < s.1 <;> simp [h]
theorem AdG (b:Bls) (x y top:List Int) (L:List (Int×Int)) (s:Int×Int):upc b x y top (L++[s])=upc b x y top L++(if 0 < s.1 then rkc b x y top (ky s)else []):=by
 unfold upc;rw [Xb,Ak6];by_cases h:0 < s.1 <;> simp [h]
theorem Ad4 (b:Bls) (x y top:List Int) (L:List (Int×Int)) (s:Int×Int):upo b x y top (L++[s])=(upo b x y top L && (if 0 < s.1 then rko b x y top (ky s)else true)):=by
 unfold upo;rw [Xb,List.all_append];by_cases h:0 < s.1 <;> simp [h]
theorem Z9 (b:Bls) (x y top:List Int) (L:List (Int×Int)):(upc b x y top L).length<=10 * L.length:=by
 unfold upc;have h1:(upk L).length<=L.length:=Ak5 _ _;have h2:∀M:List (Int×Int),(M.flatMap λs=>rkc b x y top (ky s)).length<=10 * M.length:=by
  intro M
  induction M with
  | nil=>simp
  | cons s M ih=>
   have:=(Hg b x y top (ky s)).1;rw [Ak9,AjU,Aj1];omega
 have:=h2 (upk L);omega
def upe (b:Bls) (x y top:List Int) (f:Int) (t:List UInt8) (cs:List (List Prt)) (s:Int×Int):Bool:=!decide (0 < s.1) || (AF (rkd b x y top (ky s)) == AF (enc (bt f t cs s)))
def ckc (b:Bls) (x y top:List Int) (l:List Nat):List Int:=l.flatMap λr=>tcl b x y (vl b top (384+r))
def ckp (b:Bls) (x y top:List Int) (l:List Nat):List Int:=l.flatMap λr=>tpc b x y (vl b top (384+r))
def cko (b:Bls) (x y top:List Int) (l:List Nat):Bool:=l.all λr=>tok b x y (vl b top (384+r))
def cke (b:Bls) (x y top:List Int) (f:Nat) (t:List UInt8) (cs:List (List Prt)) (r:Nat):Bool:=ttx b x y (vl b top (384+r)) == txt t (cs.take (r - f))
theorem Qn (b:Bls) (x y top:List Int):∀l:List Nat,(ckc b x y top l).length<=l.length/\(ckp b x y top l).length<=3 * l.length
 | []=>by simp [ckc,ckp]
 | r::l=>by
  have h1:=Qn b x y top l;have h2:=RV b x y (vl b top (384+r));unfold ckc ckp at *;rw [Ak9,Ak9,AjU,AjU,Aj1];omega
def pcn (P:List Int) (n:Nat):List Int:=((List.range n).filter λk=>decide (0 < P.count ((k:Nat):Int))).map λk=>((k:Nat):Int)
theorem AdU (P:List Int) (n:Nat):pcn P (n+1)=pcn P n++(if 0 < P.count (n:Int)then [(n:Int)]else []):=by
 unfold pcn;rw [Alu,Ali,Akv];by_cases h:0 < P.count (n:Int)
 .rw [AjS h,List.filter_cons,AjS (decide_eq_true h)];rfl
 .rw [AjR h,List.filter_cons,AjR (by rw [decide_eq_false h];simp)];rfl
theorem Aht (P:List Int) (n:Nat):∀v∈pcn P n,v < (n:Int):=by
 intro v hv;unfold pcn at hv;simp only [Aj9,AlC,Als]at hv;obtain ⟨k,⟨h1,_⟩,rfl⟩:=hv;omega
theorem AfQ (P:List Int) (n:Nat):(pcn P n).length<=n:=by
 unfold pcn;rw [Akj];exact Ako (Ak5 _ _) Z
def stB (b:Bls) (x C P:List Int) (k:Nat):Bool:=(decide (P.count (k:Int)=0) || (!decide ((k:Int)∈C) && decide (gb (blk b k) 1=(P.count (k:Int):Int)))) && (decide (k < 33) || (bit x k == decide ((k:Int)∈C\/0 < P.count (k:Int))))
section
variable {E R T:Int} {b:Bls} {x y z top:List Int}
theorem AiG (h:SB b x y z) (g:RS b x y) {f hd:Nat} {t:List UInt8} {r:List Rn} {cs:List (List Prt)} (gh:GH (f:Int) t r cs) (hf:hd=f+cs.length) (hh:hd<=60) {C rs m:List Int} (hC:C.length<=80000) (fn:Bool) :
  (((sts f hd).all (upe b x y top (f:Int) t cs)=true/\
    Ab EU (Gq (f:Int) t cs (sts f hd),sts f hd,(((sts f hd).length:Nat):Int),0,0,0,0,0,0,0,[],(f:Int),(hd:Int),E,R,T,b,x,y,z,(f:Int),(hd:Int),E,R,T,b,x,y,z,ksT b top 1024,0,[],(f:Int),t,r,cs,b,x,y,z,rs,srt C,m,okb fn C) =
     some (.inl (0,0,0,0,0,0,[],(f:Int),(hd:Int),E,R,T,b,x,y,z,(f:Int),(hd:Int),E,R,T,b,x,y,z,ksT b top 1024,0,[],(f:Int),t,r,cs,b,x,y,z,rs,srt (C++upc b x y top (sts f hd)),m,okb (fn && upo b x y top (sts f hd)) (C++upc b x y top (sts f hd)))))\/
   ((sts f hd).all (upe b x y top (f:Int) t cs)=false/\
    Ab EU (Gq (f:Int) t cs (sts f hd),sts f hd,(((sts f hd).length:Nat):Int),0,0,0,0,0,0,0,[],(f:Int),(hd:Int),E,R,T,b,x,y,z,(f:Int),(hd:Int),E,R,T,b,x,y,z,ksT b top 1024,0,[],(f:Int),t,r,cs,b,x,y,z,rs,srt C,m,okb fn C) =
     some (.inr (false,0,0,0,0,0,0,[])))):=by
 have hsl:=H3 (f:=f) hh;have hal:=Xk (f:Int) t cs (sts f hd);have hL:=BN EU (λi=>(Gq (f:Int) t cs (sts f hd),sts f hd,(((sts f hd).length:Nat):Int),((i:Nat):Int),0,0,0,0,0,0,[],(f:Int),(hd:Int),E,R,T,b,x,y,z,(f:Int),(hd:Int),E,R,T,b,x,y,z,ksT b top 1024,0,[],(f:Int),t,r,cs,b,x,y,z,rs,srt (C++upc b x y top ((sts f hd).take i)),m,okb (fn && upo b x y top ((sts f hd).take i)) (C++upc b x y top ((sts f hd).take i))))
  (λi=>upe b x y top (f:Int) t cs (((sts f hd)[i]?).getD (0,0))) (λ_=>(false,0,0,0,0,0,0,[])) (0,0,0,0,0,0,[],(f:Int),(hd:Int),E,R,T,b,x,y,z,(f:Int),(hd:Int),E,R,T,b,x,y,z,ksT b top 1024,0,[],(f:Int),t,r,cs,b,x,y,z,rs,srt (C++upc b x y top (sts f hd)),m,okb (fn && upo b x y top (sts f hd)) (C++upc b x y top (sts f hd))) (sts f hd).length (λi hi=>by
    obtain ⟨k,j,g8⟩:=Pf hi;obtain ⟨l1,l2,l3⟩:=g8.lt hh;have hk:=g8.hk;have hget:(sts f hd)[i]?=some ((sts f hd)[i]):=AjP hi;have hul:=Z9 b x y top ((sts f hd).take i);rw [AjW]at hul;have hal2:=AfD (f:=(f:Int)) (t:=t) (cs:=cs) hh (Akc hi);obtain ⟨f1,f2,f3,f4,f5⟩:=g8.ft;have hbt:AG (bt (f:Int) t cs (sts f hd)[i])=true:=(IK gh (a:=(frS (sts f hd)[i]:Int)) (b:=(toS (sts f hd)[i]:Int)) O O).1;have hrec:=Pv (z:=z) (top:=top) h g (C:=C++upc b x y top ((sts f hd).take i)) (by rw [AjU];omega) (k:=ky (sts f hd)[i]) (fn && upo b x y top ((sts f hd).take i)) rs m;unfold EU cK cZ wI;dsimp only;rw [iy O,iy O,iy O,Ake,AjO,hget,AjM,AjM,Akd hi,AdG,Ad4,Akx];unfold upe;by_cases h0:0 < (sts f hd)[i].1
    .have e1:FS (sts f hd)[i].1 (sts f hd)[i].2=some (ky (sts f hd)[i]:Int):=by rw [l2];simp only [g8.e];exact JX hk O
     rw [iy h0,e1,AjM,Abg _ _ _ _ _ _ _ _ _ _ _ _ _ _ O,AjM,hrec,AjM];dsimp only;rw [AjM,iy O,iy O,Ake,AjO,hal2,AjM,Aa1 (C5 hbt) O hbt,AjM,AjM,AjS h0,AjS h0,decide_eq_true h0,AkF,Ak3,AjY,AlT];dsimp only;cases hq:(AF (rkd b x y top (ky (sts f hd)[i])) == AF (enc (bt (f:Int) t cs (sts f hd)[i])))with
     | true=>rw [AjR Z,AjS rfl,Ak O]
     | false=>rw [AjS Z,AjR Z]
    .rw [ino h0,AjM,AjR h0,AjR h0,decide_eq_false h0,Aj2,Alm];dsimp only;rw [AjR Z,AjS Z,Ak O]) (by
    unfold EU cK cZ wI;dsimp only;rw [ino O,AkC])
 have e0:upc b x y top ((sts f hd).take 0)=[]:=rfl;have e1:upo b x y top ((sts f hd).take 0)=true:=rfl;rw [e0,e1,Aj2,Alm]at hL;rcases hL with⟨ha,hl⟩ | ⟨k,hk,hp,_,hl⟩
 .refine .inl ⟨?_,hl⟩;rw [Aki];intro s hs;obtain ⟨i,hi,rfl⟩:=Akq hs;have:=ha i hi;rw [AjP hi]at this;exact this
 .refine .inr ⟨?_,hl⟩;rw [AjP hk]at hp;cases hq:(sts f hd).all (upe b x y top (f:Int) t cs)with
  | false=>rfl
  | true=>
    have:=Aki.1 hq _ (Akc hk);rw [show upe b x y top (f:Int) t cs (sts f hd)[k]=false from hp]at this;cases this
theorem Aiu (g:RS b x y) {f hd e:Nat} {t:List UInt8} {r:List Rn} {cs:List (List Prt)} (gh:GH (f:Int) t r cs) (hf:hd=f+cs.length) (hh:hd<=60) (he:0 < e) {C P rs:List Int} (hC:C.length<=80000) (hP:P.length<=80000) (fn:Bool) :
  ((cks f hd e).all (cke b x y top f t cs)=true/\
    Ab EX (((f+1:Nat):Int),0,0,0,0,0,0,[],(f:Int),(hd:Int),(e:Int),R,T,b,x,y,z,(f:Int),(hd:Int),(e:Int),R,T,b,x,y,z,ksT b top 1024,0,[],(f:Int),t,r,cs,b,x,y,z,rs,srt C,mny b.length P,okb fn C) =
     some (.inl (0,0,0,0,0,0,[],b,x,y,z,(f:Int),(hd:Int),(e:Int),R,T,b,x,y,z,ksT b top 1024,0,[],(f:Int),t,r,cs,b,x,y,z,rs,srt (C++ckc b x y top (cks f hd e)),mny b.length (P++ckp b x y top (cks f hd e)),okb (fn && cko b x y top (cks f hd e)) (C++ckc b x y top (cks f hd e)))))\/
   ((cks f hd e).all (cke b x y top f t cs)=false/\
    Ab EX (((f+1:Nat):Int),0,0,0,0,0,0,[],(f:Int),(hd:Int),(e:Int),R,T,b,x,y,z,(f:Int),(hd:Int),(e:Int),R,T,b,x,y,z,ksT b top 1024,0,[],(f:Int),t,r,cs,b,x,y,z,rs,srt C,mny b.length P,okb fn C) =
     some (.inr (false,0,0,0,0,0,0,[]))):=by
 have hL:=BN EX (λn=>(((f+1+n:Nat):Int),0,0,0,0,0,0,[],(f:Int),(hd:Int),(e:Int),R,T,b,x,y,z,(f:Int),(hd:Int),(e:Int),R,T,b,x,y,z,ksT b top 1024,0,[],(f:Int),t,r,cs,b,x,y,z,rs,srt (C++ckc b x y top (ckn f e n)),mny b.length (P++ckp b x y top (ckn f e n)),okb (fn && cko b x y top (ckn f e n)) (C++ckc b x y top (ckn f e n))))
  (λn=>!decide ((f+1+n) % e=0) || cke b x y top f t cs (f+1+n)) (λ_=>(false,0,0,0,0,0,0,[])) (0,0,0,0,0,0,[],b,x,y,z,(f:Int),(hd:Int),(e:Int),R,T,b,x,y,z,ksT b top 1024,0,[],(f:Int),t,r,cs,b,x,y,z,rs,srt (C++ckc b x y top (cks f hd e)),mny b.length (P++ckp b x y top (cks f hd e)),okb (fn && cko b x y top (cks f hd e)) (C++ckc b x y top (cks f hd e))) (hd - f) (λn hn=>by
    have hnl:=MJ f e n;have hcl:=Qn b x y top (ckn f e n);have htx:=T5 gh (x:=((f+1+n:Nat):Int)) O O;rw [show(((f+1+n:Nat):Int) - (f:Int)).toNat=f+1+n - f by omega]at htx;have ew:IntKind.wrap .i64 (384+((f+1+n:Nat):Int))=((384+(f+1+n):Nat):Int):=by rw [w64 O O];omega
    have hrt:=Ag2 (z:=z) g (vl b top (384+(f+1+n))) (P:=P++ckp b x y top (ckn f e n)) (C:=C++ckc b x y top (ckn f e n)) (by rw [AjU];omega) (by rw [AjU];omega) (fn && cko b x y top (ckn f e n)) rs;unfold EX cK wI;dsimp only;rw [iy O,iy O,M7,NJ];by_cases hz:(f+1+n) % e=0
    .have a1:ckc b x y top (ckn f e n++[f+1+n])=ckc b x y top (ckn f e n)++tcl b x y (vl b top (384+(f+1+n))):=by unfold ckc;rw [Ak6];simp
     have a2:ckp b x y top (ckn f e n++[f+1+n])=ckp b x y top (ckn f e n)++tpc b x y (vl b top (384+(f+1+n))):=by unfold ckp;rw [Ak6];simp
     have a3:cko b x y top (ckn f e n++[f+1+n])=(cko b x y top (ckn f e n) && tok b x y (vl b top (384+(f+1+n)))):=by unfold cko;rw [List.all_append];simp
     rw [iy O,ew,Abg _ _ _ _ _ _ _ _ _ _ _ _ _ _ O,AjM,hrt,AjM];dsimp only;rw [htx,AjM,AjM,AjS hz,a1,a2,a3,decide_eq_true hz,AkF,Ak3,AjY,AjY,AlT];dsimp only;unfold cke;cases hq:(ttx b x y (vl b top (384+(f+1+n))) == txt t (cs.take (f+1+n - f)))with
     | true=>rw [AjR Z,AjS rfl,Ak O];rfl
     | false=>rw [AjS Z,AjR Z]
    .rw [ino O,AjM,AjR hz,Aj2,decide_eq_false hz];dsimp only;rw [AjR Z,AjS Z,Ak O];rfl) (by
    unfold EX cK wI;dsimp only;rw [ino O];rfl)
 have e0:ckc b x y top (ckn f e 0)=[]:=rfl;have e1:cko b x y top (ckn f e 0)=true:=rfl;have e2:ckp b x y top (ckn f e 0)=[]:=rfl;rw [e0,e1,e2,Aj2,Aj2,Alm]at hL;rcases hL with⟨ha,hl⟩ | ⟨k,hk,hp,_,hl⟩
 .refine .inl ⟨?_,hl⟩;rw [Aki];intro q hq;obtain ⟨q1,q2,q3⟩:=cks_mem.1 hq;have:=ha (q - (f+1)) O;rw [(O:f+1+(q - (f+1))=q),decide_eq_true q3]at this;simpa using this
 .refine .inr ⟨?_,hl⟩;cases hq:(cks f hd e).all (cke b x y top f t cs)with
  | false=>rfl
  | true=>
    simp only [AlG,Bool.not_eq_false',decide_eq_true_eq]at hp;have:=Aki.1 hq _ (cks_mem.2 (⟨O,O,hp.1⟩:f < f+1+k/\f+1+k<=hd/\(f+1+k) % e=0));rw [hp.2]at this;cases this
theorem AiK (g:RS b x y) {f hd e:Nat} {t:List UInt8} {r:List Rn} {cs:List (List Prt)} {ks:List Kv} {C P rs:List Int} (hC:C.length<=80000) (hP:P.length<=80000) (ok:Bool) :
  ((List.range b.length).all (stB b x C P)=true/\
    Ab E7 (mny b.length P,(b.length:Int),0,0,0,0,0,0,0,[],b,x,y,z,(f:Int),(hd:Int),(e:Int),R,T,b,x,y,z,ks,0,[],(f:Int),t,r,cs,b,x,y,z,rs,srt C,ok) =
     some (.inl (0,0,0,0,0,0,[],(f:Int),(hd:Int),(e:Int),R,T,b,x,y,z,ks,0,[],(f:Int),t,r,cs,b,x,y,z,rs,srt (C++pcn P b.length),mny b.length P,ok)))\/
   ((List.range b.length).all (stB b x C P)=false/\
    Ab E7 (mny b.length P,(b.length:Int),0,0,0,0,0,0,0,[],b,x,y,z,(f:Int),(hd:Int),(e:Int),R,T,b,x,y,z,ks,0,[],(f:Int),t,r,cs,b,x,y,z,rs,srt C,ok) =
     some (.inr (false,0,0,0,0,0,0,[]))):=by
 have hbl:=g.hn;have hxl:=g.hx;have hml:=Jb b.length P;have hL:=BN E7 (λk=>(mny b.length P,(b.length:Int),((k:Nat):Int),0,0,0,0,0,0,[],b,x,y,z,(f:Int),(hd:Int),(e:Int),R,T,b,x,y,z,ks,0,[],(f:Int),t,r,cs,b,x,y,z,rs,srt (C++pcn P k),ok))
  (stB b x C P) (λ_=>(false,0,0,0,0,0,0,[])) (0,0,0,0,0,0,[],(f:Int),(hd:Int),(e:Int),R,T,b,x,y,z,ks,0,[],(f:Int),t,r,cs,b,x,y,z,rs,srt (C++pcn P b.length),mny b.length P,ok) b.length (λk hk=>by
    have hpl:=AfQ P k;have hc1:=List.count_le_length (l:=P) (a:=((k:Nat):Int));obtain ⟨o1,o2,o3⟩:=JI (l:=C++pcn P k) (by rw [AjU];omega);have hm1:((k:Nat):Int)∈srt (C++pcn P k)↔((k:Nat):Int)∈C:=by
     rw [o3,AjV];exact⟨λq=>q.elim id λq=>by have:=Aht P k _ q;omega,.inl⟩
    have hlen:=g.len hk;have hu:=g.u8 hk 1;have hus:=JP (bits:=x) (k:=k) O O;have hst:stB b x C P k=((decide (P.count ((k:Nat):Int)=0) || (!decide (((k:Nat):Int)∈C) && decide (gb (blk b k) 1=(P.count ((k:Nat):Int):Int)))) && (decide (k < 33) || (bit x k == decide (((k:Nat):Int)∈C\/0 < P.count ((k:Nat):Int))))):=rfl;rw [hst];unfold E7 cK cZ gX wI;dsimp only;rw [iy O,iy O,iy O,Ake,AjO,Pe P hk,AjM,AdU];by_cases h0:0 < P.count ((k:Nat):Int)
    .rw [iy O,Gp (by rw [AjU]at o2;omega),AjM,decide_eq_false (O:¬ P.count ((k:Nat):Int)=0),AjS h0];by_cases hin:((k:Nat):Int)∈C
     .rw [decide_eq_true (hm1.2 hin),AjS rfl,AjM,decide_eq_true hin];dsimp only;rw [AjS rfl];rfl
     .rw [decide_eq_false (λq=>hin (hm1.1 q)),AjR Z,iy O,Bp hk,AjM,iy O,show Int.toNat 1=1 from rfl,Ai O,AjM,AjM,w64 (n:=gb (blk b k) 1) O O,decide_eq_false hin];dsimp only;by_cases hb:gb (blk b k) 1=(P.count ((k:Nat):Int):Int)
      .obtain ⟨p1,p2,p3⟩:=JI (l:=C++pcn P k++[((k:Nat):Int)]) (by simp only [AjU,AjZ];omega);rw [decide_eq_false (not_not_intro hb),AjR Z,iy O,(FR (l:=C++pcn P k) (by rw [AjU];omega) _).1,AjM,AjM,decide_eq_true hb];dsimp only;rw [<- AjY];by_cases h33:k < 33
       .rw [ino O,AjM,decide_eq_true h33];dsimp only;rw [AjR Z,Ak O];rfl
       .have hm2:((k:Nat):Int)∈srt (C++pcn P k++[((k:Nat):Int)]):=(p3 _).2 Z;rw [iy O,hus,AjM,Gp (by simp only [AjU,AjZ]at p2;omega),AjM,AjM,decide_eq_false h33,decide_eq_true hm2,decide_eq_true (.inr h0:((k:Nat):Int)∈C\/0 < P.count ((k:Nat):Int))];dsimp only;cases bit x k with
        | true=>rw [AjR Z,Ak O];rfl
        | false=>rw [AjS Z];rfl
      .rw [decide_eq_true hb,AjS rfl,decide_eq_false hb];rfl
    .rw [ino O,AjM,decide_eq_true (O:P.count ((k:Nat):Int)=0),AjR h0,Aj2];dsimp only;rw [AjR Z,ino O,AjM];dsimp only;by_cases h33:k < 33
     .rw [ino O,AjM,decide_eq_true h33];dsimp only;rw [AjR Z,Ak O];rfl
     .rw [iy O,hus,AjM,Gp (by rw [AjU]at o2;omega),AjM,AjM,decide_eq_false h33];dsimp only;by_cases hin:((k:Nat):Int)∈C
      .rw [decide_eq_true (hm1.2 hin),decide_eq_true (.inl hin:((k:Nat):Int)∈C\/0 < P.count ((k:Nat):Int))];cases bit x k with
       | true=>rw [AjR Z,Ak O];rfl
       | false=>rw [AjS Z];rfl
      .rw [decide_eq_false (λq=>hin (hm1.1 q)),decide_eq_false (λq=>q.elim hin h0:¬ (((k:Nat):Int)∈C\/0 < P.count ((k:Nat):Int)))];cases bit x k with
       | true=>rw [AjS Z];rfl
       | false=>rw [AjR Z,Ak O];rfl) (by
    unfold E7 cK cZ gX wI;dsimp only;rw [ino O])
 have e0:pcn P 0=[]:=rfl;rw [e0,Aj2]at hL;rcases hL with⟨ha,hl⟩ | ⟨k,hk,hp,_,hl⟩
 .exact .inl ⟨all_range.2 ha,hl⟩
 .refine .inr ⟨?_,hl⟩;cases hq:(List.range b.length).all (stB b x C P)with
  | false=>rfl
  | true=>rw [all_range.1 hq k hk]at hp;cases hp
end
end Go.V.G
set_option maxRecDepth 100000
namespace Go.V.G
open Go.V
section defs
variable (b:Bls) (x top:List Int) (R T:Int) (f h e:Nat)
noncomputable def aC1:List Int:=srt (pgl top R)
noncomputable def aC2:List Int:=aC1 top R++tcl b x [] T
def aP2:List Int:=tpc b x [] T
noncomputable def aC3:List Int:=aC2 b x top R T++rkc b x [] top 448
noncomputable def aC4:List Int:=aC3 b x top R T++Ci b x [] top f (h - f)
noncomputable def aC5:List Int:=aC4 b x top R T f h++upc b x [] top (sts f h)
noncomputable def aC6:List Int:=aC5 b x top R T f h++ckc b x [] top (cks f h e)
def aP6:List Int:=aP2 b x T++ckp b x [] top (cks f h e)
def af3:Bool:=(tok b x [] T && rko b x [] top 448) && (rdR (rkd b x [] top 448)).2
def af4:Bool:=af3 b x top T && loo b x [] top f (h - f)
def af5:Bool:=af4 b x top T f h && upo b x [] top (sts f h)
def af6:Bool:=af5 b x top T f h && cko b x [] top (cks f h e)
def aT:List UInt8:=ttx b x [] T
def aR:List Rn:=(rdR (rkd b x [] top 448)).1
def aL:List (List Prt):=chC (lod b x [] top f (h - f))
noncomputable def aG:Bool:=Fy (f:Int) (aT b x T) (aR b x top) (aL b x top f h)
def aU:Bool:=(sts f h).all (upe b x [] top (f:Int) (aT b x T) (aL b x top f h))
def aK:Bool:=(cks f h e).all (cke b x [] top f (aT b x T) (aL b x top f h))
noncomputable def aS:Bool:=(List.range b.length).all (stB b x (aC6 b x top R T f h e) (aP6 b x top T f h e))
noncomputable def sC:Bool:=kok b top f h e && (okb (af4 b x top T f h) (aC4 b x top R T f h) && (aG b x top T f h && (aU b x top T f h && (aK b x top T f h e && (aS b x top R T f h e && okb (af6 b x top T f h e) (aC6 b x top R T f h e))))))
end defs
theorem AcN {b:Bls} {x top:List Int} {R T:Int} {f h e:Nat} (ht:top.length=32) (hh:h<=60):(aC1 top R).length<=33/\(aC2 b x top R T).length<=34/\(aC3 b x top R T).length<=44/\(aC4 b x top R T f h).length<=644/\(aC5 b x top R T f h).length<=4244/\(aC6 b x top R T f h e).length<=4304/\(aP2 b x T).length<=3/\(aP6 b x top T f h e).length<=183:=by
 have h1:=Z7 (root:=R) ht;have h2:=(JI (l:=pgl top R) O).2.1;have h3:=RV b x [] T;have h4:=(Hg b x [] top 448).1;have h5:=Td b x [] top f (h - f);have h6:=Z9 b x [] top (sts f h);have h7:=H3 (f:=f) hh;have h8:=Qn b x [] top (cks f h e);have h9:=M3 (f:=f) (e:=e) hh;unfold aC6 aC5 aC4 aC3 aC2 aC1 aP6 aP2;simp only [AjU];omega
theorem Aep {fn c:Bool} {l:List Int}:(if okb fn l=true then c else false)=okb (fn && c) l:=by
 unfold okb;cases fn <;> cases c <;> cases ndb l <;> rfl
theorem Wv {b:Bls} {x y top:List Int} {f j:Nat}:∀{n:Nat},j<=n->loo b x y top f n=true->loo b x y top f j=true
 | 0,h,q=>by rw [(O:j=0)];exact q
 | n+1,h,q=>by
  by_cases hj:j=n+1
  .rw [hj];exact q
  .rw [WE,AjT]at q;exact Wv O q.1
theorem Zr {b:Bls} {x y top:List Int} {f j:Nat}:∀{n:Nat},j<=n->∃r,Ci b x y top f n=Ci b x y top f j++r
 | 0,h=>⟨[],by rw [(O:j=0)];simp⟩
 | n+1,h=>by
  by_cases hj:j=n+1
  .exact⟨[],by rw [hj];simp⟩
  .obtain ⟨r,hr⟩:=Zr (b:=b) (x:=x) (y:=y) (top:=top) (f:=f) (j:=j) (n:=n) O;exact⟨r++rkc b x y top (f+n),by rw [Rv,hr,AjY]⟩
theorem AdY {b:Bls} {x top:List Int} {R T:Int} {f h j:Nat} (q:okb (af3 b x top T && loo b x [] top f j) (aC3 b x top R T++Ci b x [] top f j)=false) (hj:j<=h - f):okb (af4 b x top T f h) (aC4 b x top R T f h)=false:=by
 cases hh:okb (af4 b x top T f h) (aC4 b x top R T f h)with
 | false=>rfl
 | true=>
  exfalso;unfold okb af4 aC4 ndb at *;simp only [AjT,decide_eq_true_eq]at hh;obtain ⟨⟨h1,h2⟩,h3⟩:=hh;obtain ⟨r,hr⟩:=Zr (b:=b) (x:=x) (y:=[]) (top:=top) (f:=f) hj;rw [hr,<- AjY,Aj8]at h3;rw [h1,Wv hj h2,decide_eq_true h3.1]at q;cases q
theorem Aeh {bl:Bls} {wr lf:Int} (on:Bool) {f h e:Nat} {R T:Int} {top:List Int} (hn:bl.length<=1048576) (hd:gd bl wr lf=true) (hu:∀c∈bl,U8s c) (hw:wts bl=[])
  (hs:MA (blk bl 0)=(true,(f:Int),(h:Int),(e:Int),R,T)) (ho:opG bl=true) (ht:tre bl (opB bl) [] R=some top) (hf:f<=h) (hh:h<=60) (he:0 < e) (he2:e<=30) :
  ∃q,Dt bl wr on lf=some q/\q.1=sC bl (opB bl) top R T f h e/\(sC bl (opB bl) top R T f h e=true->
   q=(true,(f:Int),(h:Int),(e:Int),R,T,bl,opB bl,[],[],ksT bl top 1024,(f:Int),aT bl (opB bl) T,aR bl (opB bl) top,aL bl (opB bl) top f h,srt (aC6 bl (opB bl) top R T f h e++pcn (aP6 bl (opB bl) top T f h e) bl.length))):=by
 obtain ⟨hb,hk⟩:=JB hd;have sb:=RQ (bl:=bl) O O;have hog:gsp bl (opB bl) [] []=true:=by unfold opG at ho;rw [AjT]at ho;exact ho.1
 have g:=(Qe hog).rs sb hu;have htl:=GP ht;obtain ⟨l1,l2,l3,l4,l5,l6,l7,l8⟩:=AcN (b:=bl) (x:=opB bl) (top:=top) (R:=R) (T:=T) (f:=f) (h:=h) (e:=e) htl hh;have hkl:=Qb bl top 1024;obtain ⟨w1,w2,w3⟩:=Adb (f:=f) (e:=e) hh;unfold Dt cK cZ gX wI;rw [HZ hn,hd,AjM,AjR Z,Gn on hd hu,hw,AjM,AjM];dsimp only;rw [AjR Z,iy O,show Int.toNat 0=0 from rfl,Bp (O:0 < bl.length),AjM,IA (hu _ (BA O)),hs,AjM];dsimp only;rw [GQ on hd hu,AjM];unfold opD;rw [AjS ho];dsimp only;rw [AjM];dsimp only;rw [AjR Z,AjR Z,HC sb hu,hog,ht,AjM,AjM];dsimp only;rw [AjR Z,AcO sb hog hu ht,AjM,Aej sb hu hog ht,AjM,Y4 hf hh he he2,AjM];dsimp only;unfold sC;have hkok:kok bl top f h e=decide ((ksT bl top 1024).map (·.1)=wnt f h e):=rfl;by_cases hlen:(ksT bl top 1024).length=(wnt f h e).length
 .rw [ino (O:¬ ¬ (((ksT bl top 1024).length:Nat):Int)=(((wnt f h e).length:Nat):Int)),Aiy hlen O,AjM];by_cases hkq:(ksT bl top 1024).map (·.1)=wnt f h e
  .rw [AjS hkq];rw [hkok,decide_eq_true hkq,Aj3];dsimp only;rw [iy O,iy O,AjS (by simp only [Aa,decide_eq_true_eq,AjO];omega),AjO];have em:List.replicate bl.length (0:Int)=mny bl.length []:=by
    refine AkK λi=>?_
    by_cases hi:i < bl.length
    .rw [Pe _ hi,List.getElem?_replicate_of_lt hi];simp
    .rw [Aka AjJ,Aka (by rw [Jb];omega)]
   have ea:=Sw (l:=srt (pgl top R)) (C:=[]) (by have:(srt (pgl top R)).length<=33:=l1;simp only [Akl];omega) true bl (opB bl) [] [] [] (mny bl.length []);rw [Akm]at ea;rw [em,show BV (srt (pgl top R)) bl (opB bl) [] [] [] [] (mny bl.length []) true=_ from ea,AjM];dsimp only;rw [show okb true (srt (pgl top R))=okb true (aC1 top R) from rfl,show srt (srt (pgl top R))=srt (aC1 top R) from rfl,Ag2 g T O Z true [],AjM];dsimp only;rw [Akm,Aj3,show aC1 top R++tcl bl (opB bl) [] T=aC2 bl (opB bl) top R T from rfl,show tpc bl (opB bl) [] T=aP2 bl (opB bl) T from rfl];have hg448:=Abg (b:=bl) (top:=top) (f:Int) (h:Int) (e:Int) R T bl (opB bl) [] [] 0 [] [] [] [] (k:=448) O;have hr448:=Pv (z:=[]) (top:=top) sb g (C:=aC2 bl (opB bl) top R T) O (k:=448) (tok bl (opB bl) [] T) [] (mny bl.length (aP2 bl (opB bl) T));have hlk:=Hg bl (opB bl) [] top 448;rw [show DK (f:Int) (h:Int) (e:Int) R T bl (opB bl) [] [] (ksT bl top 1024) 0 [] [] [] [] 448=_ from hg448,AjM,hr448,AjM];dsimp only;rw [Aix (KC g top 448) O,AjM,show aC2 bl (opB bl) top R T++rkc bl (opB bl) [] top 448=aC3 bl (opB bl) top R T from rfl];have eif:∀{α:Type} (F:Bool->Option α),(if okb (tok bl (opB bl) [] T && rko bl (opB bl) [] top 448) (aC3 bl (opB bl) top R T)=true then F (rdR (rkd bl (opB bl) [] top 448)).2 else F false)=F (okb (af3 bl (opB bl) top T) (aC3 bl (opB bl) top R T)):=by
    intro α F;have:=Aep (fn:=tok bl (opB bl) [] T && rko bl (opB bl) [] top 448) (c:=(rdR (rkd bl (opB bl) [] top 448)).2) (l:=aC3 bl (opB bl) top R T);unfold af3;rw [<- this];split <;> rfl
   rw [eif (λw=>some (0,0,0,0,0,0,[],(f:Int),(h:Int),(e:Int),R,T,bl,opB bl,[],[],(f:Int),(h:Int),(e:Int),R,T,bl,opB bl,[],[],ksT bl top 1024,0,[],(f:Int),ttx bl (opB bl) [] T,(rdR (rkd bl (opB bl) [] top 448)).1,bl,opB bl,[],[],[],srt (aC3 bl (opB bl) top R T),mny bl.length (aP2 bl (opB bl) T),w)),AjM];dsimp only;obtain ⟨j,j1,j2,j3⟩:=AiA (E:=(e:Int)) (R:=R) (T:=T) (top:=top) sb g hf hh (C:=aC3 bl (opB bl) top R T) (rs:=[]) (m:=mny bl.length (aP2 bl (opB bl) T)) O (af3 bl (opB bl) top T) (ttx bl (opB bl) [] T) (rdR (rkd bl (opB bl) [] top 448)).1;rw [j3,AjM];dsimp only;by_cases hok:okb (af3 bl (opB bl) top T && loo bl (opB bl) [] top f j) (aC3 bl (opB bl) top R T++Ci bl (opB bl) [] top f j)=true
   .have hj:j=h - f:=by
         rcases j2 with q | q
         .exact q
         .rw [hok]at q;cases q
    subst hj;have hok4:okb (af4 bl (opB bl) top T f h) (aC4 bl (opB bl) top R T f h)=true:=hok;rw [hok,AjR Z,hok4,Aj3];have hcl:(chC (lod bl (opB bl) [] top f (h - f))).length=h - f:=by unfold chC lod;simp
    have hHB:HB (ttx bl (opB bl) [] T) (rdR (rkd bl (opB bl) [] top 448)).1 (chC (lod bl (opB bl) [] top f (h - f))):=by
     have:=ZR (rkd bl (opB bl) [] top 448);have:=RV bl (opB bl) [] T;refine⟨O,O,O,λc hc=>?_⟩;obtain ⟨x',_,rfl⟩:=Aj9.1 hc;exact(Rq x').mono O
    rw [Ry hHB,AjM,AjM];dsimp only;have hG:aG bl (opB bl) top T f h=Fy (f:Int) (ttx bl (opB bl) [] T) (rdR (rkd bl (opB bl) [] top 448)).1 (chC (lod bl (opB bl) [] top f (h - f))):=rfl;rw [<- hG];cases hgh:aG bl (opB bl) top T f h with
    | false=>
     rw [AjS Z];exact⟨_,rfl,rfl,λq=>by simp at q⟩
    | true=>
     rw [hgh]at hG;have gh:=goodH_iff.1 hG.symm;rw [AjR Z,Yt gh (h:=h) O hh,AjM,NG hh,AjM,Aj3];have e4:aC3 bl (opB bl) top R T++Ci bl (opB bl) [] top f (h - f)=aC4 bl (opB bl) top R T f h:=rfl;have e4':(af3 bl (opB bl) top T && loo bl (opB bl) [] top f (h - f))=af4 bl (opB bl) top T f h:=rfl;have r3:=AiG (E:=(e:Int)) (R:=R) (T:=T) (top:=top) sb g gh (hd:=h) O hh (C:=aC4 bl (opB bl) top R T f h) (rs:=[]) (m:=mny bl.length (aP2 bl (opB bl) T)) O (af4 bl (opB bl) top T f h);rw [hok4]at r3;rw [e4];rcases r3 with⟨u1,u2⟩ | ⟨u1,u2⟩
     .have hU:aU bl (opB bl) top T f h=true:=u1;rw [u2,AjM,hU,Aj3];dsimp only;have r4:=Aiu (R:=R) (T:=T) (top:=top) (z:=[]) g gh (hd:=h) (e:=e) O hh he (C:=aC5 bl (opB bl) top R T f h) (P:=aP2 bl (opB bl) T) (rs:=[]) O O (af5 bl (opB bl) top T f h);rw [Ak O];rcases r4 with⟨v1,v2⟩ | ⟨v1,v2⟩
      .have hK:aK bl (opB bl) top T f h e=true:=v1;rw [show aC4 bl (opB bl) top R T f h++upc bl (opB bl) [] top (sts f h)=aC5 bl (opB bl) top R T f h from rfl,show(af4 bl (opB bl) top T f h && upo bl (opB bl) [] top (sts f h))=af5 bl (opB bl) top T f h from rfl,v2,AjM,hK,Aj3];dsimp only;have r5:=AiK (R:=R) (T:=T) (z:=[]) g (f:=f) (hd:=h) (e:=e) (t:=ttx bl (opB bl) [] T) (r:=(rdR (rkd bl (opB bl) [] top 448)).1) (cs:=chC (lod bl (opB bl) [] top f (h - f))) (ks:=ksT bl top 1024) (C:=aC6 bl (opB bl) top R T f h e) (P:=aP6 bl (opB bl) top T f h e) (rs:=[]) O O (okb (af6 bl (opB bl) top T f h e) (aC6 bl (opB bl) top R T f h e));rw [Jb,show aC5 bl (opB bl) top R T f h++ckc bl (opB bl) [] top (cks f h e)=aC6 bl (opB bl) top R T f h e from rfl,show(af5 bl (opB bl) top T f h && cko bl (opB bl) [] top (cks f h e))=af6 bl (opB bl) top T f h e from rfl,show aP2 bl (opB bl) T++ckp bl (opB bl) [] top (cks f h e)=aP6 bl (opB bl) top T f h e from rfl];rcases r5 with⟨t1,t2⟩ | ⟨t1,t2⟩
       .have hS:aS bl (opB bl) top R T f h e=true:=t1;rw [t2,AjM,hS,Aj3];exact⟨_,rfl,rfl,λq=>by rw [q];rfl⟩
       .have hS:aS bl (opB bl) top R T f h e=false:=t1;rw [t2,AjM,hS];exact⟨_,rfl,rfl,λq=>by simp at q⟩
      .have hK:aK bl (opB bl) top T f h e=false:=v1;rw [show aC4 bl (opB bl) top R T f h++upc bl (opB bl) [] top (sts f h)=aC5 bl (opB bl) top R T f h from rfl,show(af4 bl (opB bl) top T f h && upo bl (opB bl) [] top (sts f h))=af5 bl (opB bl) top T f h from rfl,v2,AjM,hK];exact⟨_,rfl,rfl,λq=>by simp at q⟩
     .have hU:aU bl (opB bl) top T f h=false:=u1;rw [u2,AjM,hU];exact⟨_,rfl,rfl,λq=>by simp at q⟩
   .have hok':okb (af3 bl (opB bl) top T && loo bl (opB bl) [] top f j) (aC3 bl (opB bl) top R T++Ci bl (opB bl) [] top f j)=false:=by simpa using hok
    have h4:okb (af4 bl (opB bl) top T f h) (aC4 bl (opB bl) top R T f h)=false:=AdY hok' j1;rw [hok',AjS Z,AjM,h4];dsimp only;rw [AjS rfl];exact⟨_,rfl,rfl,λq=>by simp at q⟩
  .rw [AjR hkq,hkok,decide_eq_false hkq];exact⟨_,rfl,rfl,λq=>by simp at q⟩
 .rw [iy (O:¬ (((ksT bl top 1024).length:Nat):Int)=(((wnt f h e).length:Nat):Int)),hkok,decide_eq_false (λq=>hlen (by rw [<- q,Akj]))];exact⟨_,rfl,rfl,λq=>by simp at q⟩
end Go.V.G
set_option maxRecDepth 100000
namespace Go.V.G
open Go.V
theorem Agt {fn c:Bool} {l:List Int}:(if bd fn l=true then true else !c)=bd (fn && c) l:=by
 unfold bd;cases fn <;> cases c <;> cases ndb l <;> rfl
section
variable (b:Bls) (x y top:List Int)
def ipt (s:Int×Int):List Prt:=(BQ (rkd b x y top (ky s))).1
def ioc (s:Int×Int):Bool:=rko b x y top (ky s) && (BQ (rkd b x y top (ky s))).2
def ics (L:List (Int×Int)):List Int:=L.flatMap λs=>rkc b x y top (ky s)
def ich (L:List (Int×Int)):List (List Prt):=(L.filter λs=>decide (s.1=0)).map (ipt b x y top)
theorem Aec (L:List (Int×Int)) (s:Int×Int):ics b x y top (L++[s])=ics b x y top L++rkc b x y top (ky s):=by unfold ics;rw [Ak6];simp
theorem AdP (L:List (Int×Int)) (s:Int×Int):ich b x y top (L++[s])=ich b x y top L++(if s.1=0 then [ipt b x y top s]else []):=by
 unfold ich;rw [Ali,Akv];by_cases h:s.1=0 <;> simp [h]
theorem SS:∀L:List (Int×Int),(ics b x y top L).length<=10 * L.length
 | []=>by simp [ics]
 | s::L=>by
  have h1:=SS L;have h2:=(Hg b x y top (ky s)).1;unfold ics at *;rw [Ak9,AjU,Aj1];omega
theorem Af8 (L:List (Int×Int)):(ich b x y top L).length<=L.length:=by
 unfold ich;rw [Akj];exact Ak5 _ _
end
section
variable {H E R T:Int} {b d:Bls} {x y z top:List Int} {wr lf rt:Int} {on:Bool}
theorem AiI (g:RS b x y) (ht:top.length=32) {f hd:Nat} (hf:f<=hd) (hh:hd<=60) {ks bl rs:List Int} {m:List (Int×Int)} (hbl:bl.length<=80000) (hks:ks.length<=80000) (fn:Bool) (tx:List UInt8) :
  Ab B0 (sts f hd,[],(((sts f hd).length:Nat):Int),0,ks,bl,rs,bd fn bl,m,d,wr,on,lf,(f:Int),H,E,R,T,b,x,y,z,rt,top,top.map (lfv b),(f:Int),tx,[],[]) =
   some (sts f hd,(sts f hd).map (ipt b x y top),ks++(sts f hd).map kyI,bl++ics b x y top (sts f hd),rs,bd (fn && (sts f hd).all (ioc b x y top)) (bl++ics b x y top (sts f hd)),m,d,wr,on,lf,(f:Int),H,E,R,T,b,x,y,z,rt,top,top.map (lfv b),(f:Int),tx,[],ich b x y top (sts f hd)):=by
 have hsl:=H3 (f:=f) hh;have hL:=An B0 (λi=>(sts f hd,((sts f hd).take i).map (ipt b x y top),(((sts f hd).length:Nat):Int),((i:Nat):Int),ks++((sts f hd).take i).map kyI,bl++ics b x y top ((sts f hd).take i),rs,bd (fn && ((sts f hd).take i).all (ioc b x y top)) (bl++ics b x y top ((sts f hd).take i)),m,d,wr,on,lf,(f:Int),H,E,R,T,b,x,y,z,rt,top,top.map (lfv b),(f:Int),tx,[],ich b x y top ((sts f hd).take i))) (sts f hd).length
  (sts f hd,(sts f hd).map (ipt b x y top),ks++(sts f hd).map kyI,bl++ics b x y top (sts f hd),rs,bd (fn && (sts f hd).all (ioc b x y top)) (bl++ics b x y top (sts f hd)),m,d,wr,on,lf,(f:Int),H,E,R,T,b,x,y,z,rt,top,top.map (lfv b),(f:Int),tx,[],ich b x y top (sts f hd)) (λi hi=>by
   obtain ⟨k,j,g8⟩:=Pf hi;obtain ⟨l1,l2,l3⟩:=g8.lt hh;have hk:=g8.hk;have hget:(sts f hd)[i]?=some ((sts f hd)[i]):=AjP hi;have hil:=SS b x y top ((sts f hd).take i);have hcl:=Af8 b x y top ((sts f hd).take i);rw [AjW]at hil hcl;have hrk:=Hg b x y top (ky (sts f hd)[i]);have hrec:=UW (z:=z) g ht (bl:=bl++ics b x y top ((sts f hd).take i)) (ks:=ks++((sts f hd).take i).map kyI) (by rw [AjU];omega) (by rw [AjU,Akj,AjW];omega) (k:=ky (sts f hd)[i]) O (fn && ((sts f hd).take i).all (ioc b x y top)) rs d wr on lf (f:Int) H E R T rt m;have e1:MH (sts f hd)[i].1 (sts f hd)[i].2=some (ky (sts f hd)[i]:Int):=by rw [l2];simp only [g8.e];exact AaW hk O
   have e2:((sts f hd).take i++[(sts f hd)[i]]).all (ioc b x y top)=(((sts f hd).take i).all (ioc b x y top) && (rko b x y top (ky (sts f hd)[i]) && (BQ (rkd b x y top (ky (sts f hd)[i]))).2)):=by rw [List.all_append];simp [ioc]
   unfold B0 cK cZ wI;dsimp only;rw [iy O,iy O,iy O,Ake,AjO,hget,AjM,AjM,e1,AjM,hrec,AjM];dsimp only;rw [Aap (KC g top (ky (sts f hd)[i])) O,AjM,AjM,Akd hi,Aec,AdP,e2,Akv,Akv,AjY,AjY];dsimp only;have eb:(fn && (((sts f hd).take i).all (ioc b x y top) && (rko b x y top (ky (sts f hd)[i]) && (BQ (rkd b x y top (ky (sts f hd)[i]))).2)))=((fn && (((sts f hd).take i).all (ioc b x y top) && rko b x y top (ky (sts f hd)[i]))) && (BQ (rkd b x y top (ky (sts f hd)[i]))).2):=by simp [AlT]
   have hb:=Agt (fn:=fn && (((sts f hd).take i).all (ioc b x y top) && rko b x y top (ky (sts f hd)[i]))) (c:=(BQ (rkd b x y top (ky (sts f hd)[i]))).2) (l:=bl++(ics b x y top ((sts f hd).take i)++rkc b x y top (ky (sts f hd)[i])));rw [AlT,eb];have ro1:Aa ((((sts f hd).take i).map (ipt b x y top)).length+([(BQ (rkd b x y top (ky (sts f hd)[i]))).1]:List (List Prt)).length) 24=true:=by simp only [Aa,decide_eq_true_eq,AjZ,Akj,AjW];omega
   have ro2:Aa ((ich b x y top ((sts f hd).take i)).length+([(BQ (rkd b x y top (ky (sts f hd)[i]))).1]:List (List Prt)).length) 24=true:=by simp only [Aa,decide_eq_true_eq,AjZ];omega
   rw [<- hb];by_cases hq:bd (fn && (((sts f hd).take i).all (ioc b x y top) && rko b x y top (ky (sts f hd)[i]))) (bl++(ics b x y top ((sts f hd).take i)++rkc b x y top (ky (sts f hd)[i])))=true
   .rw [AjS hq,AjS hq,AjM];dsimp only;rw [AjS ro1];by_cases h0:(sts f hd)[i].1=0
    .rw [iy h0,AjS ro2,AjM,AjS h0];dsimp only;rw [Ak O];rfl
    .rw [ino h0,AjM,AjR h0,Aj2];dsimp only;rw [Ak O];rfl
   .rw [AjR hq,AjR hq,AjM];dsimp only;rw [AjS ro1];by_cases h0:(sts f hd)[i].1=0
    .rw [iy h0,AjS ro2,AjM,AjS h0];dsimp only;rw [Ak O];rfl
    .rw [ino h0,AjM,AjR h0,Aj2];dsimp only;rw [Ak O];rfl) (by
   unfold B0 cK cZ wI;dsimp only;rw [ino O,AkC])
 have e0:ics b x y top ((sts f hd).take 0)=[]:=rfl;have e1:((sts f hd).take 0).all (ioc b x y top)=true:=rfl;have e2:((sts f hd).take 0).map (ipt b x y top)=[]:=rfl;have e3:((sts f hd).take 0).map kyI=[]:=rfl;have e4:ich b x y top ((sts f hd).take 0)=[]:=rfl;rw [e0,e1,e2,e3,e4,Aj2,Aj2,Alm]at hL;exact hL
theorem AhR {a c:List Prt} (hn:a.length<=1048576):Av a c=some (decide (a=c)):=by
 unfold Av;by_cases hl:a.length=c.length
 .rw [ino O];have h:=H0 Am (λi=>(a,c,(a.length:Int),((i:Nat):Int))) (λi=>decide (a[i]?=c[i]?)) false () a.length (λi hi=>by
   have hc:i < c.length:=O
   unfold Am gX wI;dsimp only;rw [iy O,iy O,AjO,AjP hi,AjM,iy O,AjP hc,AjM,Ak O];by_cases hq:a[i]=c[i]
   .rw [hq];simp
   .have:¬ (a[i].1=c[i].1/\a[i].2.1=c[i].2.1/\a[i].2.2=c[i].2.2):=λq=>hq (Prod.ext q.1 (Prod.ext q.2.1 q.2.2))
    have h2:(decide (a[i].1=c[i].1) && (decide (a[i].2.1=c[i].2.1) && ((a[i].2.2 == c[i].2.2) && true)))=false:=by
     cases h3:(decide (a[i].1=c[i].1) && (decide (a[i].2.1=c[i].2.1) && ((a[i].2.2 == c[i].2.2) && true)))with
     | false=>rfl
     | true=>
      simp only [AjT,decide_eq_true_eq,beq_iff_eq,and_true]at h3;exact absurd h3 this
    rw [h2];simp [hq]) (by
   unfold Am gX wI;dsimp only;rw [ino O])
  rw [show Ab Am (a,c,(a.length:Int),0)=_ from h,AjM];have e:((List.range a.length).all λi=>decide (a[i]?=c[i]?))=decide (a=c):=by
   rw [AlJ,all_range,decide_eq_true_eq];constructor
   .intro q;refine AkK λi=>?_
    by_cases hi:i < a.length
    .simpa using q i hi
    .rw [Aka O,Aka O]
   .rintro rfl i _;simp
  rw [e];by_cases hq:a=c <;> simp [hq]
 .rw [iy O,decide_eq_false (λq=>hl (by rw [q]))]
theorem Ahc {a c:List Int} (hn:a.length<=1048576):DF a c=some (decide (a=c)):=by
 unfold DF;by_cases hl:a.length=c.length
 .rw [ino O];have h:=H0 Cp (λi=>(a,c,(a.length:Int),((i:Nat):Int))) (λi=>decide (a[i]?=c[i]?)) false () a.length (λi hi=>by
   have hc:i < c.length:=O
   unfold Cp gX wI;dsimp only;rw [iy O,iy O,AjO,AjP hi,AjM,iy O,AjP hc,AjM,Ak O];by_cases hq:a[i]=c[i]
   .rw [hq];simp
   .simp [hq]) (by
   unfold Cp gX wI;dsimp only;rw [ino O])
  rw [show Ab Cp (a,c,(a.length:Int),0)=_ from h,AjM];have e:((List.range a.length).all λi=>decide (a[i]?=c[i]?))=decide (a=c):=by
   rw [AlJ,all_range,decide_eq_true_eq];constructor
   .intro q;refine AkK λi=>?_
    by_cases hi:i < a.length
    .simpa using q i hi
    .rw [Aka O,Aka O]
   .rintro rfl i _;simp
  rw [e];by_cases hq:a=c <;> simp [hq]
 .rw [iy O,decide_eq_false (λq=>hl (by rw [q]))]
theorem AaG {a c:List Prt} (hn:a.length<=1048576):Iv a c=some (decide (a=c)):=by
 unfold Iv;rw [AhR hn];rfl
def ieq (b:Bls) (x y top:List Int) (f:Int) (t:List UInt8) (cs:List (List Prt)) (s:Int×Int):Bool:=decide (ipt b x y top s=bt f t cs s)
theorem AiF {f hd:Nat} {t:List UInt8} {r:List Rn} {cs:List (List Prt)} (gh:GH (f:Int) t r cs) (hf:hd=f+cs.length) (hh:hd<=60) {ks bl rs:List Int} {m:List (Int×Int)} (bad:Bool) :
  Ab BB ((sts f hd).map (ipt b x y top),sts f hd,(((sts f hd).length:Nat):Int),0,ks,bl,rs,bad,m,d,wr,on,lf,(f:Int),H,E,R,T,b,x,y,z,rt,top,top.map (lfv b),(f:Int),t,r,cs) =
   some (if(sts f hd).all (ieq b x y top (f:Int) t cs)=true then .inl (ks,bl,rs,bad,m,d,wr,on,lf,(f:Int),H,E,R,T,b,x,y,z,rt,top,top.map (lfv b),(f:Int),t,r,cs)
    else .inr (false,d,wr,on,lf,(f:Int),H,E,R,T,b,x,y,z,rt,top,top.map (lfv b),(f:Int),t,r,cs)):=by
 have hsl:=H3 (f:=f) hh;have hL:=H0 BB (λi=>((sts f hd).map (ipt b x y top),sts f hd,(((sts f hd).length:Nat):Int),((i:Nat):Int),ks,bl,rs,bad,m,d,wr,on,lf,(f:Int),H,E,R,T,b,x,y,z,rt,top,top.map (lfv b),(f:Int),t,r,cs))
  (λi=>ieq b x y top (f:Int) t cs (((sts f hd)[i]?).getD (0,0))) (false,d,wr,on,lf,(f:Int),H,E,R,T,b,x,y,z,rt,top,top.map (lfv b),(f:Int),t,r,cs) (ks,bl,rs,bad,m,d,wr,on,lf,(f:Int),H,E,R,T,b,x,y,z,rt,top,top.map (lfv b),(f:Int),t,r,cs) (sts f hd).length (λi hi=>by
   obtain ⟨k,j,g8⟩:=Pf hi;obtain ⟨l1,l2,l3⟩:=g8.lt hh;obtain ⟨f1,f2,f3,f4,f5⟩:=g8.ft;have hk:=g8.hk;have hget:(sts f hd)[i]?=some ((sts f hd)[i]):=AjP hi;have hml:((sts f hd).map (ipt b x y top))[i]?=some (ipt b x y top (sts f hd)[i]):=by rw [Akr,hget];rfl
   have e1:ER (sts f hd)[i].1 (sts f hd)[i].2=some (frS (sts f hd)[i]:Int):=by rw [f1];simp only [g8.e];exact AcD hk O
   have e2:Ge (sts f hd)[i].1 (sts f hd)[i].2=some (toS (sts f hd)[i]:Int):=by rw [f2];simp only [g8.e];exact Af1 hk O
   have hsm:=(Rq (rkd b x y top (ky (sts f hd)[i]))).len;have hip:(ipt b x y top (sts f hd)[i]).length<=1048576:=by unfold ipt;omega
   unfold BB cK cZ wI;dsimp only;rw [iy O,iy O,iy O,Ake,AjO,hget,AjM,AjM,iy O,iy (by rw [Akj];omega),hml,AjM,e1,AjM,e2,AjM,Xg gh O O O,AjM,AaG hip,AjM,Akx];have he:ieq b x y top (f:Int) t cs (sts f hd)[i]=decide (ipt b x y top (sts f hd)[i]=BW (f:Int) t cs (frS (sts f hd)[i]:Int) (toS (sts f hd)[i]:Int)):=rfl;rw [he];by_cases hq:ipt b x y top (sts f hd)[i]=BW (f:Int) t cs (frS (sts f hd)[i]:Int) (toS (sts f hd)[i]:Int)
   .rw [decide_eq_true hq,AjR Z,AjS rfl,Ak O]
   .rw [decide_eq_false hq,AjS Z,AjR Z]) (by
   unfold BB cK cZ wI;dsimp only;rw [ino O])
 have e:((List.range (sts f hd).length).all λi=>ieq b x y top (f:Int) t cs (((sts f hd)[i]?).getD (0,0)))=(sts f hd).all (ieq b x y top (f:Int) t cs):=by
  rw [AlJ,all_range,Aki];constructor
  .intro q s hs;obtain ⟨i,hi,rfl⟩:=Akq hs;have:=q i hi;rw [AjP hi]at this;exact this
  .intro q i hi;rw [AjP hi];exact q _ (Akc hi)
 rw [e]at hL;exact hL
def btl (b:Bls) (x y top:List Int):List Nat->List Int->List Int->List Int
 | [],P,bl=>bl
 | r::l,P,bl=>btl b x y top l (P++tpc b x y (vl b top (384+r))) (btx b x y P bl (vl b top (384+r)))
theorem X0 (b:Bls) (x y top:List Int):∀(l:List Nat) (P bl:List Int) (r:Nat),btl b x y top (l++[r]) P bl=btx b x y (P++ckp b x y top l) (btl b x y top l P bl) (vl b top (384+r))
 | [],P,bl,r=>by simp [btl,ckp]
 | a::l,P,bl,r=>by
  have h:=X0 b x y top l (P++tpc b x y (vl b top (384+a))) (btx b x y P bl (vl b top (384+a))) r;have e:ckp b x y top (a::l)=tpc b x y (vl b top (384+a))++ckp b x y top l:=by unfold ckp;rw [Ak9]
  rw [e,<- AjY];exact h
theorem Aam {b:Bls} {x y top:List Int}:∀(l:List Nat) {C P bl:List Int},Led C P bl->Led (C++ckc b x y top l) (P++ckp b x y top l) (btl b x y top l P bl)
 | [],C,P,bl,h=>by simpa [ckc,ckp,btl] using h
 | a::l,C,P,bl,h=>by
  have h1:=Aam (b:=b) (x:=x) (y:=y) (top:=top) l (ZJ (b:=b) (x:=x) (y:=y) h (vl b top (384+a)));have e1:ckp b x y top (a::l)=tpc b x y (vl b top (384+a))++ckp b x y top l:=by unfold ckp;rw [Ak9]
  have e2:ckc b x y top (a::l)=tcl b x y (vl b top (384+a))++ckc b x y top l:=by unfold ckc;rw [Ak9]
  rw [e1,e2,<- AjY,<- AjY];exact h1
theorem TM (b:Bls) (x y top:List Int):∀(l:List Nat) (P bl:List Int),(btl b x y top l P bl).length<=bl.length+4 * l.length
 | [],P,bl=>by simp [btl]
 | a::l,P,bl=>by
  have h1:=TM b x y top l (P++tpc b x y (vl b top (384+a))) (btx b x y P bl (vl b top (384+a)));have h2:=ZX b x y P bl (vl b top (384+a));rw [Aj1];show(btl b x y top l _ _).length<=_;omega
theorem Aii (g:RS b x y) (ht:top.length=32) {f hd e:Nat} {t:List UInt8} {r:List Rn} {cs:List (List Prt)} (gh:GH (f:Int) t r cs) (hf:hd=f+cs.length) (hh:hd<=60) {ks bl rs P:List Int} (hbl:bl.length<=80000) (hks:ks.length<=80000) (hP:P.length<=80000) (fn:Bool) :
  Ab Bz ((cks f hd e).map (λr=>((r:Nat):Int)),((((cks f hd e).map (λr=>((r:Nat):Int))).length:Nat):Int),0,ks,bl,rs,bd fn bl,std P,d,wr,on,lf,(f:Int),H,E,R,T,b,x,y,z,rt,top,top.map (lfv b),(f:Int),t,r,cs) =
   some (if(cks f hd e).all (cke b x y top f t cs)=true then .inl (ks++(cks f hd e).map ckI,btl b x y top (cks f hd e) P bl,rs,bd (fn && cko b x y top (cks f hd e)) (btl b x y top (cks f hd e) P bl),std (P++ckp b x y top (cks f hd e)),d,wr,on,lf,(f:Int),H,E,R,T,b,x,y,z,rt,top,top.map (lfv b),(f:Int),t,r,cs)
    else .inr (false,d,wr,on,lf,(f:Int),H,E,R,T,b,x,y,z,rt,top,top.map (lfv b),(f:Int),t,r,cs)):=by
 have hcl:=M3 (f:=f) (e:=e) hh;have hL:=H0 Bz (λi=>((cks f hd e).map (λr=>((r:Nat):Int)),((((cks f hd e).map (λr=>((r:Nat):Int))).length:Nat):Int),((i:Nat):Int),ks++((cks f hd e).take i).map ckI,btl b x y top ((cks f hd e).take i) P bl,rs,bd (fn && cko b x y top ((cks f hd e).take i)) (btl b x y top ((cks f hd e).take i) P bl),std (P++ckp b x y top ((cks f hd e).take i)),d,wr,on,lf,(f:Int),H,E,R,T,b,x,y,z,rt,top,top.map (lfv b),(f:Int),t,r,cs))
  (λi=>cke b x y top f t cs (((cks f hd e)[i]?).getD 0)) (false,d,wr,on,lf,(f:Int),H,E,R,T,b,x,y,z,rt,top,top.map (lfv b),(f:Int),t,r,cs) (ks++(cks f hd e).map ckI,btl b x y top (cks f hd e) P bl,rs,bd (fn && cko b x y top (cks f hd e)) (btl b x y top (cks f hd e) P bl),std (P++ckp b x y top (cks f hd e)),d,wr,on,lf,(f:Int),H,E,R,T,b,x,y,z,rt,top,top.map (lfv b),(f:Int),t,r,cs) (cks f hd e).length (λi hi=>by
   have hget:(cks f hd e)[i]?=some ((cks f hd e)[i]):=AjP hi;have hml:((cks f hd e).map (λr=>((r:Nat):Int)))[i]?=some (((cks f hd e)[i]:Nat):Int):=by rw [Akr,hget];rfl
   obtain ⟨q1,q2,q3⟩:=cks_mem.1 (Akc hi);have htl:=(Qn b x y top ((cks f hd e).take i)).2;have hbn:=TM b x y top ((cks f hd e).take i) P bl;rw [AjW]at htl hbn;have ew:IntKind.wrap .i64 (384+(((cks f hd e)[i]:Nat):Int))=((384+(cks f hd e)[i]:Nat):Int):=by rw [w64 O O];omega
   have htx:=PB gh (x:=(((cks f hd e)[i]:Nat):Int)) O O;rw [show((((cks f hd e)[i]:Nat):Int) - (f:Int)).toNat=(cks f hd e)[i] - f by omega]at htx;have hrt:=Ahx (z:=z) g (vl b top (384+(cks f hd e)[i])) (P:=P++ckp b x y top ((cks f hd e).take i)) (bl:=btl b x y top ((cks f hd e).take i) P bl) O (by rw [AjU];omega) (fn && cko b x y top ((cks f hd e).take i)) (ks++((cks f hd e).take i).map ckI++[ckI (cks f hd e)[i]]) rs d wr on lf (f:Int) H E R T;have a2:ckp b x y top ((cks f hd e).take i++[(cks f hd e)[i]])=ckp b x y top ((cks f hd e).take i)++tpc b x y (vl b top (384+(cks f hd e)[i])):=by unfold ckp;rw [Ak6];simp
   have a3:cko b x y top ((cks f hd e).take i++[(cks f hd e)[i]])=(cko b x y top ((cks f hd e).take i) && tok b x y (vl b top (384+(cks f hd e)[i]))):=by unfold cko;rw [List.all_append];simp
   unfold Bz cK cZ wI;dsimp only;rw [iy (by rw [Akj];omega),iy O,iy (by rw [Akj];omega),Ake,AjO,hml,AjM,ew,AjS (by simp only [Aa,decide_eq_true_eq,AjZ,AjU,Akj,AjW];omega),LV ht rt O,AjM,
    show((384+(cks f hd e)[i]:Nat):Int)=ckI (cks f hd e)[i] from rfl,hrt,AjM]
   dsimp only;rw [htx,AjM,hget,Akx,Akd hi,X0,a2,a3,Akv,AjY,AjY,AlT];unfold cke;cases hq:(ttx b x y (vl b top (384+(cks f hd e)[i])) == txt t (cs.take ((cks f hd e)[i] - f)))with
   | true=>rw [AjR Z,AjS rfl,Ak O];rfl
   | false=>rw [AjS Z,AjR Z]) (by
   unfold Bz cK cZ wI;dsimp only;rw [ino (by rw [Akj];omega),AkC])
 have eq9:((List.range (cks f hd e).length).all λi=>cke b x y top f t cs (((cks f hd e)[i]?).getD 0))=(cks f hd e).all (cke b x y top f t cs):=by
  rw [AlJ,all_range,Aki];constructor
  .intro q s hs;obtain ⟨i,hi,rfl⟩:=Akq hs;have:=q i hi;rw [AjP hi]at this;exact this
  .intro q i hi;rw [AjP hi];exact q _ (Akc hi)
 rw [eq9]at hL;have e0:((cks f hd e).take 0).map ckI=[]:=rfl;have e1:cko b x y top ((cks f hd e).take 0)=true:=rfl;have e2:ckp b x y top ((cks f hd e).take 0)=[]:=rfl;have e3:btl b x y top ((cks f hd e).take 0) P bl=bl:=rfl;rw [e0,e1,e2,e3,Aj2,Aj2,Alm]at hL;exact hL
end
end Go.V.G