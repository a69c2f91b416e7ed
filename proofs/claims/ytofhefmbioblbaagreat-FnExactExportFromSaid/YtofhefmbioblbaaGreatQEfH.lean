import Derived.Test.YtofhefmbioblbaaGreatQEfA
import Derived.Test.YtofhefmbioblbaaGreatQEfC
import Derived.Test.YtofhefmbioblbaaGreatQEfF
import Derived.Test.YtofhefmbioblbaaGreatQEfG
set_option linter.unusedVariables false
set_option linter.unusedSimpArgs false
set_option maxRecDepth 100000
namespace Go.V.G
open Go.V
theorem Pq {l:List Rn} (h:AB l (Az l) 60=true):Pos l/\Az l<=120:=by
 obtain ⟨⟨q1,_⟩,_,q4⟩:=goodRuns_iff.1 h;exact⟨q4.pos,q1.2⟩
theorem Wd {l:List Rn} (hl:l.length<=1000000000):∀(n i:Nat),i+n=l.length->(∀q∈l.take i,1<=q.2)->Az (l.take i)<=240->
  Ab Cr (l,Az (l.take i),l,(l.length:Int),(i:Int))=some (.inl (l,Az l))\/(Ab Cr (l,Az (l.take i),l,(l.length:Int),(i:Int))=some (.inr false)/\AB l (Az l) 60=false)
 | 0,i,hi,hp,hs=>by
  left;obtain rfl:i=l.length:=O
  rw [AI];unfold Cr gX wI;dsimp only;rw [AlZ Z,AmL]
 | n+1,i,hi,hp,hs=>by
  have hlt:i < l.length:=O
  have h0:0<=Az (l.take i):=CY hp;have e1:=WD hlt;have c0:(i:Int) < (l.length:Int):=O
  have hge:l[Int.toNat (i:Int)]?=some l[i]:=by rw [AlX];exact AlW hlt
  have p0:(0:Int)<=(i:Int):=O
  have bad:(¬ (1<=l[i].2/\l[i].2<=120)\/120 < Az (l.take i))->AB l (Az l) 60=false:=by
   intro h;cases hg:AB l (Az l) 60 with
   | false=>rfl
   | true=>
    obtain ⟨g1,g2⟩:=Pq hg;have h1:=g1 _ (Amc hlt);have h2:=J3 g1 _ (Amc hlt);have h3:=QC g1 i;omega
  by_cases h1:1<=l[i].2/\l[i].2<=120
  .by_cases h2:120 < Az (l.take i)
   .right;refine⟨?_,bad (.inr h2)⟩;rw [AI];unfold Cr gX wI;simp only [c0,p0,hge,decide_true,Amd,AlU,AK,h1,and_self,h2,AmN,Al8,Amv]
   .have w:IntKind.wrap .i64 (Az (l.take i)+l[i].2)=Az (l.take (i+1)):=by rw [w64 O O,e1]
    have hs':Cr (l,Az (l.take i),l,(l.length:Int),(i:Int))=some (.inl (l,Az (l.take (i+1)),l,(l.length:Int),((i+1:Nat):Int))):=by
     unfold Cr gX wI;simp only [c0,p0,hge,decide_true,decide_false,Amd,AlU,AK,h1,and_self,h2,AmN,Al8,Amv,w,An (O:l.length<=1099511627776) hlt]
    rw [AI,hs'];exact Wd hl n (i+1) O (λq hq=>by
     rw [Ama hlt]at hq;rcases Al3.1 hq with hq | hq
     .exact hp q hq
     .rw [Al6.1 hq];exact h1.1) O
  .right;refine⟨?_,bad (.inl h1)⟩;rw [AI];unfold Cr gX wI;simp only [c0,p0,hge,decide_true,Amd,AlU,AK,h1,decide_false,AnX]
theorem Xp {l:List Rn} (hl:l.length<=1000000000):Jo l=some (AB l (Az l) 60):=by
 unfold Jo;rcases Wd hl l.length 0 O Z (by simp [Az])with h | ⟨h,h2⟩
 .rw [show Ab Cr (l,0,l,(l.length:Int),0)=_ from h,AlU];dsimp only;rw [PL O];rfl
 .rw [show Ab Cr (l,0,l,(l.length:Int),0)=_ from h,AlU,h2]
theorem YK {l:List Rn} (hl:l.length<=1000000000):∀(n i:Nat),i+n=l.length->(∀q∈l.take i,1<=q.2)->Az (l.take i)<=120->
  (Ab DX (Az (l.take i),l,(l.length:Int),(i:Int))=some (.inl (Az l))/\0<=Az l)\/(Ab DX (Az (l.take i),l,(l.length:Int),(i:Int))=some (.inr (-1))/\AB l (Az l) 60=false)
 | 0,i,hi,hp,hs=>by
  left;obtain rfl:i=l.length:=O
  have h0:0<=Az (l.take l.length):=CY hp;rw [AmL]at h0 ⊢;refine⟨?_,h0⟩;rw [AI];unfold DX gX wI;dsimp only;rw [AlZ Z]
 | n+1,i,hi,hp,hs=>by
  have hlt:i < l.length:=O
  have h0:0<=Az (l.take i):=CY hp;have e1:=WD hlt;have c0:(i:Int) < (l.length:Int):=O
  have hge:l[Int.toNat (i:Int)]?=some l[i]:=by rw [AlX];exact AlW hlt
  have p0:(0:Int)<=(i:Int):=O
  have w0:IntKind.wrap .i64 (120 - Az (l.take i))=120 - Az (l.take i):=w64 O O;by_cases h1:1<=l[i].2/\l[i].2<=120 - Az (l.take i)
  .have w:IntKind.wrap .i64 (Az (l.take i)+l[i].2)=Az (l.take (i+1)):=by rw [w64 O O,e1]
   have hs':DX (Az (l.take i),l,(l.length:Int),(i:Int))=some (.inl (Az (l.take (i+1)),l,(l.length:Int),((i+1:Nat):Int))):=by
    unfold DX gX wI;simp only [c0,p0,hge,decide_true,decide_false,Amd,AlU,B2,w0,h1,and_self,AmN,Al8,Amv,w,An (O:l.length<=1099511627776) hlt]
   rw [AI,hs'];exact YK hl n (i+1) O (λq hq=>by
    rw [Ama hlt]at hq;rcases Al3.1 hq with hq | hq
    .exact hp q hq
    .rw [Al6.1 hq];exact h1.1) O
  .right;refine⟨?_,?_⟩
   .rw [AI];unfold DX gX wI;simp only [c0,p0,hge,decide_true,Amd,AlU,B2,w0,h1,decide_false,AnX]
   .cases hg:AB l (Az l) 60 with
    | false=>rfl
    | true=>
     obtain ⟨g1,g2⟩:=Pq hg;have h1:=g1 _ (Amc hlt);have h3:=QC g1 (i+1);omega
theorem Aax {l:List Rn} (hl:l.length<=1000000000):OT l=some (AB l (Az l) 60):=by
 unfold OT U7;rcases YK hl l.length 0 O Z (by simp [Az])with⟨h,h2⟩ | ⟨h,h2⟩
 .rw [show Ab DX (0,l,(l.length:Int),0)=_ from h];simp only [AlU,h2,decide_true,Amd];rw [PK O];rfl
 .rw [show Ab DX (0,l,(l.length:Int),0)=_ from h,h2];rfl
theorem L9:∀(xs:List Int),(BA xs).length=xs.length / 2
 | []=>rfl
 | [a]=>by simp [BA]
 | a::b::xs=>by
  have:=L9 xs;simp only [BA,Al7];omega
theorem AdQ:∀(xs:List Int) (i:Nat) (h:2 * i+1 < xs.length),(BA xs)[i]?=some (xs[2 * i],xs[2 * i+1])
 | [],i,h=>by simp at h
 | [a],i,h=>by simp at h
 | a::b::xs,0,h=>rfl
 | a::b::xs,i+1,h=>by
  simp only [Al7]at h;have:=AdQ xs i O;simp only [BA,Am3,this];rfl
def rdR (x:List Int):List Rn×Bool:=if x.length % 2=0/\AB (BA x) (Az (BA x)) 60=true then(BA x,true)else([],false)
theorem AkJ {x:List Int} (hb:Byt x) (hl:x.length<=1048576):Hm x=some (rdR x):=by
 unfold Hm rdR;rw [Al1 ⟨hl,hb⟩];by_cases h:x.length % 2=0
 .rw [Al1 h,Xp (by rw [L9];omega),AlU];cases AB (BA x) (Az (BA x)) 60 <;> simp [h]
 .rw [AlZ h,AlZ (λq=>h q.1)]
theorem AkU {x:List Int} (hb:Byt x) (hl:x.length<=1048576):Lz x=some (rdR x):=by
 unfold Lz cK;have hm:Int.tmod (x.length:Int) 2=((x.length % 2:Nat):Int):=by rw [Anz O];omega
 rw [hm];by_cases h:x.length % 2=0
 .by_cases h2:240 < x.length
  .have hg:¬ AB (BA x) (Az (BA x)) 60=true:=λhg=>by
    obtain ⟨g1,g2⟩:=Pq hg;have:=Gi g1;rw [L9]at this;omega
   have hr:rdR x=([],false):=AlZ (λq=>hg q.2);rw [hr];have h3:(240:Int) < (x.length:Int):=O
   simp [h,h3]
  .have h3:¬ (240:Int) < (x.length:Int):=O
   have hloop:=Ai F7 (λi=>(x,(BA x).take i,((2 * i:Nat):Int))) (x.length / 2) (BA x) (λi hi=>by
    have c0:((2 * i:Nat):Int) < (x.length:Int):=O
    have i1:2 * i < x.length:=O
    have i2:2 * i+1 < x.length:=O
    have g0:x[Int.toNat ((2 * i:Nat):Int)]?=some x[2 * i]:=by rw [AlX];exact AlW i1
    have w1:IntKind.wrap .i64 (((2 * i:Nat):Int)+1)=((2 * i+1:Nat):Int):=by rw [w64 O O];omega
    have w2:IntKind.wrap .i64 (((2 * i:Nat):Int)+2)=((2 * (i+1):Nat):Int):=by rw [w64 O O];omega
    have g1:x[Int.toNat ((2 * i+1:Nat):Int)]?=some x[2 * i+1]:=by rw [AlX];exact AlW i2
    have b0:=hb _ (Amc i1);have b1:=hb _ (Amc i2);have w3:IntKind.wrap .i64 x[2 * i]=x[2 * i]:=w64 O O;have w4:IntKind.wrap .i64 x[2 * i+1]=x[2 * i+1]:=w64 O O;have hpl:i < (BA x).length:=by rw [L9];exact hi
    have hpg:=AdQ x i i2;have ht:(BA x).take (i+1)=(BA x).take i++[(x[2 * i],x[2 * i+1])]:=by
     rw [List.take_add_one,hpg];rfl
    unfold F7 cK gX wI;simp only [c0,w1,w2,w3,w4,g0,g1,decide_true,Amd,AlU,show(0:Int)<=((2 * i:Nat):Int) from by omega,show(0:Int)<=((2 * i+1:Nat):Int) from by omega,ht,
     show Aa (List.length ((BA x).take i)+List.length ([(x[2 * i],x[2 * i+1])]:List (Int×Int))) 16=true from CW (by rw [Al4,L9];simp;omega) O]) (by
    have c0:¬ ((2 * (x.length / 2):Nat):Int) < (x.length:Int):=O
    unfold F7 cK gX wI;simp only [c0,decide_false,Al8,Amv];rw [AmK (by rw [L9];exact Amu _)])
   have hl0:Ab F7 (x,[],0)=some (BA x):=by simpa using hloop
   simp only [h,h3,(O:¬ (2:Int)=0),not_false_eq_true,decide_true,decide_false,Amd,Al8,Amv,AlU,hl0,(O:¬ (((0:Nat):Int))=1)];rw [Aax (by rw [L9];omega),AlU];unfold rdR;cases AB (BA x) (Az (BA x)) 60 <;> simp [h]
 .have h1:x.length % 2=1:=O
  have hr:rdR x=([],false):=AlZ (λq=>h q.1);rw [hr];simp [h1]
theorem Abb (x:List Int):(rdR x).1.length<=120:=by
 unfold rdR;split
 .rename_i h;obtain ⟨g1,g2⟩:=Pq h.2;have:=Gi g1;dsimp only;omega
 .simp
def be (x:List Int):Int:=x.foldl (λa b=>a * 256+b) 0
end Go.V.G
set_option maxRecDepth 100000
namespace Go.V.G
open Go.V
theorem whl {σ τ:Type} (L:σ->Option (σ⊕τ)) (st:Nat->σ) (fin:Nat->τ) (ok:Nat->Bool) (n:Nat)
  (step:∀j,j < n->ok j=true->L (st j)=some (.inl (st (j+1)))) (stop:∀j,j<=n->(j=n\/ok j=false)->L (st j)=some (.inr (fin j))) :
  ∃j,j<=n/\(j=n\/ok j=false)/\Ab L (st 0)=some (fin j):=by
 have:∀d,d<=n->∃j,j<=n/\(j=n\/ok j=false)/\Ab L (st (n - d))=some (fin j):=by
  intro d
  induction d with
  | zero=>intro _;exact⟨n,Amu _,.inl rfl,by rw [AI,AnE,stop n (Amu _) (.inl rfl)]⟩
  | succ d ih=>
   intro hd;by_cases h:ok (n - (d+1))=true
   .obtain ⟨j,h1,h2,h3⟩:=ih O;refine⟨j,h1,h2,?_⟩;rw [AI,step _ O h];rw [(O:n - d=n - (d+1)+1)]at h3;exact h3
   .have h':ok (n - (d+1))=false:=by simpa using h
    exact⟨n - (d+1),O,.inr h',by rw [AI,stop _ O (.inr h')]⟩
 have h:=this n (Amu _);rw [AnF]at h;exact h
theorem AiS {b:Bls} (hu:∀c∈b,U8s c) (a:Int):∀v∈rcO b a,0<=v/\v<=255:=by
 intro v hv;unfold rcO at hv;have hv:=AnA (Am7 hv);by_cases h:a.toNat < b.length
 .exact hu _ (BC h) v hv
 .unfold blk at hv;rw [Amn O]at hv;cases hv
theorem AfG {b:Bls} {x y:List Int} (hu:∀c∈b,U8s c):∀(f:Nat) (a:Int) (d ch:List Int) {p:List Int×List Int},(∀v∈d,0<=v/\v<=255)->rcN b x y f a d ch=some p->∀v∈p.1,0<=v/\v<=255
 | 0,_,_,_,p,_,h=>by cases h
 | f+1,a,d,ch,p,hd,h=>by
  have hd':∀v∈d++rcO b a,0<=v/\v<=255:=λv hv=>by
   rcases Al3.1 hv with hv | hv
   .exact hd v hv
   .exact AiS hu a v hv
  unfold rcN at h;split at h
  .split at h
   .injection h with h;subst h;exact hd'
   .exact AfG hu f _ _ _ hd' h
  .cases h
theorem LC {b:Bls} {x y:List Int} (g:RS b x y) (top:List Int) (k:Nat):Byt (rkd b x y top k):=by
 intro v hv;unfold rkd rcA at hv;split at hv
 .rename_i p hp;exact AfG g.hu _ _ _ _ Z hp v hv
 .cases hv
theorem AcB {b:Bls} {top:List Int} (a1 a2 a3 a4 a5:Int) (b':Bls) (x y z:List Int) (f:Int) (t:List UInt8) (r:List (Int×Int)) (cs:List (List Prt)) (rc:List Int) {k:Nat} (hk:k < 1024) :
  DS a1 a2 a3 a4 a5 b' x y z (ksT b top 1024) f t r cs rc (k:Int)=some (vl b top k):=by
 have:=Q3 b top 1024;rw [AfN O,AjB b top hk]
theorem AfS {i:Nat} (hi:i < 64):Gk 0 (i:Int)=some (i:Int):=by
 have:=Lp (k:=0) (i:=i) O hi;rw [Nat.mul_zero,Amk]at this;exact this
def tpc (b:Bls) (x y:List Int) (a:Int):List Int:=(ptx b x y a).getD []
def tcl (b:Bls) (x y:List Int) (a:Int):List Int:=if(ptx b x y a).isSome=true then [a]else []
def tok (b:Bls) (x y:List Int) (a:Int):Bool:=(ptx b x y a).isSome
def ttx (b:Bls) (x y:List Int) (a:Int):List UInt8:=(tin b x y a).1
def btx (b:Bls) (x y:List Int) (P bl:List Int) (a:Int):List Int:=match ptx b x y a with
 | some l=>bpn P (bl++[a]) l l.length
 | none=>bl
theorem TF (b:Bls) (x y:List Int) (a:Int):(tpc b x y a).length<=3/\(tcl b x y a).length<=1/\(ttx b x y a).length<=120:=by
 unfold tpc tcl ttx tin;cases h:ptx b x y a with
 | none=>simp
 | some l=>
  obtain ⟨⟨hall,_,hlen⟩,_⟩:=Jd h;have:=Ug hall;simp;omega
theorem Ajs {b:Bls} {x y z:List Int} (g:RS b x y) (a:Int) {P C:List Int} (hC:C.length<=90000) (hP:P.length<=90000) (fn:Bool) (rs:List Int) :
  BK a b x y z rs (srt C) (mny b.length P) (okb fn C)=some (ttx b x y a,b,x,y,z,rs,srt (C++tcl b x y a),mny b.length (P++tpc b x y a),okb (fn && tok b x y a) (C++tcl b x y a)):=by
 unfold ttx tcl tpc tok tin;cases h:ptx b x y a with
 | none=>
  rw [Yv g h];simp [okb]
 | some l=>
  rw [Z3 g h hC hP];simp
theorem AjH {b:Bls} {x y z:List Int} (g:RS b x y) (a:Int) {P bl:List Int} (hbl:bl.length<=90000) (hP:P.length<=90000) (fn:Bool) (ks rs:List Int) (d:Bls) (a1:Int) (a2:Bool) (a3 a4 a5 a6 a7 a8:Int) :
  Bo a ks bl rs (bd fn bl) d a1 a2 a3 a4 a5 a6 a7 a8 b x y z (std P) =
   some (ttx b x y a,ks,btx b x y P bl a,rs,bd (fn && tok b x y a) (btx b x y P bl a),d,a1,a2,a3,a4,a5,a6,a7,a8,b,x,y,z,std (P++tpc b x y a)):=by
 unfold ttx tpc tok btx tin;cases h:ptx b x y a with
 | none=>
  rw [Yr g h];simp [bd]
 | some l=>
  rw [Yo g h hbl hP];simp
theorem AbX {b:Bls} {x y C P bl:List Int} (h:Led C P bl) (a:Int):Led (C++tcl b x y a) (P++tpc b x y a) (btx b x y P bl a):=by
 unfold tcl tpc btx;cases hp:ptx b x y a with
 | none=>simpa using h
 | some l=>
  have:=AbV (l:=l) (h.claim a) l.length (Amu _);rw [AmL]at this;simpa using this
theorem Ab8 (b:Bls) (x y P bl:List Int) (a:Int):(btx b x y P bl a).length<=bl.length+4:=by
 unfold btx;split
 .rename_i l hp;obtain ⟨⟨_,_,hlen⟩,_⟩:=Jd hp;have:=Ve P (bl++[a]) l l.length;rw [Al0,Amb]at this;omega
 .omega
section
variable {F H E R T:Int} {b:Bls} {x y z top:List Int}
theorem AkW {ks:List Kv} {w:List Int} (hl:ks.length=w.length) (hk:ks.length<=100000) (pg:List Int) :
  Ab EY (ks,pg,w,(ks.length:Int),0,0,0,0,0,0,0,[],F,H,E,R,T,b,x,y,z)=some (if ks.map (·.1)=w then .inl (ks,pg,0,0,0,0,0,0,[],F,H,E,R,T,b,x,y,z)else .inr (false,0,0,0,0,0,0,[])):=by
 have h:=IE EY (λi=>(ks,pg,w,(ks.length:Int),((i:Nat):Int),0,0,0,0,0,0,[],F,H,E,R,T,b,x,y,z)) (λi=>decide ((sg ks i).1=gb w i)) (false,0,0,0,0,0,0,[]) (ks,pg,0,0,0,0,0,0,[],F,H,E,R,T,b,x,y,z) ks.length (λi hi=>by
  unfold EY cK cZ wI;dsimp only;rw [iy O,iy O,iy O,Amk,AlX,J5 hi,AlU,AlU,iy O,iy O,Aj O,AlU];by_cases hq:(sg ks i).1=gb w i
  .rw [ino (not_not_intro hq),decide_eq_true hq,Al1 rfl,Am O]
  .rw [iy hq,decide_eq_false hq,AlZ Z]) (by
  unfold EY cK cZ wI;dsimp only;rw [ino O])
 rw [show Ab EY (ks,pg,w,(ks.length:Int),0,0,0,0,0,0,0,[],F,H,E,R,T,b,x,y,z)=_ from h];have e:((List.range ks.length).all λi=>decide ((sg ks i).1=gb w i))=decide (ks.map (·.1)=w):=by
  rw [An0,all_range,decide_eq_true_eq];constructor
  .intro q;refine AmT λi=>?_
   by_cases hi:i < ks.length
   .have:=q i hi;simp only [decide_eq_true_eq]at this;rw [AmB,J5 hi,Aj O,<- this];rfl
   .rw [Amn AlR,Amn O]
  .rintro q i hi;have h1:(ks.map (·.1))[i]?=w[i]?:=by rw [q]
   rw [AmB,J5 hi,Aj O]at h1;injection h1 with h1
   exact decide_eq_true h1
 rw [e];by_cases hq:ks.map (·.1)=w <;> simp [hq]
def lod (b:Bls) (x y top:List Int) (f j:Nat):List (List Int):=(List.range j).map λi=>rkd b x y top (f+i)
def Ct (b:Bls) (x y top:List Int) (f j:Nat):List Int:=(List.range j).flatMap λi=>rkc b x y top (f+i)
def loo (b:Bls) (x y top:List Int) (f j:Nat):Bool:=(List.range j).all λi=>rko b x y top (f+i) && (BU (rkd b x y top (f+i))).2
theorem Af6 (b:Bls) (x y top:List Int) (f j:Nat):lod b x y top f (j+1)=lod b x y top f j++[rkd b x y top (f+j)]:=by unfold lod;rw [O4]
theorem SE (b:Bls) (x y top:List Int) (f j:Nat):Ct b x y top f (j+1)=Ct b x y top f j++rkc b x y top (f+j):=by unfold Ct;rw [AnI,Am9];simp
theorem YG (b:Bls) (x y top:List Int) (f j:Nat):loo b x y top f (j+1)=(loo b x y top f j && (rko b x y top (f+j) && (BU (rkd b x y top (f+j))).2)):=by unfold loo;rw [AnI,List.all_append];simp
theorem UG (b:Bls) (x y top:List Int) (f:Nat):∀j,(Ct b x y top f j).length<=10 * j
 | 0=>by simp [Ct]
 | j+1=>by
  have h1:=UG b x y top f j;have h2:=(HY b x y top (f+j)).1;rw [SE,Al0];omega
def chC (l:List (List Int)):List (List Prt):=l.map λc=>(BU c).1
theorem AfK (l:List (List Int)) (c:List Int):chC (l++[c])=chC l++[(BU c).1]:=by unfold chC;rw [AmD];rfl
theorem Akr (h:SB b x y z) (g:RS b x y) {f hd:Nat} (hf:f<=hd) (hh:hd<=60) {C rs m:List Int} (hC:C.length<=80000) (fn:Bool) (t:List UInt8) (r:List Rn) :
  ∃j,j<=hd - f/\(j=hd - f\/okb (fn && loo b x y top f j) (C++Ct b x y top f j)=false)/\
   Ab Hd ((f:Int),0,0,0,0,0,0,[],(f:Int),(hd:Int),E,R,T,b,x,y,z,(f:Int),(hd:Int),E,R,T,b,x,y,z,ksT b top 1024,0,[],(f:Int),t,r,[],b,x,y,z,rs,srt C,m,okb fn C) =
    some (0,0,0,0,0,0,[],(f:Int),(hd:Int),E,R,T,b,x,y,z,(f:Int),(hd:Int),E,R,T,b,x,y,z,ksT b top 1024,0,[],(f:Int),t,r,chC (lod b x y top f j),b,x,y,z,rs,srt (C++Ct b x y top f j),m,okb (fn && loo b x y top f j) (C++Ct b x y top f j)):=by
 have hw:=whl Hd (λj=>(((f+j:Nat):Int),0,0,0,0,0,0,[],(f:Int),(hd:Int),E,R,T,b,x,y,z,(f:Int),(hd:Int),E,R,T,b,x,y,z,ksT b top 1024,0,[],(f:Int),t,r,chC (lod b x y top f j),b,x,y,z,rs,srt (C++Ct b x y top f j),m,okb (fn && loo b x y top f j) (C++Ct b x y top f j)))
  (λj=>(0,0,0,0,0,0,[],(f:Int),(hd:Int),E,R,T,b,x,y,z,(f:Int),(hd:Int),E,R,T,b,x,y,z,ksT b top 1024,0,[],(f:Int),t,r,chC (lod b x y top f j),b,x,y,z,rs,srt (C++Ct b x y top f j),m,okb (fn && loo b x y top f j) (C++Ct b x y top f j)))
  (λj=>okb (fn && loo b x y top f j) (C++Ct b x y top f j)) (hd - f) (λj hj hok=>by
   have hll:=UG b x y top f j;have hk:=HY b x y top (f+j);have hr:=Qm (z:=z) (top:=top) h g (C:=C++Ct b x y top f j) (by rw [Al0];omega) (k:=f+j) (fn && loo b x y top f j) rs m;have hcl:(chC (lod b x y top f j)).length=j:=by unfold chC lod;simp
   unfold Hd cK wI;dsimp only;rw [iy O,AlU];dsimp only;rw [hok]at hr ⊢;rw [Al1 rfl,AfS O,AlU,AcB _ _ _ _ _ _ _ _ _ _ _ _ _ _ O,AlU,hr,AlU];dsimp only;rw [Aiz (LC g top (f+j)) O,AlU,SE,YG,Af6,AfK,<- Al5];have hb:(if okb (fn && loo b x y top f j && rko b x y top (f+j)) (C++Ct b x y top f j++rkc b x y top (f+j))=true then(BU (rkd b x y top (f+j))).2 else false)=okb (fn && (loo b x y top f j && (rko b x y top (f+j) && (BU (rkd b x y top (f+j))).2))) (C++Ct b x y top f j++rkc b x y top (f+j)):=by
    unfold okb;cases fn <;> cases loo b x y top f j <;> cases rko b x y top (f+j) <;> cases ndb (C++Ct b x y top f j++rkc b x y top (f+j)) <;> cases (BU (rkd b x y top (f+j))).2 <;> rfl
   have hro:Aa ((chC (lod b x y top f j)).length+([(BU (rkd b x y top (f+j))).1]:List (List Prt)).length) 24=true:=by simp only [Aa,decide_eq_true_eq,Amb];omega
   rw [<- hb];by_cases hq:okb (fn && loo b x y top f j && rko b x y top (f+j)) (C++Ct b x y top f j++rkc b x y top (f+j))=true
   .rw [Al1 hq,Al1 hq,AlU];dsimp only;rw [Al1 hro,Am O];rfl
   .rw [AlZ hq,AlZ hq,AlU];dsimp only;rw [Al1 hro,Am O];rfl) (λj hj hok=>by
   unfold Hd cK wI;dsimp only;by_cases hlt:j < hd - f
   .rw [iy O,AlU];dsimp only;rcases hok with hok | hok
    .omega
    .rw [hok,AlZ Z]
   .rw [ino O,AlU];dsimp only;rw [AlZ Z])
 obtain ⟨j,h1,h2,h3⟩:=hw;refine⟨j,h1,h2,?_⟩;have e0:lod b x y top f 0=[]:=rfl;have e1:Ct b x y top f 0=[]:=rfl;have e2:loo b x y top f 0=true:=rfl;rw [e0,e1,e2,Amf,Anv]at h3;exact h3
end
end Go.V.G
set_option maxRecDepth 100000
namespace Go.V.G
open Go.V
def upk (L:List (Int×Int)):List (Int×Int):=L.filter λs=>decide (0 < s.1)
def upc (b:Bls) (x y top:List Int) (L:List (Int×Int)):List Int:=(upk L).flatMap λs=>rkc b x y top (ky s)
def upo (b:Bls) (x y top:List Int) (L:List (Int×Int)):Bool:=(upk L).all λs=>rko b x y top (ky s)
theorem Zn (L:List (Int×Int)) (s:Int×Int):upk (L++[s])=upk L++(if 0 < s.1 then [s]else []):=by
 unfold upk;rw [Anu];by_cases h:0 < s.1 <;> simp [h]
theorem Agb (b:Bls) (x y top:List Int) (L:List (Int×Int)) (s:Int×Int):upc b x y top (L++[s])=upc b x y top L++(if 0 < s.1 then rkc b x y top (ky s)else []):=by
 unfold upc;rw [Zn,Am9];by_cases h:0 < s.1 <;> simp [h]
theorem AgC (b:Bls) (x y top:List Int) (L:List (Int×Int)) (s:Int×Int):upo b x y top (L++[s])=(upo b x y top L && (if 0 < s.1 then rko b x y top (ky s)else true)):=by
 unfold upo;rw [Zn,List.all_append];by_cases h:0 < s.1 <;> simp [h]
theorem Acf (b:Bls) (x y top:List Int) (L:List (Int×Int)):(upc b x y top L).length<=10 * L.length:=by
 unfold upc;have h1:(upk L).length<=L.length:=Anj _ _;have h2:∀M:List (Int×Int),(M.flatMap λs=>rkc b x y top (ky s)).length<=10 * M.length:=by
  intro M
  induction M with
  | nil=>simp
  | cons s M ih=>
   have:=(HY b x y top (ky s)).1;rw [Ana,Al0,Al7];omega
 have:=h2 (upk L);omega
def upe (b:Bls) (x y top:List Int) (f:Int) (t:List UInt8) (cs:List (List Prt)) (s:Int×Int):Bool:=!decide (0 < s.1) || (AJ (rkd b x y top (ky s)) == AJ (enc (bt f t cs s)))
def ckc (b:Bls) (x y top:List Int) (l:List Nat):List Int:=l.flatMap λr=>tcl b x y (vl b top (384+r))
def ckp (b:Bls) (x y top:List Int) (l:List Nat):List Int:=l.flatMap λr=>tpc b x y (vl b top (384+r))
def cko (b:Bls) (x y top:List Int) (l:List Nat):Bool:=l.all λr=>tok b x y (vl b top (384+r))
def cke (b:Bls) (x y top:List Int) (f:Nat) (t:List UInt8) (cs:List (List Prt)) (r:Nat):Bool:=ttx b x y (vl b top (384+r)) == txt t (cs.take (r - f))
theorem Rv (b:Bls) (x y top:List Int):∀l:List Nat,(ckc b x y top l).length<=l.length/\(ckp b x y top l).length<=3 * l.length
 | []=>by simp [ckc,ckp]
 | r::l=>by
  have h1:=Rv b x y top l;have h2:=TF b x y (vl b top (384+r));unfold ckc ckp at *;rw [Ana,Ana,Al0,Al0,Al7];omega
def pcn (P:List Int) (n:Nat):List Int:=((List.range n).filter λk=>decide (0 < P.count ((k:Nat):Int))).map λk=>((k:Nat):Int)
theorem Ag9 (P:List Int) (n:Nat):pcn P (n+1)=pcn P n++(if 0 < P.count (n:Int)then [(n:Int)]else []):=by
 unfold pcn;rw [AnI,Anu,AmD];by_cases h:0 < P.count (n:Int)
 .rw [Al1 h,List.filter_cons,Al1 (decide_eq_true h)];rfl
 .rw [AlZ h,List.filter_cons,AlZ (by rw [decide_eq_false h];simp)];rfl
theorem AjT (P:List Int) (n:Nat):∀v∈pcn P n,v < (n:Int):=by
 intro v hv;unfold pcn at hv;simp only [Aml,AnT,AnG]at hv;obtain ⟨k,⟨h1,_⟩,rfl⟩:=hv;omega
theorem AhD (P:List Int) (n:Nat):(pcn P n).length<=n:=by
 unfold pcn;rw [Amt];exact Amw (Anj _ _) Z
def stB (b:Bls) (x C P:List Int) (k:Nat):Bool:=(decide (P.count (k:Int)=0) || (!decide ((k:Int)∈C) && decide (gb (blk b k) 1=(P.count (k:Int):Int)))) && (decide (k < 33) || (bit x k == decide ((k:Int)∈C\/0 < P.count (k:Int))))
section
variable {E R T:Int} {b:Bls} {x y z top:List Int}
theorem Akv (h:SB b x y z) (g:RS b x y) {f hd:Nat} {t:List UInt8} {r:List Rn} {cs:List (List Prt)} (gh:GH (f:Int) t r cs) (hf:hd=f+cs.length) (hh:hd<=60) {C rs m:List Int} (hC:C.length<=80000) (fn:Bool) :
  (((sts f hd).all (upe b x y top (f:Int) t cs)=true/\
    Ab Fg (GC (f:Int) t cs (sts f hd),sts f hd,(((sts f hd).length:Nat):Int),0,0,0,0,0,0,0,[],(f:Int),(hd:Int),E,R,T,b,x,y,z,(f:Int),(hd:Int),E,R,T,b,x,y,z,ksT b top 1024,0,[],(f:Int),t,r,cs,b,x,y,z,rs,srt C,m,okb fn C) =
     some (.inl (0,0,0,0,0,0,[],(f:Int),(hd:Int),E,R,T,b,x,y,z,(f:Int),(hd:Int),E,R,T,b,x,y,z,ksT b top 1024,0,[],(f:Int),t,r,cs,b,x,y,z,rs,srt (C++upc b x y top (sts f hd)),m,okb (fn && upo b x y top (sts f hd)) (C++upc b x y top (sts f hd)))))\/
   ((sts f hd).all (upe b x y top (f:Int) t cs)=false/\
    Ab Fg (GC (f:Int) t cs (sts f hd),sts f hd,(((sts f hd).length:Nat):Int),0,0,0,0,0,0,0,[],(f:Int),(hd:Int),E,R,T,b,x,y,z,(f:Int),(hd:Int),E,R,T,b,x,y,z,ksT b top 1024,0,[],(f:Int),t,r,cs,b,x,y,z,rs,srt C,m,okb fn C) =
     some (.inr (false,0,0,0,0,0,0,[])))):=by
 have hsl:=IS (f:=f) hh;have hal:=Y5 (f:Int) t cs (sts f hd);have hL:=BT Fg (λi=>(GC (f:Int) t cs (sts f hd),sts f hd,(((sts f hd).length:Nat):Int),((i:Nat):Int),0,0,0,0,0,0,[],(f:Int),(hd:Int),E,R,T,b,x,y,z,(f:Int),(hd:Int),E,R,T,b,x,y,z,ksT b top 1024,0,[],(f:Int),t,r,cs,b,x,y,z,rs,srt (C++upc b x y top ((sts f hd).take i)),m,okb (fn && upo b x y top ((sts f hd).take i)) (C++upc b x y top ((sts f hd).take i))))
  (λi=>upe b x y top (f:Int) t cs (((sts f hd)[i]?).getD (0,0))) (λ_=>(false,0,0,0,0,0,0,[])) (0,0,0,0,0,0,[],(f:Int),(hd:Int),E,R,T,b,x,y,z,(f:Int),(hd:Int),E,R,T,b,x,y,z,ksT b top 1024,0,[],(f:Int),t,r,cs,b,x,y,z,rs,srt (C++upc b x y top (sts f hd)),m,okb (fn && upo b x y top (sts f hd)) (C++upc b x y top (sts f hd))) (sts f hd).length (λi hi=>by
    obtain ⟨k,j,g8⟩:=PY hi;obtain ⟨l1,l2,l3⟩:=g8.lt hh;have hk:=g8.hk;have hget:(sts f hd)[i]?=some ((sts f hd)[i]):=AlW hi;have hul:=Acf b x y top ((sts f hd).take i);rw [Al4]at hul;have hal2:=AhS (f:=(f:Int)) (t:=t) (cs:=cs) hh (Amc hi);obtain ⟨f1,f2,f3,f4,f5⟩:=g8.ft;have hbt:AA (bt (f:Int) t cs (sts f hd)[i])=true:=(Jw gh (a:=(frS (sts f hd)[i]:Int)) (b:=(toS (sts f hd)[i]:Int)) O O).1;have hrec:=Qm (z:=z) (top:=top) h g (C:=C++upc b x y top ((sts f hd).take i)) (by rw [Al0];omega) (k:=ky (sts f hd)[i]) (fn && upo b x y top ((sts f hd).take i)) rs m;unfold Fg cK cZ wI;dsimp only;rw [iy O,iy O,iy O,Amk,AlX,hget,AlU,AlU,Ama hi,Agb,AgC,AmG];unfold upe;by_cases h0:0 < (sts f hd)[i].1
    .have e1:Gk (sts f hd)[i].1 (sts f hd)[i].2=some (ky (sts f hd)[i]:Int):=by rw [l2];simp only [g8.e];exact Lp hk O
     rw [iy h0,e1,AlU,AcB _ _ _ _ _ _ _ _ _ _ _ _ _ _ O,AlU,hrec,AlU];dsimp only;rw [AlU,iy O,iy O,Amk,AlX,hal2,AlU,UA (Ci hbt) O hbt,AlU,AlU,Al1 h0,Al1 h0,decide_eq_true h0,AmN,Anh,Al5,AnW];dsimp only;cases hq:(AJ (rkd b x y top (ky (sts f hd)[i])) == AJ (enc (bt (f:Int) t cs (sts f hd)[i])))with
     | true=>rw [AlZ Z,Al1 rfl,Am O]
     | false=>rw [Al1 Z,AlZ Z]
    .rw [ino h0,AlU,AlZ h0,AlZ h0,decide_eq_false h0,Amf,Anv];dsimp only;rw [AlZ Z,Al1 Z,Am O]) (by
    unfold Fg cK cZ wI;dsimp only;rw [ino O,AmL])
 have e0:upc b x y top ((sts f hd).take 0)=[]:=rfl;have e1:upo b x y top ((sts f hd).take 0)=true:=rfl;rw [e0,e1,Amf,Anv]at hL;rcases hL with⟨ha,hl⟩ | ⟨k,hk,hp,_,hl⟩
 .refine .inl ⟨?_,hl⟩;rw [Amr];intro s hs;obtain ⟨i,hi,rfl⟩:=AmA hs;have:=ha i hi;rw [AlW hi]at this;exact this
 .refine .inr ⟨?_,hl⟩;rw [AlW hk]at hp;cases hq:(sts f hd).all (upe b x y top (f:Int) t cs)with
  | false=>rfl
  | true=>
    have:=Amr.1 hq _ (Amc hk);rw [show upe b x y top (f:Int) t cs (sts f hd)[k]=false from hp]at this;cases this
theorem AkO (g:RS b x y) {f hd e:Nat} {t:List UInt8} {r:List Rn} {cs:List (List Prt)} (gh:GH (f:Int) t r cs) (hf:hd=f+cs.length) (hh:hd<=60) (he:0 < e) {C P rs:List Int} (hC:C.length<=80000) (hP:P.length<=80000) (fn:Bool) :
  ((cks f hd e).all (cke b x y top f t cs)=true/\
    Ab E2 (((f+1:Nat):Int),0,0,0,0,0,0,[],(f:Int),(hd:Int),(e:Int),R,T,b,x,y,z,(f:Int),(hd:Int),(e:Int),R,T,b,x,y,z,ksT b top 1024,0,[],(f:Int),t,r,cs,b,x,y,z,rs,srt C,mny b.length P,okb fn C) =
     some (.inl (0,0,0,0,0,0,[],b,x,y,z,(f:Int),(hd:Int),(e:Int),R,T,b,x,y,z,ksT b top 1024,0,[],(f:Int),t,r,cs,b,x,y,z,rs,srt (C++ckc b x y top (cks f hd e)),mny b.length (P++ckp b x y top (cks f hd e)),okb (fn && cko b x y top (cks f hd e)) (C++ckc b x y top (cks f hd e)))))\/
   ((cks f hd e).all (cke b x y top f t cs)=false/\
    Ab E2 (((f+1:Nat):Int),0,0,0,0,0,0,[],(f:Int),(hd:Int),(e:Int),R,T,b,x,y,z,(f:Int),(hd:Int),(e:Int),R,T,b,x,y,z,ksT b top 1024,0,[],(f:Int),t,r,cs,b,x,y,z,rs,srt C,mny b.length P,okb fn C) =
     some (.inr (false,0,0,0,0,0,0,[]))):=by
 have hL:=BT E2 (λn=>(((f+1+n:Nat):Int),0,0,0,0,0,0,[],(f:Int),(hd:Int),(e:Int),R,T,b,x,y,z,(f:Int),(hd:Int),(e:Int),R,T,b,x,y,z,ksT b top 1024,0,[],(f:Int),t,r,cs,b,x,y,z,rs,srt (C++ckc b x y top (ckn f e n)),mny b.length (P++ckp b x y top (ckn f e n)),okb (fn && cko b x y top (ckn f e n)) (C++ckc b x y top (ckn f e n))))
  (λn=>!decide ((f+1+n) % e=0) || cke b x y top f t cs (f+1+n)) (λ_=>(false,0,0,0,0,0,0,[])) (0,0,0,0,0,0,[],b,x,y,z,(f:Int),(hd:Int),(e:Int),R,T,b,x,y,z,ksT b top 1024,0,[],(f:Int),t,r,cs,b,x,y,z,rs,srt (C++ckc b x y top (cks f hd e)),mny b.length (P++ckp b x y top (cks f hd e)),okb (fn && cko b x y top (cks f hd e)) (C++ckc b x y top (cks f hd e))) (hd - f) (λn hn=>by
    have hnl:=Q8 f e n;have hcl:=Rv b x y top (ckn f e n);have htx:=WQ gh (x:=((f+1+n:Nat):Int)) O O;rw [show(((f+1+n:Nat):Int) - (f:Int)).toNat=f+1+n - f by omega]at htx;have ew:IntKind.wrap .i64 (384+((f+1+n:Nat):Int))=((384+(f+1+n):Nat):Int):=by rw [w64 O O];omega
    have hrt:=Ajs (z:=z) g (vl b top (384+(f+1+n))) (P:=P++ckp b x y top (ckn f e n)) (C:=C++ckc b x y top (ckn f e n)) (by rw [Al0];omega) (by rw [Al0];omega) (fn && cko b x y top (ckn f e n)) rs;unfold E2 cK wI;dsimp only;rw [iy O,iy O,Zq,SH];by_cases hz:(f+1+n) % e=0
    .have a1:ckc b x y top (ckn f e n++[f+1+n])=ckc b x y top (ckn f e n)++tcl b x y (vl b top (384+(f+1+n))):=by unfold ckc;rw [Am9];simp
     have a2:ckp b x y top (ckn f e n++[f+1+n])=ckp b x y top (ckn f e n)++tpc b x y (vl b top (384+(f+1+n))):=by unfold ckp;rw [Am9];simp
     have a3:cko b x y top (ckn f e n++[f+1+n])=(cko b x y top (ckn f e n) && tok b x y (vl b top (384+(f+1+n)))):=by unfold cko;rw [List.all_append];simp
     rw [iy O,ew,AcB _ _ _ _ _ _ _ _ _ _ _ _ _ _ O,AlU,hrt,AlU];dsimp only;rw [htx,AlU,AlU,Al1 hz,a1,a2,a3,decide_eq_true hz,AmN,Anh,Al5,Al5,AnW];dsimp only;unfold cke;cases hq:(ttx b x y (vl b top (384+(f+1+n))) == txt t (cs.take (f+1+n - f)))with
     | true=>rw [AlZ Z,Al1 rfl,Am O];rfl
     | false=>rw [Al1 Z,AlZ Z]
    .rw [ino O,AlU,AlZ hz,Amf,decide_eq_false hz];dsimp only;rw [AlZ Z,Al1 Z,Am O];rfl) (by
    unfold E2 cK wI;dsimp only;rw [ino O];rfl)
 have e0:ckc b x y top (ckn f e 0)=[]:=rfl;have e1:cko b x y top (ckn f e 0)=true:=rfl;have e2:ckp b x y top (ckn f e 0)=[]:=rfl;rw [e0,e1,e2,Amf,Amf,Anv]at hL;rcases hL with⟨ha,hl⟩ | ⟨k,hk,hp,_,hl⟩
 .refine .inl ⟨?_,hl⟩;rw [Amr];intro q hq;obtain ⟨q1,q2,q3⟩:=cks_mem.1 hq;have:=ha (q - (f+1)) O;rw [(O:f+1+(q - (f+1))=q),decide_eq_true q3]at this;simpa using this
 .refine .inr ⟨?_,hl⟩;cases hq:(cks f hd e).all (cke b x y top f t cs)with
  | false=>rfl
  | true=>
    simp only [AnV,Bool.not_eq_false',decide_eq_true_eq]at hp;have:=Amr.1 hq _ (cks_mem.2 (⟨O,O,hp.1⟩:f < f+1+k/\f+1+k<=hd/\(f+1+k) % e=0));rw [hp.2]at this;cases this
theorem AkP (g:RS b x y) {f hd e:Nat} {t:List UInt8} {r:List Rn} {cs:List (List Prt)} {ks:List Kv} {C P rs:List Int} (hC:C.length<=80000) (hP:P.length<=80000) (ok:Bool) :
  ((List.range b.length).all (stB b x C P)=true/\
    Ab Fu (mny b.length P,(b.length:Int),0,0,0,0,0,0,0,[],b,x,y,z,(f:Int),(hd:Int),(e:Int),R,T,b,x,y,z,ks,0,[],(f:Int),t,r,cs,b,x,y,z,rs,srt C,ok) =
     some (.inl (0,0,0,0,0,0,[],(f:Int),(hd:Int),(e:Int),R,T,b,x,y,z,ks,0,[],(f:Int),t,r,cs,b,x,y,z,rs,srt (C++pcn P b.length),mny b.length P,ok)))\/
   ((List.range b.length).all (stB b x C P)=false/\
    Ab Fu (mny b.length P,(b.length:Int),0,0,0,0,0,0,0,[],b,x,y,z,(f:Int),(hd:Int),(e:Int),R,T,b,x,y,z,ks,0,[],(f:Int),t,r,cs,b,x,y,z,rs,srt C,ok) =
     some (.inr (false,0,0,0,0,0,0,[]))):=by
 have hbl:=g.hn;have hxl:=g.hx;have hml:=JI b.length P;have hL:=BT Fu (λk=>(mny b.length P,(b.length:Int),((k:Nat):Int),0,0,0,0,0,0,[],b,x,y,z,(f:Int),(hd:Int),(e:Int),R,T,b,x,y,z,ks,0,[],(f:Int),t,r,cs,b,x,y,z,rs,srt (C++pcn P k),ok))
  (stB b x C P) (λ_=>(false,0,0,0,0,0,0,[])) (0,0,0,0,0,0,[],(f:Int),(hd:Int),(e:Int),R,T,b,x,y,z,ks,0,[],(f:Int),t,r,cs,b,x,y,z,rs,srt (C++pcn P b.length),mny b.length P,ok) b.length (λk hk=>by
    have hpl:=AhD P k;have hc1:=List.count_le_length (l:=P) (a:=((k:Nat):Int));obtain ⟨o1,o2,o3⟩:=KH (l:=C++pcn P k) (by rw [Al0];omega);have hm1:((k:Nat):Int)∈srt (C++pcn P k)↔((k:Nat):Int)∈C:=by
     rw [o3,Al3];exact⟨λq=>q.elim id λq=>by have:=AjT P k _ q;omega,.inl⟩
    have hlen:=g.len hk;have hu:=g.u8 hk 1;have hus:=Ky (bits:=x) (k:=k) O O;have hst:stB b x C P k=((decide (P.count ((k:Nat):Int)=0) || (!decide (((k:Nat):Int)∈C) && decide (gb (blk b k) 1=(P.count ((k:Nat):Int):Int)))) && (decide (k < 33) || (bit x k == decide (((k:Nat):Int)∈C\/0 < P.count ((k:Nat):Int))))):=rfl;rw [hst];unfold Fu cK cZ gX wI;dsimp only;rw [iy O,iy O,iy O,Amk,AlX,Qh P hk,AlU,Ag9];by_cases h0:0 < P.count ((k:Nat):Int)
    .rw [iy O,GF (by rw [Al0]at o2;omega),AlU,decide_eq_false (O:¬ P.count ((k:Nat):Int)=0),Al1 h0];by_cases hin:((k:Nat):Int)∈C
     .rw [decide_eq_true (hm1.2 hin),Al1 rfl,AlU,decide_eq_true hin];dsimp only;rw [Al1 rfl];rfl
     .rw [decide_eq_false (λq=>hin (hm1.1 q)),AlZ Z,iy O,Bu hk,AlU,iy O,show Int.toNat 1=1 from rfl,Aj O,AlU,AlU,w64 (n:=gb (blk b k) 1) O O,decide_eq_false hin];dsimp only;by_cases hb:gb (blk b k) 1=(P.count ((k:Nat):Int):Int)
      .obtain ⟨p1,p2,p3⟩:=KH (l:=C++pcn P k++[((k:Nat):Int)]) (by simp only [Al0,Amb];omega);rw [decide_eq_false (not_not_intro hb),AlZ Z,iy O,(Gp (l:=C++pcn P k) (by rw [Al0];omega) _).1,AlU,AlU,decide_eq_true hb];dsimp only;rw [<- Al5];by_cases h33:k < 33
       .rw [ino O,AlU,decide_eq_true h33];dsimp only;rw [AlZ Z,Am O];rfl
       .have hm2:((k:Nat):Int)∈srt (C++pcn P k++[((k:Nat):Int)]):=(p3 _).2 Z;rw [iy O,hus,AlU,GF (by simp only [Al0,Amb]at p2;omega),AlU,AlU,decide_eq_false h33,decide_eq_true hm2,decide_eq_true (.inr h0:((k:Nat):Int)∈C\/0 < P.count ((k:Nat):Int))];dsimp only;cases bit x k with
        | true=>rw [AlZ Z,Am O];rfl
        | false=>rw [Al1 Z];rfl
      .rw [decide_eq_true hb,Al1 rfl,decide_eq_false hb];rfl
    .rw [ino O,AlU,decide_eq_true (O:P.count ((k:Nat):Int)=0),AlZ h0,Amf];dsimp only;rw [AlZ Z,ino O,AlU];dsimp only;by_cases h33:k < 33
     .rw [ino O,AlU,decide_eq_true h33];dsimp only;rw [AlZ Z,Am O];rfl
     .rw [iy O,hus,AlU,GF (by rw [Al0]at o2;omega),AlU,AlU,decide_eq_false h33];dsimp only;by_cases hin:((k:Nat):Int)∈C
      .rw [decide_eq_true (hm1.2 hin),decide_eq_true (.inl hin:((k:Nat):Int)∈C\/0 < P.count ((k:Nat):Int))];cases bit x k with
       | true=>rw [AlZ Z,Am O];rfl
       | false=>rw [Al1 Z];rfl
      .rw [decide_eq_false (λq=>hin (hm1.1 q)),decide_eq_false (λq=>q.elim hin h0:¬ (((k:Nat):Int)∈C\/0 < P.count ((k:Nat):Int)))];cases bit x k with
       | true=>rw [Al1 Z];rfl
       | false=>rw [AlZ Z,Am O];rfl) (by
    unfold Fu cK cZ gX wI;dsimp only;rw [ino O])
 have e0:pcn P 0=[]:=rfl;rw [e0,Amf]at hL;rcases hL with⟨ha,hl⟩ | ⟨k,hk,hp,_,hl⟩
 .exact .inl ⟨all_range.2 ha,hl⟩
 .refine .inr ⟨?_,hl⟩;cases hq:(List.range b.length).all (stB b x C P)with
  | false=>rfl
  | true=>rw [all_range.1 hq k hk]at hp;cases hp
end
end Go.V.G
set_option maxRecDepth 100000
namespace Go.V.G
open Go.V
section defs
variable (b:Bls) (x top:List Int) (R T:Int) (f h e:Nat)
noncomputable def aC1:List Int:=srt (pgl top R)
noncomputable def aC2:List Int:=aC1 top R++tcl b x [] T
def aP2:List Int:=tpc b x [] T
noncomputable def aC3:List Int:=aC2 b x top R T++rkc b x [] top 448
noncomputable def aC4:List Int:=aC3 b x top R T++Ct b x [] top f (h - f)
noncomputable def aC5:List Int:=aC4 b x top R T f h++upc b x [] top (sts f h)
noncomputable def aC6:List Int:=aC5 b x top R T f h++ckc b x [] top (cks f h e)
def aP6:List Int:=aP2 b x T++ckp b x [] top (cks f h e)
def af3:Bool:=(tok b x [] T && rko b x [] top 448) && (rdR (rkd b x [] top 448)).2
def af4:Bool:=af3 b x top T && loo b x [] top f (h - f)
def af5:Bool:=af4 b x top T f h && upo b x [] top (sts f h)
def af6:Bool:=af5 b x top T f h && cko b x [] top (cks f h e)
def aT:List UInt8:=ttx b x [] T
def aR:List Rn:=(rdR (rkd b x [] top 448)).1
def aL:List (List Prt):=chC (lod b x [] top f (h - f))
noncomputable def aG:Bool:=Ea (f:Int) (aT b x T) (aR b x top) (aL b x top f h)
def aU:Bool:=(sts f h).all (upe b x [] top (f:Int) (aT b x T) (aL b x top f h))
def aK:Bool:=(cks f h e).all (cke b x [] top f (aT b x T) (aL b x top f h))
noncomputable def aS:Bool:=(List.range b.length).all (stB b x (aC6 b x top R T f h e) (aP6 b x top T f h e))
noncomputable def sC:Bool:=kok b top f h e && (okb (af4 b x top T f h) (aC4 b x top R T f h) && (aG b x top T f h && (aU b x top T f h && (aK b x top T f h e && (aS b x top R T f h e && okb (af6 b x top T f h e) (aC6 b x top R T f h e))))))
end defs
theorem Afu {b:Bls} {x top:List Int} {R T:Int} {f h e:Nat} (ht:top.length=32) (hh:h<=60):(aC1 top R).length<=33/\(aC2 b x top R T).length<=34/\(aC3 b x top R T).length<=44/\(aC4 b x top R T f h).length<=644/\(aC5 b x top R T f h).length<=4244/\(aC6 b x top R T f h e).length<=4304/\(aP2 b x T).length<=3/\(aP6 b x top T f h e).length<=183:=by
 have h1:=AbO (root:=R) ht;have h2:=(KH (l:=pgl top R) O).2.1;have h3:=TF b x [] T;have h4:=(HY b x [] top 448).1;have h5:=UG b x [] top f (h - f);have h6:=Acf b x [] top (sts f h);have h7:=IS (f:=f) hh;have h8:=Rv b x [] top (cks f h e);have h9:=NR (f:=f) (e:=e) hh;unfold aC6 aC5 aC4 aC3 aC2 aC1 aP6 aP2;simp only [Al0];omega
theorem Agh {fn c:Bool} {l:List Int}:(if okb fn l=true then c else false)=okb (fn && c) l:=by
 unfold okb;cases fn <;> cases c <;> cases ndb l <;> rfl
theorem Zo {b:Bls} {x y top:List Int} {f j:Nat}:∀{n:Nat},j<=n->loo b x y top f n=true->loo b x y top f j=true
 | 0,h,q=>by rw [(O:j=0)];exact q
 | n+1,h,q=>by
  by_cases hj:j=n+1
  .rw [hj];exact q
  .rw [YG,Al2]at q;exact Zo O q.1
theorem Abp {b:Bls} {x y top:List Int} {f j:Nat}:∀{n:Nat},j<=n->∃r,Ct b x y top f n=Ct b x y top f j++r
 | 0,h=>⟨[],by rw [(O:j=0)];simp⟩
 | n+1,h=>by
  by_cases hj:j=n+1
  .exact⟨[],by rw [hj];simp⟩
  .obtain ⟨r,hr⟩:=Abp (b:=b) (x:=x) (y:=y) (top:=top) (f:=f) (j:=j) (n:=n) O;exact⟨r++rkc b x y top (f+n),by rw [SE,hr,Al5]⟩
theorem Ahn {b:Bls} {x top:List Int} {R T:Int} {f h j:Nat} (q:okb (af3 b x top T && loo b x [] top f j) (aC3 b x top R T++Ct b x [] top f j)=false) (hj:j<=h - f):okb (af4 b x top T f h) (aC4 b x top R T f h)=false:=by
 cases hh:okb (af4 b x top T f h) (aC4 b x top R T f h)with
 | false=>rfl
 | true=>
  exfalso;unfold okb af4 aC4 ndb at *;simp only [Al2,decide_eq_true_eq]at hh;obtain ⟨⟨h1,h2⟩,h3⟩:=hh;obtain ⟨r,hr⟩:=Abp (b:=b) (x:=x) (y:=[]) (top:=top) (f:=f) hj;rw [hr,<- Al5,Amj]at h3;rw [h1,Zo hj h2,decide_eq_true h3.1]at q;cases q
theorem Af8 {bl:Bls} {wr lf:Int} (on:Bool) {f h e:Nat} {R T:Int} {top:List Int} (hn:bl.length<=1048576) (hd:gd bl wr lf=true) (hu:∀c∈bl,U8s c) (hw:wts bl=[])
  (hs:Np (blk bl 0)=(true,(f:Int),(h:Int),(e:Int),R,T)) (ho:opG bl=true) (ht:tre bl (opB bl) [] R=some top) (hf:f<=h) (hh:h<=60) (he:0 < e) (he2:e<=30) :
  ∃q,DD bl wr on lf=some q/\q.1=sC bl (opB bl) top R T f h e/\(sC bl (opB bl) top R T f h e=true->
   q=(true,(f:Int),(h:Int),(e:Int),R,T,bl,opB bl,[],[],ksT bl top 1024,(f:Int),aT bl (opB bl) T,aR bl (opB bl) top,aL bl (opB bl) top f h,srt (aC6 bl (opB bl) top R T f h e++pcn (aP6 bl (opB bl) top T f h e) bl.length))):=by
 obtain ⟨hb,hk⟩:=Kw hd;have sb:=Th (bl:=bl) O O;have hog:gsp bl (opB bl) [] []=true:=by unfold opG at ho;rw [Al2]at ho;exact ho.1
 have g:=(Rq hog).rs sb hu;have htl:=IU ht;obtain ⟨l1,l2,l3,l4,l5,l6,l7,l8⟩:=Afu (b:=bl) (x:=opB bl) (top:=top) (R:=R) (T:=T) (f:=f) (h:=h) (e:=e) htl hh;have hkl:=Q3 bl top 1024;obtain ⟨w1,w2,w3⟩:=Aft (f:=f) (e:=e) hh;unfold DD cK cZ gX wI;rw [IH hn,hd,AlU,AlZ Z,GB on hd hu,hw,AlU,AlU];dsimp only;rw [AlZ Z,iy O,show Int.toNat 0=0 from rfl,Bu (O:0 < bl.length),AlU,I5 (hu _ (BC O)),hs,AlU];dsimp only;rw [HE on hd hu,AlU];unfold opD;rw [Al1 ho];dsimp only;rw [AlU];dsimp only;rw [AlZ Z,AlZ Z,Io sb hu,hog,ht,AlU,AlU];dsimp only;rw [AlZ Z,AeM sb hog hu ht,AlU,AgV sb hu hog ht,AlU,AaR hf hh he he2,AlU];dsimp only;unfold sC;have hkok:kok bl top f h e=decide ((ksT bl top 1024).map (·.1)=wnt f h e):=rfl;by_cases hlen:(ksT bl top 1024).length=(wnt f h e).length
 .rw [ino (O:¬ ¬ (((ksT bl top 1024).length:Nat):Int)=(((wnt f h e).length:Nat):Int)),AkW hlen O,AlU];by_cases hkq:(ksT bl top 1024).map (·.1)=wnt f h e
  .rw [Al1 hkq];rw [hkok,decide_eq_true hkq,Amg];dsimp only;rw [iy O,iy O,Al1 (by simp only [Aa,decide_eq_true_eq,AlX];omega),AlX];have em:List.replicate bl.length (0:Int)=mny bl.length []:=by
    refine AmT λi=>?_
    by_cases hi:i < bl.length
    .rw [Qh _ hi,List.getElem?_replicate_of_lt hi];simp
    .rw [Amn AlR,Amn (by rw [JI];omega)]
   have ea:=Te (l:=srt (pgl top R)) (C:=[]) (by have:(srt (pgl top R)).length<=33:=l1;simp only [Amp];omega) true bl (opB bl) [] [] [] (mny bl.length []);rw [Ams]at ea;rw [em,show B1 (srt (pgl top R)) bl (opB bl) [] [] [] [] (mny bl.length []) true=_ from ea,AlU];dsimp only;rw [show okb true (srt (pgl top R))=okb true (aC1 top R) from rfl,show srt (srt (pgl top R))=srt (aC1 top R) from rfl,Ajs g T O Z true [],AlU];dsimp only;rw [Ams,Amg,show aC1 top R++tcl bl (opB bl) [] T=aC2 bl (opB bl) top R T from rfl,show tpc bl (opB bl) [] T=aP2 bl (opB bl) T from rfl];have hg448:=AcB (b:=bl) (top:=top) (f:Int) (h:Int) (e:Int) R T bl (opB bl) [] [] 0 [] [] [] [] (k:=448) O;have hr448:=Qm (z:=[]) (top:=top) sb g (C:=aC2 bl (opB bl) top R T) O (k:=448) (tok bl (opB bl) [] T) [] (mny bl.length (aP2 bl (opB bl) T));have hlk:=HY bl (opB bl) [] top 448;rw [show DS (f:Int) (h:Int) (e:Int) R T bl (opB bl) [] [] (ksT bl top 1024) 0 [] [] [] [] 448=_ from hg448,AlU,hr448,AlU];dsimp only;rw [AkU (LC g top 448) O,AlU,show aC2 bl (opB bl) top R T++rkc bl (opB bl) [] top 448=aC3 bl (opB bl) top R T from rfl];have eif:∀{α:Type} (F:Bool->Option α),(if okb (tok bl (opB bl) [] T && rko bl (opB bl) [] top 448) (aC3 bl (opB bl) top R T)=true then F (rdR (rkd bl (opB bl) [] top 448)).2 else F false)=F (okb (af3 bl (opB bl) top T) (aC3 bl (opB bl) top R T)):=by
    intro α F;have:=Agh (fn:=tok bl (opB bl) [] T && rko bl (opB bl) [] top 448) (c:=(rdR (rkd bl (opB bl) [] top 448)).2) (l:=aC3 bl (opB bl) top R T);unfold af3;rw [<- this];split <;> rfl
   rw [eif (λw=>some (0,0,0,0,0,0,[],(f:Int),(h:Int),(e:Int),R,T,bl,opB bl,[],[],(f:Int),(h:Int),(e:Int),R,T,bl,opB bl,[],[],ksT bl top 1024,0,[],(f:Int),ttx bl (opB bl) [] T,(rdR (rkd bl (opB bl) [] top 448)).1,bl,opB bl,[],[],[],srt (aC3 bl (opB bl) top R T),mny bl.length (aP2 bl (opB bl) T),w)),AlU];dsimp only;obtain ⟨j,j1,j2,j3⟩:=Akr (E:=(e:Int)) (R:=R) (T:=T) (top:=top) sb g hf hh (C:=aC3 bl (opB bl) top R T) (rs:=[]) (m:=mny bl.length (aP2 bl (opB bl) T)) O (af3 bl (opB bl) top T) (ttx bl (opB bl) [] T) (rdR (rkd bl (opB bl) [] top 448)).1;rw [j3,AlU];dsimp only;by_cases hok:okb (af3 bl (opB bl) top T && loo bl (opB bl) [] top f j) (aC3 bl (opB bl) top R T++Ct bl (opB bl) [] top f j)=true
   .have hj:j=h - f:=by
         rcases j2 with q | q
         .exact q
         .rw [hok]at q;cases q
    subst hj;have hok4:okb (af4 bl (opB bl) top T f h) (aC4 bl (opB bl) top R T f h)=true:=hok;rw [hok,AlZ Z,hok4,Amg];have hcl:(chC (lod bl (opB bl) [] top f (h - f))).length=h - f:=by unfold chC lod;simp
    have hHB:HB (ttx bl (opB bl) [] T) (rdR (rkd bl (opB bl) [] top 448)).1 (chC (lod bl (opB bl) [] top f (h - f))):=by
     have:=Abb (rkd bl (opB bl) [] top 448);have:=TF bl (opB bl) [] T;refine⟨O,O,O,λc hc=>?_⟩;obtain ⟨x',_,rfl⟩:=Aml.1 hc;exact(SA x').mono O
    rw [LV hHB,AlU,AlU];dsimp only;have hG:aG bl (opB bl) top T f h=Ea (f:Int) (ttx bl (opB bl) [] T) (rdR (rkd bl (opB bl) [] top 448)).1 (chC (lod bl (opB bl) [] top f (h - f))):=rfl;rw [<- hG];cases hgh:aG bl (opB bl) top T f h with
    | false=>
     rw [Al1 Z];exact⟨_,rfl,rfl,λq=>by simp at q⟩
    | true=>
     rw [hgh]at hG;have gh:=goodH_iff.1 hG.symm;rw [AlZ Z,AaT gh (h:=h) O hh,AlU,Ou hh,AlU,Amg];have e4:aC3 bl (opB bl) top R T++Ct bl (opB bl) [] top f (h - f)=aC4 bl (opB bl) top R T f h:=rfl;have e4':(af3 bl (opB bl) top T && loo bl (opB bl) [] top f (h - f))=af4 bl (opB bl) top T f h:=rfl;have r3:=Akv (E:=(e:Int)) (R:=R) (T:=T) (top:=top) sb g gh (hd:=h) O hh (C:=aC4 bl (opB bl) top R T f h) (rs:=[]) (m:=mny bl.length (aP2 bl (opB bl) T)) O (af4 bl (opB bl) top T f h);rw [hok4]at r3;rw [e4];rcases r3 with⟨u1,u2⟩ | ⟨u1,u2⟩
     .have hU:aU bl (opB bl) top T f h=true:=u1;rw [u2,AlU,hU,Amg];dsimp only;have r4:=AkO (R:=R) (T:=T) (top:=top) (z:=[]) g gh (hd:=h) (e:=e) O hh he (C:=aC5 bl (opB bl) top R T f h) (P:=aP2 bl (opB bl) T) (rs:=[]) O O (af5 bl (opB bl) top T f h);rw [Am O];rcases r4 with⟨v1,v2⟩ | ⟨v1,v2⟩
      .have hK:aK bl (opB bl) top T f h e=true:=v1;rw [show aC4 bl (opB bl) top R T f h++upc bl (opB bl) [] top (sts f h)=aC5 bl (opB bl) top R T f h from rfl,show(af4 bl (opB bl) top T f h && upo bl (opB bl) [] top (sts f h))=af5 bl (opB bl) top T f h from rfl,v2,AlU,hK,Amg];dsimp only;have r5:=AkP (R:=R) (T:=T) (z:=[]) g (f:=f) (hd:=h) (e:=e) (t:=ttx bl (opB bl) [] T) (r:=(rdR (rkd bl (opB bl) [] top 448)).1) (cs:=chC (lod bl (opB bl) [] top f (h - f))) (ks:=ksT bl top 1024) (C:=aC6 bl (opB bl) top R T f h e) (P:=aP6 bl (opB bl) top T f h e) (rs:=[]) O O (okb (af6 bl (opB bl) top T f h e) (aC6 bl (opB bl) top R T f h e));rw [JI,show aC5 bl (opB bl) top R T f h++ckc bl (opB bl) [] top (cks f h e)=aC6 bl (opB bl) top R T f h e from rfl,show(af5 bl (opB bl) top T f h && cko bl (opB bl) [] top (cks f h e))=af6 bl (opB bl) top T f h e from rfl,show aP2 bl (opB bl) T++ckp bl (opB bl) [] top (cks f h e)=aP6 bl (opB bl) top T f h e from rfl];rcases r5 with⟨t1,t2⟩ | ⟨t1,t2⟩
       .have hS:aS bl (opB bl) top R T f h e=true:=t1;rw [t2,AlU,hS,Amg];exact⟨_,rfl,rfl,λq=>by rw [q];rfl⟩
       .have hS:aS bl (opB bl) top R T f h e=false:=t1;rw [t2,AlU,hS];exact⟨_,rfl,rfl,λq=>by simp at q⟩
      .have hK:aK bl (opB bl) top T f h e=false:=v1;rw [show aC4 bl (opB bl) top R T f h++upc bl (opB bl) [] top (sts f h)=aC5 bl (opB bl) top R T f h from rfl,show(af4 bl (opB bl) top T f h && upo bl (opB bl) [] top (sts f h))=af5 bl (opB bl) top T f h from rfl,v2,AlU,hK];exact⟨_,rfl,rfl,λq=>by simp at q⟩
     .have hU:aU bl (opB bl) top T f h=false:=u1;rw [u2,AlU,hU];exact⟨_,rfl,rfl,λq=>by simp at q⟩
   .have hok':okb (af3 bl (opB bl) top T && loo bl (opB bl) [] top f j) (aC3 bl (opB bl) top R T++Ct bl (opB bl) [] top f j)=false:=by simpa using hok
    have h4:okb (af4 bl (opB bl) top T f h) (aC4 bl (opB bl) top R T f h)=false:=Ahn hok' j1;rw [hok',Al1 Z,AlU,h4];dsimp only;rw [Al1 rfl];exact⟨_,rfl,rfl,λq=>by simp at q⟩
  .rw [AlZ hkq,hkok,decide_eq_false hkq];exact⟨_,rfl,rfl,λq=>by simp at q⟩
 .rw [iy (O:¬ (((ksT bl top 1024).length:Nat):Int)=(((wnt f h e).length:Nat):Int)),hkok,decide_eq_false (λq=>hlen (by rw [<- q,Amt]))];exact⟨_,rfl,rfl,λq=>by simp at q⟩
end Go.V.G
set_option maxRecDepth 100000
namespace Go.V.G
open Go.V
theorem AiP {fn c:Bool} {l:List Int}:(if bd fn l=true then true else !c)=bd (fn && c) l:=by
 unfold bd;cases fn <;> cases c <;> cases ndb l <;> rfl
section
variable (b:Bls) (x y top:List Int)
def ipt (s:Int×Int):List Prt:=(BU (rkd b x y top (ky s))).1
def ioc (s:Int×Int):Bool:=rko b x y top (ky s) && (BU (rkd b x y top (ky s))).2
def ics (L:List (Int×Int)):List Int:=L.flatMap λs=>rkc b x y top (ky s)
def ich (L:List (Int×Int)):List (List Prt):=(L.filter λs=>decide (s.1=0)).map (ipt b x y top)
theorem Ag2 (L:List (Int×Int)) (s:Int×Int):ics b x y top (L++[s])=ics b x y top L++rkc b x y top (ky s):=by unfold ics;rw [Am9];simp
theorem Ahf (L:List (Int×Int)) (s:Int×Int):ich b x y top (L++[s])=ich b x y top L++(if s.1=0 then [ipt b x y top s]else []):=by
 unfold ich;rw [Anu,AmD];by_cases h:s.1=0 <;> simp [h]
theorem UY:∀L:List (Int×Int),(ics b x y top L).length<=10 * L.length
 | []=>by simp [ics]
 | s::L=>by
  have h1:=UY L;have h2:=(HY b x y top (ky s)).1;unfold ics at *;rw [Ana,Al0,Al7];omega
theorem Aif (L:List (Int×Int)):(ich b x y top L).length<=L.length:=by
 unfold ich;rw [Amt];exact Anj _ _
end
section
variable {H E R T:Int} {b d:Bls} {x y z top:List Int} {wr lf rt:Int} {on:Bool}
theorem AkQ (g:RS b x y) (ht:top.length=32) {f hd:Nat} (hf:f<=hd) (hh:hd<=60) {ks bl rs:List Int} {m:List (Int×Int)} (hbl:bl.length<=80000) (hks:ks.length<=80000) (fn:Bool) (tx:List UInt8) :
  Ab Cd (sts f hd,[],(((sts f hd).length:Nat):Int),0,ks,bl,rs,bd fn bl,m,d,wr,on,lf,(f:Int),H,E,R,T,b,x,y,z,rt,top,top.map (lfv b),(f:Int),tx,[],[]) =
   some (sts f hd,(sts f hd).map (ipt b x y top),ks++(sts f hd).map kyI,bl++ics b x y top (sts f hd),rs,bd (fn && (sts f hd).all (ioc b x y top)) (bl++ics b x y top (sts f hd)),m,d,wr,on,lf,(f:Int),H,E,R,T,b,x,y,z,rt,top,top.map (lfv b),(f:Int),tx,[],ich b x y top (sts f hd)):=by
 have hsl:=IS (f:=f) hh;have hL:=Ai Cd (λi=>(sts f hd,((sts f hd).take i).map (ipt b x y top),(((sts f hd).length:Nat):Int),((i:Nat):Int),ks++((sts f hd).take i).map kyI,bl++ics b x y top ((sts f hd).take i),rs,bd (fn && ((sts f hd).take i).all (ioc b x y top)) (bl++ics b x y top ((sts f hd).take i)),m,d,wr,on,lf,(f:Int),H,E,R,T,b,x,y,z,rt,top,top.map (lfv b),(f:Int),tx,[],ich b x y top ((sts f hd).take i))) (sts f hd).length
  (sts f hd,(sts f hd).map (ipt b x y top),ks++(sts f hd).map kyI,bl++ics b x y top (sts f hd),rs,bd (fn && (sts f hd).all (ioc b x y top)) (bl++ics b x y top (sts f hd)),m,d,wr,on,lf,(f:Int),H,E,R,T,b,x,y,z,rt,top,top.map (lfv b),(f:Int),tx,[],ich b x y top (sts f hd)) (λi hi=>by
   obtain ⟨k,j,g8⟩:=PY hi;obtain ⟨l1,l2,l3⟩:=g8.lt hh;have hk:=g8.hk;have hget:(sts f hd)[i]?=some ((sts f hd)[i]):=AlW hi;have hil:=UY b x y top ((sts f hd).take i);have hcl:=Aif b x y top ((sts f hd).take i);rw [Al4]at hil hcl;have hrk:=HY b x y top (ky (sts f hd)[i]);have hrec:=Wm (z:=z) g ht (bl:=bl++ics b x y top ((sts f hd).take i)) (ks:=ks++((sts f hd).take i).map kyI) (by rw [Al0];omega) (by rw [Al0,Amt,Al4];omega) (k:=ky (sts f hd)[i]) O (fn && ((sts f hd).take i).all (ioc b x y top)) rs d wr on lf (f:Int) H E R T rt m;have e1:Oe (sts f hd)[i].1 (sts f hd)[i].2=some (ky (sts f hd)[i]:Int):=by rw [l2];simp only [g8.e];exact AcO hk O
   have e2:((sts f hd).take i++[(sts f hd)[i]]).all (ioc b x y top)=(((sts f hd).take i).all (ioc b x y top) && (rko b x y top (ky (sts f hd)[i]) && (BU (rkd b x y top (ky (sts f hd)[i]))).2)):=by rw [List.all_append];simp [ioc]
   unfold Cd cK cZ wI;dsimp only;rw [iy O,iy O,iy O,Amk,AlX,hget,AlU,AlU,e1,AlU,hrec,AlU];dsimp only;rw [AbH (LC g top (ky (sts f hd)[i])) O,AlU,AlU,Ama hi,Ag2,Ahf,e2,AmD,AmD,Al5,Al5];dsimp only;have eb:(fn && (((sts f hd).take i).all (ioc b x y top) && (rko b x y top (ky (sts f hd)[i]) && (BU (rkd b x y top (ky (sts f hd)[i]))).2)))=((fn && (((sts f hd).take i).all (ioc b x y top) && rko b x y top (ky (sts f hd)[i]))) && (BU (rkd b x y top (ky (sts f hd)[i]))).2):=by simp [AnW]
   have hb:=AiP (fn:=fn && (((sts f hd).take i).all (ioc b x y top) && rko b x y top (ky (sts f hd)[i]))) (c:=(BU (rkd b x y top (ky (sts f hd)[i]))).2) (l:=bl++(ics b x y top ((sts f hd).take i)++rkc b x y top (ky (sts f hd)[i])));rw [AnW,eb];have ro1:Aa ((((sts f hd).take i).map (ipt b x y top)).length+([(BU (rkd b x y top (ky (sts f hd)[i]))).1]:List (List Prt)).length) 24=true:=by simp only [Aa,decide_eq_true_eq,Amb,Amt,Al4];omega
   have ro2:Aa ((ich b x y top ((sts f hd).take i)).length+([(BU (rkd b x y top (ky (sts f hd)[i]))).1]:List (List Prt)).length) 24=true:=by simp only [Aa,decide_eq_true_eq,Amb];omega
   rw [<- hb];by_cases hq:bd (fn && (((sts f hd).take i).all (ioc b x y top) && rko b x y top (ky (sts f hd)[i]))) (bl++(ics b x y top ((sts f hd).take i)++rkc b x y top (ky (sts f hd)[i])))=true
   .rw [Al1 hq,Al1 hq,AlU];dsimp only;rw [Al1 ro1];by_cases h0:(sts f hd)[i].1=0
    .rw [iy h0,Al1 ro2,AlU,Al1 h0];dsimp only;rw [Am O];rfl
    .rw [ino h0,AlU,AlZ h0,Amf];dsimp only;rw [Am O];rfl
   .rw [AlZ hq,AlZ hq,AlU];dsimp only;rw [Al1 ro1];by_cases h0:(sts f hd)[i].1=0
    .rw [iy h0,Al1 ro2,AlU,Al1 h0];dsimp only;rw [Am O];rfl
    .rw [ino h0,AlU,AlZ h0,Amf];dsimp only;rw [Am O];rfl) (by
   unfold Cd cK cZ wI;dsimp only;rw [ino O,AmL])
 have e0:ics b x y top ((sts f hd).take 0)=[]:=rfl;have e1:((sts f hd).take 0).all (ioc b x y top)=true:=rfl;have e2:((sts f hd).take 0).map (ipt b x y top)=[]:=rfl;have e3:((sts f hd).take 0).map kyI=[]:=rfl;have e4:ich b x y top ((sts f hd).take 0)=[]:=rfl;rw [e0,e1,e2,e3,e4,Amf,Amf,Anv]at hL;exact hL
theorem Ajh {a c:List Prt} (hn:a.length<=1048576):Aw a c=some (decide (a=c)):=by
 unfold Aw;by_cases hl:a.length=c.length
 .rw [ino O];have h:=IE Ao (λi=>(a,c,(a.length:Int),((i:Nat):Int))) (λi=>decide (a[i]?=c[i]?)) false () a.length (λi hi=>by
   have hc:i < c.length:=O
   unfold Ao gX wI;dsimp only;rw [iy O,iy O,AlX,AlW hi,AlU,iy O,AlW hc,AlU,Am O];by_cases hq:a[i]=c[i]
   .rw [hq];simp
   .have:¬ (a[i].1=c[i].1/\a[i].2.1=c[i].2.1/\a[i].2.2=c[i].2.2):=λq=>hq (Prod.ext q.1 (Prod.ext q.2.1 q.2.2))
    have h2:(decide (a[i].1=c[i].1) && (decide (a[i].2.1=c[i].2.1) && ((a[i].2.2 == c[i].2.2) && true)))=false:=by
     cases h3:(decide (a[i].1=c[i].1) && (decide (a[i].2.1=c[i].2.1) && ((a[i].2.2 == c[i].2.2) && true)))with
     | false=>rfl
     | true=>
      simp only [Al2,decide_eq_true_eq,beq_iff_eq,and_true]at h3;exact absurd h3 this
    rw [h2];simp [hq]) (by
   unfold Ao gX wI;dsimp only;rw [ino O])
  rw [show Ab Ao (a,c,(a.length:Int),0)=_ from h,AlU];have e:((List.range a.length).all λi=>decide (a[i]?=c[i]?))=decide (a=c):=by
   rw [An0,all_range,decide_eq_true_eq];constructor
   .intro q;refine AmT λi=>?_
    by_cases hi:i < a.length
    .simpa using q i hi
    .rw [Amn O,Amn O]
   .rintro rfl i _;simp
  rw [e];by_cases hq:a=c <;> simp [hq]
 .rw [iy O,decide_eq_false (λq=>hl (by rw [q]))]
theorem Ajc {a c:List Int} (hn:a.length<=1048576):DT a c=some (decide (a=c)):=by
 unfold DT;by_cases hl:a.length=c.length
 .rw [ino O];have h:=IE Cy (λi=>(a,c,(a.length:Int),((i:Nat):Int))) (λi=>decide (a[i]?=c[i]?)) false () a.length (λi hi=>by
   have hc:i < c.length:=O
   unfold Cy gX wI;dsimp only;rw [iy O,iy O,AlX,AlW hi,AlU,iy O,AlW hc,AlU,Am O];by_cases hq:a[i]=c[i]
   .rw [hq];simp
   .simp [hq]) (by
   unfold Cy gX wI;dsimp only;rw [ino O])
  rw [show Ab Cy (a,c,(a.length:Int),0)=_ from h,AlU];have e:((List.range a.length).all λi=>decide (a[i]?=c[i]?))=decide (a=c):=by
   rw [An0,all_range,decide_eq_true_eq];constructor
   .intro q;refine AmT λi=>?_
    by_cases hi:i < a.length
    .simpa using q i hi
    .rw [Amn O,Amn O]
   .rintro rfl i _;simp
  rw [e];by_cases hq:a=c <;> simp [hq]
 .rw [iy O,decide_eq_false (λq=>hl (by rw [q]))]
theorem Acu {a c:List Prt} (hn:a.length<=1048576):Jn a c=some (decide (a=c)):=by
 unfold Jn;rw [Ajh hn];rfl
def ieq (b:Bls) (x y top:List Int) (f:Int) (t:List UInt8) (cs:List (List Prt)) (s:Int×Int):Bool:=decide (ipt b x y top s=bt f t cs s)
theorem AkD {f hd:Nat} {t:List UInt8} {r:List Rn} {cs:List (List Prt)} (gh:GH (f:Int) t r cs) (hf:hd=f+cs.length) (hh:hd<=60) {ks bl rs:List Int} {m:List (Int×Int)} (bad:Bool) :
  Ab BE ((sts f hd).map (ipt b x y top),sts f hd,(((sts f hd).length:Nat):Int),0,ks,bl,rs,bad,m,d,wr,on,lf,(f:Int),H,E,R,T,b,x,y,z,rt,top,top.map (lfv b),(f:Int),t,r,cs) =
   some (if(sts f hd).all (ieq b x y top (f:Int) t cs)=true then .inl (ks,bl,rs,bad,m,d,wr,on,lf,(f:Int),H,E,R,T,b,x,y,z,rt,top,top.map (lfv b),(f:Int),t,r,cs)
    else .inr (false,d,wr,on,lf,(f:Int),H,E,R,T,b,x,y,z,rt,top,top.map (lfv b),(f:Int),t,r,cs)):=by
 have hsl:=IS (f:=f) hh;have hL:=IE BE (λi=>((sts f hd).map (ipt b x y top),sts f hd,(((sts f hd).length:Nat):Int),((i:Nat):Int),ks,bl,rs,bad,m,d,wr,on,lf,(f:Int),H,E,R,T,b,x,y,z,rt,top,top.map (lfv b),(f:Int),t,r,cs))
  (λi=>ieq b x y top (f:Int) t cs (((sts f hd)[i]?).getD (0,0))) (false,d,wr,on,lf,(f:Int),H,E,R,T,b,x,y,z,rt,top,top.map (lfv b),(f:Int),t,r,cs) (ks,bl,rs,bad,m,d,wr,on,lf,(f:Int),H,E,R,T,b,x,y,z,rt,top,top.map (lfv b),(f:Int),t,r,cs) (sts f hd).length (λi hi=>by
   obtain ⟨k,j,g8⟩:=PY hi;obtain ⟨l1,l2,l3⟩:=g8.lt hh;obtain ⟨f1,f2,f3,f4,f5⟩:=g8.ft;have hk:=g8.hk;have hget:(sts f hd)[i]?=some ((sts f hd)[i]):=AlW hi;have hml:((sts f hd).map (ipt b x y top))[i]?=some (ipt b x y top (sts f hd)[i]):=by rw [AmB,hget];rfl
   have e1:E8 (sts f hd)[i].1 (sts f hd)[i].2=some (frS (sts f hd)[i]:Int):=by rw [f1];simp only [g8.e];exact Aew hk O
   have e2:Hb (sts f hd)[i].1 (sts f hd)[i].2=some (toS (sts f hd)[i]:Int):=by rw [f2];simp only [g8.e];exact Aiq hk O
   have hsm:=(SA (rkd b x y top (ky (sts f hd)[i]))).len;have hip:(ipt b x y top (sts f hd)[i]).length<=1048576:=by unfold ipt;omega
   unfold BE cK cZ wI;dsimp only;rw [iy O,iy O,iy O,Amk,AlX,hget,AlU,AlU,iy O,iy (by rw [Amt];omega),hml,AlU,e1,AlU,e2,AlU,Zb gh O O O,AlU,Acu hip,AlU,AmG];have he:ieq b x y top (f:Int) t cs (sts f hd)[i]=decide (ipt b x y top (sts f hd)[i]=B0 (f:Int) t cs (frS (sts f hd)[i]:Int) (toS (sts f hd)[i]:Int)):=rfl;rw [he];by_cases hq:ipt b x y top (sts f hd)[i]=B0 (f:Int) t cs (frS (sts f hd)[i]:Int) (toS (sts f hd)[i]:Int)
   .rw [decide_eq_true hq,AlZ Z,Al1 rfl,Am O]
   .rw [decide_eq_false hq,Al1 Z,AlZ Z]) (by
   unfold BE cK cZ wI;dsimp only;rw [ino O])
 have e:((List.range (sts f hd).length).all λi=>ieq b x y top (f:Int) t cs (((sts f hd)[i]?).getD (0,0)))=(sts f hd).all (ieq b x y top (f:Int) t cs):=by
  rw [An0,all_range,Amr];constructor
  .intro q s hs;obtain ⟨i,hi,rfl⟩:=AmA hs;have:=q i hi;rw [AlW hi]at this;exact this
  .intro q i hi;rw [AlW hi];exact q _ (Amc hi)
 rw [e]at hL;exact hL
def btl (b:Bls) (x y top:List Int):List Nat->List Int->List Int->List Int
 | [],P,bl=>bl
 | r::l,P,bl=>btl b x y top l (P++tpc b x y (vl b top (384+r))) (btx b x y P bl (vl b top (384+r)))
theorem Yf (b:Bls) (x y top:List Int):∀(l:List Nat) (P bl:List Int) (r:Nat),btl b x y top (l++[r]) P bl=btx b x y (P++ckp b x y top l) (btl b x y top l P bl) (vl b top (384+r))
 | [],P,bl,r=>by simp [btl,ckp]
 | a::l,P,bl,r=>by
  have h:=Yf b x y top l (P++tpc b x y (vl b top (384+a))) (btx b x y P bl (vl b top (384+a))) r;have e:ckp b x y top (a::l)=tpc b x y (vl b top (384+a))++ckp b x y top l:=by unfold ckp;rw [Ana]
  rw [e,<- Al5];exact h
theorem AbS {b:Bls} {x y top:List Int}:∀(l:List Nat) {C P bl:List Int},Led C P bl->Led (C++ckc b x y top l) (P++ckp b x y top l) (btl b x y top l P bl)
 | [],C,P,bl,h=>by simpa [ckc,ckp,btl] using h
 | a::l,C,P,bl,h=>by
  have h1:=AbS (b:=b) (x:=x) (y:=y) (top:=top) l (AbX (b:=b) (x:=x) (y:=y) h (vl b top (384+a)));have e1:ckp b x y top (a::l)=tpc b x y (vl b top (384+a))++ckp b x y top l:=by unfold ckp;rw [Ana]
  have e2:ckc b x y top (a::l)=tcl b x y (vl b top (384+a))++ckc b x y top l:=by unfold ckc;rw [Ana]
  rw [e1,e2,<- Al5,<- Al5];exact h1
theorem Vu (b:Bls) (x y top:List Int):∀(l:List Nat) (P bl:List Int),(btl b x y top l P bl).length<=bl.length+4 * l.length
 | [],P,bl=>by simp [btl]
 | a::l,P,bl=>by
  have h1:=Vu b x y top l (P++tpc b x y (vl b top (384+a))) (btx b x y P bl (vl b top (384+a)));have h2:=Ab8 b x y P bl (vl b top (384+a));rw [Al7];show(btl b x y top l _ _).length<=_;omega
theorem AkM (g:RS b x y) (ht:top.length=32) {f hd e:Nat} {t:List UInt8} {r:List Rn} {cs:List (List Prt)} (gh:GH (f:Int) t r cs) (hf:hd=f+cs.length) (hh:hd<=60) {ks bl rs P:List Int} (hbl:bl.length<=80000) (hks:ks.length<=80000) (hP:P.length<=80000) (fn:Bool) :
  Ab BF ((cks f hd e).map (λr=>((r:Nat):Int)),((((cks f hd e).map (λr=>((r:Nat):Int))).length:Nat):Int),0,ks,bl,rs,bd fn bl,std P,d,wr,on,lf,(f:Int),H,E,R,T,b,x,y,z,rt,top,top.map (lfv b),(f:Int),t,r,cs) =
   some (if(cks f hd e).all (cke b x y top f t cs)=true then .inl (ks++(cks f hd e).map ckI,btl b x y top (cks f hd e) P bl,rs,bd (fn && cko b x y top (cks f hd e)) (btl b x y top (cks f hd e) P bl),std (P++ckp b x y top (cks f hd e)),d,wr,on,lf,(f:Int),H,E,R,T,b,x,y,z,rt,top,top.map (lfv b),(f:Int),t,r,cs)
    else .inr (false,d,wr,on,lf,(f:Int),H,E,R,T,b,x,y,z,rt,top,top.map (lfv b),(f:Int),t,r,cs)):=by
 have hcl:=NR (f:=f) (e:=e) hh;have hL:=IE BF (λi=>((cks f hd e).map (λr=>((r:Nat):Int)),((((cks f hd e).map (λr=>((r:Nat):Int))).length:Nat):Int),((i:Nat):Int),ks++((cks f hd e).take i).map ckI,btl b x y top ((cks f hd e).take i) P bl,rs,bd (fn && cko b x y top ((cks f hd e).take i)) (btl b x y top ((cks f hd e).take i) P bl),std (P++ckp b x y top ((cks f hd e).take i)),d,wr,on,lf,(f:Int),H,E,R,T,b,x,y,z,rt,top,top.map (lfv b),(f:Int),t,r,cs))
  (λi=>cke b x y top f t cs (((cks f hd e)[i]?).getD 0)) (false,d,wr,on,lf,(f:Int),H,E,R,T,b,x,y,z,rt,top,top.map (lfv b),(f:Int),t,r,cs) (ks++(cks f hd e).map ckI,btl b x y top (cks f hd e) P bl,rs,bd (fn && cko b x y top (cks f hd e)) (btl b x y top (cks f hd e) P bl),std (P++ckp b x y top (cks f hd e)),d,wr,on,lf,(f:Int),H,E,R,T,b,x,y,z,rt,top,top.map (lfv b),(f:Int),t,r,cs) (cks f hd e).length (λi hi=>by
   have hget:(cks f hd e)[i]?=some ((cks f hd e)[i]):=AlW hi;have hml:((cks f hd e).map (λr=>((r:Nat):Int)))[i]?=some (((cks f hd e)[i]:Nat):Int):=by rw [AmB,hget];rfl
   obtain ⟨q1,q2,q3⟩:=cks_mem.1 (Amc hi);have htl:=(Rv b x y top ((cks f hd e).take i)).2;have hbn:=Vu b x y top ((cks f hd e).take i) P bl;rw [Al4]at htl hbn;have ew:IntKind.wrap .i64 (384+(((cks f hd e)[i]:Nat):Int))=((384+(cks f hd e)[i]:Nat):Int):=by rw [w64 O O];omega
   have htx:=Qp gh (x:=(((cks f hd e)[i]:Nat):Int)) O O;rw [show((((cks f hd e)[i]:Nat):Int) - (f:Int)).toNat=(cks f hd e)[i] - f by omega]at htx;have hrt:=AjH (z:=z) g (vl b top (384+(cks f hd e)[i])) (P:=P++ckp b x y top ((cks f hd e).take i)) (bl:=btl b x y top ((cks f hd e).take i) P bl) O (by rw [Al0];omega) (fn && cko b x y top ((cks f hd e).take i)) (ks++((cks f hd e).take i).map ckI++[ckI (cks f hd e)[i]]) rs d wr on lf (f:Int) H E R T;have a2:ckp b x y top ((cks f hd e).take i++[(cks f hd e)[i]])=ckp b x y top ((cks f hd e).take i)++tpc b x y (vl b top (384+(cks f hd e)[i])):=by unfold ckp;rw [Am9];simp
   have a3:cko b x y top ((cks f hd e).take i++[(cks f hd e)[i]])=(cko b x y top ((cks f hd e).take i) && tok b x y (vl b top (384+(cks f hd e)[i]))):=by unfold cko;rw [List.all_append];simp
   unfold BF cK cZ wI;dsimp only;rw [iy (by rw [Amt];omega),iy O,iy (by rw [Amt];omega),Amk,AlX,hml,AlU,ew,Al1 (by simp only [Aa,decide_eq_true_eq,Amb,Al0,Amt,Al4];omega),QS ht rt O,AlU,
    show((384+(cks f hd e)[i]:Nat):Int)=ckI (cks f hd e)[i] from rfl,hrt,AlU]
   dsimp only;rw [htx,AlU,hget,AmG,Ama hi,Yf,a2,a3,AmD,Al5,Al5,AnW];unfold cke;cases hq:(ttx b x y (vl b top (384+(cks f hd e)[i])) == txt t (cs.take ((cks f hd e)[i] - f)))with
   | true=>rw [AlZ Z,Al1 rfl,Am O];rfl
   | false=>rw [Al1 Z,AlZ Z]) (by
   unfold BF cK cZ wI;dsimp only;rw [ino (by rw [Amt];omega),AmL])
 have eq9:((List.range (cks f hd e).length).all λi=>cke b x y top f t cs (((cks f hd e)[i]?).getD 0))=(cks f hd e).all (cke b x y top f t cs):=by
  rw [An0,all_range,Amr];constructor
  .intro q s hs;obtain ⟨i,hi,rfl⟩:=AmA hs;have:=q i hi;rw [AlW hi]at this;exact this
  .intro q i hi;rw [AlW hi];exact q _ (Amc hi)
 rw [eq9]at hL;have e0:((cks f hd e).take 0).map ckI=[]:=rfl;have e1:cko b x y top ((cks f hd e).take 0)=true:=rfl;have e2:ckp b x y top ((cks f hd e).take 0)=[]:=rfl;have e3:btl b x y top ((cks f hd e).take 0) P bl=bl:=rfl;rw [e0,e1,e2,e3,Amf,Amf,Anv]at hL;exact hL
end
end Go.V.G
set_option maxRecDepth 100000
namespace Go.V.G
open Go.V
def pst (b:Bls) (x y:List Int) (a:Int):Int:=if pcB b x y a=true then gb (blk b a.toNat) 1 else 0
def usd (x:List Int) (n:Nat):List Int:=(((List.range n).map (33 + ·)).filter λk=>bit x k).map λk=>((k:Nat):Int)
theorem Zf (x:List Int) (n:Nat):usd x (n+1)=usd x n++(if bit x (33+n)=true then [((33+n:Nat):Int)]else []):=by
 unfold usd;rw [AnI,AmD,Anu,AmD];by_cases h:bit x (33+n)=true <;> simp [h]
theorem AhM (x:List Int) (n:Nat):(usd x n).length<=n:=by
 unfold usd;rw [Amt];exact Amw (Anj _ _) Z
theorem usd_mem {x:List Int} {n:Nat} {v:Int}:v∈usd x n↔∃k:Nat,33<=k/\k < 33+n/\bit x k=true/\v=(k:Int):=by
 unfold usd;simp only [Aml,AnT,AnG];constructor
 .rintro ⟨k,⟨⟨i,h1,rfl⟩,h2⟩,rfl⟩;exact⟨33+i,O,O,h2,rfl⟩
 .rintro ⟨k,h1,h2,h3,rfl⟩;exact⟨k,⟨⟨k - 33,O,O⟩,h3⟩,rfl⟩
theorem Q6 (x:List Int):∀n,(usd x n).Pairwise (· < ·)
 | 0=>by simp [usd]
 | n+1=>by
  rw [Zf];split
  .rw [AnJ];refine⟨Q6 x n,Z,λa ha c hc=>?_⟩;obtain ⟨k,_,h2,_,rfl⟩:=usd_mem.1 ha;rw [Al6.1 hc];omega
  .rw [Amf];exact Q6 x n
section
variable {F H E R T:Int} {b d:Bls} {x y z top:List Int} {wr lf rt:Int} {on:Bool}
theorem AfH (g:RS b x y):FM (b,x,y,z)=some (usd x (b.length - 33)):=by
 have hbl:=g.hn;have hxl:=g.hx;unfold FM;have h:=Ai Dk (λn=>((b,x,y,z),usd x n,((33+n:Nat):Int))) (b.length - 33) (usd x (b.length - 33)) (λn hn=>by
  have hl:=AhM x n;unfold Dk cK wI;dsimp only;rw [iy O,Uf O O,AlU,Zf];by_cases hq:bit x (33+n)=true
  .rw [Al1 hq,Al1 (by simp only [Aa,decide_eq_true_eq,Amb];omega),AlU,Al1 hq];dsimp only;rw [Am O];rfl
  .rw [AlZ hq,AlU,AlZ hq,Amf];dsimp only;rw [Am O];rfl) (by
  unfold Dk cK wI;dsimp only;rw [ino O])
 rw [show Ab Dk ((b,x,y,z),[],33)=_ from h];rfl
theorem Ahu (g:RS b x y) {ks bl rs:List Int} {h1:Int} {h2:List UInt8} {h3:List Rn} {h4:List (List Prt)} {vs:List (List Int)}:∀(l:List (Int×Int)) (bad:Bool),
  l.foldlM Cf (ks,bl,rs,bad,d,wr,on,lf,F,H,E,R,T,b,x,y,z,rt,top,vs,h1,h2,h3,h4) =
   some (ks,bl,rs,bad || l.any (λp=>!decide (pst b x y p.1=p.2)),d,wr,on,lf,F,H,E,R,T,b,x,y,z,rt,top,vs,h1,h2,h3,h4)
 | [],bad=>by simp
 | p::l,bad=>by
  have hs:Cf (ks,bl,rs,bad,d,wr,on,lf,F,H,E,R,T,b,x,y,z,rt,top,vs,h1,h2,h3,h4) p=some (ks,bl,rs,bad || !decide (pst b x y p.1=p.2),d,wr,on,lf,F,H,E,R,T,b,x,y,z,rt,top,vs,h1,h2,h3,h4):=by
   unfold Cf;dsimp only;rw [TG g,AlU];have e:(if pcB b x y p.1=true then(true,DG b p.1)else(false,0,0,[])).2.2.1=pst b x y p.1:=by
    unfold pst DG;split <;> rfl
   generalize (if pcB b x y p.1=true then(true,DG b p.1)else(false,0,0,[]))=w at *;obtain ⟨w1,w2,w3,w4⟩:=w;dsimp only at e ⊢;subst e;cases bad with
   | true=>rfl
   | false=>
    rw [AlZ Z,AlU];dsimp only;by_cases hq:pst b x y p.1=p.2 <;> simp [hq]
  rw [List.foldlM_cons,hs];show l.foldlM Cf _=_;rw [Ahu g l,List.any_cons,Bool.or_assoc]
theorem AgR {l m:List (Int×Int)} (h:l.Perm m) (p:Int×Int->Bool):l.any p=m.any p:=by
 rw [An0,Aoi,Aoi];constructor
 .rintro ⟨v,h1,h2⟩;exact⟨v,h.mem_iff.1 h1,h2⟩
 .rintro ⟨v,h1,h2⟩;exact⟨v,h.mem_iff.2 h1,h2⟩
theorem Aks {tk:List Kv} {ks bl rs:List Int} {h1:Int} {h2:List UInt8} {h3:List Rn} {h4:List (List Prt)} {vs:List (List Int)} (htk:tk.length<=100000) (hks:ks.length<=1000000) (bad:Bool) :
  Ab Cb (tk,(tk.length:Int),0,ks,bl,rs,bad,d,wr,on,lf,F,H,E,R,T,b,x,y,z,rt,top,vs,h1,h2,h3,h4) =
   some (ks,bl,rs,bad || tk.any (λp=>!decide (p.1∈ks)),d,wr,on,lf,F,H,E,R,T,b,x,y,z,rt,top,vs,h1,h2,h3,h4):=by
 have h:=Ai Cb (λi=>(tk,(tk.length:Int),((i:Nat):Int),ks,bl,rs,bad || (tk.take i).any (λp=>!decide (p.1∈ks)),d,wr,on,lf,F,H,E,R,T,b,x,y,z,rt,top,vs,h1,h2,h3,h4)) tk.length (ks,bl,rs,bad || tk.any (λp=>!decide (p.1∈ks)),d,wr,on,lf,F,H,E,R,T,b,x,y,z,rt,top,vs,h1,h2,h3,h4) (λi hi=>by
  unfold Cb cK cZ wI;dsimp only;rw [iy O,iy O,iy O,Amk,AlX,AlW hi,AlU,AlU,Ama hi,List.any_append];cases hq:(bad || (tk.take i).any (λp=>!decide (p.1∈ks)))with
  | true=>
   rw [Al1 rfl,AlU,<- Bool.or_assoc,hq];dsimp only;rw [Am O];rfl
  | false=>
   rw [AlZ Z,Gm O,AlU,AlU,<- Bool.or_assoc,hq];dsimp only;rw [Am O];simp) (by
  unfold Cb cK cZ wI;dsimp only;rw [ino O,AmL])
 have e0:(bad || (tk.take 0).any (λp=>!decide (p.1∈ks)))=bad:=by simp
 rw [e0]at h;exact h
end
section defs
variable (b:Bls) (x top:List Int) (R T:Int) (f h e:Nat)
noncomputable def bB2:List Int:=btx b x [] [] (srt (pgl top R)) T
noncomputable def bB4:List Int:=bB2 b x top R T++ics b x [] top (sts f h)++rkc b x [] top 448
noncomputable def bB5:List Int:=btl b x [] top (cks f h e) (aP2 b x T) (bB4 b x top R T f h)
def bf4:Bool:=(tok b x [] T && (sts f h).all (ioc b x [] top)) && rko b x [] top 448
def bf5:Bool:=bf4 b x top T f h && cko b x [] top (cks f h e)
def bKs:List Int:=((sts f h).map kyI++[448])++(cks f h e).map ckI
def bL:List (List Prt):=ich b x [] top (sts f h)
noncomputable def bG1:Bool:=(rdR (rkd b x [] top 448)).2 && (!bd (bf4 b x top T f h) (bB4 b x top R T f h) && Ea (f:Int) (aT b x T) (aR b x top) (bL b x top f h))
def bE:Bool:=(sts f h).all (ieq b x [] top (f:Int) (aT b x T) (bL b x top f h))
def bK:Bool:=(cks f h e).all (cke b x [] top f (aT b x T) (bL b x top f h))
noncomputable def Adw:Bool:=(bd (bf5 b x top T f h e) (bB5 b x top R T f h e) || (std (aP6 b x top T f h e)).any (λp=>!decide (pst b x [] p.1=p.2))) || (ksT b top 1024).any (λp=>!decide (p.1∈bKs f h e))
noncomputable def iC:Bool:=bG1 b x top R T f h && (bE b x top T f h && (bK b x top T f h e && (!Adw b x top R T f h e && decide ((bB5 b x top R T f h e).mergeSort (λx y=>decide (x<=y))=usd x (b.length - 33)))))
end defs
theorem AcK {α:Type} (F:Int×Int->α) (f:Nat):∀n,(skn f 0 n).map F=(List.range (n - f)).map λi=>F (0,((f+i:Nat):Int))
 | 0=>by simp [skn]
 | n+1=>by
  rw [JJ,AmD,AcK F f n,Nat.pow_zero,Nat.mul_one];by_cases h:f<=n
  .rw [Al1 h,(O:n+1 - f=n - f+1),O4,(O:f+(n - f)=n)];rfl
  .rw [AlZ h,(O:n+1 - f=n - f)];simp
theorem Ai1 {f h:Nat}:∀k,(stk f h (k+1)).filter (λs=>decide (s.1=0))=skn f 0 h
 | 0=>by
  show(([]++skn f 0 (h / 2 ^ 0):List (Int×Int))).filter _=_;rw [Ams,Nat.pow_zero,Nat.div_one,List.filter_eq_self];intro s hs;obtain ⟨i,_,_,rfl⟩:=skn_mem.1 hs;simp
 | k+1=>by
  show(stk f h (k+1)++skn f (k+1) (h / 2 ^ (k+1))).filter _=_;rw [Anu,Ai1 k];have:(skn f (k+1) (h / 2 ^ (k+1))).filter (λs=>decide (s.1=0))=[]:=by
   rw [List.filter_eq_nil_iff];intro s hs;obtain ⟨i,_,_,rfl⟩:=skn_mem.1 hs;simp only [decide_eq_true_eq];omega
  rw [this,Amf]
theorem T1 (b:Bls) (x top:List Int) (f h:Nat):bL b x top f h=aL b x top f h:=by
 unfold bL aL ich chC lod sts;rw [Ai1,AcK,AmU];refine AmV λi _=>?_
 show(BU (rkd b x [] top (64 * Int.toNat 0+Int.toNat ((f+i:Nat):Int)))).1=(BU (rkd b x [] top (f+i))).1;rw [AlX,show 64 * Int.toNat 0+(f+i)=f+i by simp]
theorem Aeh {bl:Bls} {wr lf:Int} (on:Bool) {f h e:Nat} {R T:Int} {top:List Int} (hn:bl.length<=1048576) (g:RS bl (opB bl) []) (htl:top.length=32) (hf:f<=h) (hh:h<=60) (he:0 < e) (he2:e<=30) :
  ∃q,CF bl wr on lf (f:Int) (h:Int) (e:Int) R T bl (opB bl) [] [] R top (top.map (lfv bl)) 0 [] [] []=some q/\q.1=iC bl (opB bl) top R T f h e/\(iC bl (opB bl) top R T f h e=true->
   q=(true,bl,wr,on,lf,(f:Int),(h:Int),(e:Int),R,T,bl,opB bl,[],[],R,top,top.map (lfv bl),(f:Int),aT bl (opB bl) T,aR bl (opB bl) top,aL bl (opB bl) top f h)):=by
 obtain ⟨l1,l2,l3,l4,l5,l6,l7,l8⟩:=Afu (b:=bl) (x:=opB bl) (top:=top) (R:=R) (T:=T) (f:=f) (h:=h) (e:=e) htl hh;have hpl:(srt (pgl top R)).length<=33:=l1;have hb2:(bB2 bl (opB bl) top R T).length<=37:=by
  have:=Ab8 bl (opB bl) [] [] (srt (pgl top R)) T;unfold bB2;omega
 have hsl:=IS (f:=f) hh;have hcl:=NR (f:=f) (e:=e) hh;have hil:=UY bl (opB bl) [] top (sts f h);have hrk:=HY bl (opB bl) [] top 448;have hb4:(bB4 bl (opB bl) top R T f h).length<=3700:=by unfold bB4;rw [Al0,Al0];omega
 have hb5:(bB5 bl (opB bl) top R T f h e).length<=4000:=by
  have:=Vu bl (opB bl) [] top (cks f h e) (aP2 bl (opB bl) T) (bB4 bl (opB bl) top R T f h);unfold bB5;omega
 have hLl:(bL bl (opB bl) top f h).length=h - f:=by rw [T1];unfold aL chC lod;simp
 unfold CF cK;rw [Ahg htl,AlU];have e1:=OY (l:=srt (pgl top R)) (bl:=[]) (by simp only [Amp];omega) true [] [] bl [];rw [Ams]at e1;rw [show BO (srt (pgl top R)) [] [] [] false bl []=_ from e1,AlU];dsimp only;rw [show([]:List (Int×Int))=std [] from rfl,AjH g T O Z true [] [],AlU];dsimp only;rw [iy rfl,Vp hf hh,AlU,Amg,Ams,show btx bl (opB bl) [] [] (srt (pgl top R)) T=bB2 bl (opB bl) top R T from rfl,show tpc bl (opB bl) [] T=aP2 bl (opB bl) T from rfl];rw [show(std []:List (Int×Int))=[] from rfl,AkQ g htl hf hh O Z,AlU];dsimp only;have er:=Wm (z:=[]) g htl (bl:=bB2 bl (opB bl) top R T++ics bl (opB bl) [] top (sts f h)) (ks:=[]++(sts f h).map kyI) (by rw [Al0];omega) (by rw [Al0,Amt];simp;omega) (k:=448) O (tok bl (opB bl) [] T && (sts f h).all (ioc bl (opB bl) [] top)) [] bl wr on lf (f:Int) (h:Int) (e:Int) R T R (std (aP2 bl (opB bl) T));rw [show Bz 448 _ _ _ _ _ _ _ _ _ _ _ _ _ _ _ _ _ _ _ _ _=_ from er,AlU];dsimp only;rw [AkJ (LC g top 448) O,AlU,show bB2 bl (opB bl) top R T++ics bl (opB bl) [] top (sts f h)++rkc bl (opB bl) [] top 448=bB4 bl (opB bl) top R T f h from rfl,
  show((tok bl (opB bl) [] T && (sts f h).all (ioc bl (opB bl) [] top)) && rko bl (opB bl) [] top 448)=bf4 bl (opB bl) top T f h from rfl,show ich bl (opB bl) [] top (sts f h)=bL bl (opB bl) top f h from rfl]
 unfold iC;have hG1:bG1 bl (opB bl) top R T f h=((rdR (rkd bl (opB bl) [] top 448)).2 && (!bd (bf4 bl (opB bl) top T f h) (bB4 bl (opB bl) top R T f h) && Ea (f:Int) (aT bl (opB bl) T) (aR bl (opB bl) top) (bL bl (opB bl) top f h))):=rfl;rw [hG1];cases hr2:(rdR (rkd bl (opB bl) [] top 448)).2 with
 | false=>
  rw [Al1 Z,AlU];dsimp only;rw [Al1 rfl];exact⟨_,rfl,rfl,λq=>by simp at q⟩
 | true=>
  rw [AlZ Z];cases hbd:bd (bf4 bl (opB bl) top T f h) (bB4 bl (opB bl) top R T f h)with
  | true=>
   rw [Al1 rfl,AlU];dsimp only;rw [Al1 rfl];exact⟨_,rfl,rfl,λq=>by simp at q⟩
  | false=>
   have hHB:HB (ttx bl (opB bl) [] T) (rdR (rkd bl (opB bl) [] top 448)).1 (bL bl (opB bl) top f h):=by
    have:=Abb (rkd bl (opB bl) [] top 448);have:=TF bl (opB bl) [] T;refine⟨O,O,O,λc hc=>?_⟩;rw [T1]at hc;obtain ⟨x',_,rfl⟩:=Aml.1 hc;exact(SA x').mono O
   rw [AlZ Z,Ma hHB,AlU,AlU,show Ea (f:Int) (aT bl (opB bl) T) (aR bl (opB bl) top) (bL bl (opB bl) top f h)=Ea (f:Int) (ttx bl (opB bl) [] T) (rdR (rkd bl (opB bl) [] top 448)).1 (bL bl (opB bl) top f h) from rfl];dsimp only;cases hgh:Ea (f:Int) (ttx bl (opB bl) [] T) (rdR (rkd bl (opB bl) [] top 448)).1 (bL bl (opB bl) top f h)with
   | false=>
    rw [Al1 Z];exact⟨_,rfl,rfl,λq=>by simp at q⟩
   | true=>
    have gh:=goodH_iff.1 hgh;rw [AlZ Z];have e2:=AkD (b:=bl) (d:=bl) (x:=opB bl) (y:=[]) (z:=[]) (top:=top) (wr:=wr) (lf:=lf) (on:=on) (H:=(h:Int)) (E:=(e:Int)) (R:=R) (T:=T) (rt:=R) gh (hd:=h) O hh (ks:=[]++(sts f h).map kyI++[((448:Nat):Int)]) (bl:=bB4 bl (opB bl) top R T f h) (rs:=[]) (m:=std (aP2 bl (opB bl) T)) false;rw [show Ab BE _=_ from e2,AlU];simp only [AnX,Amg];cases hE:bE bl (opB bl) top T f h with
    | false=>
     have hE':(sts f h).all (ieq bl (opB bl) [] top (f:Int) (ttx bl (opB bl) [] T) (bL bl (opB bl) top f h))=false:=hE;rw [hE',AlZ Z];exact⟨_,rfl,rfl,λq=>by simp at q⟩
    | true=>
     have hE':(sts f h).all (ieq bl (opB bl) [] top (f:Int) (ttx bl (opB bl) [] T) (bL bl (opB bl) top f h))=true:=hE;rw [hE',Al1 rfl];dsimp only;unfold EZ wI;rw [AlU,w64 O O,show(f:Int)+(((bL bl (opB bl) top f h).length:Nat):Int)=(h:Int) by omega,AaW hf hh he he2,AlU];have e3:=AkM (b:=bl) (d:=bl) (x:=opB bl) (y:=[]) (z:=[]) (top:=top) (wr:=wr) (lf:=lf) (on:=on) (H:=(h:Int)) (E:=(e:Int)) (R:=R) (T:=T) (rt:=R) g htl gh (hd:=h) (e:=e) O hh (ks:=[]++(sts f h).map kyI++[((448:Nat):Int)]) (bl:=bB4 bl (opB bl) top R T f h) (rs:=[]) (P:=aP2 bl (opB bl) T) O AlR O (bf4 bl (opB bl) top T f h);rw [hbd]at e3;rw [show Ab BF _=_ from e3,AlU];simp only [Amg];cases hK:bK bl (opB bl) top T f h e with
     | false=>
      have hK':(cks f h e).all (cke bl (opB bl) [] top f (ttx bl (opB bl) [] T) (bL bl (opB bl) top f h))=false:=hK;rw [hK',AlZ Z];exact⟨_,rfl,rfl,λq=>by simp at q⟩
     | true=>
      have hK':(cks f h e).all (cke bl (opB bl) [] top f (ttx bl (opB bl) [] T) (bL bl (opB bl) top f h))=true:=hK;rw [hK',Al1 rfl];dsimp only;rw [show aP2 bl (opB bl) T++ckp bl (opB bl) [] top (cks f h e)=aP6 bl (opB bl) top T f h e from rfl,show btl bl (opB bl) [] top (cks f h e) (aP2 bl (opB bl) T) (bB4 bl (opB bl) top R T f h)=bB5 bl (opB bl) top R T f h e from rfl,show(bf4 bl (opB bl) top T f h && cko bl (opB bl) [] top (cks f h e))=bf5 bl (opB bl) top T f h e from rfl,
       AfX (λl hl=>by rw [Ahu g l,AgR hl]),AlU]
      dsimp only;have hkt:=Q3 bl top 1024;rw [AcL htl,AlU,Aks O AlR,AlU];dsimp only;have hkk:[]++(sts f h).map kyI++[((448:Nat):Int)]++(cks f h e).map ckI=bKs f h e:=by unfold bKs;rw [Ams];rfl
      rw [hkk,show((bd (bf5 bl (opB bl) top T f h e) (bB5 bl (opB bl) top R T f h e) || (std (aP6 bl (opB bl) top T f h e)).any (λp=>!decide (pst bl (opB bl) [] p.1=p.2))) || (ksT bl top 1024).any (λp=>!decide (p.1∈bKs f h e)))=Adw bl (opB bl) top R T f h e from rfl];unfold Gw;rw [Al1 O,AlU];cases hB:Adw bl (opB bl) top R T f h e with
      | true=>
       rw [AlZ Z,AlU];exact⟨_,rfl,rfl,λq=>by simp at q⟩
      | false=>
       rw [Al1 Z,AfH g,AlU,Ajc (by rw [List.length_mergeSort];omega),AlU,AlU];refine⟨_,rfl,Z,λq=>?_⟩;have q':decide ((bB5 bl (opB bl) top R T f h e).mergeSort (λx y=>decide (x<=y))=usd (opB bl) (bl.length - 33))=true:=by simpa using q
       rw [q',T1];rfl
end Go.V.G
set_option maxRecDepth 100000
namespace Go.V.G
open Go.V
theorem Rk:∀(n:Nat) (x:List Int) (c:List Prt),Byt x->CP n x=some c->(∀p∈c,kd p≠0)->enc c=x
 | 0,x,c,hb,h,hk=>by
  unfold CP at h;split at h
  .rename_i hx;injection h with h;subst h;rw [hx];rfl
  .cases h
 | n+1,[],c,hb,h,hk=>by
  rw [Pe]at h;injection h with h;subst h;rfl
 | n+1,[a],c,hb,h,hk=>by simp [CP]at h
 | n+1,k::m::r,c,hb,h,hk=>by
  have hm:=hb m Z;have hr:Byt r:=λv hv=>hb v (by simp [hv])
  simp only [CP]at h;split at h
  .rename_i h1;obtain ⟨c',q1,rfl⟩:=AmY.1 h;have ih:=Rk n r c' hr q1 (λp hp=>hk p (by simp [hp]));have h0:=hk (m,0,[]) Z;rcases Dn h0 with⟨a,ha,e,hkd⟩ | ⟨a,ha,e,hkd⟩ | ⟨s,hs,e,hkd⟩
   .show FO (m,0,[])++enc c'=_;rw [ih];unfold FO;rw [hkd,h1];simp [Ar]
   .injection e with e1 e2;injection e2 with e2 e3;omega
   .injection e with e1 e2;injection e2 with e2 e3;exact absurd e3.symm hs
  .split at h
   .rename_i _ h1;obtain ⟨c',q1,rfl⟩:=AmY.1 h;have ih:=Rk n r c' hr q1 (λp hp=>hk p (by simp [hp]));have h0:=hk (0,m,[]) Z;rcases Dn h0 with⟨a,ha,e,hkd⟩ | ⟨a,ha,e,hkd⟩ | ⟨s,hs,e,hkd⟩
    .injection e with e1 e2;omega
    .show FO (0,m,[])++enc c'=_;rw [ih];unfold FO;rw [hkd,h1];simp [Ar]
    .injection e with e1 e2;injection e2 with e2 e3;exact absurd e3.symm hs
   .split at h
    .rename_i _ _ h1;obtain ⟨c',q1,rfl⟩:=AmY.1 h;have ih:=Rk n (r.drop m.toNat) c' (λv hv=>hr v (AnA hv)) q1 (λp hp=>hk p (by simp [hp]));have h0:=hk (0,0,AJ (r.take m.toNat)) Z;rcases Dn h0 with⟨a,ha,e,hkd⟩ | ⟨a,ha,e,hkd⟩ | ⟨s,hs,e,hkd⟩
     .injection e with e1 e2;omega
     .injection e with e1 e2;injection e2 with e2 e3;omega
     .show FO (0,0,AJ (r.take m.toNat))++enc c'=_;have hbt:Ar (AJ (r.take m.toNat))=r.take m.toNat:=AdD (λv hv=>hr v (Am7 hv));have hln:(AJ (r.take m.toNat)).length=m.toNat:=by unfold AJ;rw [Amt,Al4];omega
      rw [ih];unfold FO;dsimp only;rw [hkd,hbt,hln,h1.1];simp only [AmH,Ams,Al5,AmJ]
      congr 2
      omega
    .cases h
theorem AcY {c:List Prt} (hg:AA c=true):BU (enc c)=(c,true):=by
 have h1:=AfP (Ci hg) O hg;have hs:=MG hg;rw [AbH (VF hg) O]at h1;injection h1
theorem AeF {x:List Int} (hb:Byt x) {c:List Prt} (h:BU x=(c,true)):enc c=x:=by
 unfold BU at h;split at h
 .rename_i c' hd;split at h
  .rename_i hg;injection h with h1 h2;subst h1
   exact Rk _ _ _ hb hd λp hp=>(A7 (As hg).1 p hp).ne
  .injection h with h1 h2;cases h2
 .injection h with h1 h2;cases h2
theorem Ae4 {x:List Int} (hb:Byt x) {c:List Prt} (hg:AA c=true):(AJ x == AJ (enc c))=true↔BU x=(c,true):=by
 rw [SM hb (VF hg),beq_iff_eq];constructor
 .rintro rfl;exact AcY hg
 .intro h;exact(AeF hb h).symm
section
variable {b:Bls} {x y top:List Int}
theorem AbL:∀(f:Nat) (a:Int) (d ch:List Int) {p:List Int×List Int},(∀v∈ch,liv b x y v=true)->rcN b x y f a d ch=some p->∀v∈p.2,liv b x y v=true
 | 0,_,_,_,p,_,h=>by cases h
 | f+1,a,d,ch,p,hd,h=>by
  unfold rcN at h;split at h
  .rename_i hc;have hl:liv b x y a=true:=by unfold rcC at hc;rw [Al2]at hc;exact hc.1
   have hd':∀v∈ch++[a],liv b x y v=true:=λv hv=>by
    rcases Al3.1 hv with hv | hv
    .exact hd v hv
    .rw [Al6.1 hv];exact hl
   split at h
   .injection h with h;subst h;exact hd'
   .exact AbL f _ _ _ hd' h
  .cases h
theorem UI (k:Nat):∀v∈rkc b x y top k,liv b x y v=true:=by
 intro v hv;unfold rkc rcA at hv;split at hv
 .rename_i p hp;exact AbL _ _ _ _ Z hp v hv
 .cases hv
theorem AbN (a:Int):∀v∈tcl b x y a,liv b x y v=true:=by
 intro v hv;unfold tcl at hv;split at hv
 .rename_i h;obtain ⟨l,hl⟩:=AnU.1 h;rw [Al6.1 hv];exact(Jd hl).2.1
 .cases hv
theorem AbG (a:Int):∀v∈tpc b x y a,pcB b x y v=true:=by
 intro v hv;unfold tpc at hv;cases hp:ptx b x y a with
 | none=>rw [hp]at hv;cases hv
 | some l=>rw [hp]at hv;exact(Jd hp).1.all v hv
theorem Aip {v:Int} (h:pcB b x y v=true):liv b x y v=true:=by
 unfold pcB at h;rw [Al2]at h;exact h.1
theorem AhX {root:Int} (ht:tre b x y root=some top):∀v∈pgl top root,liv b x y v=true:=by
 intro v hv;unfold pgl at hv;simp only [AnT,Al3,Al6,decide_eq_true_eq]at hv;obtain ⟨hv,h0⟩:=hv;rcases hv with hv | hv
 .obtain ⟨j,hj,rfl⟩:=AmA hv;have hg:=Aj hj;rw [AlW hj]at hg;injection hg with hg
  rw [hg]at h0 ⊢;rcases AjG ht j (by rw [<- IU ht];exact hj)with q | q
  .exact absurd q h0
  .have:=q.1;unfold pgB at this;rw [Al2]at this;exact this.1
 .subst hv;exact(ZP ht h0).1
theorem AeG {k:Nat} (h:rko b x y top k=true):vl b top k≠0:=by
 intro q;unfold rko rcA rcd rcN at h;rw [AlZ (λw=>Ahs w q)]at h;cases h
theorem AiW {a:Int} (h:tok b x y a=true):a≠0:=by
 rintro rfl;unfold tok at h;obtain ⟨l,hl⟩:=AnU.1 h;obtain ⟨m,h1,h2,_⟩:=Cs (Jd hl).2.1;omega
end
end Go.V.G
set_option maxRecDepth 100000
namespace Go.V.G
open Go.V
theorem Acj {l U:List Int} (hn:l.Nodup) (hU:U.Pairwise (· < ·)):l.mergeSort (λx y=>decide (x<=y))=U↔∀v,v∈l↔v∈U:=by
 have hp:=List.mergeSort_perm l (λx y=>decide (x<=y));constructor
 .rintro rfl v;exact hp.mem_iff.symm
 .intro h;have h1:(l.mergeSort (λx y=>decide (x<=y))).Pairwise (λx y=>decide (x<=y)=true):=List.pairwise_mergeSort (λa b c p q=>by simp only [decide_eq_true_eq]at *;omega) (λa b=>by simp only [Ang,decide_eq_true_eq];omega) l;have h2:(l.mergeSort (λx y=>decide (x<=y))).Nodup:=hp.nodup_iff.2 hn;have h3:(l.mergeSort (λx y=>decide (x<=y))).Pairwise (· < ·):=by
   have h2':(l.mergeSort (λx y=>decide (x<=y))).Pairwise (·≠·):=h2;exact(h1.and h2').imp λ⟨p,q⟩=>by simp only [decide_eq_true_eq]at p;omega
  exact Aca (ris_iff.2 h3) (ris_iff.2 hU) λv=>by rw [hp.mem_iff];exact h v
section
variable {b:Bls} {x y top:List Int}
theorem AjO {C P:List Int} (hP:∀v∈P,pcB b x y v=true):(List.range b.length).all (stB b x C P)=true↔(∀v∈P,v∉C/\gb (blk b v.toNat) 1=(P.count v:Int))/\∀k:Nat,33<=k->k < b.length->(bit x k=true↔(((k:Nat):Int)∈C\/((k:Nat):Int)∈P)):=by
 rw [all_range];constructor
 .intro q;refine⟨λv hv=>?_,λk h1 h2=>?_⟩
  .obtain ⟨m,rfl,h33,hm,_⟩:=RF (hP v hv);have:=q m hm;have hc:=List.count_pos_iff.2 hv;unfold stB at this;simp only [Al2,Ang,decide_eq_true_eq,Al9,decide_eq_false_iff_not]at this;rcases this.1 with w | w
   .omega
   .rw [AlX];exact w
  .have:=q k h2;unfold stB at this;simp only [Al2,Ang,decide_eq_true_eq,beq_iff_eq]at this;rcases this.2 with w | w
   .omega
   .rw [w,decide_eq_true_eq,List.count_pos_iff]
 .rintro ⟨q1,q2⟩ k hk;unfold stB;rw [Al2];constructor
  .by_cases hv:((k:Nat):Int)∈P
   .obtain ⟨w1,w2⟩:=q1 _ hv;rw [AlX]at w2;rw [decide_eq_false w1,decide_eq_true w2];simp
   .have:P.count ((k:Nat):Int)=0:=List.count_eq_zero.2 hv;rw [decide_eq_true this];rfl
  .by_cases h33:k < 33
   .rw [decide_eq_true h33];rfl
   .have:=q2 k O hk;rw [decide_eq_false h33,Anh,beq_iff_eq,An0,this,decide_eq_true_eq,List.count_pos_iff]
theorem AhC {P:List Int} (hP:∀v∈P,pcB b x y v=true):(std P).any (λp=>!decide (pst b x y p.1=p.2))=false↔∀v∈P,gb (blk b v.toNat) 1=(P.count v:Int):=by
 obtain ⟨s1,s2,s3⟩:=X8 P;rw [Am4];constructor
 .intro q v hv;obtain ⟨p,hp,rfl⟩:=Aml.1 ((s3 v).2 hv);have h1:=q p hp;have h2:=Za s2 p hp;rw [s1]at h2;simp only [Al9,decide_eq_false_iff_not,Classical.not_not]at h1;unfold pst at h1;rw [Al1 (hP _ hv)]at h1;rw [h1,h2]
 .intro q p hp;have hv:p.1∈P:=(s3 _).1 (List.mem_map_of_mem hp);have h2:=Za s2 p hp;rw [s1]at h2;have h3:=q _ hv;simp only [Al9,decide_eq_false_iff_not,Classical.not_not];unfold pst;rw [Al1 (hP _ hv),h3,h2]
theorem AiE (A B:List (Int×Int)):upk (A++B)=upk A++upk B:=by unfold upk;exact Anu ..
theorem Wv {f h:Nat}:∀k,stk f h (k+1)=skn f 0 h++upk (stk f h (k+1))
 | 0=>by
  have e:stk f h 1=skn f 0 h:=by
   show([]++skn f 0 (h / 2 ^ 0):List (Int×Int))=_;rw [Ams,Nat.pow_zero,Nat.div_one]
  have:upk (skn f 0 h)=[]:=by
   unfold upk;rw [List.filter_eq_nil_iff];intro s hs;obtain ⟨i,_,_,rfl⟩:=skn_mem.1 hs;simp
  rw [e,this,Amf]
 | k+1=>by
  have ih:=Wv (f:=f) (h:=h) k;have e:stk f h (k+1+1)=stk f h (k+1)++skn f (k+1) (h / 2 ^ (k+1)):=rfl;have hu:upk (skn f (k+1) (h / 2 ^ (k+1)))=skn f (k+1) (h / 2 ^ (k+1)):=by
   unfold upk;rw [List.filter_eq_self];intro s hs;obtain ⟨i,_,_,rfl⟩:=skn_mem.1 hs;simp only [decide_eq_true_eq];omega
  rw [e,AiE,hu,<- Al5,<- ih]
theorem Q1 (f h:Nat):sts f h=skn f 0 h++upk (sts f h):=Wv 5
theorem ky0 (i:Nat):ky (0,(i:Int))=i:=by unfold ky;simp
theorem AfE (f h:Nat):ics b x y top (sts f h)=Ct b x y top f (h - f)++upc b x y top (sts f h):=by
 have e:ics b x y top (skn f 0 h)=Ct b x y top f (h - f):=by
  unfold ics Ct;rw [List.flatMap_def,List.flatMap_def,AcK]
  congr 1
  refine AmV λi _=>?_
  show rkc b x y top (ky (0,((f+i:Nat):Int)))=_;rw [ky0]
 have e2:ics b x y top (upk (sts f h))=upc b x y top (sts f h):=rfl;have e3:∀A B,ics b x y top (A++B)=ics b x y top A++ics b x y top B:=λA B=>by unfold ics;exact Am9 ..
 conv=>lhs;rw [Q1]
 rw [e3,e,e2]
theorem Afe (f h:Nat):(sts f h).all (ioc b x y top)=(loo b x y top f (h - f) && (upk (sts f h)).all (ioc b x y top)):=by
 have e:(skn f 0 h).all (ioc b x y top)=loo b x y top f (h - f):=by
  have:=congrArg (λl=>l.all id) (AcK (ioc b x y top) f h);simp only [List.all_map]at this;unfold loo;rw [show((skn f 0 h).all (ioc b x y top))=(skn f 0 h).all (id ∘ ioc b x y top) from rfl,this]
  congr 1
  funext i
  show ioc b x y top (0,((f+i:Nat):Int))=_;unfold ioc;rw [ky0]
 conv=>lhs;rw [Q1]
 rw [List.all_append,e]
theorem Akh {f h:Nat} {t:List UInt8} {r:List Rn} (hf:f<=h) (gh:GH (f:Int) t r (chC (lod b x y top f (h - f)))) {s:Int×Int} (hs:s∈skn f 0 h):ipt b x y top s=bt (f:Int) t (chC (lod b x y top f (h - f))) s:=by
 obtain ⟨i,h1,h2,rfl⟩:=skn_mem.1 hs;rw [Nat.pow_zero,Nat.mul_one]at h2;have hl:(chC (lod b x y top f (h - f))).length=h - f:=by unfold chC lod;simp
 have hb:=Sg gh (a:=(i:Int)) O O;have e1:bt (f:Int) t (chC (lod b x y top f (h - f))) (0,(i:Int))=B0 (f:Int) t (chC (lod b x y top f (h - f))) (i:Int) ((i:Int)+1):=by
  unfold bt frS toS;simp
 have e2:(chC (lod b x y top f (h - f)))[((i:Int) - (f:Int)).toNat]?=some (BU (rkd b x y top i)).1:=by
  rw [show((i:Int) - (f:Int)).toNat=i - f by omega];unfold chC lod;rw [AmB,AmB,An1 O];show some (BU (rkd b x y top (f+(i - f)))).1=_;rw [(O:f+(i - f)=i)]
 rw [hb]at e2;injection e2 with e2
 show ipt b x y top (0,(i:Int))=bt _ _ _ (0,(i:Int));rw [e1,e2];unfold ipt;rw [ky0]
theorem AhQ {f h:Nat} {s:Int×Int} (hs:s∈upk (sts f h)):s∈sts f h/\0 < s.1:=by
 unfold upk at hs;simpa using hs
theorem Abq {f h:Nat} {t:List UInt8} {r:List Rn} {cs:List (List Prt)} (gh:GH (f:Int) t r cs) {s:Int×Int} (hs:s∈sts f h):AA (bt (f:Int) t cs s)=true:=by
 obtain ⟨k,j,g8⟩:=sts_mem.1 hs;obtain ⟨f1,f2,f3,f4,f5⟩:=g8.ft;exact(Jw gh (a:=(frS s:Int)) (b:=(toS s:Int)) O O).1
theorem Abd (g:RS b x y) {f h:Nat} {t:List UInt8} {r:List Rn} (hf:f<=h) (gh:GH (f:Int) t r (chC (lod b x y top f (h - f)))) :
  ((sts f h).all (upe b x y top (f:Int) t (chC (lod b x y top f (h - f)))) && upo b x y top (sts f h))=((sts f h).all (ieq b x y top (f:Int) t (chC (lod b x y top f (h - f)))) && (upk (sts f h)).all (ioc b x y top)):=by
 rw [An0,Al2,Al2];unfold upo;simp only [Amr];constructor
 .rintro ⟨q1,q2⟩;have hr:∀s∈upk (sts f h),BU (rkd b x y top (ky s))=(bt (f:Int) t (chC (lod b x y top f (h - f))) s,true):=λs hs=>by
   obtain ⟨m1,m2⟩:=AhQ hs;have:=q1 s m1;unfold upe at this;rw [decide_eq_true m2,AmN,Anh]at this;exact(Ae4 (LC g top (ky s)) (Abq gh m1)).1 this
  refine⟨λs hs=>?_,λs hs=>?_⟩
  .rw [Q1]at hs;unfold ieq;rcases Al3.1 hs with hs | hs
   .exact decide_eq_true (Akh hf gh hs)
   .unfold ipt;rw [hr s hs];simp
  .unfold ioc;rw [q2 s hs,hr s hs];rfl
 .rintro ⟨q1,q2⟩;refine⟨λs hs=>?_,λs hs=>?_⟩
  .unfold upe;by_cases h0:0 < s.1
   .have hm:s∈upk (sts f h):=by unfold upk;simp [hs,h0]
    have h1:=q1 s hs;have h2:=q2 s hm;unfold ieq at h1;unfold ioc at h2;rw [Al2]at h2;rw [decide_eq_true_eq]at h1;rw [(Ae4 (LC g top (ky s)) (Abq gh hs)).2 (Prod.ext h1 h2.2)];simp
   .rw [decide_eq_false h0];rfl
  .have h2:=q2 s hs;unfold ioc at h2;rw [Al2]at h2;exact h2.1
end
end Go.V.G
set_option maxRecDepth 100000
namespace Go.V.G
open Go.V
section
variable {b:Bls} {x top:List Int} {R T:Int} {f h e:Nat}
noncomputable def cI (b:Bls) (x top:List Int) (R T:Int) (f h e:Nat):List Int:=((aC2 b x top R T++ics b x [] top (sts f h))++rkc b x [] top 448)++ckc b x [] top (cks f h e)
theorem AjS:Led ((aC2 b x top R T++ics b x [] top (sts f h))++rkc b x [] top 448) (aP2 b x T) (bB4 b x top R T f h):=by
 have h1:Led ([]++srt (pgl top R)) [] ([]++srt (pgl top R)):=Led.claims Led.nil;rw [Ams]at h1;have h2:=AbX (x:=x) (y:=[]) (b:=b) h1 T;rw [Ams]at h2;exact Led.claims (Led.claims h2)
theorem AlE:Led (cI b x top R T f h e) (aP6 b x top T f h e) (bB5 b x top R T f h e):=AbS (cks f h e) AjS
theorem Aic:(cI b x top R T f h e).Perm (aC6 b x top R T f h e):=by
 unfold cI aC6 aC5 aC4 aC3;rw [AfE];refine List.Perm.append_right _ ?_;have e1:aC2 b x top R T++(Ct b x [] top f (h - f)++upc b x [] top (sts f h))++rkc b x [] top 448=aC2 b x top R T++((Ct b x [] top f (h - f)++upc b x [] top (sts f h))++rkc b x [] top 448):=by simp
 have e2:aC2 b x top R T++rkc b x [] top 448++Ct b x [] top f (h - f)++upc b x [] top (sts f h)=aC2 b x top R T++(rkc b x [] top 448++(Ct b x [] top f (h - f)++upc b x [] top (sts f h))):=by simp
 rw [e1,e2];exact List.Perm.append_left _ List.perm_append_comm
theorem AjM (ht:tre b x [] R=some top):∀v∈aC6 b x top R T f h e,liv b x [] v=true:=by
 intro v hv;have hpl:=AbO (root:=R) (IU ht);unfold aC6 aC5 aC4 aC3 aC2 aC1 at hv;simp only [Al3]at hv;rcases hv with((((((hv | hv) | hv) | hv) | hv)) | hv)
 .exact AhX ht v (((KH O).2.2 v).1 hv)
 .exact AbN T v hv
 .exact UI 448 v hv
 .unfold Ct at hv;obtain ⟨i,_,hi⟩:=AnK.1 hv;exact UI _ v hi
 .unfold upc at hv;obtain ⟨i,_,hi⟩:=AnK.1 hv;exact UI _ v hi
 .unfold ckc at hv;obtain ⟨i,_,hi⟩:=AnK.1 hv;exact AbN _ v hi
theorem AkG:∀v∈aP6 b x top T f h e,pcB b x [] v=true:=by
 intro v hv;unfold aP6 aP2 at hv;rcases Al3.1 hv with hv | hv
 .exact AbG T v hv
 .unfold ckp at hv;obtain ⟨i,_,hi⟩:=AnK.1 hv;exact AbG _ v hi
theorem AbT {v:Int}:v∈bKs f h e↔v∈JA f h e:=by
 unfold bKs JA;simp only [Al3];constructor
 .rintro ((q | q) | q)
  .exact .inl q
  .exact .inr (.inr q)
  .exact .inr (.inl q)
 .rintro (q | q | q)
  .exact .inl (.inl q)
  .exact .inr q
  .exact .inl (.inr q)
theorem Ah1 {fn:Bool} {l:List Int}:okb fn l=true↔fn=true/\l.Nodup:=by unfold okb ndb;simp
theorem AjK {fn:Bool} {l:List Int}:bd fn l=false↔fn=true/\l.Nodup:=by unfold bd ndb;simp
theorem Akp (g:RS b x []) (ht:tre b x [] R=some top) (hf:f<=h) (hh:h<=60):sC b x top R T f h e=iC b x top R T f h e:=by
 have hP:=AkG (b:=b) (x:=x) (top:=top) (T:=T) (f:=f) (h:=h) (e:=e);have hC:=AjM (T:=T) (f:=f) (h:=h) (e:=e) ht;have L5:=AlE (b:=b) (x:=x) (top:=top) (R:=R) (T:=T) (f:=f) (h:=h) (e:=e);have L4:=AjS (b:=b) (x:=x) (top:=top) (R:=R) (T:=T) (f:=f) (h:=h);have hperm:=Aic (b:=b) (x:=x) (top:=top) (R:=R) (T:=T) (f:=f) (h:=h) (e:=e);have hmem:∀v,v∈bB5 b x top R T f h e↔v∈aC6 b x top R T f h e\/v∈aP6 b x top T f h e:=λv=>by rw [L5.mem,hperm.mem_iff]
 have hnd:(bB5 b x top R T f h e).Nodup↔(aC6 b x top R T f h e).Nodup/\∀v∈aP6 b x top T f h e,v∉aC6 b x top R T f h e:=by
  rw [L5.nd,hperm.nodup_iff];exact⟨λq=>⟨q.1,λv hv w=>q.2 v hv (hperm.mem_iff.2 w)⟩,λq=>⟨q.1,λv hv w=>q.2 v hv (hperm.mem_iff.1 w)⟩⟩
 have hn54:(bB5 b x top R T f h e).Nodup->(bB4 b x top R T f h).Nodup:=λq=>by
  rw [L5.nd]at q;rw [L4.nd];refine⟨(Amj.1 q.1).1,λv hv w=>q.2 v (Anr _ hv) (Anr _ w)⟩
 have hn64:(aC6 b x top R T f h e).Nodup->(aC4 b x top R T f h).Nodup:=λq=>(Amj.1 (Amj.1 q).1).1
 have hioc:=Afe (b:=b) (x:=x) (y:=[]) (top:=top) f h;have hbl:bL b x top f h=aL b x top f h:=T1 b x top f h;have hset:(∀v,v∈bB5 b x top R T f h e↔v∈usd x (b.length - 33))↔∀k:Nat,33<=k->k < b.length->(bit x k=true↔(((k:Nat):Int)∈aC6 b x top R T f h e\/((k:Nat):Int)∈aP6 b x top T f h e)):=by
  have hn:=g.hn;constructor
  .intro q k h1 h2;rw [<- hmem,q,usd_mem];constructor
   .intro w;exact⟨k,h1,O,w,rfl⟩
   .rintro ⟨k',_,_,w,he⟩;have:k'=k:=O
    rw [<- this];exact w
  .intro q v;rw [hmem,usd_mem];constructor
   .intro w;have hl:liv b x [] v=true:=w.elim (hC v) (λw=>Aip (hP v w));obtain ⟨m,rfl,h1,h2,h3,_⟩:=Cs hl;exact⟨m,h1,O,h3,rfl⟩
   .rintro ⟨k,h1,h2,h3,rfl⟩;exact(q k h1 O).1 h3
 rw [An0];unfold sC iC bG1 Adw;simp only [Al2,Al9,AnV,Ah1,AjK,decide_eq_true_eq];unfold aS;rw [AjO hP,AhC hP,hbl];have hKK:bK b x top T f h e=aK b x top T f h e:=by unfold bK aK;rw [hbl]
 rw [hKK];constructor
 .rintro ⟨k1,⟨k2,k3⟩,k4,k5,k6,⟨k7,k8⟩,k9,k10⟩;have gh:=goodH_iff.1 k4;unfold af6 af5 af4 af3 at k9;simp only [Al2]at k9;obtain ⟨⟨⟨⟨⟨t1,t2⟩,t3⟩,t4⟩,t5⟩,t6⟩:=k9;have hub:=Abd (top:=top) g hf gh;have hU:(sts f h).all (upe b x [] top (f:Int) (aT b x T) (chC (lod b x [] top f (h - f))))=true:=k5;rw [hU,t5,Anv]at hub;have hub:=hub.symm;rw [Al2]at hub;have hb5:=hnd.2 ⟨k10,λv hv=>(k7 v hv).1⟩;have hio:(sts f h).all (ioc b x [] top)=true:=by rw [hioc,t4,hub.2];rfl
  have hf4:bf4 b x top T f h=true:=by unfold bf4;rw [t1,hio,t2];rfl
  refine⟨⟨t3,⟨hf4,hn54 hb5⟩,k4⟩,?_,k6,⟨⟨⟨?_,hb5⟩,λv hv=>(k7 v hv).2⟩,?_⟩,(Acj hb5 (Q6 x _)).2 (hset.2 k8)⟩
  .unfold bE;rw [hbl];exact hub.1
  .unfold bf5;rw [hf4,t6];rfl
  .rw [Am4];intro p hp;have hk:=(Abt hh).1 k1;obtain ⟨k,w1,w2,w3⟩:=ksT_mem.1 (List.mem_map_of_mem hp);have:=hk.1 k w1 w2;rw [<- w3,<- AbT]at this;simp only [Al9,decide_eq_false_iff_not,Classical.not_not];exact this
 .rintro ⟨⟨t3,⟨hf4,hn4⟩,k4⟩,hE,k6,⟨⟨⟨hf5,hb5⟩,hst⟩,hky⟩,hso⟩;have gh:=goodH_iff.1 k4;unfold bf5 at hf5;rw [hf4,Amg]at hf5;unfold bf4 at hf4;simp only [Al2]at hf4;obtain ⟨⟨t1,hio⟩,t2⟩:=hf4;have hio2:=hio;rw [hioc,Al2]at hio;obtain ⟨t4,hup⟩:=hio;have hub:=Abd (top:=top) g hf gh;unfold bE at hE;rw [hbl]at hE;have hE':(sts f h).all (ieq b x [] top (f:Int) (aT b x T) (chC (lod b x [] top f (h - f))))=true:=hE;rw [hE',hup,Anv,Al2]at hub;obtain ⟨c1,c2⟩:=hnd.1 hb5;have hf3:af3 b x top T=true:=by unfold af3;rw [t1,t2,t3];rfl
  have hf4:af4 b x top T f h=true:=by unfold af4;rw [hf3,t4];rfl
  refine⟨?_,⟨hf4,hn64 c1⟩,k4,hub.1,k6,⟨λv hv=>⟨c2 v hv,hst v hv⟩,hset.1 ((Acj hb5 (Q6 x _)).1 hso)⟩,?_,c1⟩
  .rw [Abt hh];refine⟨λk hk hv=>?_,λk hk hm=>?_⟩
   .obtain ⟨p,hp,hpe⟩:=Aml.1 (ksT_mem.2 ⟨k,hk,hv,rfl⟩);have:=Am4.1 hky p hp;simp only [Al9,decide_eq_false_iff_not,Classical.not_not]at this;rw [<- hpe,<- AbT];exact this
   .unfold JA at hm;simp only [Al3]at hm;rcases hm with hm | hm | hm
    .obtain ⟨s,hs,he⟩:=Aml.1 hm;have:=Amr.1 hio2 s hs;unfold ioc at this;rw [Al2]at this;have hkk:ky s=k:=by unfold kyI at he;omega
     rw [<- hkk];exact AeG this.1
    .obtain ⟨r,hr,he⟩:=Aml.1 hm;have:=Amr.1 hf5 r hr;have hkk:384+r=k:=by unfold ckI at he;omega
     rw [<- hkk];exact AiW this
    .have hkk:k=448:=by have:=Al6.1 hm;omega
     rw [hkk];exact AeG t2
  .unfold af6 af5;rw [hf4,hub.2,hf5];rfl
end
end Go.V.G
set_option maxRecDepth 100000
namespace Go.V.G
open Go.V
structure Sto (bl:Bls) (wr lf:Int) (f h e:Nat) (R T:Int) (top:List Int):Prop where
 gd:gd bl wr lf=true
 wt:wts bl=[]
 su:Np (blk bl 0)=(true,(f:Int),(h:Int),(e:Int),R,T)
 op:opG bl=true
 tr:tre bl (opB bl) [] R=some top
 hf:f<=h
 hh:h<=60
 he:0 < e
 he2:e<=30
theorem AgY {c:List Int} (h:UF c=true):∃f m e:Nat,Np c=(true,(f:Int),(m:Int),(e:Int),num c 8,num c 10)/\f<=m/\m<=60/\0 < e/\e<=30:=by
 have h2:=h;unfold UF NG at h2;simp only [Al2,decide_eq_true_eq]at h2;obtain ⟨_,⟨⟨h3,h4⟩,h5,_⟩,_⟩:=h2;refine⟨(gb c 4).toNat,(gb c 5).toNat,(gb c 6).toNat,?_,O,O,O,O⟩;unfold Np;rw [Al1 h,Int.toNat_of_nonneg O,Int.toNat_of_nonneg O,Int.toNat_of_nonneg O]
theorem Afs {bl:Bls} {wr lf:Int} (on:Bool) (hn:bl.length<=1048576) (hu:∀c∈bl,U8s c) :
  (∃w,DD bl wr on lf=some w/\w.1=false/\Du bl wr on lf=some (none,false))\/
  ∃(f h e:Nat) (R T:Int) (top:List Int),Sto bl wr lf f h e R T top/\iC bl (opB bl) top R T f h e=true/\
   DD bl wr on lf=some (true,(f:Int),(h:Int),(e:Int),R,T,bl,opB bl,[],[],ksT bl top 1024,(f:Int),aT bl (opB bl) T,aR bl (opB bl) top,aL bl (opB bl) top f h,srt (aC6 bl (opB bl) top R T f h e++pcn (aP6 bl (opB bl) top T f h e) bl.length))/\
   Du bl wr on lf=some (some (bl,wr,on,lf,(f:Int),(h:Int),(e:Int),R,T,bl,opB bl,[],[],R,top,top.map (lfv bl),(f:Int),aT bl (opB bl) T,aR bl (opB bl) top,aL bl (opB bl) top f h),true):=by
 cases hd:gd bl wr lf with
 | false=>
  left;unfold DD Du cK cZ gX wI;rw [IH hn,hd,AlU,JO hn,hd,AlU,Al1 Z,Al1 Z,AlU,AlU];dsimp only;rw [Al1 rfl,Al1 rfl];exact⟨_,rfl,rfl,rfl⟩
 | true=>
  obtain ⟨hb,hk⟩:=Kw hd;by_cases hw:wts bl=[]
  .cases hs:UF (blk bl 0)with
   | false=>
    left;have hsd:Np (blk bl 0)=(false,0,0,0,0,0):=by unfold Np;rw [hs];rfl
    refine⟨(false,0,0,0,0,0,[],[],[],[],[],0,[],[],[],[]),?_,rfl,?_⟩
    .unfold DD cK cZ gX wI;rw [IH hn,hd,AlU,AlZ Z,GB on hd hu,hw,AlU,AlU];dsimp only;rw [AlZ Z,iy O,show Int.toNat 0=0 from rfl,Bu (O:0 < bl.length),AlU,I5 (hu _ (BC O)),hsd,AlU];dsimp only;rw [HE on hd hu,AlU,AlU];dsimp only;rw [Al1 Z,AlU];dsimp only;rw [Al1 rfl]
    .unfold Du gX;rw [JO hn,hd,AlU,AlZ Z,Mg on hd hu,hw,AlU,AlU];dsimp only;rw [AlZ Z,iy O,show Int.toNat 0=0 from rfl,Bu (O:0 < bl.length),AlU,QM (hu _ (BC O)),hsd,AlU];dsimp only;rw [Al1 Z]
   | true=>
    obtain ⟨f,h,e,hsd,hf,hh,he,he2⟩:=AgY hs;have hi:Du bl wr on lf=Option.bind (some (opD bl)) λ(l,m,n)=>
      if(!l)=true then some (none,false)
      else Option.bind (GX (m,(n,([],[]))) (num (blk bl 0) 8)) λ(o,p,q,r)=>
       if(!o)=true then some (none,false)
       else Option.bind (CF bl wr on lf (f:Int) (h:Int) (e:Int) (num (blk bl 0) 8) (num (blk bl 0) 10) m n [] [] p q r 0 [] [] []) λ(s,t,u,v,w,x,y,z,a0,b0,c0,d0,e0,f0,g0,h0,i0,j0,k0,l0,m0)=>
        if(!s)=true then some (none,false)
        else some (some (t,(u,(v,(w,(x,(y,(z,(a0,(b0,(c0,(d0,(e0,(f0,(g0,(h0,(i0,(j0,(k0,(l0,m0))))))))))))))))))),true):=by
     unfold Du gX;rw [JO hn,hd,AlU,AlZ Z,Mg on hd hu,hw,AlU,AlU];dsimp only;rw [AlZ Z,iy O,show Int.toNat 0=0 from rfl,Bu (O:0 < bl.length),AlU,QM (hu _ (BC O)),hsd,AlU];dsimp only;rw [AlZ Z,Vh on hd hu]
    cases ho:opG bl with
    | false=>
     left;have hod:opD bl=(false,[],[]):=by unfold opD;rw [ho];rfl
     refine⟨(false,0,0,0,0,0,[],[],[],[],[],0,[],[],[],[]),?_,rfl,?_⟩
     .unfold DD cK cZ gX wI;rw [IH hn,hd,AlU,AlZ Z,GB on hd hu,hw,AlU,AlU];dsimp only;rw [AlZ Z,iy O,show Int.toNat 0=0 from rfl,Bu (O:0 < bl.length),AlU,I5 (hu _ (BC O)),hsd,AlU];dsimp only;rw [HE on hd hu,hod,AlU,AlU];dsimp only;rw [AlZ Z,Al1 Z,AlU];dsimp only;rw [Al1 rfl]
     .rw [hi,hod,AlU];dsimp only;rw [Al1 Z]
    | true=>
     have hod:opD bl=(true,bl,opB bl):=by unfold opD;rw [ho];rfl
     have sb:=Th (bl:=bl) O O;have hog:gsp bl (opB bl) [] []=true:=by unfold opG at ho;rw [Al2]at ho;exact ho.1
     have g:=(Rq hog).rs sb hu;cases ht:tre bl (opB bl) [] (num (blk bl 0) 8)with
     | none=>
      left;refine⟨(false,0,0,0,0,0,[],[],[],[],[],0,[],[],[],[]),?_,rfl,?_⟩
      .unfold DD cK cZ gX wI;rw [IH hn,hd,AlU,AlZ Z,GB on hd hu,hw,AlU,AlU];dsimp only;rw [AlZ Z,iy O,show Int.toNat 0=0 from rfl,Bu (O:0 < bl.length),AlU,I5 (hu _ (BC O)),hsd,AlU];dsimp only;rw [HE on hd hu,hod,AlU,AlU];dsimp only;rw [AlZ Z,AlZ Z,Io sb hu,hog,ht,AlU,AlU];dsimp only;rw [Al1 Z]
      .rw [hi,hod,AlU];dsimp only;rw [AlZ Z,Wx g,ht];unfold trI;dsimp only;rw [AlU];dsimp only;rw [Al1 Z]
     | some top=>
      have htl:=IU ht;obtain ⟨w,w1,w2,w3⟩:=Af8 on hn hd hu hw hsd ho ht hf hh he he2;obtain ⟨q,q1,q2,q3⟩:=Aeh (wr:=wr) (lf:=lf) (R:=num (blk bl 0) 8) (T:=num (blk bl 0) 10) on hn g htl hf hh he he2;have hsc:=Akp (b:=bl) (x:=opB bl) (T:=num (blk bl 0) 10) (f:=f) (h:=h) (e:=e) g ht hf hh;rw [hi,hod,AlU];dsimp only;rw [AlZ Z,Wx g,ht];unfold trI;dsimp only;rw [AlU];dsimp only;rw [AlZ Z,q1,AlU];cases hc:iC bl (opB bl) top (num (blk bl 0) 8) (num (blk bl 0) 10) f h e with
      | false=>
       left;rw [hc]at q2;rw [hsc,hc]at w2;refine⟨w,w1,w2,?_⟩;rw [q2];rfl
      | true=>
       right;refine⟨f,h,e,num (blk bl 0) 8,num (blk bl 0) 10,top,⟨hd,hw,hsd,ho,ht,hf,hh,he,he2⟩,hc,?_,?_⟩
       .rw [w1,w3 (by rw [hsc];exact hc)]
       .rw [q3 hc];rfl
  .left;have hlen:0 < (wts bl).length:=List.length_pos_iff.2 hw;unfold DD Du cK cZ gX wI;rw [IH hn,hd,AlU,AlZ Z,GB on hd hu,AlU,AlU,JO hn,hd,AlU,AlZ Z,Mg on hd hu,AlU,AlU];dsimp only;rw [decide_eq_true (show(0:Int) < (((wts bl).length:Nat):Int) by omega),Al1 rfl,Al1 rfl];exact⟨_,rfl,rfl,rfl⟩
end Go.V.G
set_option maxRecDepth 100000
namespace Go.V.G
open Go.V
theorem Agk {n:Nat} {l:Int} (h:¬ lft l n < 0):(n:Int)<=l:=by
 unfold lft at h;split at h
 .assumption
 .exact absurd O h
theorem AjC {n:Int} (h:Jm (.int .u8) n):0<=n/\n<=255:=by
 have h2:(Lit.int .u8 n).wf=true:=h;simp [Lit.wf,IntKind.min,IntKind.max,IntKind.bits,IntKind.signed]at h2;omega
theorem Sto.rs {bl:Bls} {wr lf:Int} {f h e:Nat} {R T:Int} {top:List Int} (S:Sto bl wr lf f h e R T top) (hu:∀c∈bl,U8s c):RS bl (opB bl) []:=by
 obtain ⟨hb,hk⟩:=Kw S.gd;have hog:gsp bl (opB bl) [] []=true:=by have:=S.op;unfold opG at this;rw [Al2]at this;exact this.1
 exact(Rq hog).rs (Th O O) hu
end Go.V.G
set_option maxRecDepth 100000
namespace Go.V.G
open Go.V
theorem Akq {bl:Bls} {x top:List Int} {R T:Int} {f h e:Nat} (hc:iC bl x top R T f h e=true):GH (f:Int) (aT bl x T) (aR bl x top) (aL bl x top f h):=by
 unfold iC bG1 at hc;simp only [Al2]at hc;obtain ⟨⟨_,_,h3⟩,_⟩:=hc;rw [T1]at h3;exact goodH_iff.1 h3
end Go.V.G
set_option maxRecDepth 100000
namespace Go.V.G
open Go.V
theorem AeK {bl:Bls} {wr lf:Int} (on:Bool) (hn:bl.length<=1048576) (hu:∀c∈bl,U8s c) :
  (Gr bl wr on lf=some (0,false,0,[],[],[])/\Gs bl wr on lf=some (0,false,0,[],[],[]))\/
  ∃(e f:Int) (t:List UInt8) (r:List Rn) (cs:List (List Prt)),GH f t r cs/\Gr bl wr on lf=some (e,true,f,t,r,cs)/\Gs bl wr on lf=some (e,true,f,t,r,cs):=by
 rcases Afs (bl:=bl) (wr:=wr) (lf:=lf) on hn hu with⟨w,w1,w2,w3⟩ | ⟨f,h,e,R,T,top,S,hc,w1,w2⟩
 .left;obtain ⟨k,w⟩:=w;dsimp only at w2;subst w2;constructor
  .unfold Gr;rw [w1,AlU];dsimp only;rw [Al1 (show(!false)=true from rfl)]
  .unfold Gs;rw [w3,AlU];dsimp only;rw [Al1 (show(!false)=true from rfl)]
 .right;refine⟨(e:Int),_,_,_,_,Akq hc,?_,?_⟩
  rotate_left
  .unfold Gs;rw [w2,AlU];dsimp only;rw [AlZ Z,AlU,AlU]
  .unfold Gr;rw [w1,AlU];dsimp only;rw [AlZ Z]
theorem Ue {bl:Bls} {wr lf:Int} (on:Bool) (hn:bl.length<=1048576) (hu:∀c∈bl,U8s c) (a b:Int):∃r:List Int×Int,r.1.length<=20000/\Hf bl wr on lf a b=some r/\Fi bl wr on lf a b=some r:=by
 rcases AeK (bl:=bl) (wr:=wr) (lf:=lf) on hn hu with⟨w1,w2⟩ | ⟨e,f,t,r,cs,gh,w1,w2⟩
 .refine⟨([],1),Z,?_,?_⟩
  .unfold Hf;rw [w1,AlU];dsimp only;rw [Al1 (show(!false)=true from rfl)]
  .unfold Fi;rw [w2,AlU];dsimp only;rw [Al1 (show(!false)=true from rfl)]
 .refine⟨IK f t r cs a b,Ya f a b t r cs,?_,?_⟩
  .unfold Hf;rw [w1,AlU];dsimp only;rw [AlZ Z,Aal gh.hb,AlU]
  .unfold Fi;rw [w2,AlU];dsimp only;rw [AlZ Z,Aaz gh.hb,AlU]
end Go.V.G
set_option maxRecDepth 100000
namespace Go.V.G
open Go.V
theorem Sq {b:Bls} (f2:K7 b) (hu:∀c∈b,U8s c) (wr:Int) (on:Bool) (lf x y:Int):Di b wr on lf x y=some true:=by
 unfold Di;rw [Aia f2 O O,AlU];by_cases hs:lft 1048576 (BL b) < 0
 .rw [Al1 (by simpa using hs)]
 rw [AlZ (by simpa using hs)];have hw:=Agk hs;have hbl:=Jk b;have htd:Hi b wr on lf=some (b,wr,on,lf):=AhV O;have hed:Md b wr on lf b wr on lf=some true:=Aib O;have hmd:Hg b wr on lf 1=_:=AdV O O O;obtain ⟨z,hzw,hz1,hz2⟩:=Ue (bl:=b) (wr:=wr) (lf:=lf) on O hu x y;have n0:¬ ((1:Int)+(AP EG b:Int) < 0):=O
 have hq:FF z.1 z.1=some true:=YQ (by unfold BD;omega);have hcz:=Ta z.1;have hm:Ej z.1 1=_:=Uh (xs:=z.1) O O O;have hh:Gj (mks IV CC z.1 1) 1=_:=Acx (xs:=z.1) O O O;have hn2:¬ ((1:Int)+(AP CC z.1:Int) < 0):=O
 simp only [htd,hz1,hz2,hed,hmd,n0,hq,hm,hh,hn2,AlU,AmN,Al8,Amv,not_true_eq_false,decide_false]
end Go.V.G
namespace Go.Proofs.YtofhefmbioblbaaGreat
open Go.V
theorem Ny {e1 e2:TypeId} (x0:List (List Int)) (x1:Int) (x2:Bool) (x3 x4 x5:Int)
  (g0:∀l∈([⟨.sl false e1 (.sl false e2 (.int .u8)),x0⟩,⟨.int .i64,x1⟩,⟨.bool,x2⟩,⟨.int .i64,x3⟩]:List Ae),Jm l.1 l.2) (g1:Jm (.int .i64) x4) (g2:Jm (.int .i64) x5):G.Di x0 x1 x2 x3 x4 x5=some true:=by
 have h1:=g0 ⟨.sl false e1 (.sl false e2 (.int .u8)),x0⟩ Z;exact G.Sq ⟨h1.1,λx hx=>(h1.2 x hx).1⟩ (λx hx y hy=>G.AjC ((h1.2 x hx).2 y hy)) x1 x2 x3 x4 x5
end Go.Proofs.YtofhefmbioblbaaGreat
namespace Go.V
structure Rs where
 s:Nat
 h:Nat
 k:Nat
 o:List (Nat×Nat)
abbrev Rd (α:Type):=Rs->α×Rs
def rn:Nat->Rd Nat
 | 0,q=>(0,q)
 | f+1,⟨s,h,k,o⟩=>bif Nat.blt (s % 16) 8 then(s % 16,⟨s / 16,h,k,o⟩)else match rn f ⟨s / 16,h,k,o⟩with
  | (r,q)=>(s % 16 - 8+8 * r,q)
def rnb:Rd Nat:=rn 9
def nib:Rd Nat
 | ⟨s,h,k,o⟩=>(s % 16,⟨s / 16,h,k,o⟩)
def rl {α:Type} (p:Rd α):Nat->Rd (List α)
 | 0,q=>([],q)
 | n+1,q=>match p q with
  | (a,q)=>match rl p n q with
   | (l,q)=>(a::l,q)
def rls {α:Type} (p:Rd α):Rd (List α):=λq=>match rnb q with
 | (n,q)=>rl p n q
def r2 {α:Type} (c:Nat->Nat->α):Rd α:=λq=>match rnb q with
 | (a,q)=>match rnb q with
  | (b,q)=>(c a b,q)
def r1 {α:Type} (c:Nat->α):Rd α:=λq=>match rnb q with
 | (a,q)=>(c a,q)
def rTL (b:Nat):Rd TL:=λq=>match nib q with
 | (0,⟨s,h,k,o⟩)=>(.h h,⟨s,h+1,k,o⟩)
 | (1,⟨s,h,k,o⟩)=>(.vw (k+1),⟨s,h+1,k+1,(k+1,h)::o⟩)
 | (2,q)=>r1 (λa=>.vw (b+a)) q
 | (3,q)=>match rnb q with
  | (a,⟨s,h,k,o⟩)=>(.vw (b+a),⟨s,h+1,b+a,(b+a,h)::o⟩)
 | (4,q)=>(.nil,q)
 | (5,q)=>(.no,q)
 | (6,q)=>r1 .h q
 | (7,q)=>(.np,q)
 | (8,q)=>r2 .p q
 | (9,q)=>match rnb q with
  | (a,q)=>r2 (λi j=>.vs (b+a) i j) q
 | (10,q)=>match rnb q with
  | (a,q)=>r2 (λi j=>.ww (b+a) i j) q
 | (11,q)=>match rnb q with
  | (a,q)=>match rnb q with
   | (i,q)=>match rnb q with
    | (f,q)=>r2 (λx y=>.vq (b+a) i f x y) q
 | (12,q)=>r1 .mh q
 | (13,⟨s,h,k,o⟩)=>(.md h,⟨s,h+1,k,o⟩)
 | (14,q)=>r1 .md q
 | (_,q)=>(.no,q)
def rTS (b:Nat):Rd TS:=λq=>match nib q with
 | (0,⟨s,h,k,o⟩)=>(.one (.h h),⟨s,h+1,k,o⟩)
 | (1,⟨s,h,k,o⟩)=>(.one (.vw (k+1)),⟨s,h+1,k+1,(k+1,h)::o⟩)
 | (2,q)=>r2 .pl q
 | (3,q)=>match rTL b q with
  | (l,q)=>(.one l,q)
 | (4,q)=>match rls (rTL b) q with
  | (l,q)=>(.ag l,q)
 | (5,q)=>match rnb q with
  | (a,⟨s,h,k,o⟩)=>(.rp h a,⟨s,h+1,k,o⟩)
 | (6,q)=>match rnb q with
  | (f,q)=>match rls (r2 Prod.mk) q with
   | (l,q)=>(.fv f l,q)
 | (7,q)=>r2 .rp q
 | (_,q)=>(.one .nil,q)
def rT (qs:List Ty):Rd Ty:=r1 λi=>qs.getD i .unit
def rPl (qs:List Ty):Rd Pl:=λq=>match nib q with
 | (0,q)=>r1 .sl q
 | (1,q)=>r2 .ag q
 | (2,q)=>r2 .mc q
 | (_,q)=>match rnb q with
  | (i,q)=>match rls (rT qs) q with
   | (l,q)=>(.pt i l,q)
def rSl (b:Nat):Nat->Nat->Rd (List (Nat×TS))
 | 0,_,q=>([],q)
 | n+1,i,q=>match rnb q with
  | (d,q)=>match rTS b q with
   | (t,q)=>match rSl b n (i+d+1) q with
    | (l,q)=>((i+d,t)::l,q)
def AlA (b:Nat):Rd (Nat×List TL):=λq=>match rnb q with
 | (k,q)=>match rls (rTL b) q with
  | (l,q)=>((k,l),q)
def Aga (qs:List Ty) (b:Nat):Rd Tpl:=λ⟨s,_,k,_⟩=>match nib ⟨s,0,k,[]⟩with
 | (e,q)=>match rls (rT qs) q with
  | (ho,q)=>match rnb q with
   | (n,q)=>match rSl b n 0 q with
    | (sl,q)=>match (bif Nat.testBit e 0 then rls (AlA b) q else([],q))with
     | (me,q)=>match (bif Nat.testBit e 1 then rls (r2 λx y=>(b+x,y)) q else(q.o.reverse,q))with
      | (ow,q)=>match (bif Nat.testBit e 2 then rls (rPl qs) q else([],q))with
       | (nw,q)=>match (bif Nat.testBit e 3 then rls (rPl qs) q else([],q))with
        | (fz,q)=>(⟨ho,sl,me,ow,nw,fz⟩,q)
def rEx:Rd Ex:=λq=>match rnb q with
 | (0,q)=>(.n,q)
 | (1,q)=>(.r,q)
 | (n+2,q)=>(.x n,q)
def rJ (qs:List Ty) (b:Nat):Rd Joins:=rls λq=>match rEx q with
 | (e,q)=>match Aga qs b q with
  | (t,q)=>((e,t),q)
def Gv (qs:List Ty) (b:Nat):Nat->Rd Ann
 | 0,q=>(.nil,q)
 | f+1,q=>match nib q with
  | (1,q)=>match Gv qs b f q with
   | (x,q)=>match Gv qs b f q with
    | (y,q)=>(.seq x y,q)
  | (2,q)=>match rJ qs b q with
   | (J,q)=>match Gv qs b f q with
    | (x,q)=>match Gv qs b f q with
     | (y,q)=>(.cond J x y,q)
  | (3,q)=>match rJ qs b q with
   | (J,q)=>match Gv qs b f q with
    | (x,q)=>(.block J x,q)
  | (4,q)=>match Aga qs b q with
   | (t,q)=>match rJ qs b q with
    | (J,q)=>match Gv qs b f q with
     | (x,q)=>(.loop t J x,q)
  | (5,q)=>match rJ qs b q with
   | (J,q)=>(.reg J,q)
  | (6,q)=>match rJ qs b q with
   | (J,q)=>match Gv qs b f q with
    | (r,q)=>match Gv qs b f q with
     | (x,q)=>match Gv qs b f q with
      | (y,q)=>match Gv qs b f q with
       | (z,q)=>match Gv qs b f q with
        | (w,q)=>(.both J r x y z w,q)
  | (7,q)=>match Aga qs b q with
   | (t,q)=>match Gv qs b f q with
    | (x,q)=>(.mloop t x,q)
  | (8,q)=>match Gv qs b f q with
   | (x,q)=>(.seq .nil x,q)
  | (9,q)=>match Gv qs b f q with
   | (x,q)=>(.seq x .nil,q)
  | (10,q)=>match Gv qs b f q with
   | (x,q)=>(.seq .nil (.seq .nil x),q)
  | (11,q)=>match Gv qs b f q with
   | (x,q)=>(.seq (.seq .nil x) .nil,q)
  | (12,q)=>match rJ qs b q with
   | (J,q)=>(.cond J .nil .nil,q)
  | (13,q)=>match Gv qs b f q with
   | (x,q)=>(.block [] x,q)
  | (_,q)=>(.nil,q)
def Acw (qs:List Ty) (c:Nat):Joins×Ann:=match rnb ⟨c,0,0,[]⟩with
 | (b,⟨s,_,_,_⟩)=>match rJ qs b ⟨s,0,b - 1,[]⟩with
  | (J,q)=>match Gv qs b 400 q with
   | (a,_)=>(J,a)
structure Kp (P:Program) where
 k:Kn
 ok:J2 P k
def Kp.l {P:Program}:List (Kp P)->List Kn
 | []=>[]
 | a::l=>a.k::Kp.l l
theorem Kp.all {P:Program}:∀l:List (Kp P),∀k∈Kp.l l,J2 P k
 | [],_,h=>by cases h
 | a::l,k,h=>by
  rcases Ame.1 h with rfl | h
  .exact a.ok
  .exact Kp.all l k h
end Go.V