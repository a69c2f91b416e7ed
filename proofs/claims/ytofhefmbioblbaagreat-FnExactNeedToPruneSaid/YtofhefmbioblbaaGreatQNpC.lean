import Derived.Test.YtofhefmbioblbaaGreatQNpA
import Derived.Test.YtofhefmbioblbaaGreatQNpB
import Derived.IntWalk
set_option linter.unusedVariables false
set_option linter.unusedSimpArgs false
namespace Go.V.G
open Go.V
theorem w64 {n:Int} (h1:-9223372036854775808<=n) (h2:n<=9223372036854775807):IntKind.wrap .i64 n=n:=IntWalk.i64_in n ⟨h1,h2⟩
theorem wu8 {n:Int} (h1:0<=n) (h2:n<=255):IntKind.wrap .u8 n=n:=IntWalk.u8_in n ⟨h1,h2⟩
theorem Zn {n:Int} (h1:0<=n) (h2:n<=18446744073709551615):IntKind.wrap .u64 n=n:=IntWalk.u64_in n ⟨h1,h2⟩
section
variable {σ τ:Type}
theorem Af (f:σ->Option (σ⊕τ)) (st:Nat->σ) (n:Nat) (z:τ) (h:∀k,k < n->f (st k)=some (.inl (st (k+1)))) (hz:f (st n)=some (.inr z)):Ab f (st 0)=some z:=by
 have:∀j,j<=n->Ab f (st (n - j))=some z:=by
  intro j
  induction j with
  | zero=>intro _;rw [Ay,Nat.sub_zero,hz]
  | succ j ih=>
   intro hj;rw [Ay,h _ O,(O:n - (j+1)+1=n - j)];exact ih O
 have:=this n (Ao4 _)
 rwa [Nat.sub_self]at this
theorem AhZ (f:σ->Option (σ⊕τ)) (I:σ->Prop) (m:σ->Nat) (Q:τ->Prop) (step:∀x,I x->(∃y,f x=some (.inl y)/\I y/\m y < m x)\/∃z,f x=some (.inr z)/\Q z) :
  ∀x,I x->∃z,Ab f x=some z/\Q z:=by
 intro x
 induction hm:m x using Nat.strongRecOn generalizing x with
 | ind k ih=>
  intro hx;rcases step x hx with⟨y,h1,h2,h3⟩ | ⟨z,h1,h2⟩
  .obtain ⟨z,h4,h5⟩:=ih (m y) O y rfl h2;exact⟨z,by rw [Ay,h1];exact h4,h5⟩
  .exact⟨z,by rw [Ay,h1],h2⟩
theorem AkA (f:σ->Option (σ⊕τ)) (I:σ->Prop) (m:σ->Nat) (F:σ->τ) (step:∀x,I x->(∃y,f x=some (.inl y)/\I y/\m y < m x/\F y=F x)\/f x=some (.inr (F x))) :
  ∀x,I x->Ab f x=some (F x):=by
 intro x
 induction hm:m x using Nat.strongRecOn generalizing x with
 | ind k ih=>
  intro hx;rcases step x hx with⟨y,h1,h2,h3,h4⟩ | h1
  .rw [Ay,h1,<- h4];exact ih (m y) O y rfl h2
  .rw [Ay,h1]
end
end Go.V.G
set_option maxRecDepth 100000
namespace Go.V.G
open Go.V
def Ok {α:Type} (o:Option α) (Q:α->Prop):Prop:=∃r,o=some r/\Q r
section
variable {α β σ τ:Type} {Q:α->Prop}
theorem Ok.mk {r:α} (h:Q r):Ok (some r) Q:=⟨r,rfl,h⟩
theorem Ok.of {o:Option α} {r:α} (h:o=some r) (hq:Q r):Ok o Q:=⟨r,h,hq⟩
theorem Ok.eq {o:Option α} {r:α} (h:Ok o λx=>x=r):o=some r:=by obtain ⟨x,h,rfl⟩:=h;exact h
theorem Ok.mono {o:Option α} {R:α->Prop} (h:Ok o Q) (hq:∀x,Q x->R x):Ok o R:=by obtain ⟨x,h,h'⟩:=h;exact⟨x,h,hq x h'⟩
theorem Ok.bind {o:Option α} {f:α->Option β} {R:β->Prop} (h:Ok o Q) (hf:∀x,Q x->Ok (f x) R):Ok (o.bind f) R:=by
 obtain ⟨x,h,hx⟩:=h
 grind
theorem Ok.bind_eq {o:Option α} {f:α->Option β} {R:β->Prop} {r:α} (h:o=some r) (hf:Ok (f r) R):Ok (o.bind f) R:=by grind
theorem Ok.ite {c:Prop} [Decidable c] {a b:Option α} (h1:c->Ok a Q) (h2:¬ c->Ok b Q):Ok (if c then a else b) Q:=by
 grind
theorem Ok.yes {c:Prop} [Decidable c] {a b:Option α} (hc:c) (h:Ok a Q):Ok (if c then a else b) Q:=by grind
theorem Ok.no {c:Prop} [Decidable c] {a b:Option α} (hc:¬ c) (h:Ok b Q):Ok (if c then a else b) Q:=by grind
theorem Ok.loop {f:σ->Option (σ⊕τ)} (I:σ->Prop) (m:σ->Nat) {R:τ->Prop} {x:σ} (hx:I x) (step:∀x,I x->Ok (f x) λr=>match r with
  | .inl y=>I y/\m y < m x
  | .inr z=>R z):Ok (Ab f x) R:=by
 obtain ⟨z,h1,h2⟩:=AhZ f I m R (λx hx=>by
  obtain ⟨r,h1,h2⟩:=step x hx
  grind) x hx
 exact⟨z,h1,h2⟩
end
abbrev Prt:=Int×(Int×List UInt8)
def kd (p:Prt):Int:=if 0 < p.1/\p.2.1=0/\p.2.2=[]then 1 else if 0 < p.2.1/\p.1=0/\p.2.2=[]then 2 else if p.2.2≠[]/\p.1=0/\p.2.1=0 then 3 else 0
theorem QV (a b:Int) (s:List UInt8):EX a b s=some (kd (a,b,s)):=by
 unfold EX kd;by_cases h1:0 < a <;> by_cases h2:b=0 <;> by_cases h3:s=[] <;> by_cases h4:0 < b <;> by_cases h5:a=0 <;> simp [h1,h2,h3,h4,h5]
theorem NL (a b:Int) (s:List UInt8):Hn a b s=some (kd (a,b,s)):=by
 unfold Hn kd
 grind
def I64 (n:Int):Prop:=-9223372036854775808<=n/\n<=9223372036854775807
theorem I64.wrap (n:Int):I64 (IntKind.wrap .i64 n):=by rw [IntKind.wrap_i64];unfold I64;omega
theorem I64.eq {n:Int} (h:I64 n):IntKind.wrap .i64 n=n:=w64 h.1 h.2
def B8:List Prt->Nat
 | []=>0
 | p::l=>p.2.2.length+B8 l
theorem Ef:∀a b:List Prt,B8 (a++b)=B8 a+B8 b
 | [],b=>by simp [B8]
 | p::a,b=>by simp only [Apj,B8,Ef a b];omega
theorem Gi:∀{l:List Prt} {p:Prt},p∈l->p.2.2.length<=B8 l
 | q::l,p,h=>by
  rcases AoY.1 h with rfl | h
  .simp only [B8];omega
  .have:=Gi h;simp only [B8];omega
structure Sm (B:Nat) (l:List Prt):Prop where
 len:l.length<=B
 put:B8 l<=B
 fit:∀p∈l,I64 p.1/\I64 p.2.1
theorem Sm.mono {B C:Nat} {l:List Prt} (h:Sm B l) (hc:B<=C):Sm C l:=⟨Ao2 h.len hc,Ao2 h.put hc,h.fit⟩
theorem Sm.nil (B:Nat):Sm B []:=⟨ApP _,ApP _,λ_ h=>by cases h⟩
def Ci (l:List Prt) (p:Prt):List Prt:=
 if p=(0,0,[])then l else
 match l.getLast? with
 | none=>[p]
 | some q=>if kd q=kd p then l.dropLast++[(IntKind.wrap .i64 (q.1+p.1),IntKind.wrap .i64 (q.2.1+p.2.1),q.2.2++p.2.2)]else l++[p]
theorem Me {B:Nat} {l:List Prt} {p:Prt} (h:Sm B l) (hp:I64 p.1/\I64 p.2.1) {C:Nat} (hl:B+1<=C) (hc:B+p.2.2.length<=C):Sm C (Ci l p):=by
 unfold Ci;split
 .exact h.mono O
 .split
  .exact⟨Aoz,by simp only [B8];omega,λq hq=>by grind⟩
  .rename_i q hq;obtain ⟨l',rfl⟩:=Aql.1 hq;have h1:=h.len;have h2:=h.put;rw [Ef]at h2;simp only [B8,AoM,AoP]at h1 h2;split
   .rw [List.dropLast_concat];refine⟨Aoz,by rw [Ef];simp only [B8,AoM];omega,λr hr=>?_⟩;rcases AoK.1 hr with hr | hr
    .exact h.fit r (by simp [hr])
    .rw [AoZ.1 hr];exact⟨I64.wrap _,I64.wrap _⟩
   .refine⟨Aoz,by rw [Ef,Ef];simp only [B8];omega,λr hr=>?_⟩;rcases AoK.1 hr with hr | hr
    .exact h.fit r hr
    grind
theorem MP {α:Type} {l:List α} {q:α} (h:l.getLast?=some q):∃n,l.length=n+1/\l[n]?=some q/\∀x,l.set n x=l.dropLast++[x]:=by
 obtain ⟨l',rfl⟩:=Aql.1 h;simp
theorem PL {B:Nat} {l:List Prt} (h:Sm B l) (hB:B<=1099511627776) (a b:Int) (s:List UInt8) (hs:s.length<=1099511627776):Mk l a b s=some (Ci l (a,b,s)):=by
 unfold Mk Ci cK cZ wI;by_cases h0:((a,b,s):Prt)=(0,0,[])
 .grind
 .rw [AoH h0,AoH (by grind)];have hroom:∀x:Prt,Aa (l.length + [x].length) 32=true:=λx=>by
   have:=h.len;simp [Aa];omega
  cases hg:l.getLast? with
  | none=>
   obtain rfl:l=[]:=by simpa using hg
   rfl
  | some q=>
   obtain ⟨n,hn,hq,hset⟩:=MP hg;have hqs:q.2.2.length<=B:=Ao2 (Gi (Api hq)) h.put;have e1:IntKind.wrap .i64 ((l.length:Int) - 1)=(n:Int):=by rw [hn,w64 O (by have:=h.len;omega)];omega
   have hpos:(0:Int) < (l.length:Int):=O
   have hlt:(n:Int) < (l.length:Int):=O
   have hge:(0:Int)<=(n:Int):=O
   have hst:∀x:Prt,(l.set n x)[n]?=some x:=λx=>Ap7 O
   simp only [e1,hpos,hlt,hge,decide_true,AoU,AoE,AoS,hq,AoC,NL]
   grind
def AmI (code:List Int):Prop:=∀x∈code,0<=x/\x<=255
structure At (code:List Int) (k:Int) (a:Int):Prop where
 b:AmI code
 lo:0<=a
 hi:a+k<=4611686018427387904
structure To (code:List Int) (a k:Int) (code':List Int) (a':Int):Prop where
 c:code'=code
 lo:a<=a'
 hi:a'<=a+k
theorem To.at {code code':List Int} {a k a' j:Int} (t:To code a k code' a') (h:At code (k+j) a):At code' j a':=by
 obtain ⟨rfl,h1,h2⟩:=t;exact⟨h.b,by have:=h.lo;omega,by have:=h.hi;omega⟩
theorem To.trans {c c1 c2:List Int} {a k a1 j a2:Int} (t:To c a k c1 a1) (u:To c1 a1 j c2 a2):To c a (k+j) c2 a2:=by
 obtain ⟨rfl,h1,h2⟩:=t;obtain ⟨rfl,h3,h4⟩:=u;exact⟨rfl,O,O⟩
theorem To.refl (c:List Int) (a:Int):To c a 0 c a:=⟨rfl,ApI _,O⟩
theorem To.more {c c1:List Int} {a k a1 j:Int} (t:To c a k c1 a1) (h:k<=j):To c a j c1 a1:=⟨t.c,t.lo,by have:=t.hi;omega⟩
end Go.V.G
set_option maxRecDepth 100000
namespace Go.V.G
open Go.V
theorem Sm.snoc {B C:Nat} {l:List Prt} {p:Prt} (h:Sm B l) (hp:I64 p.1/\I64 p.2.1) (hl:B+1<=C) (hc:B+p.2.2.length<=C):Sm C (l++[p]):=
 ⟨by have:=h.len;simp;omega,by rw [Ef];simp only [B8];have:=h.put;omega,λq hq=>by
  rcases AoK.1 hq with hq | hq
  .exact h.fit q hq
  grind⟩
end Go.V.G
set_option maxRecDepth 100000
namespace Go.V.G
open Go.V
def src:List Prt->Int
 | []=>0
 | p::l=>p.1+p.2.1+src l
def tgt:List Prt->Int
 | []=>0
 | p::l=>p.1+p.2.2.length+tgt l
theorem Dy:∀a b:List Prt,src (a++b)=src a+src b
 | [],b=>by simp [src]
 | p::a,b=>by simp only [Apj,src,Dy a b];omega
theorem DD:∀a b:List Prt,tgt (a++b)=tgt a+tgt b
 | [],b=>by simp [tgt]
 | p::a,b=>by simp only [Apj,tgt,DD a b];omega
def okk:Int->List Prt->Bool
 | _,[]=>true
 | k,p::l=>!(decide (kd p=0)) && !(decide (kd p=k)) && okk (kd p) l
def AK (c:List Prt):Bool:=okk 0 c && decide (src c<=120) && decide (tgt c<=120)
structure Some1 (p:Prt):Prop where
 k:0<=p.1
 d:0<=p.2.1
 ne:kd p≠0
theorem KL {p:Prt} (h:kd p≠0):Some1 p:=by
 refine⟨?_,?_,h⟩ <;> (unfold kd at h;split at h;omega;split at h;omega;split at h;omega;exact absurd rfl h)
theorem A9:∀{k:Int} {l:List Prt},okk k l=true->∀p∈l,Some1 p
 | k,q::l,h,p,hp=>by
  simp only [okk,AoI,Ao7,decide_eq_false_iff_not]at h;rcases AoY.1 hp with rfl | hp
  .exact KL h.1.1
  .exact A9 h.2 p hp
theorem AV:∀{l:List Prt},(∀p∈l,Some1 p)->0<=src l
 | [],_=>ApI _
 | p::l,h=>by
  have h1:=h p Z;have h2:=AV (l:=l) (λq hq=>h q (by simp [hq]));have:=h1.k;have:=h1.d;simp only [src];omega
theorem Cg:∀{l:List Prt},(∀p∈l,Some1 p)->0<=tgt l
 | [],_=>ApI _
 | p::l,h=>by
  have h1:=h p Z;have h2:=Cg (l:=l) (λq hq=>h q (by simp [hq]));have:=h1.k;simp only [tgt];omega
theorem AgY {l:List Prt} {i:Nat} (h:i < l.length):l=l.take i++l[i]::l.drop (i+1):=by
 simp
theorem JC {l:List Prt} {i:Nat} (h:i < l.length):src l=src (l.take i)+(l[i].1+l[i].2.1+src (l.drop (i+1))):=by
 conv=>lhs;rw [AgY h]
 rw [Dy];rfl
theorem QR {l:List Prt} {i:Nat} (h:i < l.length):tgt l=tgt (l.take i)+(l[i].1+l[i].2.2.length+tgt (l.drop (i+1))):=by
 conv=>lhs;rw [AgY h]
 rw [DD];rfl
theorem Kw {l:List Prt} {i:Nat} (h:i < l.length):src (l.take (i+1))=src (l.take i)+(l[i].1+l[i].2.1):=by
 rw [AoL h,Dy];simp [src]
theorem TR {l:List Prt} {i:Nat} (h:i < l.length):tgt (l.take (i+1))=tgt (l.take i)+(l[i].1+l[i].2.2.length):=by
 rw [AoL h,DD];simp [tgt]
def Dh (l:List Prt) (i:Nat):Int:=if i=0 then 0 else match l[i - 1]? with
 | some p=>kd p
 | none=>0
theorem SY {l:List Prt} {i:Nat} (h:i < l.length):Dh l (i+1)=kd l[i]:=by simp [Dh,AoF h]
theorem Aau {l:List Prt} {i:Nat} (h:i < l.length) (k:Int):okk k (l.drop i)=(!(decide (kd l[i]=0)) && !(decide (kd l[i]=k)) && okk (kd l[i]) (l.drop (i+1))):=by
 rw [Aph h];rfl
theorem CC {l:List Prt} {i:Nat} {p:Prt} (h:p∈l.drop i):p∈l:=Ap2 h
theorem Co {l:List Prt} {i:Nat} {p:Prt} (h:p∈l.take i):p∈l:=ApL h
theorem Ao {i:Nat} {n:Nat} (hn:n<=1099511627776) (h:i < n):IntKind.wrap .i64 ((i:Int)+1)=((i+1:Nat):Int):=by
 rw [w64 O O];omega
theorem AbA {c:List Prt} (hlen:c.length<=1099511627776):Ok (Ab Jr (c,c,(List.length c:Int),0)) λr=>match r with
  | .inl y=>y=c/\okk 0 c=true
  | .inr b=>b=false/\okk 0 c=false:=by
 refine Ok.loop (λy=>y.1=c/\y.2.1=c/\y.2.2.1=(List.length c:Int)/\∃i:Nat,y.2.2.2=(i:Int)/\i<=c.length/\okk 0 c=okk (Dh c i) (c.drop i)) (λy=>((List.length c:Int) - y.2.2.2).toNat)
  ⟨rfl,rfl,rfl,0,rfl,ApP _,by simp [Dh]⟩ ?_
 rintro ⟨a,b,n,i'⟩ ⟨e1,e2,e3,i,e4,hi,hk⟩;dsimp only at e1 e2 e3 e4;subst e1 e2 e3 e4;unfold Jr gX wI;dsimp only;refine Ok.ite (λhc=>?_) λhc=>?_
 .have hlt:i < b.length:=by grind
  refine Ok.yes Z (Ok.bind_eq (r:=b[i]) Z (Ok.bind_eq (QV _ _ _) ?_));have hb:Dh b i=Dh b i:=rfl;refine Ok.bind (Q:=λv=>v=(b,b,(List.length b:Int),(i:Int),decide (kd b[i]=0) || decide (kd b[i]=Dh b i))) ?_ ?_
  .refine Ok.ite (λh0=>?_) λh0=>?_
   .exact Ok.mk (by grind)
   .have h0':¬ kd b[i]=0:=by grind
    refine Ok.ite (λhp=>?_) λhp=>?_
    .have hp':0 < i:=by grind
     have e:IntKind.wrap .i64 ((i:Int) - 1)=((i - 1:Nat):Int):=by rw [w64 O O];omega
     have hl1:i - 1 < b.length:=O
     refine Ok.yes (by simp [e]) (Ok.bind_eq (r:=b[i - 1]) (by simp_all) (Ok.bind_eq (QV _ _ _) (Ok.mk ?_)));have hne:¬ i=0:=O
     have hb:Dh b i=kd b[i - 1]:=by simp [Dh,hne,AoF hl1]
     grind
    .have hi0:i=0:=by
      grind
     subst hi0;have e0:decide (kd b[0]=0)=false:=by grind
     exact Ok.mk (by simp [Dh,e0])
  .rintro _ rfl;dsimp only;rw [Aau hlt]at hk;refine Ok.ite (λhbad=>Ok.mk ⟨rfl,?_⟩) λhfine=>Ok.mk ⟨⟨rfl,rfl,rfl,i+1,Ao hlen hlt,O,?_⟩,?_⟩
   .grind
   .rw [hk,SY hlt]
    grind
   .rw [Ao hlen hlt];grind
 .have:i=b.length:=by
   grind
  subst this;exact Ok.mk ⟨rfl,by rw [hk];simp [okk]⟩
def Aam (c:List Prt):Int×(Int×Bool):=if src c<=120/\tgt c<=120 then(src c,tgt c,true)else(0,0,false)
theorem QS {c:List Prt} (hlen:c.length<=1099511627776) (hput:B8 c<=1099511627776) (hs:∀p∈c,Some1 p) (hf:∀p∈c,I64 p.1/\I64 p.2.1):Ld c=some (Aam c):=by
 unfold Ld;refine Ok.eq ?_;refine Ok.bind (Q:=λr=>match r with
  | .inl y=>src c<=120/\tgt c<=120/\y=(src c,tgt c)
  | .inr y=>¬ (src c<=120/\tgt c<=120)/\y=(0,0,false)) ?_ ?_
 .refine Ok.loop (λy=>y.2.2.1=c/\y.2.2.2.1=(List.length c:Int)/\∃i:Nat,y.2.2.2.2=(i:Int)/\i<=c.length/\y.1=src (c.take i)/\y.2.1=tgt (c.take i)/\y.1<=120/\y.2.1<=120) (λy=>((List.length c:Int) - y.2.2.2.2).toNat)
   ⟨rfl,rfl,0,rfl,ApP _,by simp [src],by simp [tgt],Z,Z⟩ ?_
  rintro ⟨s,t,c',n,i'⟩ ⟨e1,e2,i,e3,hi,e4,e5,h1,h2⟩;dsimp only at e1 e2 e3 e4 e5 h1 h2;subst e1 e2 e3;unfold Rq gX wI;dsimp only;refine Ok.ite (λhc=>?_) λhc=>?_
  .have hlt:i < c'.length:=by grind
   have hmem:c'[i]∈c':=AoR hlt;have hp:=hs _ hmem;have hpf:=hf _ hmem;have hpp:=Gi hmem;have k0:=hp.k;have d0:=hp.d;have n1:=AV (l:=c'.take i) λp h=>hs p (Co h)
   have n2:=Cg (l:=c'.take i) λp h=>hs p (Co h)
   have n3:=AV (l:=c'.drop (i+1)) λp h=>hs p (CC h)
   have n4:=Cg (l:=c'.drop (i+1)) λp h=>hs p (CC h)
   have a1:=JC hlt;have a2:=QR hlt;refine Ok.yes Z (Ok.bind_eq (r:=c'[i]) Z ?_);refine Ok.bind (Q:=λv=>v=(s,t,c',(List.length c':Int),(i:Int),decide (120 < c'[i].1\/120 < c'[i].2.1),c'[i].1,c'[i].2.1,c'[i].2.2)) ?_ ?_
   .refine Ok.ite (λh=>Ok.mk ?_) λh=>Ok.mk ?_
    .grind
    grind
   rintro _ rfl;dsimp only;refine Ok.ite (λhb=>Ok.mk ⟨?_,rfl⟩) λhb=>?_
   .grind
   .have hb':¬ (120 < c'[i].1\/120 < c'[i].2.1):=by grind
    have w1:IntKind.wrap .i64 (c'[i].1+c'[i].2.1)=c'[i].1+c'[i].2.1:=w64 O O;have w2:IntKind.wrap .i64 (s+(c'[i].1+c'[i].2.1))=s+(c'[i].1+c'[i].2.1):=w64 O O;have w3:IntKind.wrap .i64 (c'[i].1+(List.length c'[i].2.2:Int))=c'[i].1+(List.length c'[i].2.2:Int):=w64 O O;have w4:IntKind.wrap .i64 (t+(c'[i].1+(List.length c'[i].2.2:Int)))=t+(c'[i].1+(List.length c'[i].2.2:Int)):=w64 O O;rw [w1,w2,w3,w4];refine Ok.bind (Q:=λv=>v=(s+(c'[i].1+c'[i].2.1),t+(c'[i].1+(List.length c'[i].2.2:Int)),c',(List.length c':Int),(i:Int),decide (120 < s+(c'[i].1+c'[i].2.1)\/120 < t+(c'[i].1+(List.length c'[i].2.2:Int))))) ?_ ?_
    .refine Ok.ite (λh=>Ok.mk ?_) λh=>Ok.mk ?_
     .grind
     grind
    rintro _ rfl;dsimp only;refine Ok.ite (λhb=>Ok.mk ⟨?_,rfl⟩) λhb=>Ok.mk ⟨⟨rfl,rfl,i+1,Ao hlen hlt,O,?_,?_,?_,?_⟩,?_⟩
    .grind
    .rw [Kw hlt,e4]
    .rw [TR hlt,e5]
    .grind
    .grind
    .rw [Ao hlen hlt];grind
  .have:i=c'.length:=by
    grind
   subst this;rw [Apy]at e4 e5;exact Ok.mk ⟨O,O,by rw [e4,e5]⟩
 .rintro (y | y) h
  .obtain ⟨h1,h2,rfl⟩:=h;exact Ok.mk (by simp [Aam,h1,h2])
  .obtain ⟨h1,rfl⟩:=h;exact Ok.mk (by simp [Aam,h1])
theorem Rb {B:Nat} {c:List Prt} (h:Sm B c) (hB:B<=1099511627776):Fj c=some (AK c):=by
 unfold Fj;refine Ok.eq (Ok.bind (AbA (Ao2 h.len hB)) ?_);rintro (y | b) hr
 .obtain ⟨rfl,hk⟩:=hr;refine Ok.bind_eq (QS (Ao2 h.len hB) (Ao2 h.put hB) (A9 hk) h.fit) (Ok.mk ?_);unfold AK Aam
  grind
 .obtain ⟨rfl,hk⟩:=hr;exact Ok.mk (by simp [AK,hk])
def ZN (c:List Prt):Int×(Int×Bool):=if AK c=true then(src c,tgt c,true)else(0,0,false)
theorem Aq {c:List Prt} (h:AK c=true):okk 0 c=true/\src c<=120/\tgt c<=120:=by
 simp only [AK,AoI,decide_eq_true_eq]at h
 grind
theorem V5 {B:Nat} {c:List Prt} (h:Sm B c) (hB:B<=1099511627776):KZ c=some (ZN c):=by
 unfold KZ ZN;rw [Rb h hB,AoC];cases hg:AK c with
 | false=>simp
 | true=>
  obtain ⟨h1,h2,h3⟩:=Aq hg;simp [QS (Ao2 h.len hB) (Ao2 h.put hB) (A9 h1) h.fit,Aam,h2,h3]
end Go.V.G
set_option maxRecDepth 100000
namespace Go.V.G
open Go.V
theorem Nv {B:Nat} {c:List Prt} (h:Sm B c) (hB:B<=1099511627776):FI c=some (AK c):=by
 have hlen:=Ao2 h.len hB;have hput:=Ao2 h.put hB;unfold FI;refine Ok.eq (Ok.bind (Q:=λr=>match r with
  | .inl _=>AK c=true
  | .inr b=>b=false/\AK c=false) ?_ ?_)
 .refine Ok.loop (λy=>y.1=c/\y.2.2.2.1=c/\y.2.2.2.2.1=(List.length c:Int)/\∃i:Nat,y.2.2.2.2.2=(i:Int)/\i<=c.length/\y.2.1=src (c.take i)/\y.2.2.1=tgt (c.take i)/\y.2.1<=120/\y.2.2.1<=120/\
    okk 0 c=okk (Dh c i) (c.drop i)/\∀p∈c.take i,Some1 p) (λy=>((List.length c:Int) - y.2.2.2.2.2).toNat)
   ⟨rfl,rfl,rfl,0,rfl,ApP _,by simp [src],by simp [tgt],Z,Z,by simp [Dh],λp hp=>by simp at hp⟩ ?_
  rintro ⟨c0,s,t,c',n,i'⟩ ⟨e1,e2,e3,i,e4,hi,e5,e6,h1,h2,hk,hs⟩;dsimp only at e1 e2 e3 e4 e5 e6 h1 h2;subst e1 e2 e3 e4;unfold NS gX wI;dsimp only;refine Ok.ite (λhc=>?_) λhc=>?_
  .have hlt:i < c'.length:=by simpa using hc
   have hmem:c'[i]∈c':=AoR hlt;have hpf:=h.fit _ hmem;have hpp:=Gi hmem;refine Ok.yes Z (Ok.bind_eq (r:=c'[i]) (by simp [AoF hlt]) (Ok.bind_eq (NL _ _ _) ?_));rw [Aau hlt]at hk;have n1:=AV hs;have n2:=Cg hs;have a1:=JC hlt;have a2:=QR hlt;have bad:(kd c'[i]=0\/kd c'[i]=Dh c' i\/120 < c'[i].1\/120 < c'[i].2.1\/120 < c'[i].2.2.length)->AK c'=false:=by
    intro hb;cases hg:AK c' with
    | false=>rfl
    | true=>
     exfalso;obtain ⟨g1,g2,g3⟩:=Aq hg;have q:=A9 g1;have n3:=AV (l:=c'.drop (i+1)) λp h=>q p (CC h)
     have n4:=Cg (l:=c'.drop (i+1)) λp h=>q p (CC h)
     have p1:=q _ hmem;have k0:=p1.k;have d0:=p1.d;rw [g1]at hk;have hk':=hk.symm;simp only [AoI,Ao7,decide_eq_false_iff_not]at hk';rcases hb with hb | hb | hb | hb | hb
     .exact p1.ne hb
     .exact hk'.1.2 hb
     .omega
     .omega
     .omega
   refine Ok.bind (Q:=λv=>∃b:Bool,v=(c',s,t,c',(List.length c':Int),(i:Int),b,c'[i].1,c'[i].2.1,c'[i].2.2)/\
     (b=true->kd c'[i]=0\/kd c'[i]=Dh c' i\/120 < c'[i].1\/120 < c'[i].2.1\/120 < c'[i].2.2.length)/\
     (b=false->kd c'[i]≠0/\kd c'[i]≠Dh c' i/\c'[i].1<=120/\c'[i].2.1<=120/\c'[i].2.2.length<=120)) ?_ ?_
   .refine Ok.ite (λh0=>?_) λh0=>?_
    .have h0':kd c'[i]=0:=by simpa using h0
     exact Ok.mk ⟨true,rfl,λ_=>.inl h0',λh=>by cases h⟩
    .have h0':¬ kd c'[i]=0:=by simpa using h0
     refine Ok.ite (λhp=>?_) λhp=>?_
     .have hp':0 < i:=by simpa using hp
      have e:IntKind.wrap .i64 ((i:Int) - 1)=((i - 1:Nat):Int):=by rw [w64 O O];omega
      have hl1:i - 1 < c'.length:=O
      have hne:¬ i=0:=O
      have hb:Dh c' i=kd c'[i - 1]:=by simp [Dh,hne,AoF hl1]
      refine Ok.yes (by simp [e]) (Ok.bind_eq (r:=c'[i - 1]) (by simp [e,AoF hl1]) (Ok.bind_eq (NL _ _ _) ?_));rw [hb];refine Ok.ite (λhq=>?_) λhq=>?_
      .have hq':kd c'[i - 1]=kd c'[i]:=by simpa using hq
       exact Ok.mk ⟨true,rfl,λ_=>.inr (.inl hq'.symm),λh=>by cases h⟩
      have hq':¬ kd c'[i - 1]=kd c'[i]:=by simpa using hq
      refine Ok.ite (λhq1=>Ok.mk ⟨true,rfl,λ_=>.inr (.inr (.inl (by simpa using hq1))),λh=>by cases h⟩) λhq1=>?_
      refine Ok.ite (λhq2=>Ok.mk ⟨true,rfl,λ_=>.inr (.inr (.inr (.inl (by simpa using hq2)))),λh=>by cases h⟩) λhq2=>?_
      refine Ok.mk ⟨_,rfl,λhq3=>.inr (.inr (.inr (.inr ?_))),λhq3=>⟨h0',λh=>hq' h.symm,by simpa using hq1,by simpa using hq2,?_⟩⟩
      .simp only [decide_eq_true_eq]at hq3;omega
      .simp only [decide_eq_false_iff_not]at hq3;omega
     .have hi0:i=0:=by
       have:¬ (0:Int) < (i:Int):=by simpa using hp
       omega
      subst hi0;have hb:Dh c' 0=0:=rfl;rw [hb];refine Ok.ite (λhq1=>Ok.mk ⟨true,rfl,λ_=>.inr (.inr (.inl (by simpa using hq1))),λh=>by cases h⟩) λhq1=>?_
      refine Ok.ite (λhq2=>Ok.mk ⟨true,rfl,λ_=>.inr (.inr (.inr (.inl (by simpa using hq2)))),λh=>by cases h⟩) λhq2=>?_
      refine Ok.mk ⟨_,rfl,λhq3=>.inr (.inr (.inr (.inr ?_))),λhq3=>⟨h0',h0',by simpa using hq1,by simpa using hq2,?_⟩⟩
      .simp only [decide_eq_true_eq]at hq3;omega
      .simp only [decide_eq_false_iff_not]at hq3;omega
   rintro _ ⟨b,rfl,hb1,hb2⟩;dsimp only;cases b with
   | true=>exact Ok.yes rfl (Ok.mk ⟨rfl,bad (hb1 rfl)⟩)
   | false=>
    refine Ok.no Z ?_;obtain ⟨g1,g2,g3,g4,g5⟩:=hb2 rfl;have p1:=KL g1;have k0:=p1.k;have d0:=p1.d;have w1:IntKind.wrap .i64 (c'[i].1+c'[i].2.1)=c'[i].1+c'[i].2.1:=w64 O O;have w2:IntKind.wrap .i64 (s+(c'[i].1+c'[i].2.1))=s+(c'[i].1+c'[i].2.1):=w64 O O;have w3:IntKind.wrap .i64 (c'[i].1+(List.length c'[i].2.2:Int))=c'[i].1+(List.length c'[i].2.2:Int):=w64 O O;have w4:IntKind.wrap .i64 (t+(c'[i].1+(List.length c'[i].2.2:Int)))=t+(c'[i].1+(List.length c'[i].2.2:Int)):=w64 O O;rw [w1,w2,w3,w4];have over:(120 < s+(c'[i].1+c'[i].2.1)\/120 < t+(c'[i].1+(List.length c'[i].2.2:Int)))->AK c'=false:=by
     intro ho;cases hg:AK c' with
     | false=>rfl
     | true=>
      exfalso;obtain ⟨q1,q2,q3⟩:=Aq hg;have q:=A9 q1;have n3:=AV (l:=c'.drop (i+1)) λp h=>q p (CC h)
      have n4:=Cg (l:=c'.drop (i+1)) λp h=>q p (CC h)
      omega
    refine Ok.bind (Q:=λv=>v=(c',s+(c'[i].1+c'[i].2.1),t+(c'[i].1+(List.length c'[i].2.2:Int)),c',(List.length c':Int),(i:Int),decide (120 < s+(c'[i].1+c'[i].2.1)\/120 < t+(c'[i].1+(List.length c'[i].2.2:Int))))) ?_ ?_
    .refine Ok.ite (λh=>Ok.mk ?_) λh=>Ok.mk ?_
     .have:120 < s+(c'[i].1+c'[i].2.1):=by simpa using h
      simp [this]
     .have:¬ 120 < s+(c'[i].1+c'[i].2.1):=by simpa using h
      simp [this]
    rintro _ rfl;dsimp only;refine Ok.ite (λhb=>Ok.mk ⟨rfl,over (by simpa using hb)⟩) λhb=>Ok.mk ⟨⟨rfl,rfl,rfl,i+1,Ao hlen hlt,O,?_,?_,?_,?_,?_,?_⟩,?_⟩
    .rw [Kw hlt,e5]
    .rw [TR hlt,e6]
    .have:¬ (120 < s+(c'[i].1+c'[i].2.1)\/120 < t+(c'[i].1+(List.length c'[i].2.2:Int))):=by simpa using hb
     dsimp only;omega
    .have:¬ (120 < s+(c'[i].1+c'[i].2.1)\/120 < t+(c'[i].1+(List.length c'[i].2.2:Int))):=by simpa using hb
     dsimp only;omega
    .rw [hk,SY hlt];simp [g1,g2]
    .intro p hp;rw [AoL hlt]at hp;rcases AoK.1 hp with hp | hp
     .exact hs p hp
     .rw [AoZ.1 hp];exact p1
    .rw [Ao hlen hlt];dsimp only;omega
  .have:i=c'.length:=by
    have:¬ ((i:Int) < (List.length c':Int)):=by simpa using hc
    omega
   subst this;rw [Apy]at e5 e6;refine Ok.mk ?_;unfold AK;rw [hk];simp [okk];omega
 .rintro (y | b) hr
  .exact Ok.mk hr.symm
  .obtain ⟨rfl,hk⟩:=hr;exact Ok.mk hk.symm
theorem Ts {B:Nat} {c:List Prt} (h:Sm B c) (hB:B<=1099511627776) (hs:∀p∈c,Some1 p) (hle:src c<=1000000):Jy c=some (src c):=by
 have hlen:=Ao2 h.len hB;unfold Jy;have:Ab GB (0,c,(List.length c:Int),0)=some (src c):=by
  have:=Af GB (λk=>(src (c.take k),c,(List.length c:Int),(k:Int))) c.length (src c) (by
   intro i hlt;have n1:=AV (l:=c.take i) λp h=>hs p (Co h)
   have n3:=AV (l:=c.drop (i+1)) λp h=>hs p (CC h)
   have p1:=hs _ (AoR hlt);have k0:=p1.k;have d0:=p1.d;have a1:=JC hlt;have w1:IntKind.wrap .i64 (c[i].1+c[i].2.1)=c[i].1+c[i].2.1:=w64 O O;have w2:IntKind.wrap .i64 (src (c.take i)+(c[i].1+c[i].2.1))=src (c.take i)+(c[i].1+c[i].2.1):=w64 O O;have hi:(i:Int) < (List.length c:Int):=O
   simp [GB,gX,wI,hi,AoF hlt,w1,w2,Kw hlt,Ao hlen hlt]) (by simp [GB,gX,wI])
  simpa [src] using this
 rw [this];rfl
theorem Ab3 {B:Nat} {c:List Prt} (h:Sm B c) (hB:B<=1099511627776) (hs:∀p∈c,Some1 p) (hle:tgt c<=1000000):LJ c=some (tgt c):=by
 have hlen:=Ao2 h.len hB;unfold LJ;have:Ab GD (0,c,(List.length c:Int),0)=some (tgt c):=by
  have:=Af GD (λk=>(tgt (c.take k),c,(List.length c:Int),(k:Int))) c.length (tgt c) (by
   intro i hlt;have n1:=Cg (l:=c.take i) λp h=>hs p (Co h)
   have n3:=Cg (l:=c.drop (i+1)) λp h=>hs p (CC h)
   have p1:=hs _ (AoR hlt);have k0:=p1.k;have a1:=QR hlt;have w1:IntKind.wrap .i64 (c[i].1+(List.length c[i].2.2:Int))=c[i].1+(List.length c[i].2.2:Int):=w64 O O;have w2:IntKind.wrap .i64 (tgt (c.take i)+(c[i].1+(List.length c[i].2.2:Int)))=tgt (c.take i)+(c[i].1+(List.length c[i].2.2:Int)):=w64 O O;have hi:(i:Int) < (List.length c:Int):=O
   simp [GD,gX,wI,hi,AoF hlt,w1,w2,TR hlt,Ao hlen hlt]) (by simp [GD,gX,wI])
  simpa [tgt] using this
 rw [this];rfl
theorem Cm (n lo hi:Int):BA n lo hi=some (decide (lo<=n/\n<=hi)):=by
 unfold BA;by_cases h1:lo<=n <;> simp [h1]
theorem AE (n lo hi:Int):Bp n lo hi=some (decide (lo<=n/\n<=hi)):=by
 unfold Bp;by_cases h1:lo<=n <;> simp [h1]
end Go.V.G
set_option maxRecDepth 100000
namespace Go.V.G
open Go.V
abbrev Bls:=List (List Int)
structure Bd (bl:Bls):Prop where
 n:bl.length<=100000
 b:∀x∈bl,0 < x.length/\x.length<=100000
def gd (bl:Bls) (wr lf:Int):Bool:=decide (40<=bl.length/\bl.length<=160) && (bl.all (λb=>b.length == 128) && (decide (0<=wr/\wr<=1000000000) && decide (-1<=lf/\lf<=1000000)))
theorem RH {x:List Int} (h:x.length<=1048576):Bt x=some x:=by
 unfold Bt cK;have hr:Aa (List.length ([]:List Int)+List.length x) 1=true:=by
  simp only [Apd,Aa,decide_eq_true_eq];omega
 cases x with
 | nil=>simp [GW,Aa]
 | cons a x=>simp only [GW,List.isEmpty_cons,AoO,Apa,AoC,hr,AoU,Ao6]
theorem Ajc {x:List Int} (h:0 < x.length/\x.length<=100000):Bt x=some x:=RH O
theorem Qm {bl:Bls} (h:Bd bl):Hu bl=some bl:=by
 have hn:=h.n;unfold Hu;refine Ok.eq (Ok.bind (Q:=λr=>r=bl) ?_ (λr hr=>Ok.mk hr));refine Ok.loop (λy=>∃k:Nat,k<=bl.length/\y=(bl.take k,bl,(bl.length:Int),(k:Int))) (λy=>((bl.length:Int) - y.2.2.2).toNat) ⟨0,O,Z⟩ ?_;rintro _ ⟨k,hk,rfl⟩;unfold Nx cK gX wI;dsimp only;refine Ok.ite (λhc=>?_) λhc=>?_
 .have hlt:k < bl.length:=by simpa using hc
  refine Ok.yes Z ?_;have hg:bl[Int.toNat (k:Int)]?=some bl[k]:=by simp [hlt]
  refine Ok.bind_eq hg (Ok.bind_eq (Ajc (h.b _ (AoR hlt))) ?_);have e1:IntKind.wrap .i64 ((k:Int)+1)=(((k+1:Nat)):Int):=by rw [w64 O O];omega
  refine Ok.yes ?_ (Ok.mk ⟨⟨k+1,O,?_⟩,?_⟩)
  .simp only [AoQ,AoP,Aa,decide_eq_true_eq];omega
  .rw [e1,AoL hlt]
  .dsimp only;rw [e1];omega
 .have:k=bl.length:=by simp at hc;omega
  refine Ok.mk ?_;dsimp only;rw [this,Apy]
theorem AkW {bl:Bls} (h:Bd bl) (wr:Int) (on:Bool) (lf:Int):SE bl wr on lf=some (bl,wr,on,lf):=by
 have hn:=h.n;unfold SE;refine Ok.eq (Ok.bind (Q:=λr=>r.1=bl/\r.2.2.1=wr/\r.2.2.2.1=on/\r.2.2.2.2.1=lf) ?_ (λr hr=>Ok.mk (by rw [hr.1,hr.2.1,hr.2.2.1,hr.2.2.2])));refine Ok.loop (λy=>∃k:Nat,k<=bl.length/\y.1=bl.take k/\y.2.1=bl/\y.2.2.1=(bl.length:Int)/\y.2.2.2.1=(k:Int)/\y.2.2.2.2.2.1=wr/\y.2.2.2.2.2.2.1=on/\y.2.2.2.2.2.2.2.1=lf) (λy=>((bl.length:Int) - y.2.2.2.1).toNat) ⟨0,O,Z,rfl,rfl,rfl,rfl,rfl,rfl⟩ ?_;rintro ⟨a,b,c,d,e,f,g,i,j⟩ ⟨k,hk,q1,q2,q3,q4,q5,q6,q7⟩;dsimp only at q1 q2 q3 q4 q5 q6 q7;subst q1 q2 q3 q4 q5 q6 q7;unfold VG cK gX wI;dsimp only;refine Ok.ite (λhc=>?_) λhc=>?_
 .have hlt:k < b.length:=by simpa using hc
  refine Ok.yes Z ?_;have hg:b[Int.toNat (k:Int)]?=some b[k]:=by simp [hlt]
  have hb:=h.b _ (AoR hlt);have e1:IntKind.wrap .i64 ((k:Int)+1)=(((k+1:Nat)):Int):=by rw [w64 O O];omega
  refine Ok.bind_eq hg (Ok.yes ?_ (Ok.yes ?_ (Ok.mk ⟨⟨k+1,O,?_,rfl,rfl,?_,rfl,rfl,rfl⟩,?_⟩)))
  .simp only [Apd,Aa,decide_eq_true_eq];omega
  .simp only [AoQ,AoP,Aa,decide_eq_true_eq];omega
  .rw [AoL hlt,Ao6]
  .dsimp only;rw [e1]
  .dsimp only;rw [e1];omega
 .have:k=b.length:=by simp at hc;omega
  refine Ok.mk ⟨?_,rfl,rfl,rfl⟩;dsimp only;rw [this,Apy]
theorem Zm {bl:Bls} (hn:bl.length<=1048576):Ok (Bk bl) λr=>(0<=r↔¬ bl.all (λb=>b.length == 128)=true):=by
 unfold Bk;refine Ok.bind (Q:=λr=>match r with | .inl _=>bl.all (λb=>b.length == 128)=true | .inr i=>0<=i/\¬ bl.all (λb=>b.length == 128)=true) ?_ ?_
 .refine Ok.loop (λy=>∃k:Nat,k<=bl.length/\y=(bl,(bl.length:Int),(k:Int))/\∀j (hj:j < bl.length),j < k->bl[j].length=128) (λy=>((bl.length:Int) - y.2.2).toNat) ⟨0,O,rfl,λ_ _ h=>absurd h O⟩ ?_;rintro _ ⟨k,hk,rfl,hall⟩;unfold CO gX wI;dsimp only;refine Ok.ite (λhc=>?_) λhc=>?_
  .have hlt:k < bl.length:=by simpa using hc
   refine Ok.yes Z ?_;have hg:bl[Int.toNat (k:Int)]?=some bl[k]:=by simp [hlt]
   refine Ok.bind_eq hg (Ok.bind_eq rfl (Ok.ite (λhb=>Ok.mk ⟨O,?_⟩) λhb=>?_))
   .have hb':¬ bl[k].length=128:=by simp at hb;omega
    intro hx;have:=Apb.1 hx _ (AoR hlt);simp at this;exact hb' this
   .have hb':bl[k].length=128:=by simp at hb;omega
    have e1:IntKind.wrap .i64 ((k:Int)+1)=(((k+1:Nat)):Int):=by rw [w64 O O];omega
    refine Ok.mk ⟨⟨k+1,O,by rw [e1],λj hj hjk=>?_⟩,?_⟩
    .by_cases hjk2:j=k
     .subst hjk2;exact hb'
     .exact hall j hj O
    .dsimp only;rw [e1];omega
  .have:k=bl.length:=by simp at hc;omega
   refine Ok.mk ?_;dsimp only;rw [Apb];intro x hx;obtain ⟨j,hj,rfl⟩:=Ao3 hx;simp [hall j hj O]
 .rintro (u | i) hr
  .refine Ok.mk ?_;simp only at hr;simp [hr]
  .refine Ok.mk ?_;simp only at hr;simp only [hr.1,true_iff];exact hr.2
theorem Kj {bl:Bls} (hn:bl.length<=1048576) (wr:Int) (on:Bool) (lf:Int):H5 bl wr on lf=some (gd bl wr lf):=by
 have hA:GM bl=some (decide (40<=bl.length/\bl.length<=160) && bl.all (λb=>b.length == 128)):=by
  unfold GM;refine Ok.eq (Ok.bind (Q:=λr=>r=_) ?_ (λr hr=>Ok.mk hr));refine Ok.bind_eq (AE _ _ _) ?_;refine Ok.ite (λhc=>?_) λhc=>Ok.mk ?_
  .refine Ok.bind (Q:=λr=>r = !(bl.all (λb=>b.length == 128))) ?_ (λr hr=>Ok.mk ?_)
   .unfold Bi;refine(Zm hn).bind λr hr=>Ok.mk ?_
    cases ha:bl.all (λb=>b.length == 128)with
    | true=>rw [ha]at hr;simpa using hr
    | false=>rw [ha]at hr;simpa using hr
   .have hc':40<=bl.length/\bl.length<=160:=by simp at hc;omega
    rw [hr];simp [hc']
  .have hc':¬ (40<=bl.length/\bl.length<=160):=by simp at hc;omega
   simp [hc']
 unfold H5 gd;refine Ok.eq (Ok.bind (Q:=λr=>r=_) ?_ (λr hr=>Ok.mk hr));refine Ok.bind_eq hA ?_;refine Ok.ite (λhc=>?_) λhc=>Ok.mk ?_
 .simp only [AoI]at hc;refine Ok.bind_eq (AE _ _ _) (Ok.ite (λhw=>Ok.bind_eq (AE _ _ _) (Ok.mk ?_)) λhw=>Ok.mk ?_)
  .simp only [decide_eq_true_eq]at hw;simp [hc.1,hc.2,hw]
  .simp only [decide_eq_true_eq]at hw;simp [hw]
 .have:(decide (40<=bl.length/\bl.length<=160) && bl.all (λb=>b.length == 128))=false:=by simpa using hc
  rw [<- Aqu,this,Bool.false_and]
theorem I4 {bl:Bls} (hn:bl.length<=1048576) (wr:Int) (on:Bool) (lf:Int):J9 bl wr on lf=some (gd bl wr lf):=by
 unfold J9 gd;refine Ok.eq (Ok.bind (Q:=λr=>r=(!(decide (40<=bl.length/\bl.length<=160) && (decide (0<=wr/\wr<=1000000000) && decide (-1<=lf/\lf<=1000000))),bl,wr,on,lf)) ?_ ?_)
 .refine Ok.bind_eq (Cm _ _ _) (Ok.ite (λhc=>Ok.mk ?_) λhc=>?_)
  .have hc':¬ (40<=bl.length/\bl.length<=160):=by simp at hc;omega
   simp [hc']
  .have hc':40<=bl.length/\bl.length<=160:=by simp at hc;omega
   refine Ok.bind_eq (Cm _ _ _) (Ok.ite (λhw=>Ok.mk ?_) λhw=>Ok.bind_eq (Cm _ _ _) (Ok.mk ?_))
   .have hw':¬ (0<=wr/\wr<=1000000000):=by simpa only [Ao7,decide_eq_false_iff_not] using hw
    simp [hw']
   .have hw':0<=wr/\wr<=1000000000:=by simpa using hw
    simp [hc',hw']
 .rintro _ rfl;dsimp only;refine Ok.ite (λhc=>Ok.mk ?_) λhc=>?_
  .have hc':(decide (40<=bl.length/\bl.length<=160) && (decide (0<=wr/\wr<=1000000000) && decide (-1<=lf/\lf<=1000000)))=false:=by simpa only [Bool.not_not,Ao7,Bool.not_eq_true,Bool.not_eq_false'] using hc
   cases h1:decide (40<=bl.length/\bl.length<=160)with
   | false=>simp
   | true=>rw [h1,AoT]at hc';rw [hc'];simp
  .have hc':(decide (40<=bl.length/\bl.length<=160) && (decide (0<=wr/\wr<=1000000000) && decide (-1<=lf/\lf<=1000000)))=true:=by simpa using hc
   rw [AoI]at hc';rw [hc'.1,hc'.2,AoT,Ap4];refine Ok.bind (Q:=λr=>match r with | .inl _=>bl.all (λb=>b.length == 128)=true | .inr i=>i=false/\¬ bl.all (λb=>b.length == 128)=true) ?_ ?_
   .refine Ok.loop (λy=>∃k:Nat,k<=bl.length/\y=(bl,(bl.length:Int),(k:Int))/\∀j (hj:j < bl.length),j < k->bl[j].length=128) (λy=>((bl.length:Int) - y.2.2).toNat) ⟨0,O,rfl,λ_ _ h=>absurd h O⟩ ?_;rintro _ ⟨k,hk,rfl,hall⟩;unfold Qr gX wI;dsimp only;refine Ok.ite (λhc=>?_) λhc=>?_
    .have hlt:k < bl.length:=by simpa using hc
     refine Ok.yes Z ?_;have hg:bl[Int.toNat (k:Int)]?=some bl[k]:=by simp [hlt]
     refine Ok.bind_eq hg (Ok.ite (λhb=>Ok.mk ⟨rfl,?_⟩) λhb=>?_)
     .have hb':¬ bl[k].length=128:=by simp at hb;omega
      intro hx;have:=Apb.1 hx _ (AoR hlt);simp at this;exact hb' this
     .have hb':bl[k].length=128:=by simp at hb;omega
      have e1:IntKind.wrap .i64 ((k:Int)+1)=(((k+1:Nat)):Int):=by rw [w64 O O];omega
      refine Ok.mk ⟨⟨k+1,O,by rw [e1],λj hj hjk=>?_⟩,?_⟩
      .by_cases hjk2:j=k
       .subst hjk2;exact hb'
       .exact hall j hj O
      .dsimp only;rw [e1];omega
    .have:k=bl.length:=by simp at hc;omega
     refine Ok.mk ?_;dsimp only;rw [Apb];intro x hx;obtain ⟨j,hj,rfl⟩:=Ao3 hx;simp [hall j hj O]
   .rintro (u | i) hr
    .exact Ok.mk hr.symm
    .refine Ok.mk ?_;simp only at hr;rw [hr.1];simpa using hr.2
end Go.V.G
set_option maxRecDepth 100000
namespace Go.V.G
open Go.V
theorem Bd.set {bl:Bls} (h:Bd bl) {x:List Int} (hx:0 < x.length/\x.length<=100000) (i:Nat):Bd (bl.set i x):=
 ⟨by rw [List.length_set];exact h.n,λy hy=>by
  rcases ApA hy with hy | rfl
  .exact h.b y hy
  .exact hx⟩
end Go.V.G
set_option maxRecDepth 100000
namespace Go.V.G
open Go.V
section
variable {α:Type}
theorem ixS {n i:Nat} (hn:n<=4611686018427387904) (h:i < n):IntKind.wrap .i64 ((i:Int)+1)=((i+1:Nat):Int):=by rw [w64 O O];omega
def Ez (w:α->Nat):List α->Nat
 | []=>0
 | x::xs=>w x+Ez w xs
theorem TZ (w:α->Nat):∀{xs:List α} {x:α},x∈xs->w x<=Ez w xs
 | y::xs,x,h=>by
  rcases AoY.1 h with rfl | h
  .simp only [Ez];omega
  .have:=TZ w h;simp only [Ez];omega
def lft (l:Int) (n:Nat):Int:=if(n:Int)<=l then l - n else -1
theorem AjF (f:List α×(Int×Int)->Option ((List α×(Int×Int))⊕(Int⊕Int))) (w:α->Nat) (xs:List α)
  (step:∀(i:Nat) (h:i < xs.length) (l:Int),0<=l->l<=1048576->f (xs,l,(i:Int))=some (if(w xs[i]:Int)<=l then .inl (xs,l - w xs[i],((i+1:Nat):Int))else .inr (.inr (-1))))
  (last:∀l,f (xs,l,(xs.length:Int))=some (.inr (.inl l))) {l:Int} (h0:0<=l) (h1:l<=1048576) :
  Ab f (xs,l,0)=some (if(Ez w xs:Int)<=l then .inl (l - Ez w xs)else .inr (-1)):=by
 have:=AkA f (λy=>y.1=xs/\(0<=y.2.1/\y.2.1<=1048576)/\∃i:Nat,y.2.2=(i:Int)/\i<=xs.length) (λy=>((xs.length:Int) - y.2.2).toNat)
  (λy=>if(Ez w (y.1.drop y.2.2.toNat):Int)<=y.2.1 then .inl (y.2.1 - Ez w (y.1.drop y.2.2.toNat))else .inr (-1)) (by
   rintro ⟨ys,l,i'⟩ ⟨e1,⟨h0,h1⟩,i,e2,hi⟩;dsimp only at e1 h0 h1 e2;subst e1 e2;dsimp only;rcases Nat.lt_or_ge i ys.length with hlt | hge
   .have hs:=step i hlt l h0 h1;have hd:Ez w (ys.drop i)=w ys[i]+Ez w (ys.drop (i+1)):=by rw [Aph hlt];rfl
    simp only [AoE];by_cases hw:(w ys[i]:Int)<=l
    .left;rw [AoJ hw]at hs;refine⟨_,hs,⟨rfl,AoB,i+1,rfl,O⟩,AoB,?_⟩;dsimp only;simp only [AoE,hd];by_cases hx:((Ez w (ys.drop (i+1)):Int))<=l - (w ys[i]:Int)
     .rw [AoJ hx,AoJ O]
      congr 1;omega
     .rw [AoH hx,AoH O]
    .right;rw [AoH hw]at hs;rw [hs,AoH (by rw [hd];omega)]
   .right;have:i=ys.length:=O
    subst this;rw [last];simp [Ez,h0]) (xs,l,0) ⟨rfl,⟨h0,h1⟩,0,rfl,ApP _⟩
 simpa using this
theorem Ac9 (f:List α×(List α×Int)->Option ((List α×(List α×Int))⊕(Unit⊕Bool))) (xs:List α) (step:∀(i:Nat) (h:i < xs.length),f (xs,xs,(i:Int))=some (.inl (xs,xs,((i+1:Nat):Int))))
  (last:f (xs,xs,(xs.length:Int))=some (.inr (.inl ()))):Ab f (xs,xs,0)=some (.inl ()):=by
 have:=Af f (λk=>(xs,xs,((k:Nat):Int))) xs.length (.inl ()) (λk hk=>step k hk) last;simpa using this
theorem Adh (f:List α×(List α×Int)->Option ((List α×(List α×Int))⊕(List α))) (xs:List α) (z:α)
  (step:∀(ys:List α) (i:Nat) (h:i < xs.length),ys.length=xs.length->f (xs,ys,(i:Int))=some (.inl (xs,ys.set i xs[i],((i+1:Nat):Int))))
  (last:∀ys:List α,f (xs,ys,(xs.length:Int))=some (.inr ys)):Ab f (xs,List.replicate xs.length z,0)=some xs:=by
 have:=Af f (λk=>(xs,xs.take k++List.replicate (xs.length - k) z,((k:Nat):Int))) xs.length xs (λk hk=>by
  rw [step _ k hk Aoz,(O:xs.length - k=(xs.length - (k+1))+1),ApE,AoL hk,List.set_append_right _ _ Aoz,
   AoQ,AqD (Nat.le_of_lt hk),Nat.sub_self,List.set_cons_zero,AoN]
  rfl) (by rw [last];simp)
 simpa using this
end
end Go.V.G
set_option maxRecDepth 100000
namespace Go.V.G
open Go.V
def QQ (xs:List (Int)):Prop:=xs.length<=maxLen
def Ck (xs:List (Int)):Nat:=xs.length
theorem Ti (xs:List (Int)):xs.length<=Ck xs:=by unfold Ck;omega
theorem Ajm {xs:List (Int)} (hf:QQ xs) {l:Int} (h0:0<=l) (h1:l<=1048576):NI xs l=some (lft l (Ck xs)):=by
 have hl:xs.length<=maxLen:=hf;unfold maxLen at hl;unfold NI lft Ck wI;rw [w64 O O];by_cases h:l - (xs.length:Int) < 0
 .rw [AoJ (by simpa using h),AoH O]
 .rw [AoH (by simpa using h),AoJ O]
theorem Ahs {xs:List (Int)} (h:Ck xs<=1048576):N5 xs=some xs:=by
 have hl:=Ti xs;have hr:Aa xs.length 1=true:=by simp only [Aa,decide_eq_true_eq];omega
 unfold N5 cK cZ;simp only [AoE,hr,AoU,ApI,decide_true,show(0:Int)<=(xs.length:Int) from by omega];rw [Adh JZ xs _ (by
  intro ys i hi hy;have hc:(i:Int) < (xs.length:Int):=O
  have hy':i < ys.length:=O
  have g1:∀x,(ys.set i x)[i]?=some x:=λx=>Ap7 hy'
  skip
  unfold JZ cK cZ gX wI;simp only [hy,hc,decide_true,AoU,show(0:Int)<=(i:Int) from by omega,AoE,AoF hi,AoF hy',AoC,AoS,List.set_set,g1,ixS (O:xs.length<=4611686018427387904) hi]) (by intro ys;simp [JZ,cK,cZ,gX,wI])]
 rfl
theorem Aje {xs:List (Int)} (h:Ck xs<=1099511627776):Ny xs xs=some true:=by
 have hl:=Ti xs;unfold Ny;rw [AoH Z,Ac9 JT xs (by
  intro i hi;have hc:(i:Int) < (xs.length:Int):=O
  skip
  unfold JT gX wI;simp only [hc,decide_true,AoU,show(0:Int)<=(i:Int) from by omega,AoE,AoF hi,AoC,ixS (O:xs.length<=4611686018427387904) hi,Apv,AoO,Apa,not_true_eq_false,decide_false]) (by simp [JT,gX,wI])]
 rfl
def Md (xs:List (List Int)):Prop:=xs.length<=maxLen/\∀x∈xs,QQ x
def CP (xs:List (List Int)):Nat:=xs.length+Ez Ck xs
theorem MJ (xs:List (List Int)):xs.length<=CP xs:=by unfold CP;omega
theorem AfA {xs:List (List Int)} (hf:Md xs) {l:Int} (h0:0<=l) (h1:l<=1048576):L8 xs l=some (lft l (CP xs)):=by
 obtain ⟨hl,hx⟩:=hf;unfold maxLen at hl;unfold L8 wI;rw [w64 O O];by_cases h:l - (xs.length:Int) < 0
 .rw [AoJ (by simpa using h)];unfold lft CP;rw [AoH O]
 .rw [AoH (by simpa using h),AjF IL Ck xs (by
   intro i hi l h0 h1;have hc:(i:Int) < (xs.length:Int):=O
   have hx:=hx _ (AoR hi);unfold IL gX wI;simp only [hc,decide_true,AoU,show(0:Int)<=(i:Int) from by omega,AoE,AoF hi,AoC,Ajm (hx) h0 h1,ixS (O:xs.length<=4611686018427387904) hi];unfold lft;by_cases hw:(Ck xs[i]:Int)<=l
   .have:¬ l - (Ck xs[i]:Int) < 0:=O
    simp [hw,this]
   .simp [hw]) (by intro l;simp [IL,gX,wI]) O O,AoC]
  unfold lft CP;by_cases hx:(Ez Ck xs:Int)<=l - (xs.length:Int)
  .rw [AoJ hx,AoJ O];show some _=some _
   congr 1;omega
  .rw [AoH hx,AoH O]
theorem Afn {xs:List (List Int)} (h:CP xs<=1048576):LR xs=some xs:=by
 have hl:=MJ xs;have hr:Aa xs.length 24=true:=by simp only [Aa,decide_eq_true_eq];omega
 unfold LR cK cZ;simp only [AoE,hr,AoU,ApI,decide_true,show(0:Int)<=(xs.length:Int) from by omega];rw [Adh IH xs _ (by
  intro ys i hi hy;have hc:(i:Int) < (xs.length:Int):=O
  have hy':i < ys.length:=O
  have g1:∀x,(ys.set i x)[i]?=some x:=λx=>Ap7 hy'
  have hb:Ck xs[i]<=1048576:=by have:=TZ Ck (AoR hi);unfold CP at h;omega
  unfold IH cK cZ gX wI;simp only [hy,hc,decide_true,AoU,show(0:Int)<=(i:Int) from by omega,AoE,AoF hi,AoF hy',AoC,AoS,List.set_set,g1,ixS (O:xs.length<=4611686018427387904) hi,Ahs (hb)]) (by intro ys;simp [IH,cK,cZ,gX,wI])]
 rfl
theorem Afu {xs:List (List Int)} (h:CP xs<=1099511627776):LQ xs xs=some true:=by
 have hl:=MJ xs;unfold LQ;rw [AoH Z,Ac9 II xs (by
  intro i hi;have hc:(i:Int) < (xs.length:Int):=O
  have hb:Ck xs[i]<=1099511627776:=by have:=TZ Ck (AoR hi);unfold CP at h;omega
  unfold II gX wI;simp only [hc,decide_true,AoU,show(0:Int)<=(i:Int) from by omega,AoE,AoF hi,AoC,ixS (O:xs.length<=4611686018427387904) hi,Aje (hb),Apv,AoO,Apa,not_true_eq_false,decide_false]) (by simp [II,gX,wI])]
 rfl
end Go.V.G
set_option maxRecDepth 100000
namespace Go.V.G
open Go.V
theorem n1:((1:Nat):Int)=1:=rfl
theorem n4:((4:Nat):Int)=4:=rfl
theorem AjC (l:Int) (n:Nat):(if decide (lft l n < 0)=true then(some (-1):Option Int)else some (lft l n))=some (lft l n):=by
 by_cases h:lft l n < 0
 .rw [AoJ (by simpa using h)];unfold lft at h ⊢;split at h
  .omega
  .rename_i hn;rw [AoH hn]
 .rw [AoH (by simpa using h)]
theorem Ako {b:List (List Int)} {x:Int} {y:Bool} {z:Int} (hf:Md b) {l:Int} (h0:0<=l) (h1:l<=1048576):Qc b x y z l=some (lft l (CP b)):=by
 unfold Qc;rw [AfA hf h0 h1,AoC,AjC]
theorem AjK {b:List (List Int)} {x:Int} {y:Bool} {z:Int} (h:CP b<=1048576):I3 b x y z=some (b,x,y,z):=by
 unfold I3;rw [Afn h];rfl
theorem Aj1 {b:List (List Int)} {x:Int} {y:Bool} {z:Int} (h:CP b<=1099511627776):M7 b x y z b x y z=some true:=by
 unfold M7;simp [Afu h]
end Go.V.G
set_option maxRecDepth 100000
namespace Go.V.G
open Go.V
abbrev Cl:=Int×(List Int×(Bool×(Int×Int)))
theorem BV {σ τ ρ:Type} (f:σ->Option (σ⊕(τ⊕ρ))) (st:Nat->σ) (p:Nat->Bool) (e:Nat->ρ) (z:τ) (n:Nat)
  (step:∀i,i < n->f (st i)=some (if p i=true then .inl (st (i+1))else .inr (.inr (e i)))) (last:f (st n)=some (.inr (.inl z))) :
  ((∀j,j < n->p j=true)/\Ab f (st 0)=some (.inl z))\/∃k,k < n/\p k=false/\(∀j,j < k->p j=true)/\Ab f (st 0)=some (.inr (e k)):=by
 by_cases h:∃k,k < n/\p k=false
 .have hf:∃k,(k < n/\p k=false)/\∀j,j < k->p j=true:=by
   obtain ⟨k,hk⟩:=h
   induction k using Nat.strongRecOn with
   | _ k ih=>
    grind
  obtain ⟨k,⟨hk,hp⟩,hall⟩:=hf;refine .inr ⟨k,hk,hp,hall,Af f st k _ (λj hj=>?_) ?_⟩
  .grind
  grind
 .have hall:∀j,j < n->p j=true:=λj hj=>by
   grind
  exact .inl ⟨hall,Af f st n _ (λj hj=>by grind) last⟩
def Anf (ls:List Cl) (u:Int):Bool:=ls.any λq=>q.2.2.2.2 == u
def gl (x1:Int) (ls:List Cl) (bl:Bls) (i:Nat) (r:Cl):Bool:=
 decide (0<=r.1/\r.1 < bl.length) && (decide (0 < i->(ls[i - 1]?.getD r).1 < r.1) && (decide (r.2.1.length=128) && (decide (0<=r.2.2.2.1/\r.2.2.2.1<=100) && (decide (1<=r.2.2.2.2/\r.2.2.2.2<=x1) &&
  ((r.2.2.1 || r.2.1 == bl[r.1.toNat]?.getD []) && !(Anf (ls.take i) r.2.2.2.2))))))
structure CD (ls:List Cl) (bl:Bls):Prop where
 n:ls.length<=1048576
 m:bl.length<=1048576
 b:∀x∈ls,x.2.1.length<=1048576/\∀y∈x.2.1,0<=y/\y<=255
 k:∀x∈bl,x.length<=1048576/\∀y∈x,0<=y/\y<=255
def gc (x0 x1:Int) (ls:List Cl) (bl:Bls) (wr lf:Int):Bool:=
 gd bl wr lf && (decide (1<=x0/\x0<=8) && (decide (0<=x1/\x1<=1000000) && (decide ((ls.length:Int)<=x0) && (List.range ls.length).all λi=>gl x1 ls bl i (ls[i]?.getD (0,[],false,0,0)))))
theorem Vo:∀{a b:List Int},(∀y∈a,0<=y/\y<=255)->(∀y∈b,0<=y/\y<=255)->AL a=AL b->a=b
 | [],[],_,_,_=>rfl
 | [],_::_,_,_,h=>by simp [AL]at h
 | _::_,[],_,_,h=>by simp [AL]at h
 | x::a,y::b,ha,hb,h=>by
  simp only [AL,Apk,Aqm]at h;have h1:=ha x Z;have h2:=hb y Z;have h3:x=y:=by
   have:=congrArg UInt8.toNat h.1;simp only [UInt8.toNat_ofNat']at this;omega
  rw [h3,Vo (λz hz=>ha z (by simp [hz])) (λz hz=>hb z (by simp [hz])) h.2]
theorem T8 {a b:List Int} (ha:∀y∈a,0<=y/\y<=255) (hb:∀y∈b,0<=y/\y<=255):(AL a == AL b)=(a == b):=by
 by_cases h:a=b
 .subst h;simp
 .have:¬ AL a=AL b:=λhh=>h (Vo ha hb hh)
  grind
theorem Ah {i:Nat} (h:i<=1048576):IntKind.wrap .i64 ((i:Int)+1)=((i+1:Nat):Int):=by rw [w64 O O];omega
theorem Xv {a b:List Int} (hn:a.length<=1048576):CH a b=some (a == b):=by
 unfold CH;by_cases hl:a.length=b.length
 .rw [AoH (by simp [hl])];rcases BV C2 (λk=>(a,b,(a.length:Int),((k:Nat):Int))) (λk=>a[k]? == b[k]?) (λ_=>false) () a.length (λi hi=>by
    unfold C2 gX wI;dsimp only;have hib:i < b.length:=O
    rw [AoJ Aoz,AoJ Z,AoE,AoF hi,AoC,AoJ Z,AoF hib,AoC,Ah O]
    grind) (by
    unfold C2 gX wI;simp)with⟨h1,h2⟩ | ⟨k,hk,h1,_,h2⟩
  .rw [show(((0:Nat):Int))=0 from rfl]at h2;rw [h2,AoC];have:a=b:=by
    refine Apq λi=>?_
    grind
   simp [this]
  .rw [show(((0:Nat):Int))=0 from rfl]at h2;rw [h2,AoC];have:¬ a=b:=λh=>by grind
   grind
 .rw [AoJ Aoz];have:¬ a=b:=λh=>hl (by rw [h])
  grind
structure Up (ls:List Cl) (m:Nat):Prop where
 up:∀i j (hi:i < ls.length) (hj:j < ls.length),i < j->ls[i].1 < ls[j].1
 b:∀i (hi:i < ls.length),0<=ls[i].1/\ls[i].1 < m
end Go.V.G
set_option maxRecDepth 100000
namespace Go.V.G
open Go.V
def ub (r:Int) (j:Nat):Bool:=decide ((IntKind.wrap .u8 (((BitVec.ofInt (IntKind.bits .u8) (Int.fdiv r (2 ^ (min j (IntKind.bits .u8)))) &&& BitVec.ofInt (IntKind.bits .u8) 1).toNat:Int)):Int)=1)
def sb (r:Int) (j:Nat):Int:=IntKind.wrap .u8 (((BitVec.ofInt (IntKind.bits .u8) r ||| BitVec.ofInt (IntKind.bits .u8) (IntKind.wrap .u8 (1 * 2 ^ (min j (IntKind.bits .u8))))).toNat:Int))
def bit (bits:List Int) (k:Nat):Bool:=ub (bits[k / 8]?.getD 0) (k % 8)
def setB (bits:List Int) (k:Nat):List Int:=bits.set (k / 8) (sb (bits[k / 8]?.getD 0) (k % 8))
theorem dv8 {k:Nat} (h:k<=1048576):IntKind.wrap .i64 (Int.tdiv (k:Int) 8)=((k / 8:Nat):Int):=by
 rw [Ap5 O,w64 O O];omega
theorem md8 (k:Nat):Int.tmod (k:Int) 8=((k % 8:Nat):Int):=by
 rfl
theorem AnV (k:Nat):IntKind.wrap .u64 (Int.tmod (k:Int) 8)=((k % 8:Nat):Int):=by
 rw [md8,Zn O O]
theorem Ls {bits:List Int} {k:Nat} (h:k<=1048576) (hk:k / 8 < bits.length):Hy bits (k:Int)=some (bit bits k):=by
 unfold Hy bit cK cZ gX wI wB;rw [dv8 h,AnV,AoJ Z,AoJ Aoz,AoE,AoF hk,AoC,AoJ Z,AoJ Aoz];rfl
theorem Xx {bits:List Int} {k:Nat} (h:k<=1048576) (hk:k / 8 < bits.length) (b:Bls) (g t:List Int):D2 (k:Int) b bits g t=some (bit bits k,b,bits,g,t):=by
 unfold D2 bit cK cZ gX wI wB;rw [dv8 h,md8,AoJ Z,AoJ Aoz,AoE,AoF hk,AoC,AoJ Z,AoJ Aoz];rfl
def upG (n:Nat) (bits l:List Int) (i:Nat):Bool:=
 decide (33<=l[i]?.getD 0/\l[i]?.getD 0<=(n:Int) - 1) && (bit bits (l[i]?.getD 0).toNat && decide (0 < i->l[i - 1]?.getD 0 < l[i]?.getD 0))
def upB (n:Nat) (bits l:List Int):Bool:=(List.range l.length).all λi=>upG n bits l i
def bG (n:Nat) (bits:List Int) (k:Nat):Bool:=!((decide (k < 33) && !(bit bits k)) || (decide (n<=k) && bit bits k))
def gsp (b:Bls) (bits g t:List Int):Bool:=
 (decide (40<=b.length/\b.length<=160) && (decide (bits.length=20) && b.all (λx=>x.length == 128))) && (((List.range 160).all λk=>bG b.length bits k) && (upB b.length bits g && upB b.length bits t))
theorem all_range {p:Nat->Bool} {n:Nat}:(List.range n).all p=true↔∀i,i < n->p i=true:=by
 simp
theorem Abe (n:Nat) (bits l:List Int) (i:Nat) (hi:i < l.length):upG n bits l i =
  if ¬ (33<=l[i]/\l[i]<=(n:Int) - 1)then false else if bit bits l[i].toNat=false then false else if 0 < i/\l[i]<=l[i - 1]?.getD 0 then false else true:=by
 unfold upG
 grind
theorem AkL {b:Bls} {bits l:List Int} (hb:b.length<=160) (h40:40<=b.length) (hx:bits.length=20) (hl:l.length<=1048576) (a1:Bls) (a1':List (List Int)) (a2 a3:Int) (g t:List Int) :
  Ab FS ((b.length:Int),l,a1',a2,a3,l,(l.length:Int),0,a1,bits,g,t)=some (if upB b.length bits l=true then .inl ((b.length:Int),a1',a2,a3,a1,bits,g,t)else .inr false):=by
 rcases BV FS (λk=>((b.length:Int),l,a1',a2,a3,l,(l.length:Int),((k:Nat):Int),a1,bits,g,t)) (λk=>upG b.length bits l k) (λ_=>false) ((b.length:Int),a1',a2,a3,a1,bits,g,t) l.length (λi hi=>by
   unfold FS gX wI;dsimp only;rw [AoJ Aoz,AoJ Z,AoE,AoF hi,AoC,Abe _ _ _ _ hi,Cm,w64 (n:=(b.length:Int) - 1) O O,AoC];generalize hr:l[i]=r;by_cases h1:33<=r/\r<=(b.length:Int) - 1
   .obtain ⟨m,rfl⟩:=AoX (O:0<=r);rw [decide_eq_true h1,AoH Z,Ls O O,AoC,AoH (not_not_intro h1),AoE];cases h2:bit bits m with
    | false=>rfl
    | true=>
     rw [AoH (show ¬ (!true)=true by simp),AoH (show ¬ true=false by simp)];by_cases h0:0 < i
     .have e1:IntKind.wrap .i64 (((i:Nat):Int) - 1)=((i - 1:Nat):Int):=by rw [w64 O O];omega
      have hp:l[i - 1]?=some l[i - 1]:=AoF O;rw [AoJ Aoz,e1,AoJ Z,AoE,hp,AoC,AoC,Apo];dsimp only;by_cases h3:(m:Int)<=l[i - 1]
      .grind
      .rw [AoH (by grind),AoH (show ¬ (0 < i/\(m:Int)<=l[i - 1]) from λhh=>h3 hh.2),Ah O];rfl
     .rw [AoH Aoz,AoC];dsimp only;rw [AoH Z,AoH (show ¬ (0 < i/\(m:Int)<=l[i - 1]?.getD 0) from λhh=>h0 hh.1),Ah O];rfl
   grind) (by
   unfold FS gX wI;simp)with⟨h1,h2⟩ | ⟨k,hk,h1,_,h2⟩
 .rw [show(((0:Nat):Int))=0 from rfl]at h2;rw [h2,show upB b.length bits l=true from all_range.2 h1];rfl
 .rw [show(((0:Nat):Int))=0 from rfl]at h2;have:upB b.length bits l=false:=by
   cases hu:upB b.length bits l with
   | false=>rfl
   | true=>have:=all_range.1 hu k hk;grind
  grind
theorem Ade {b:Bls} {bits l:List Int} (hb:b.length<=160) (h40:40<=b.length) (hx:bits.length=20) (hl:l.length<=1048576) (g t:List Int) :
  C7 l b bits g t=some (upB b.length bits l,b,bits,g,t):=by
 unfold C7;rcases BV Dp (λk=>(l,l,(l.length:Int),((k:Nat):Int),b,bits,g,t)) (λk=>upG b.length bits l k) (λ_=>(false,b,bits,g,t)) (b,bits,g,t) l.length (λi hi=>by
   unfold Dp Gt gX wI;dsimp only;rw [AoJ Aoz,AoJ Z,AoE,AoF hi,AoC,Abe _ _ _ _ hi,AE,w64 (n:=(b.length:Int) - 1) O O,AoC];generalize hr:l[i]=r;by_cases h1:33<=r/\r<=(b.length:Int) - 1
   .obtain ⟨m,rfl⟩:=AoX (O:0<=r);rw [decide_eq_true h1,AoJ rfl,Xx O O,AoC,AoC,AoC,AoH (not_not_intro h1),AoE];dsimp only;cases h2:bit bits m with
    | false=>rfl
    | true=>
     rw [AoH (show ¬ (!true)=true by simp),AoH (show ¬ true=false by simp)];by_cases h0:0 < i
     .have e1:IntKind.wrap .i64 (((i:Nat):Int) - 1)=((i - 1:Nat):Int):=by rw [w64 O O];omega
      have hp:l[i - 1]?=some l[i - 1]:=AoF O;rw [AoJ Aoz,e1,AoJ Z,AoE,hp,AoC,AoC,Apo];dsimp only;by_cases h3:(m:Int)<=l[i - 1]
      .grind
      .rw [AoH (by grind),AoH (show ¬ (0 < i/\(m:Int)<=l[i - 1]) from λhh=>h3 hh.2),Ah O];rfl
     .rw [AoH Aoz,AoC];dsimp only;rw [AoH Z,AoH (show ¬ (0 < i/\(m:Int)<=l[i - 1]?.getD 0) from λhh=>h0 hh.1),Ah O];rfl
   grind) (by
   unfold Dp gX wI;simp)with⟨h1,h2⟩ | ⟨k,hk,h1,_,h2⟩
 .rw [show(((0:Nat):Int))=0 from rfl]at h2;rw [h2,show upB b.length bits l=true from all_range.2 h1];rfl
 .rw [show(((0:Nat):Int))=0 from rfl]at h2;have:upB b.length bits l=false:=by
   cases hu:upB b.length bits l with
   | false=>rfl
   | true=>have:=all_range.1 hu k hk;grind
  grind
theorem Af1 {n:Nat} {bits:List Int} (k:Nat):bG n bits k=if k < 33 then(if bit bits k=false then false else if n<=k then !(bit bits k)else true)else if n<=k then !(bit bits k)else true:=by
 unfold bG
 grind
theorem AfH {b:Bls} {bits:List Int} (hb:b.length<=160) (hx:bits.length=20) (g t:List Int) :
  Ab HT ((b.length:Int),0,b,bits,g,t)=some (if((List.range 160).all λk=>bG b.length bits k)=true then .inl ((b.length:Int),b,bits,g,t)else .inr false):=by
 rcases BV HT (λk=>((b.length:Int),((k:Nat):Int),b,bits,g,t)) (λk=>bG b.length bits k) (λ_=>false) ((b.length:Int),b,bits,g,t) 160 (λi hi=>by
   unfold HT wI;dsimp only;rw [AoJ Aoz,Ls O O,AoC,Af1];by_cases h1:i < 33
   .rw [AoJ Aoz,AoJ h1];cases h2:bit bits i with
    | false=>rfl
    | true=>
     rw [AoH (show ¬ (!true)=true by simp),AoH (show ¬ true=false by simp)];by_cases h3:b.length<=i
     .grind
     .rw [AoH Aoz,AoH h3,AoC];dsimp only;rw [AoH Z,Ah O];rfl
   .rw [AoH Aoz,AoH h1];by_cases h3:b.length<=i
    .rw [AoJ Aoz,AoJ h3,AoC];cases h2:bit bits i with
     | false=>rw [AoH Z,Ah O];rfl
     | true=>rfl
    .rw [AoH Aoz,AoH h3,AoC];dsimp only;rw [AoH Z,Ah O];rfl) (by
   rfl)with⟨h1,h2⟩ | ⟨k,hk,h1,_,h2⟩
 .grind
 grind
theorem Ago {b:Bls} {bits:List Int} (hb:b.length<=160) (hx:bits.length=20) (g t:List Int) :
  Ab H4 (0,b,bits,g,t)=some (if((List.range 160).all λk=>bG b.length bits k)=true then .inl (b,bits,g,t)else .inr false):=by
 rcases BV H4 (λk=>(((k:Nat):Int),b,bits,g,t)) (λk=>bG b.length bits k) (λ_=>false) (b,bits,g,t) 160 (λi hi=>by
   unfold H4 wI;dsimp only;rw [AoJ Aoz,Xx O O,AoC,Af1];by_cases h1:i < 33
   .rw [AoJ Aoz,AoJ h1];cases h2:bit bits i with
    | false=>rfl
    | true=>
     rw [AoH (show ¬ (!true)=true by simp),AoH (show ¬ true=false by simp)];by_cases h3:b.length<=i
     .grind
     .rw [AoH Aoz,AoH h3,AoC];dsimp only;rw [AoH Z,Ah O];rfl
   .rw [AoH Aoz,AoH h1];by_cases h3:b.length<=i
    .rw [AoJ Aoz,AoJ h3,AoC];cases h2:bit bits i with
     | false=>rw [AoH Z,Ah O];rfl
     | true=>rfl
    .rw [AoH Aoz,AoH h3,AoC];dsimp only;rw [AoH Z,Ah O];rfl) (by
   rfl)with⟨h1,h2⟩ | ⟨k,hk,h1,_,h2⟩
 .grind
 grind
theorem Acf {b:Bls} {bits:List Int} (hb:b.length<=1048576) (n:Int) (a:Bls) (g t:List Int) :
  Ab FT (n,b,(b.length:Int),0,a,bits,g,t)=some (if b.all (λx=>x.length == 128)=true then .inl (n,a,bits,g,t)else .inr false):=by
 rcases BV FT (λk=>(n,b,(b.length:Int),((k:Nat):Int),a,bits,g,t)) (λk=>(b[k]?.getD []).length == 128) (λ_=>false) (n,a,bits,g,t) b.length (λi hi=>by
   unfold FT gX wI;dsimp only;rw [AoJ Aoz,AoJ Z,AoE,AoF hi,AoC,Apo];by_cases h1:b[i].length=128
   .rw [AoH Aoz,AoJ (by grind),Ah O]
   grind) (by
   unfold FT gX wI;simp)with⟨h1,h2⟩ | ⟨k,hk,h1,_,h2⟩
 .rw [show(((0:Nat):Int))=0 from rfl]at h2;have:b.all (λx=>x.length == 128)=true:=by
   rw [Apb];intro x hx;obtain ⟨j,hj,rfl⟩:=Ao3 hx
   grind
  grind
 grind
structure SB (b:Bls) (x y z:List Int):Prop where
 b:b.length<=1048576
 y:y.length<=1048576
 z:z.length<=1048576
theorem OU {b:Bls} {x y z:List Int} (h:SB b x y z):Ih b x y z=some (gsp b x y z):=by
 have hb:=h.b;unfold Ih gsp;rw [Cm,AoC];by_cases h1:(40:Int)<=(b.length:Int)/\(b.length:Int)<=160
 .have h1':40<=b.length/\b.length<=160:=O
  rw [decide_eq_true h1,decide_eq_true h1',AoH Z,AoC,AoT];by_cases h2:x.length=20
  .rw [AoH Aoz,decide_eq_true h2,AoT,Acf hb,AoC];cases h3:b.all (λx=>x.length == 128)with
   | false=>rfl
   | true=>
    rw [AoJ rfl,AoT];dsimp only;rw [AfH O h2,AoC];cases h4:((List.range 160).all λk=>bG b.length x k)with
    | false=>rfl
    | true=>
     rw [AoJ rfl,AoT];dsimp only;have step:∀(i:Nat) (l:List Int),[y,z][i]?=some l->l.length<=1048576->Kt ((b.length:Int),[y,z],2,(i:Int),b,x,y,z) =
       some (if upB b.length x l=true then .inl ((b.length:Int),[y,z],2,((i+1:Nat):Int),b,x,y,z)else .inr (.inr false)):=by
      intro i l hl hll;have hi:i < 2:=(Apt.1 hl).1;unfold Kt cK cZ wI;rw [AoJ Aoz,AoJ Z,AoJ Aoz,AoS,AoE,hl,AoC,AkL h1'.2 h1'.1 h2 hll,AoC];cases upB b.length x l with
      | true=>rw [AoJ rfl,AoJ rfl];dsimp only;rw [Ah O]
      | false=>rfl
     have e2:((List.length [y,z]:Int))=2:=rfl;rw [e2,Ay,show(0:Int)=((0:Nat):Int) from rfl,step 0 y rfl h.y];cases h5:upB b.length x y with
     | false=>rfl
     | true=>
      rw [AoJ rfl,AoT];dsimp only;rw [Ay,step 1 z rfl h.z];cases h6:upB b.length x z with
      | false=>rfl
      | true=>
       rw [AoJ rfl];dsimp only;rw [Ay];rfl
  grind
 grind
theorem Wz {b:Bls} (hb:b.length<=1048576):GM b=some (decide (40<=b.length/\b.length<=160) && b.all (λx=>x.length == 128)):=by
 refine Ok.eq (Ok.bind (Q:=λr=>r=_) ?_ (λr hr=>Ok.mk hr));refine Ok.bind_eq (AE _ _ _) ?_;refine Ok.ite (λhc=>?_) λhc=>Ok.mk ?_
 .refine Ok.bind (Q:=λr=>r = !(b.all (λb=>b.length == 128))) ?_ (λr hr=>Ok.mk ?_)
  .unfold Bi;refine(Zm hb).bind λr hr=>Ok.mk ?_
   grind
  grind
 grind
theorem VY {b:Bls} {x y z:List Int} (h:SB b x y z):KQ b x y z=some (gsp b x y z):=by
 have hb:=h.b;unfold KQ gsp;rw [Wz hb,AoC];by_cases h1:40<=b.length/\b.length<=160
 .rw [decide_eq_true h1,AoT,AoT];cases h3:b.all (λx=>x.length == 128)with
  | false=>simp
  | true=>
   rw [AoH Z,AoC,Ap4];by_cases h2:x.length=20
   .rw [AoH Aoz,decide_eq_true h2,AoT,Ago h1.2 h2,AoC];cases h4:((List.range 160).all λk=>bG b.length x k)with
    | false=>rfl
    | true=>
     rw [AoJ rfl,AoT];dsimp only;rw [Ade h1.2 h1.1 h2 h.y,AoC];cases h5:upB b.length x y with
     | false=>rfl
     | true=>rw [AoJ rfl,Ade h1.2 h1.1 h2 h.z,AoC];rfl
   grind
 grind
end Go.V.G
set_option maxRecDepth 100000
namespace Go.V.G
open Go.V
def AaQ (xs:List (Int)):Prop:=xs.length<=maxLen
def ZC (xs:List (Int)):Nat:=xs.length
end Go.V.G
set_option maxRecDepth 100000
namespace Go.V.G
open Go.V
structure FitS (b:List (List Int)) (x y z:List Int):Prop where
 b:Md b
 x:QQ x
 y:AaQ y
 z:AaQ z
def Adq (b:List (List Int)) (x y z:List Int):Nat:=CP b+Ck x+ZC y+ZC z
end Go.V.G
set_option maxRecDepth 100000
namespace Go.V.G
open Go.V
def Ris (l:List Int):Prop:=∀i j (hi:i < l.length) (hj:j < l.length),i < j->l[i] < l[j]
theorem Ht {n:Nat} {bits l:List Int} (h:upB n bits l=true):Ris l/\∀i (hi:i < l.length),33<=l[i]/\l[i]<=(n:Int) - 1/\bit bits l[i].toNat=true:=by
 have hg:∀i (hi:i < l.length),(33<=l[i]/\l[i]<=(n:Int) - 1)/\bit bits l[i].toNat=true/\(0 < i->l[i - 1]?.getD 0 < l[i]):=λi hi=>by
  have:=all_range.1 h i hi;unfold upG at this
  grind
 refine⟨λi j hi hj hij=>?_,λi hi=>⟨(hg i hi).1.1,(hg i hi).1.2,(hg i hi).2.1⟩⟩
 induction j with
 | zero=>omega
 | succ j ih=>
  grind
structure Spot (l:List Int) (n:Int) (k:Nat):Prop where
 le:k<=l.length
 lo:∀j (h:j < l.length),j < k->l[j] < n
 hi:∀j (h:j < l.length),k<=j->n<=l[j]
theorem Spot.one {l:List Int} {n:Int} {k m:Nat} (h:Spot l n k) (h':Spot l n m):k=m:=by
 rcases Nat.lt_trichotomy k m with hl | hl | hl
 .have h1:=h.hi k (by have:=h'.le;omega) (Ao4 _);have h2:=h'.lo k (by grind) hl;omega
 .exact hl
 .have h1:=h'.hi m (by have:=h.le;omega) (Ao4 _);have h2:=h.lo m (by grind) hl;omega
def Q4 (l:List Int) (n:Int) (k:Nat):List Int:=if l[k]?=some n then l else l.take k++([n]++l.drop k)
theorem Agb {l:List Int} (hl:l.length<=1048576) (hr:Ris l) (n:Int):∃k,Spot l n k/\CY l n=some (Q4 l n k):=by
 unfold CY cK cZ sX;have hloop:Ok (Ab Qe (l,n,0)) λv=>∃k:Nat,Spot l n k/\v=(l,n,((k:Nat):Int)):=by
  refine Ok.loop (λy=>∃k:Nat,k<=l.length/\(∀j (h:j < l.length),j < k->l[j] < n)/\y=(l,n,((k:Nat):Int))) (λy=>((l.length:Int) - y.2.2).toNat) ⟨0,O,λj h hj=>absurd hj O,rfl⟩ ?_;rintro _ ⟨k,hk,hlo,rfl⟩;unfold Qe cK cZ wI;dsimp only;by_cases hlt:k < l.length
  .rw [AoJ Aoz,AoJ Z,AoJ Aoz,AoS,AoE,AoF hlt,AoC,AoC];dsimp only;by_cases hc:l[k] < n
   .rw [AoJ (by grind),Ah O];refine Ok.mk ⟨⟨k+1,O,λj h hj=>?_,rfl⟩,by grind⟩
    grind
   .rw [AoH (by grind)];refine Ok.mk ⟨k,⟨hk,hlo,λj h hj=>?_⟩,rfl⟩;by_cases hjk:j=k
    .grind
    .have:=hr k j hlt h O;omega
  .rw [AoH Aoz,AoC];exact Ok.mk ⟨k,⟨hk,hlo,λj h hj=>absurd h O⟩,rfl⟩
 obtain ⟨v,hv,k,hs,rfl⟩:=hloop;refine⟨k,hs,?_⟩;have hk:=hs.le;rw [hv,AoC];dsimp only;have ins:∀(c:Bool),c=false->(if c=true then some l else
   if(decide ((0:Int)<=0))=true then
   if(decide ((0:Int)<=((k:Nat):Int)))=true then
   if(decide ((((k:Nat):Int):Int)<=(List.length l:Int)))=true then
   if(decide (((List.length l:Int):Int)<=(List.length l:Int)))=true then
   if(Aa (List.length ([]:List Int)+List.length ((l.drop (Int.toNat 0)).take (Int.toNat ((k:Nat):Int) - Int.toNat 0))) 8)=true then
   if(Aa (List.length (([]:List Int)++((l.drop (Int.toNat 0)).take (Int.toNat ((k:Nat):Int) - Int.toNat 0)))+List.length ([n]:List Int)) 8)=true then
   if(decide ((0:Int)<=((k:Nat):Int)))=true then
   if(decide ((((k:Nat):Int):Int)<=(List.length l:Int)))=true then
   if(decide (((List.length l:Int):Int)<=(List.length l:Int)))=true then
   if(decide (((List.length l:Int):Int)<=(List.length l:Int)))=true then
   if(Aa (List.length ((([]:List Int)++((l.drop (Int.toNat 0)).take (Int.toNat ((k:Nat):Int) - Int.toNat 0)))++([n]:List Int))+List.length ((l.drop (Int.toNat ((k:Nat):Int))).take (Int.toNat (List.length l:Int) - Int.toNat ((k:Nat):Int)))) 8)=true then
   some (((([]:List Int)++((l.drop (Int.toNat 0)).take (Int.toNat ((k:Nat):Int) - Int.toNat 0)))++([n]:List Int))++((l.drop (Int.toNat ((k:Nat):Int))).take (Int.toNat (List.length l:Int) - Int.toNat ((k:Nat):Int))))
   else none else none else none else none else none else none else none else none else none else none else none)=some (l.take k++([n]++l.drop k)):=by
  rintro c rfl;have r1:∀m:Nat,m<=1048577->Aa m 8=true:=λm hm=>by simp only [Aa,decide_eq_true_eq];omega
  grind
 unfold Q4;by_cases hlt:k < l.length
 .rw [AoJ Aoz,AoJ Z,AoJ Aoz,AoS,AoE,AoF hlt,AoC,AoC]
  grind
 grind
theorem AkM (a b:Int):JA a b=some (decide (a < b)):=by
 unfold JA IJ;simp
theorem Al0 {l:List Int} (hl:l.length<=1048576) (hr:Ris l) (n:Int):∃k,Spot l n k/\CE l n=some (((k:Nat):Int),decide (l[k]?=some n)):=by
 unfold CE gX;have hloop:Ok (Ab C9 (l,n,(l.length:Int),0,(l.length:Int))) (λr=>∃k,Spot l n k/\r=(l,n,(l.length:Int),((k:Nat):Int))):=by
  refine Ok.loop (λy=>∃a b:Nat,a<=b/\b<=l.length/\(∀j (h:j < l.length),j < a->l[j] < n)/\(∀j (h:j < l.length),b<=j->n<=l[j])/\y=(l,n,(l.length:Int),(a:Int),(b:Int)))
   (λy=>(y.2.2.2.2 - y.2.2.2.1).toNat) ⟨0,l.length,O,O,λj h h2=>absurd h2 O,λj h h2=>absurd h2 O,rfl⟩ ?_
  rintro _ ⟨a,b,hab,hb,h1,h2,rfl⟩;unfold C9 cZ gX wI;dsimp only;refine Ok.ite (λhc=>?_) λhc=>?_
  .have hlt:a < b:=by grind
   have e1:IntKind.wrap .i64 (Int.fdiv (IntKind.wrap .u64 (IntKind.wrap .i64 ((a:Int)+(b:Int)))) (2 ^ (min (Int.toNat 1) (IntKind.bits .u64))))=(((a+b) / 2:Nat):Int):=by
    rw [w64 (n:=(a:Int)+(b:Int)) O O,Zn O O,show(2:Int) ^ (min (Int.toNat 1) (IntKind.bits .u64))=2 from rfl,Aqi _ O,w64 O O];omega
   rw [e1];have hk:(a+b) / 2 < l.length:=O
   refine Ok.yes Z (Ok.yes Aoz ?_);refine Ok.bind_eq (AoF hk) (Ok.bind_eq (AkM _ _) ?_);by_cases hlt2:l[(a+b) / 2] < n
   .refine Ok.bind_eq (AoJ (by grind)) (Ok.mk ⟨⟨(a+b) / 2+1,b,O,hb,λj h hj=>?_,h2,?_⟩,?_⟩)
    .by_cases hjj:j=(a+b) / 2
     .grind
     .have:=hr j _ h hk O;omega
    .rw [Ah O]
    .dsimp only;rw [Ah O];omega
   .refine Ok.bind_eq (AoH (by grind)) (Ok.mk ⟨⟨a,(a+b) / 2,O,O,h1,λj h hj=>?_,rfl⟩,?_⟩)
    .by_cases hjj:j=(a+b) / 2
     .grind
     .have:=hr _ j hk h O;omega
    grind
  .have hlt:a=b:=by grind
   subst hlt;exact Ok.mk ⟨a,⟨hb,h1,h2⟩,rfl⟩
 obtain ⟨r,hr',k,hs,rfl⟩:=hloop;refine⟨k,hs,?_⟩;rw [hr',AoC];by_cases hlt:k < l.length
 .rw [AoJ Aoz,AoJ Z,AoE,AoF hlt,AoC];by_cases hc:l[k]=n
  .grind
  .rw [AoH (by grind),AoJ Z,AoC];unfold Gs;simp [hc]
 grind
theorem Acx {l:List Int} (hl:l.length<=1048576) (hr:Ris l) (n:Int):∃k,Spot l n k/\E1 l n=some (Q4 l n k):=by
 obtain ⟨k,hs,hb⟩:=Al0 hl hr n;refine⟨k,hs,?_⟩;have hk:=hs.le;unfold E1 Q4;rw [hb,AoC];by_cases hc:l[k]?=some n
 .grind
 .rw [AoH (by grind),AoH hc];unfold Ft
  grind
theorem LF {x:List Int} (h:x.length<=1048576):Bl x=some x:=by
 unfold Bl cK;have hr:Aa (List.length ([]:List Int)+List.length x) 8=true:=by
  simp only [Apd,Aa,decide_eq_true_eq];omega
 cases x with
 | nil=>simp [GW,Aa]
 | cons a x=>simp only [GW,List.isEmpty_cons,AoO,Apa,AoC,hr,AoU,Ao6]
structure GS (b:Bls) (x y z:List Int):Prop where
 hb:40<=b.length/\b.length<=160
 hx:x.length=20
 hk:∀c∈b,c.length=128
 hbits:∀i,i < 160->bG b.length x i=true
 hy:upB b.length x y=true
 hz:upB b.length x z=true
theorem Po {b:Bls} {x y z:List Int} (h:gsp b x y z=true):GS b x y z:=by
 unfold gsp at h;simp only [AoI,decide_eq_true_eq]at h;obtain ⟨⟨h1,h2,h3⟩,h4,h5,h6⟩:=h;refine⟨h1,h2,λc hc=>?_,all_range.1 h4,h5,h6⟩
 grind
theorem GS.bd {b:Bls} {x y z:List Int} (g:GS b x y z):Bd b:=⟨by have:=g.hb;omega,λc hc=>by have:=g.hk c hc;omega⟩
theorem Aaq {b:Bls} {x y z:List Int} (g:GS b x y z) (h:SB b x y z):HS b x y z=some (b,x,y,z):=by
 unfold HS;rw [Qm g.bd,AoC,RH (by have:=g.hx;omega),AoC,LF h.y,AoC,LF h.z];rfl
def IE:List Int:=List.replicate 128 0
end Go.V.G
set_option maxRecDepth 100000
namespace Go.V.G
open Go.V
theorem Vk {r:Int} (h0:0<=r) (h1:r<=255):(BitVec.ofInt (IntKind.bits .u8) r).toNat=r.toNat:=by
 obtain ⟨n,rfl⟩:=AoX h0;rw [BitVec.ofInt_natCast,BitVec.toNat_ofNat,show IntKind.bits .u8=8 from rfl,AoE];omega
theorem wub {r:Int} (h0:0<=r) (h1:r<=255):IntKind.wrap .u8 r=r:=by rw [IntKind.wrap_u8];omega
theorem AcL {r:Int} (h0:0<=r) (h1:r<=255) {j:Nat} (hj:j < 8):ub r j=r.toNat.testBit j:=by
 obtain ⟨n,rfl⟩:=AoX h0;have hn:n<=255:=O
 unfold ub;rw [show min j (IntKind.bits .u8)=j from by show min j 8=j;omega,Aqi _ (by grind)];have hp:(2:Int) ^ j=((2 ^ j:Nat):Int):=by norm_cast
 rw [hp];have hq:(n:Int) / ((2 ^ j:Nat):Int)=((n / 2 ^ j:Nat):Int):=by norm_cast
 rw [hq];have hle:n / 2 ^ j<=255:=Ao2 (Aqn _ _) hn;rw [AoE,Nat.testBit_eq_decide_div_mod_eq];generalize n / 2 ^ j=q at hle;rw [BitVec.toNat_and,Vk O O,Vk O O,AoE,show(1:Int).toNat=1 from rfl,Nat.and_one_is_mod,wub O O]
 grind
theorem Agq {r:Int} (h0:0<=r) (h1:r<=255) {j:Nat} (hj:j < 8):sb r j=((r.toNat ||| 2 ^ j:Nat):Int)/\r.toNat ||| 2 ^ j<=255:=by
 have hr:r.toNat < 2 ^ 8:=O
 have hj2:2 ^ j < 2 ^ 8:=Nat.pow_lt_pow_right AoA hj;have hor:r.toNat ||| 2 ^ j < 2 ^ 8:=Nat.or_lt_two_pow hr hj2;have hp:(2:Int) ^ j=((2 ^ j:Nat):Int):=by norm_cast
 unfold sb;rw [show min j (IntKind.bits .u8)=j from by show min j 8=j;omega,Int.one_mul,hp];generalize 2 ^ j=p at hj2 hor ⊢;rw [wub (r:=(p:Int)) O O,BitVec.toNat_or,Vk h0 h1,Vk O O,AoE,wub O O];omega
def U8s (x:List Int):Prop:=∀v∈x,0<=v/\v<=255
theorem SJ {x:List Int} (hu:U8s x) {k j:Nat} (hk:k / 8 < x.length) (hj:j / 8 < x.length):bit (setB x k) j=(decide (j=k) || bit x j):=by
 unfold bit setB;have hgk:x[k / 8]?=some x[k / 8]:=AoF hk;have uk:=hu _ (AoR hk);by_cases hd:j / 8=k / 8
 .rw [hd,Ap7 hk,Apo,hgk,Apo];obtain ⟨e1,e2⟩:=Agq uk.1 uk.2 (Nat.mod_lt k AoA);rw [e1,AcL O O (Nat.mod_lt j AoA),AcL uk.1 uk.2 (Nat.mod_lt j AoA),AoE,Nat.testBit_or,Nat.testBit_two_pow]
  grind
 grind
theorem Ak7 {x:List Int} (hu:U8s x) {k:Nat} (hk:k / 8 < x.length):U8s (setB x k):=by
 intro v hv;rcases ApA hv with hv | rfl
 .exact hu v hv
 .have uk:=hu _ (AoR hk);rw [AoF hk,Apo];obtain ⟨e1,e2⟩:=Agq uk.1 uk.2 (Nat.mod_lt k AoA);omega
def cnt (x:List Int):Nat->Nat
 | 0=>0
 | n+1=>cnt x n+(if bit x n=true then 0 else 1)
theorem ris_iff {l:List Int}:Ris l↔l.Pairwise (· < ·):=by
 rw [List.pairwise_iff_getElem];rfl
theorem AjT {l:List Int} (hr:Ris l) {n:Int} {k:Nat} (hs:Spot l n k):Ris (Q4 l n k):=by
 unfold Q4;split
 .exact hr
 .rename_i hne;rw [ris_iff]at hr ⊢;have hlo:∀v∈l.take k,v < n:=by
   intro v hv;obtain ⟨j,hj,rfl⟩:=Ao3 hv;rw [AoQ]at hj;rw [List.getElem_take];exact hs.lo j O O
  have hhi:∀v∈l.drop k,n < v:=by
   intro v hv;obtain ⟨j,hj,rfl⟩:=Ao3 hv;rw [Apr]at hj;rw [List.getElem_drop];have hkj:k+j < l.length:=O
   have h1:=hs.hi (k+j) hkj O;by_cases hj0:j=0
   .grind
   .have hk0:k < l.length:=O
    have h2:=hs.hi k hk0 (Ao4 _);have h3:=(ris_iff.2 hr) k (k+j) hk0 hkj O;omega
  grind
structure Wk (n:Nat) (b:Bls) (x z:List Int) (lz:Nat):Prop where
 hn:40<=n/\n<=160
 hb:b.length=n
 hk:∀c∈b,c.length=128
 hx:x.length=20
 hu:U8s x
 hlow:∀k,k < 33->bit x k=true
 hr:Ris z
 hz:z.length<=lz
end Go.V.G
set_option maxRecDepth 100000
namespace Go.V.G
open Go.V
def nd (n:Nat):Nat:=if n=0 then 1 else(n+123) / 124
theorem Agf {n:Nat} (h:n<=1000):PB (n:Int)=some (nd n:Int):=by
 unfold PB nd cK wI;by_cases h0:n=0
 .subst h0;rfl
 .rw [AoH Aoz,AoH h0,AoJ Z,w64 (n:=(n:Int)+124) O O,w64 (n:=(n:Int)+124 - 1) O O,Ap5 O,w64 O O]
  grind
theorem Afp {n:Nat} (h:n<=1000):Hg (n:Int)=some (nd n:Int):=by
 unfold Hg nd cK wI;rw [AoJ Z,w64 (n:=(n:Int)+124) O O,w64 (n:=(n:Int)+124 - 1) O O,Ap5 O,w64 O O]
 grind
theorem Ajs {n:Nat} (h:n<=1000):1<=nd n/\nd n<=9/\∀i,i < nd n->124 * i<=n:=by
 unfold nd
 grind
def Am0 (data list:List Int) (i:Nat):List Int:=
 let own:=(data.drop (124 * i)).take 124
 let next:=if i+1 < list.length then list[i+1]?.getD 0 else 0
 let hd:=[82,IntKind.wrap .u8 (next / 256),IntKind.wrap .u8 next,IntKind.wrap .u8 (own.length:Int)]++own
 hd++List.replicate (128 - hd.length) 0
theorem SP {l:List Int} (hr:Ris l) (hb:∀i (h:i < l.length),33<=l[i]/\l[i]<=159):l.length<=127:=by
 have key:∀i (h:i < l.length),33+(i:Int)<=l[i]:=by
  intro i
  induction i with
  | zero=>grind
  | succ i ih=>intro h;have h1:=ih O;have h2:=hr i (i+1) O h O;omega
 grind
end Go.V.G
set_option maxRecDepth 100000
namespace Go.V.G
open Go.V
theorem Rl {l:List Int} (hl:l.length<=1048576) (hr:Ris l) (n:Int):∃z,CY l n=some z/\E1 l n=some z/\z.length<=l.length+1/\Ris z/\∀v,v∈z↔v∈l\/v=n:=by
 obtain ⟨k,hs,h1⟩:=Agb hl hr n;obtain ⟨m,ht,h2⟩:=Acx hl hr n;obtain rfl:=hs.one ht;refine⟨_,h1,h2,?_,AjT hr hs,λv=>?_⟩
 .unfold Q4
  grind
 .unfold Q4;split
  .grind
  .have e:v∈l↔v∈l.take k\/v∈l.drop k:=by
    rw [<- AoK,Apm]
   grind
structure Wq (b:Bls) (x z:List Int) (lz:Nat):Prop where
 hb:39<=b.length/\b.length<=160
 hx:x.length=20
 hu:U8s x
 hr:Ris z
 hz:z.length<=lz
theorem Wq.take {b:Bls} {x z:List Int} {lz:Nat} (h:Wq b x z lz) (hlz:lz<=1048000) {k:Nat} (hk:k < b.length) {z':List Int} (hz':CY z (k:Int)=some z'):Wq (b.set k IE) (setB x k) z' (lz+1):=by
 have hbl:=h.hb;have hx:=h.hx;have hz:=h.hz;obtain ⟨z2,e1,_,e2,e3,_⟩:=Rl O h.hr (k:Int);rw [e1]at hz';obtain rfl:=ApT hz';exact⟨by grind,by unfold setB;grind,Ak7 h.hu O,e3,O⟩
theorem Wc (n:Int):0<=IntKind.wrap .u8 n/\IntKind.wrap .u8 n<=255:=by rw [IntKind.wrap_u8];omega
end Go.V.G
set_option maxRecDepth 100000
namespace Go.V.G
open Go.V
theorem T9 {l:List Int} {n:Int} (hl:l.length<=1048576):Ok (F9 l n) λr=>(0<=r↔n∈l):=by
 refine Ok.bind (Q:=λr=>(r=.inl ()/\n∉l)\/∃k:Int,r=.inr k/\0<=k/\n∈l) ?_ ?_
 .refine Ok.loop (λy=>∃k:Nat,k<=l.length/\y=(l,n,(l.length:Int),(k:Int))/\∀j (h:j < l.length),j < k->l[j]≠n) (λy=>(y.2.2.1 - y.2.2.2).toNat) ⟨0,O,rfl,λj _ h=>by omega⟩ ?_;rintro _ ⟨k,hk,rfl,hn⟩;unfold Ib gX wI;dsimp only;refine Ok.ite (λhc=>?_) λhc=>Ok.mk (.inl ⟨rfl,λhm=>?_⟩)
  .have hlt:k < l.length:=by grind
   have hg:l[Int.toNat (k:Int)]?=some l[k]:=by simp [hlt]
   have e1:=Ah (i:=k) O;refine Ok.yes Z (Ok.bind_eq hg (Ok.ite (λhe=>Ok.mk (.inr ⟨_,rfl,O,?_⟩)) λhe=>Ok.mk ⟨⟨k+1,O,by rw [e1],λj hj hjk=>?_⟩,?_⟩))
   .grind
   .grind
   grind
  .obtain ⟨j,hj,he⟩:=Ao3 hm
   grind
 .rintro r (⟨rfl,h⟩ | ⟨k,rfl,h0,h⟩)
  .exact Ok.mk (by simp [h])
  .exact Ok.mk ⟨λ_=>h,λ_=>h0⟩
theorem AbS {l:List Int} {n:Int} (hl:l.length<=1048576):Ok (AR l n) λr=>(r=true↔n∈l):=by
 exact(T9 hl).bind λr hr=>Ok.mk (by grind)
theorem OJ {n:Nat} {bits l:List Int} (hr:Ris l) (h:∀v∈l,33<=v/\v<=(n:Int) - 1/\bit bits v.toNat=true):upB n bits l=true:=by
 refine all_range.2 λi hi=>?_
 rw [Abe n bits l i hi];have hm:=h l[i] (AoR _);rw [AoH (λhn=>hn ⟨hm.1,hm.2.1⟩),AoH (by grind),AoH];rintro ⟨h0,h1⟩;rw [AoF O,Apo]at h1;have:=hr (i - 1) i O hi O;omega
theorem Ve {n:Nat} {bits l:List Int} (h:upB n bits l=true):∀v∈l,33<=v/\v<=(n:Int) - 1/\bit bits v.toNat=true:=by
 intro v hv;obtain ⟨i,hi,rfl⟩:=Ao3 hv;exact(Ht h).2 i hi
theorem GS.take {b:Bls} {x y z:List Int} (g:GS b x y z) (hu:U8s x) {k:Nat} (hk:33<=k/\k < b.length) {z':List Int} (hzl:z.length<=1048000) (hz':CY z (k:Int)=some z'):GS (b.set k IE) (setB x k) y z'/\(k:Int)∈z'/\z'.length<=z.length+1/\bit (setB x k) k=true:=by
 have hb:=g.hb;have hx:=g.hx;obtain ⟨z2,e1,_,e2,e3,e4⟩:=Rl O (Ht g.hz).1 (k:Int);rw [e1]at hz';obtain rfl:=ApT hz';have hs:∀j,j < 160->bit (setB x k) j=(decide (j=k) || bit x j):=λj hj=>SJ hu O O
 have hup:∀v:Int,33<=v/\v<=(b.length:Int) - 1/\bit x v.toNat=true->33<=v/\v<=((b.set k IE).length:Int) - 1/\bit (setB x k) v.toNat=true:=λv ⟨h1,h2,h3⟩=>
  ⟨h1,by grind,by grind⟩
 refine⟨⟨by grind,by unfold setB;grind,λc hc=>?_,λi hi=>?_,?_,?_⟩,(e4 _).2 (.inr rfl),e2,by grind⟩
 .rcases ApA hc with hc | rfl
  .exact g.hk c hc
  .rfl
 .rw [List.length_set];have:=g.hbits i hi;unfold bG at this ⊢
  grind
 .exact OJ (Ht g.hy).1 λv hv=>hup v (Ve g.hy v hv)
 .refine OJ e3 λv hv=>?_
  rcases (e4 v).1 hv with hv | rfl
  .exact hup v (Ve g.hz v hv)
  grind
end Go.V.G
set_option maxRecDepth 100000
namespace Go.V.G
open Go.V
theorem Ahc {x:List Int} {n:Nat} (hx:x.length<=1048576) (hn:n<=x.length):Ok (En x (n:Int)) λr=>(r=true↔∀v∈x.drop n,v=0):=by
 unfold En sX;refine Ok.yes Z (Ok.yes Aoz (Ok.yes Z (Ok.yes Z ?_)));have e:(List.drop (Int.toNat (n:Int)) x).take (Int.toNat (List.length x:Int) - Int.toNat (n:Int))=x.drop n:=by
  rw [AoE,AoE];exact Ao5 (by rw [Apr];omega)
 rw [e];have hl:(x.drop n).length<=1048576:=by rw [Apr];omega
 generalize x.drop n=l at hl;refine Ok.bind (Q:=λr=>(r=.inl ()/\∀v∈l,v=0)\/(r=.inr false/\¬ ∀v∈l,v=0)) ?_ ?_
 .refine Ok.loop (λy=>∃k:Nat,k<=l.length/\y=(l,(l.length:Int),(k:Int))/\∀j (h:j < l.length),j < k->l[j]=0) (λy=>(y.2.1 - y.2.2).toNat) ⟨0,O,rfl,λj _ h=>by omega⟩ ?_;rintro _ ⟨k,hk,rfl,hz⟩;unfold Tq gX wI;dsimp only;refine Ok.ite (λhc=>?_) λhc=>Ok.mk (.inl ⟨rfl,λv hv=>?_⟩)
  .have hlt:k < l.length:=by simpa using hc
   have hg:l[Int.toNat (k:Int)]?=some l[k]:=by simp [hlt]
   have e1:=Ah (i:=k) O;refine Ok.yes Z (Ok.bind_eq hg (Ok.ite (λhe=>Ok.mk (.inr ⟨rfl,λhall=>?_⟩)) λhe=>Ok.mk ⟨⟨k+1,O,by rw [e1],λj hj hjk=>?_⟩,?_⟩))
   .have:¬ l[k]=0:=by simpa using he
    exact this (hall _ (AoR _))
   .by_cases hjk':j=k
    .subst hjk';simpa using he
    .exact hz j hj O
   .dsimp only;rw [e1];omega
  .obtain ⟨j,hj,rfl⟩:=Ao3 hv;have:¬ k < l.length:=by simpa using hc
   exact hz j hj O
 .rintro r (⟨rfl,h⟩ | ⟨rfl,h⟩)
  .exact Ok.mk (by simpa using h)
  .exact Ok.mk ⟨λhh=>(by cases hh),λhh=>absurd hh h⟩
end Go.V.G
set_option maxRecDepth 100000
namespace Go.V.G
open Go.V
def gb (c:List Int) (i:Nat):Int:=c[i]?.getD 0
def blk (b:Bls) (i:Nat):List Int:=b[i]?.getD []
theorem Ai {c:List Int} {i:Nat} (h:i < c.length):c[i]?=some (gb c i):=by unfold gb;grind
theorem Bj {b:Bls} {i:Nat} (h:i < b.length):b[i]?=some (blk b i):=by unfold blk;grind
theorem iy {α:Type} {p:Prop} [Decidable p] {a b:α} (h:p):(if decide p=true then a else b)=a:=by grind
theorem ino {α:Type} {p:Prop} [Decidable p] {a b:α} (h:¬ p):(if decide p=true then a else b)=b:=by grind
structure RS (b:Bls) (x y:List Int):Prop where
 hn:40<=b.length/\b.length<=160
 hk:∀c∈b,c.length=128
 hu:∀c∈b,U8s c
 hx:x.length=20
 hy:y.length<=1048576
theorem BG {b:Bls} {i:Nat} (h:i < b.length):blk b i∈b:=Api (Bj h)
theorem RS.len {b:Bls} {x y:List Int} (g:RS b x y) {i:Nat} (h:i < b.length):(blk b i).length=128:=g.hk _ (BG h)
theorem Ec {c:List Int} (h:U8s c) (j:Nat):0<=gb c j/\gb c j<=255:=by
 by_cases hj:j < c.length
 .exact h _ (Api (Ai hj))
 .unfold gb;grind
theorem RS.u8 {b:Bls} {x y:List Int} (g:RS b x y) {i:Nat} (h:i < b.length) (j:Nat):0<=gb (blk b i) j/\gb (blk b i) j<=255:=Ec (g.hu _ (BG h)) j
def liv (b:Bls) (x y:List Int) (a:Int):Bool:=decide (33<=a/\a<=(b.length:Int) - 1) && (bit x a.toNat && !decide (a∈y))
theorem Cy {b:Bls} {x y:List Int} {a:Int} (h:liv b x y a=true):∃m:Nat,a=(m:Int)/\33<=m/\m < b.length/\bit x m=true/\(m:Int)∉y:=by
 unfold liv at h
 grind
theorem HF {l:List Int} {n:Int} (hl:l.length<=1048576):HN l n=some (decide (n∈l)):=by
 refine Ok.eq (Ok.bind (Q:=λr=>(r=.inl ()/\n∉l)\/(r=.inr true/\n∈l)) ?_ ?_)
 .refine Ok.loop (λy=>∃k:Nat,k<=l.length/\y=(n,l,(l.length:Int),(k:Int))/\∀j (h:j < l.length),j < k->l[j]≠n) (λy=>(y.2.2.1 - y.2.2.2).toNat) ⟨0,O,rfl,λj _ h=>by omega⟩ ?_;rintro _ ⟨k,hk,rfl,hn⟩;unfold UV gX wI;refine Ok.ite (λhc=>?_) λhc=>Ok.mk (.inl ⟨rfl,λhm=>?_⟩)
  .have hlt:k < l.length:=by grind
   have hg:l[Int.toNat (k:Int)]?=some l[k]:=by simp [hlt]
   have e1:=Ah (i:=k) O;refine Ok.yes Z (Ok.bind_eq hg (Ok.ite (λhe=>Ok.mk (.inr ⟨rfl,?_⟩)) λhe=>Ok.mk ⟨⟨k+1,O,by rw [e1],λj hj hjk=>?_⟩,?_⟩))
   .grind
   .grind
   grind
  .obtain ⟨j,hj,he⟩:=Ao3 hm
   grind
 .rintro r (⟨rfl,h⟩ | ⟨rfl,h⟩)
  .exact Ok.mk (by simp [h])
  .exact Ok.mk (by simp [h])
theorem GO {l:List Int} {n:Int} (hl:l.length<=1048576):AR l n=some (decide (n∈l)):=by
 refine Ok.eq ((AbS hl).mono λr hr=>?_)
 grind
theorem Nq {b:Bls} {x y z:List Int} (g:RS b x y) (a:Int):I0 b x y z a=some (liv b x y a):=by
 have hn:=g.hn;have hx:=g.hx;unfold I0 liv wI;rw [Cm,w64 O O,AoC];by_cases h1:33<=a/\a<=(b.length:Int) - 1
 .obtain ⟨m,rfl⟩:=AoX (O:0<=a);rw [decide_eq_true h1,AoJ rfl,Ls O O,AoC,AoE];cases bit x m with
  | false=>rfl
  | true=>rw [AoJ rfl,HF g.hy];rfl
 grind
theorem UD {b:Bls} {bits y z:List Int} {k:Nat} (h:k<=1048576) (hk:k / 8 < bits.length):Fl (b,bits,y,z) (k:Int)=some (bit bits k):=by
 unfold Fl bit cK cZ gX wI wB;rw [dv8 h,md8,AoJ Z,AoJ Aoz,AoE,AoF hk,AoC,AoJ Z,AoJ Aoz];rfl
theorem QB {b:Bls} {x y z:List Int} (g:RS b x y) (a:Int):D3 (b,x,y,z) a=some (decide (33<=a/\a<=(b.length:Int) - 1) && bit x a.toNat):=by
 have hn:=g.hn;have hx:=g.hx;unfold D3 wI;dsimp only;rw [AE,w64 O O,AoC];by_cases h1:33<=a/\a<=(b.length:Int) - 1
 .obtain ⟨m,rfl⟩:=AoX (O:0<=a);rw [decide_eq_true h1,AoJ rfl,UD O O,AoC,AoE];rfl
 grind
theorem L3 {b:Bls} {x y z:List Int} (g:RS b x y) (a:Int):CS (b,x,y,z) a=some (liv b x y a):=by
 unfold CS liv;rw [QB g,AoC];dsimp only;cases decide (33<=a/\a<=(b.length:Int) - 1)with
 | false=>rfl
 | true=>
  cases bit x a.toNat with
  | false=>rfl
  | true=>rw [AoJ (show(true && true)=true from rfl),GO g.hy];rfl
def rz (c:List Int) (n:Nat):Bool:=(c.drop n).all λv=>decide (v=0)
theorem RY {c:List Int} {n:Nat} (hc:c.length<=1048576) (hn:n<=c.length):En c (n:Int)=some (rz c n):=by
 refine Ok.eq ((Ahc hc hn).mono λr hr=>?_);unfold rz
 grind
theorem Ku (L:(List Int×(Int×Int))->Option ((List Int×(Int×Int))⊕(Unit⊕Int))) (p:Int->Bool) (l:List Int)
  (h:∀k,k < l.length->L (l,(l.length:Int),((k:Nat):Int))=some (if p (gb l k)=true then .inr (.inr ((k:Nat):Int))else .inl (l,(l.length:Int),((k+1:Nat):Int))))
  (h2:L (l,(l.length:Int),(l.length:Int))=some (.inr (.inl ()))) :
  ∃r,Ab L (l,(l.length:Int),0)=some r/\((r=.inl ()/\(l.any p)=false)\/∃k:Nat,r=.inr ((k:Nat):Int)/\(l.any p)=true):=by
 rcases BV L (λk=>(l,(l.length:Int),((k:Nat):Int))) (λk=>!(p (gb l k))) (λk=>((k:Nat):Int)) () l.length (λk hk=>by
  grind) h2 with⟨ha,hl⟩ | ⟨k,hk,hp,_,hl⟩
 .refine⟨_,hl,.inl ⟨rfl,?_⟩⟩;rw [Ap8];intro v hv;obtain ⟨j,hj,rfl⟩:=Ao3 hv;have:=ha j hj;unfold gb at this
  grind
 .refine⟨_,hl,.inr ⟨k,rfl,?_⟩⟩;rw [List.any_eq_true];refine⟨_,Api (Ai hk),?_⟩
  grind
theorem OP (c:List Int) (n:Nat):((c.drop n).any λv=>decide (¬ v=0)) = !(rz c n):=by
 unfold rz
 grind
theorem Ag7 {l:List Int} (hl:l.length<=1048576):A6 l=some (l.any λv=>decide (¬ v=0)):=by
 unfold A6 BP;obtain ⟨r,hr,h⟩:=Ku A7 (λv=>decide (¬ v=0)) l (λk hk=>by
  unfold A7 JJ gX wI;dsimp only;rw [iy O,iy O,AoE,Ai hk,AoC,AoC,Ah O]
  grind) (by
  unfold A7 gX wI;simp)
 rw [hr,AoC];rcases h with⟨rfl,h⟩ | ⟨k,rfl,h⟩
 .rw [h];rfl
 simp_all
theorem AeL {l:List Int} (hl:l.length<=1048576):A3 l=some (l.any λv=>decide (¬ v=0)):=by
 unfold A3 BK;obtain ⟨r,hr,h⟩:=Ku A4 (λv=>decide (¬ v=0)) l (λk hk=>by
  unfold A4 I8 gX wI;dsimp only;rw [iy O,iy O,AoE,Ai hk,AoC,AoC,Ah O]
  grind) (by
  unfold A4 gX wI;simp)
 rw [hr,AoC];rcases h with⟨rfl,h⟩ | ⟨k,rfl,h⟩
 .rw [h];rfl
 simp_all
def num (c:List Int) (i:Nat):Int:=gb c i * 256+gb c (i+1)
theorem AmC {c:List Int} (h:U8s c) (i:Nat):0<=num c i/\num c i<=65535:=by
 have h1:=Ec h i;have h2:=Ec h (i+1);unfold num;omega
theorem Ang {a b:Int} (ha:0<=a/\a<=255) (hb:0<=b/\b<=255):(((BitVec.ofInt (IntKind.bits .i64) (a * 256) ||| BitVec.ofInt (IntKind.bits .i64) b).toNat:Nat):Int)=a * 256+b:=by
 obtain ⟨n,rfl⟩:=AoX ha.1;obtain ⟨m,rfl⟩:=AoX hb.1;have h1:(n:Int) * 256=((256 * n:Nat):Int):=O
 rw [h1,BitVec.ofInt_natCast,BitVec.ofInt_natCast,BitVec.toNat_or,BitVec.toNat_ofNat,BitVec.toNat_ofNat,show IntKind.bits .i64=64 from rfl,Aqv O,Aqv O];have h2:=Nat.two_pow_add_eq_or_of_lt (i:=8) (b:=m) O n
 grind
theorem GL {c:List Int} (hu:U8s c) {i:Nat} (h:i+1 < c.length) (hi:i<=1048576):CL c (i:Int)=some (num c i):=by
 have u1:=Ec hu i;have u2:=Ec hu (i+1);unfold CL cZ gX wI;rw [iy O,AoE,Ai O,AoC,iy O,Ah hi,iy O,AoE,Ai h,AoC,
  show(2:Int) ^ (min (Int.toNat 8) (IntKind.bits .i64))=256 from rfl,w64 (n:=gb c i) O O,w64 (n:=gb c i * 256) O O,w64 (n:=gb c (i+1)) O O,Ang u1 u2,w64 O O]
 rfl
abbrev Pc:=Int×(Int×List UInt8)
def Er (b:Bls) (a:Int):List UInt8:=AL (((blk b a.toNat).drop 3).take (gb (blk b a.toNat) 2).toNat)
def CQ (b:Bls) (a:Int):Pc:=(a,gb (blk b a.toNat) 1,Er b a)
def pcG (c:List Int):Bool:=decide (gb c 0=83) && (decide (1<=gb c 1/\gb c 1<=250) && (decide (1<=gb c 2/\gb c 2<=40) && rz c (3+(gb c 2).toNat)))
def pcB (b:Bls) (x y:List Int) (a:Int):Bool:=liv b x y a && pcG (blk b a.toNat)
theorem Vv {b:Bls} {x y z:List Int} (g:RS b x y) (a:Int):Gz (b,x,y,z) a=some (if pcB b x y a=true then(true,CQ b a)else(false,0,0,[])):=by
 unfold Gz pcB gX sX wI;rw [L3 g,AoC];cases hl:liv b x y a with
 | false=>rfl
 | true=>
  obtain ⟨m,rfl,h33,hm,_,_⟩:=Cy hl;have hc:=g.len hm;have u1:=g.u8 hm 1;have u2:=g.u8 hm 2;unfold pcG CQ Er;rw [AoE];rw [AoH Z];dsimp only;generalize hcc:blk b m=c at *;have hbm:b[m]?=some c:=by rw [Bj hm,hcc]
  rw [iy O,hbm,AoC,iy O,show Int.toNat 0=0 from rfl,Ai O,AoC,AoC];dsimp only;by_cases h0:gb c 0=83
  .rw [decide_eq_true h0,AoH Aoz,iy O,AoE,hbm,AoC,iy O,show Int.toNat 1=1 from rfl,Ai O,AoC,iy O,show Int.toNat 2=2 from rfl,Ai O,AoC,
    w64 (n:=gb c 1) O O,w64 (n:=gb c 2) O O,AE,AoC]
   by_cases h1:1<=gb c 1/\gb c 1<=250
   .rw [decide_eq_true h1,AoH Z,AE,AoC];by_cases h2:1<=gb c 2/\gb c 2<=40
    .obtain ⟨k,hk⟩:=AoX u2.1;rw [hk]at h2 ⊢;rw [decide_eq_true h2,AoH Z,show(3:Int)+(k:Int)=((3+k:Nat):Int) by omega,w64 (n:=((3+k:Nat):Int)) O O,iy O,iy O,iy O,iy O];simp only [AoE];rw [Ao5 (show(List.drop (3+k) c).length<=c.length - (3+k) by simp),Ag7 (by grind),OP,AoC,AoC];dsimp only;cases hr:rz c (3+k)with
     | false=>rfl
     | true=>
      rw [AoH Z,iy O,show(3:Int)+(k:Int)=((3+k:Nat):Int) by omega,w64 (n:=((3+k:Nat):Int)) O O,iy O,iy O,iy O,AoE,
       (O:3+k - Int.toNat 3=k)]
      rfl
    grind
   grind
  grind
end Go.V.G
set_option maxRecDepth 100000
namespace Go.V.G
open Go.V
def pcs (b:Bls) (x y:List Int) (c:List Int) (n:Nat):Nat->List Int->Nat->Option (List Int)
 | 0,out,_=>some out
 | f+1,out,k=>if(pcB b x y (num c (2+2 * k)) && (decide (k+1 < n->gb (blk b (num c (2+2 * k)).toNat) 2=40) && !decide (num c (2+2 * k)∈out)))=true then pcs b x y c n f (out++[num c (2+2 * k)]) (k+1)else none
theorem Un {a b:Int} (ha:0<=a/\a<=255) (hb:0<=b/\b<=255):IntKind.wrap .i64 ((IntKind.wrap .i64 ((IntKind.wrap .i64 a) * 256))+(IntKind.wrap .i64 b))=a * 256+b:=by
 rw [w64 (n:=a) O O,w64 (n:=a * 256) O O,w64 (n:=b) O O,w64 O O]
theorem Abi {k:Nat} (h:k<=1048576):IntKind.wrap .i64 (2+(IntKind.wrap .i64 (2 * (k:Int))))=((2+2 * k:Nat):Int):=by
 rw [w64 (n:=2 * (k:Int)) O O,w64 O O];omega
theorem Aou {k:Nat} (h:k<=1048576):IntKind.wrap .i64 (3+(IntKind.wrap .i64 (2 * (k:Int))))=((3+2 * k:Nat):Int):=by
 rw [w64 (n:=2 * (k:Int)) O O,w64 O O];omega
theorem Ym {b:Bls} {x y z c out:List Int} {n k:Nat} (g:RS b x y) (hc:c.length=128) (hu:U8s c) (hn:n<=3) (hk:k < n) (ho:out.length<=3) :
  EB (c,(n:Int),out,(k:Int),b,x,y,z) =
   some (if(pcB b x y (num c (2+2 * k)) && (decide (k+1 < n->gb (blk b (num c (2+2 * k)).toNat) 2=40) && !decide (num c (2+2 * k)∈out)))=true then .inl (c,(n:Int),out++[num c (2+2 * k)],((k+1:Nat):Int),b,x,y,z)else .inr (.inr false)):=by
 have e1:=Abi (k:=k) O;have e2:=Aou (k:=k) O;have u1:=Ec hu (2+2 * k);have u2:=Ec hu (3+2 * k);have ea:=Un u1 u2;have en:num c (2+2 * k)=gb c (2+2 * k) * 256+gb c (3+2 * k):=by unfold num;grind
 unfold EB pcB cK gX wI;dsimp only;rw [iy O,e1,e2,iy O,AoE,Ai O,AoC,iy O,AoE,Ai O,AoC,ea,<- en];have hroom:∀v:Int,Aa (List.length out+List.length ([v]:List Int)) 8=true:=λv=>by simp only [Aa,decide_eq_true_eq,AoP];omega
 generalize num c (2+2 * k)=a;rw [Nq g,AoC];cases hl:liv b x y a with
 | false=>rfl
 | true=>
  obtain ⟨m,rfl,h33,hm,_,_⟩:=Cy hl;have hc2:=g.len hm;have v1:=g.u8 hm 1;have v2:=g.u8 hm 2;rw [AoH Z,HF O,AoC,AoC];dsimp only;by_cases hmem:(m:Int)∈out
  .grind
  rw [decide_eq_false hmem,AoH Z,iy O,AoE,Bj hm,AoC];unfold pcG;generalize blk b m=d at *;have w2:IntKind.wrap .i64 (gb d 2)=gb d 2:=w64 O O;rw [iy O,show Int.toNat 2=2 from rfl,Ai O,AoC,iy O,show Int.toNat 0=0 from rfl,Ai O,AoC];rw [w2];by_cases h0:gb d 0=83
  .rw [decide_eq_true h0,AoH Aoz,iy O,show Int.toNat 1=1 from rfl,Ai O,AoC,w64 (n:=gb d 1) O O,Cm,AoC];by_cases h1:1<=gb d 1/\gb d 1<=250
   .rw [decide_eq_true h1,AoH Z,Cm,AoC];by_cases h2:1<=gb d 2/\gb d 2<=40
    .obtain ⟨j,hj⟩:=AoX v2.1;rw [hj]at h2 ⊢;rw [decide_eq_true h2,AoH Z,show(3:Int)+(j:Int)=((3+j:Nat):Int) by omega,w64 (n:=((3+j:Nat):Int)) O O,RY O O,AoE,w64 (n:=(n:Int) - 1) O O,AoC];have hr:∀q:Bool,(if q=true then some (Sum.inr (Sum.inr false))else
       if Aa (out.length + [(m:Int)].length) 8=true then some (Sum.inl (c,(n:Int),out++[(m:Int)],IntKind.wrap .i64 ((k:Int)+1),b,x,y,z))else none :
       Option ((List Int×(Int×(List Int×(Int×(List (List Int)×(List Int×(List Int×List Int)))))))⊕((List Int×(Int×List Int))⊕Bool))) =
       some (if(!q)=true then .inl (c,(n:Int),out++[(m:Int)],((k+1:Nat):Int),b,x,y,z)else .inr (.inr false)):=λq=>by
      cases q with
      | true=>rfl
      | false=>rw [AoH Z,AoJ (hroom _),Ah O];rfl
     grind
    grind
   grind
  grind
theorem Qs {b:Bls} {x y z c:List Int} {n:Nat} (g:RS b x y) (hc:c.length=128) (hu:U8s c) (hn:n<=3):∀(f k:Nat) (out:List Int),k+f=n->out.length<=k->
  Ab EB (c,(n:Int),out,(k:Int),b,x,y,z)=some (match pcs b x y c n f out k with | some l=>.inl (c,(n:Int),l) | none=>.inr false)
 | 0,k,out,hk,ho=>by
  rw [Ay];unfold EB pcs cK gX wI
  grind
 | f+1,k,out,hk,ho=>by
  have hs:=Ym (z:=z) (k:=k) (out:=out) g hc hu hn O O;unfold pcs;by_cases h:(pcB b x y (num c (2+2 * k)) && (decide (k+1 < n->gb (blk b (num c (2+2 * k)).toNat) 2=40) && !decide (num c (2+2 * k)∈out)))=true
  .rw [AoJ h]at hs;rw [Ay,hs,AoJ h];exact Qs g hc hu hn f (k+1) _ O Aoz
  .rw [AoH h]at hs;rw [Ay,hs,AoH h]
theorem Ae5 {l:List Pc} (hl:l.length<=1048576) (a s:Int) (t:List UInt8) :
  Aj l a s t=some (decide (a∈l.map (·.1)),a,s,t):=by
 unfold Aj Ar;rcases BV Am (λk=>(l,(l.length:Int),((k:Nat):Int),a,s,t)) (λk=>!(decide ((l[k]?.getD (0,0,[])).1=a))) (λk=>(((k:Nat):Int),a,s,t)) (a,s,t) l.length (λk hk=>by
  unfold Am I9 gX wI;dsimp only;rw [iy O,iy O,AoE,AoF hk,AoC,AoC,Ah O,Apo]
  grind) (by
  unfold Am gX wI;simp)with⟨h1,h2⟩ | ⟨k,hk,h1,_,h2⟩
 .have:a∉l.map (·.1):=by
   intro hm;obtain ⟨p,hp,he⟩:=Ao0.1 hm;obtain ⟨j,hj,rfl⟩:=Ao3 hp
   grind
  grind
 .have:a∈l.map (·.1):=by
   grind
  simp_all
theorem AlB {b:Bls} {x y:List Int} (g:RS b x y) {m:Nat} (hm:m < b.length) (h:gb (blk b m) 2<=40):(List.length (Er b (m:Int)):Int)=gb (blk b m) 2:=by
 have hc:=g.len hm;have u2:=g.u8 hm 2;unfold Er AL
 grind
theorem Yu {b:Bls} {x y z c out:List Int} {n k:Nat} (g:RS b x y) (hc:c.length=128) (hu:U8s c) (hn:n<=3) (hk:k < n) (ho:out.length<=3) :
  Dm ((b,x,y,z),c,(n:Int),out.map (CQ b),(n:Int),(k:Int)) =
   some (if(pcB b x y (num c (2+2 * k)) && (decide (k+1 < n->gb (blk b (num c (2+2 * k)).toNat) 2=40) && !decide (num c (2+2 * k)∈out)))=true then .inl ((b,x,y,z),c,(n:Int),(out++[num c (2+2 * k)]).map (CQ b),(n:Int),((k+1:Nat):Int))else .inr (.inr false)):=by
 have e1:=Abi (k:=k) O;unfold Dm cK wI;dsimp only;rw [iy O,e1,GL hu O O,AoC,Vv g];generalize num c (2+2 * k)=a;rw [AoC,Ah O];cases hp:pcB b x y a with
 | false=>rfl
 | true=>
  have hl:liv b x y a=true:=by unfold pcB at hp;grind
  obtain ⟨m,rfl,h33,hm,_,_⟩:=Cy hl;have h40:gb (blk b m) 2<=40:=by
   unfold pcB pcG at hp
   grind
  have ht:=AlB g hm h40;have hmap:((out.map (CQ b)).map (·.1))=out:=by rw [ApF];exact List.map_id out
  have hroom:∀v:Pc,Aa (List.length (out.map (CQ b))+List.length ([v]:List Pc)) 32=true:=λv=>by simp only [Aa,decide_eq_true_eq,AoP,Ao9];omega
  rw [AoJ rfl];dsimp only;rw [AoH Z,Ae5 (by grind),hmap,AoC];dsimp only;rw [show(CQ b (m:Int)).1=(m:Int) from rfl,show(CQ b (m:Int)).2.2=Er b (m:Int) from rfl,AoE];have hr:∀q:Bool,(if q=true then some (Sum.inr (Sum.inr false))else
    if Aa ((out.map (CQ b)).length + [(((m:Int)),(CQ b (m:Int)).2.1,Er b (m:Int))].length) 32=true then some (Sum.inl ((b,x,y,z),c,(n:Int),out.map (CQ b)++[(((m:Int)),(CQ b (m:Int)).2.1,Er b (m:Int))],(n:Int),IntKind.wrap .i64 ((k:Int)+1)))else none :
    Option (((List (List Int)×(List Int×(List Int×List Int)))×(List Int×(Int×(List (Int×(Int×List UInt8))×(Int×Int)))))⊕(List (Int×(Int×List UInt8))⊕Bool))) =
    some (if(!q)=true then .inl ((b,x,y,z),c,(n:Int),(out++[(m:Int)]).map (CQ b),(n:Int),((k+1:Nat):Int))else .inr (.inr false)):=λq=>by
   cases q with
   | true=>rfl
   | false=>
    rw [AoH Z,AoJ (hroom _),Ape,Ah O];rfl
  by_cases h4:k+1 < n
  .rw [iy O,ht];by_cases h5:gb (blk b m) 2=40
   .rw [ino O,AoC];dsimp only;rw [hr]
    grind
   .rw [iy O,AoC]
    grind
  .rw [ino O,AoC];dsimp only;rw [hr]
   grind
theorem Qz {b:Bls} {x y z c:List Int} {n:Nat} (g:RS b x y) (hc:c.length=128) (hu:U8s c) (hn:n<=3):∀(f k:Nat) (out:List Int),k+f=n->out.length<=k->
  Ab Dm ((b,x,y,z),c,(n:Int),out.map (CQ b),(n:Int),(k:Int))=some (match pcs b x y c n f out k with | some l=>.inl (l.map (CQ b)) | none=>.inr false)
 | 0,k,out,hk,ho=>by
  rw [Ay];unfold Dm pcs cK wI
  grind
 | f+1,k,out,hk,ho=>by
  have hs:=Yu (z:=z) (k:=k) (out:=out) g hc hu hn O O;unfold pcs;by_cases h:(pcB b x y (num c (2+2 * k)) && (decide (k+1 < n->gb (blk b (num c (2+2 * k)).toNat) 2=40) && !decide (num c (2+2 * k)∈out)))=true
  .rw [AoJ h]at hs;rw [Ay,hs,AoJ h];exact Qz g hc hu hn f (k+1) _ O Aoz
  .rw [AoH h]at hs;rw [Ay,hs,AoH h]
def ptx (b:Bls) (x y:List Int) (root:Int):Option (List Int):=
 if(liv b x y root && (decide (gb (blk b root.toNat) 0=84) && (decide (gb (blk b root.toNat) 1<=3) && rz (blk b root.toNat) (2+2 * (gb (blk b root.toNat) 1).toNat))))=true then
  pcs b x y (blk b root.toNat) (gb (blk b root.toNat) 1).toNat (gb (blk b root.toNat) 1).toNat [] 0 else none
theorem Te {b:Bls} {x y z:List Int} (g:RS b x y) (root:Int):∃l':List Int,Jz b x y z root=some (match ptx b x y root with | some l=>(l,true) | none=>(l',false)):=by
 unfold Jz ptx gX wI;rw [Nq g,AoC];cases hl:liv b x y root with
 | false=>simp
 | true=>
  obtain ⟨m,rfl,h33,hm,_,_⟩:=Cy hl;have hc:=g.len hm;have hu:=g.hu _ (BG hm);rw [AoE,AoH Z,AoT];have hbm:=Bj hm;generalize blk b m=c at *;have u1:=Ec hu 1;rw [iy O,hbm,AoC,iy O,show Int.toNat 0=0 from rfl,Ai O,AoC];by_cases h0:gb c 0=84
  .rw [decide_eq_true h0,AoH Aoz,iy O,AoC,iy O,show Int.toNat 1=1 from rfl,Ai O,AoC,AoC];rw [AoE,hbm,AoT];by_cases h3:gb c 1<=3
   .obtain ⟨n,hn⟩:=AoX u1.1;rw [ino O,iy O,AoC,iy O,Ai O,AoC,decide_eq_true h3,AoT,hn,w64 O O,AoE];have hL:Ab EB (c,(n:Int),[],0,b,x,y,z)=_:=Qs g hc hu O n 0 [] O Z;rw [hL,AoC];have e1:=Abi (k:=n) O;cases hp:pcs b x y c n n [] 0 with
    | none=>simp
    | some l=>
     refine⟨l,?_⟩;dsimp only;rw [e1,RY O O,AoC]
     grind
   .exact⟨[],by grind⟩
  simp_all
theorem Tt {b:Bls} {x y z:List Int} (g:RS b x y) (root:Int):Ej (b,x,y,z) root=some (match ptx b x y root with | some l=>(l.map (CQ b),true) | none=>([],false)):=by
 unfold Ej ptx gX sX wI;rw [L3 g,AoC];cases hl:liv b x y root with
 | false=>rfl
 | true=>
  obtain ⟨m,rfl,h33,hm,_,_⟩:=Cy hl;have hc:=g.len hm;have hu:=g.hu _ (BG hm);rw [AoE,AoH Z,AoT];have hbm:=Bj hm;dsimp only;generalize blk b m=c at *;have u1:=Ec hu 1;rw [iy O,hbm,AoC,iy O,show Int.toNat 0=0 from rfl,Ai O,AoC,AoC];dsimp only;by_cases h0:gb c 0=84
  .obtain ⟨n,hn⟩:=AoX u1.1;rw [decide_eq_true h0,AoH Aoz,iy O,AoE,hbm,AoC,iy O,show Int.toNat 1=1 from rfl,Ai O,AoC,AoT,hn,w64 (n:=(n:Int)) O O];have e1:=Abi (k:=n) O;by_cases h3:(n:Int)<=3
   .rw [ino O,e1,iy O,iy O,iy O,iy O,decide_eq_true h3,AoT];simp only [AoE];rw [Ao5 (show(List.drop (2+2 * n) c).length<=c.length - (2+2 * n) by simp),AeL (by grind),OP,AoC,AoC];dsimp only;cases hr:rz c (2+2 * n)with
    | false=>rfl
    | true=>
     have hL:Ab Dm ((b,x,y,z),c,(n:Int),[],(n:Int),0)=_:=Qz g hc hu O n 0 [] O Z
     grind
   grind
  grind
end Go.V.G
set_option maxRecDepth 100000
namespace Go.V.G
open Go.V
noncomputable def pt (z:List Int) (n:Int):List Int:=(CY z n).getD []
theorem NT {z:List Int} (hz:z.length<=1048576) (hr:Ris z) (n:Int):CY z n=some (pt z n)/\E1 z n=some (pt z n)/\(pt z n).length<=z.length+1/\Ris (pt z n)/\∀v,v∈pt z n↔v∈z\/v=n:=by
 obtain ⟨z',h1,h2,h3,h4,h5⟩:=Rl hz hr n;have e:pt z n=z':=by unfold pt;rw [h1];rfl
 grind
def DW (d:List Int):List Int:=d++List.replicate (128 - d.length) 0
theorem Aii {d:List Int} (h:d.length<=128):(DW d).length=128:=by unfold DW;simp;omega
theorem Ad7 {l:List Int} (h:U8s l):AA (AL l)=l:=by
 unfold AL AA;rw [ApF]
 conv=>rhs;rw [<- List.map_id l]
 refine Aps λv hv=>?_
 obtain ⟨h0,h1⟩:=h v hv;obtain ⟨n,rfl⟩:=AoX h0;simp only [Function.comp,AoE,id];rw [UInt8.toNat_ofNat_of_lt' (by grind)]
theorem AfR {b:Bls} {x y c:List Int} {n:Nat}:∀(f k:Nat) (out l:List Int),pcs b x y c n f out k=some l->(∀a∈out,pcB b x y a=true)->out.Nodup->
  (∀a∈l,pcB b x y a=true)/\l.Nodup/\l.length=out.length+f
 | 0,k,out,l,h,h1,h2=>by
  unfold pcs at h
  grind
 | f+1,k,out,l,h,h1,h2=>by
  unfold pcs at h;split at h
  .rename_i hc;obtain ⟨r1,r2,r3⟩:=AfR f (k+1) _ l h (λa ha=>by
    grind) (by
    grind)
   grind
  .cases h
structure Pcs (b:Bls) (x y l:List Int):Prop where
 all:∀a∈l,pcB b x y a=true
 nd:l.Nodup
 len:l.length<=3
theorem Hz {b:Bls} {x y:List Int} {root:Int} {l:List Int} (h:ptx b x y root=some l):Pcs b x y l/\liv b x y root=true/\gb (blk b root.toNat) 0=84/\root∉l:=by
 unfold ptx at h;split at h
 .rename_i hc;simp only [AoI,decide_eq_true_eq]at hc;obtain ⟨h1,h2,h3,_⟩:=hc;obtain ⟨r1,r2,r3⟩:=AfR _ 0 [] l h (λa ha=>by cases ha) List.nodup_nil;refine⟨⟨r1,r2,by grind⟩,h1,h2,λhm=>?_⟩;have:=r1 root hm;unfold pcB pcG at this
  grind
 .cases h
theorem Mj {b:Bls} {x y:List Int} {a:Int} (h:pcB b x y a=true):∃m:Nat,a=(m:Int)/\33<=m/\m < b.length/\bit x m=true/\(m:Int)∉y/\pcG (blk b m)=true:=by
 unfold pcB at h;simp only [AoI]at h;obtain ⟨m,rfl,h1,h2,h3,h4⟩:=Cy h.1
 grind
def cat (b:Bls) (l:List Int):List UInt8:=l.flatMap (Er b)
theorem Z7 (b:Bls) {l:List Int} {k:Nat} (h:k < l.length):cat b (l.take (k+1))=cat b (l.take k)++Er b l[k]:=by
 unfold cat;rw [AoL h,ApY];simp
theorem Ad6 (b:Bls) {x y:List Int} {a:Int} (h:pcB b x y a=true):(Er b a).length<=40:=by
 obtain ⟨m,rfl,_,_,_,_,hg⟩:=Mj h;unfold pcG at hg;unfold Er AL
 grind
theorem UH {b:Bls} {x y:List Int}:∀{l:List Int},(∀a∈l,pcB b x y a=true)->(cat b l).length<=40 * l.length
 | [],_=>by simp [cat]
 | a::l,h=>by
  have h1:=Ad6 b (h a Z);have h2:=UH (l:=l) λv hv=>h v (by simp [hv])
  have e:cat b (a::l)=Er b a++cat b l:=by simp [cat]
  grind
theorem UQ {b:Bls} {x y z:List Int} (g:RS b x y) {a:Int} (h:pcB b x y a=true):Lk b x y z a=some (Er b a):=by
 obtain ⟨m,rfl,h33,hm,_,_,hg⟩:=Mj h;have hc:=g.len hm;have v2:=g.u8 hm 2;unfold pcG at hg;simp only [AoI,decide_eq_true_eq]at hg;unfold Lk Er gX sX wI;have hbm:=Bj hm;rw [AoE];generalize blk b m=c at *;obtain ⟨n,hn⟩:=AoX v2.1;rw [iy O,hbm,AoC,iy O,AoC,iy O,show Int.toNat 2=2 from rfl,Ai O,AoC,hn,w64 (n:=(n:Int)) O O,
  show(3:Int)+(n:Int)=((3+n:Nat):Int) by omega,w64 O O,iy O,iy O,iy O,iy O,AoE,AoE,(O:3+n - Int.toNat 3=n)]
 rfl
def tin (b:Bls) (x y:List Int) (root:Int):List UInt8×(List Int×Bool):=match ptx b x y root with
 | some l=>(cat b l,l++[root],true)
 | none=>([],[],false)
theorem SZ {b:Bls} {x y z:List Int} (g:RS b x y) (root:Int):Qk b x y z root=some (tin b x y root):=by
 obtain ⟨l',h⟩:=Te (z:=z) g root;unfold Qk tin cK;rw [h,AoC];cases hp:ptx b x y root with
 | none=>rfl
 | some l=>
  obtain ⟨⟨hall,hnd,hlen⟩,_⟩:=Hz hp;rw [AoH Z];have hL:=Af Iq (λk=>(root,l,cat b (l.take k),(l.length:Int),((k:Nat):Int),b,x,y,z)) l.length (root,l,cat b l) (λk hk=>by
   have hpk:=hall _ (AoR hk);have h1:=UH (b:=b) (x:=x) (y:=y) (l:=l.take k) λv hv=>hall v (ApL hv)
   have h2:=Ad6 b hpk;rw [AoQ]at h1;unfold Iq cK cZ wI;dsimp only;rw [iy O,iy O,iy O,AoS,AoE,AoF hk,AoC,UQ g hpk,AoC,iy O,Ah O,Z7 b hk]) (by
   unfold Iq cK cZ wI;simp)
  have hL':Ab Iq (root,l,([]:List UInt8),(l.length:Int),0,b,x,y,z)=_:=hL;rw [hL',AoC];rw [AoJ (by simp only [Aa,decide_eq_true_eq,AoP];omega)]
theorem GS.rs {b:Bls} {x y z:List Int} (g:GS b x y z) (h:SB b x y z) (hu:∀c∈b,U8s c):RS b x y:=⟨g.hb,g.hk,hu,g.hx,h.y⟩
end Go.V.G
set_option maxRecDepth 100000
namespace Go.V.G
open Go.V
abbrev Wst:=Bls×(List Int×List Int)
structure Ws (n:Nat) (s:Wst) (q:Nat):Prop where
 hn:s.1.length=n
 hk:∀c∈s.1,c.length=128
 hu:∀c∈s.1,U8s c
 hy:Ris s.2.1
 hz:Ris s.2.2
 ly:s.2.1.length<=q
 lz:s.2.2.length<=q
theorem Ws.more {n q r:Nat} {s:Wst} (h:Ws n s q) (hr:q<=r):Ws n s r:=⟨h.hn,h.hk,h.hu,h.hy,h.hz,Ao2 h.ly hr,Ao2 h.lz hr⟩
theorem Ma {b:Bls} {i j:Nat} {c:List Int} (h:i≠j):blk (b.set i c) j=blk b j:=by unfold blk;grind
theorem VJ {b:Bls} {i:Nat} {c:List Int} (h:i < b.length):blk (b.set i c) i=c:=by unfold blk;grind
theorem Ws.setB {n q:Nat} {s:Wst} (h:Ws n s q) (hq:q<=1048000) {i:Nat} {c:List Int} (hc:c.length=128) (hu:U8s c):Ws n (s.1.set i c,s.2.1,pt s.2.2 (i:Int)) (q+1):=by
 have hl:=h.lz;have hl2:=h.ly;obtain ⟨_,_,h3,h4,_⟩:=NT (z:=s.2.2) O h.hz (i:Int);exact⟨by rw [List.length_set];exact h.hn,λd hd=>by
  rcases ApA hd with hd | rfl
  .exact h.hk d hd
  .exact hc,λd hd=>by
  rcases ApA hd with hd | rfl
  .exact h.hu d hd
  .exact hu,h.hy,h4,by grind,by grind⟩
theorem GS.ws {b:Bls} {x y z:List Int} (g:GS b x y z) (hu:∀c∈b,U8s c):Ws b.length (b,y,z) 127:=by
 have hb:=g.hb;obtain ⟨r1,r2⟩:=Ht g.hy;obtain ⟨r3,r4⟩:=Ht g.hz;have l1:y.length<=127:=SP r1 (λi hi=>by grind);have l2:z.length<=127:=SP r3 (λi hi=>by grind);exact⟨rfl,g.hk,hu,r1,r3,l1,l2⟩
theorem Ws.w {n q:Nat} {s:Wst} (h:Ws n s q) (hn:n<=160) (hq:q<=1000) {x:List Int} (hx:x.length=20):Adq s.1 x s.2.1 s.2.2<=5000000:=by
 have hw:∀l:Bls,(∀c∈l,c.length=128)->Ez Ck l=l.length * 128:=by
  intro l
  induction l with
  | nil=>intro _;rfl
  | cons c l ih=>
   simp only [Ez,AoV];have e:Ck c=c.length:=rfl
   grind
 have h1:=hw s.1 h.hk;have h2:=h.hn;have h3:=h.ly;have h4:=h.lz;unfold Adq CP Ck ZC;unfold Ck at h1;omega
end Go.V.G
set_option maxRecDepth 100000
namespace Go.V.G
open Go.V
def CT:Nat->List UInt8->List (List UInt8)
 | 0,_=>[]
 | f+1,t=>if t=[]then []else t.take 40::CT f (t.drop 40)
theorem Gf:∀f t,(CT f t).length<=f
 | 0,_=>by simp [CT]
 | f+1,t=>by
  unfold CT;split
  .simp
  .have:=Gf f (t.drop 40);simp;omega
theorem Aht (f:Nat):CT f []=[]:=by cases f <;> rfl
theorem Aji {n m:Nat} (h:n+m<=1000):Aa (n+m) 16=true:=by simp only [Aa,decide_eq_true_eq];omega
theorem Vh:∀(f:Nat) (t:List UInt8) (out:List (List UInt8)),t.length<=40 * f->out.length+f<=900->Ab KE (t,out)=some (out++CT f t)
 | 0,t,out,h,ho=>by
  obtain rfl:t=[]:=List.length_eq_zero_iff.1 O;rw [Ay];unfold KE cK sX;simp [CT]
 | f+1,t,out,h,ho=>by
  by_cases ht:t=[]
  .subst ht;rw [Ay];unfold KE cK sX;simp [CT]
  .have hp:=Aqs.2 ht;have hmin:(if(t.length:Int) < 40 then(t.length:Int)else 40)=((min t.length 40:Nat):Int):=O
   have e1:(List.drop (min t.length 40) t).take (t.length - min t.length 40)=t.drop 40:=by
    by_cases hl:t.length<=40
    .simp_all
    .rw [Nat.min_eq_right O];exact Ao5 Z
   have e2:(List.drop (Int.toNat 0) t).take (min t.length 40 - Int.toNat 0)=t.take 40:=by
    grind
   have hs:KE (t,out)=some (.inl (t.drop 40,out++[t.take 40])):=by
    unfold KE cK sX;simp only [hmin];simp only [AoE,e1,e2,AoJ (Aji (n:=out.length) (m:=([t.take 40]:List (List UInt8)).length) Aoz)]
    grind
   rw [Ay,hs];dsimp only;rw [Vh f _ _ (by grind) Aoz,CT,AoH ht,AoN];rfl
theorem YS {t:List UInt8} (h:t.length<=120):YM t=some (CT 3 t):=by
 unfold YM;rw [Vh 3 t [] O Z];rfl
theorem Vd:∀(f:Nat) (t:List UInt8) (out:List (List UInt8)),t.length<=40 * f->out.length+f<=900->∃v,Ab J3 (t,out)=some v/\(if v.1=[]then v.2 else v.2++[v.1])=out++CT f t/\v.2.length<=900
 | 0,t,out,h,ho=>by
  obtain rfl:t=[]:=List.length_eq_zero_iff.1 O;refine⟨([],out),?_,by simp [CT],O⟩;rw [Ay];rfl
 | f+1,t,out,h,ho=>by
  by_cases ht:40 < t.length
  .have hne:t≠[]:=by grind
   obtain ⟨v,h1,h2,h3⟩:=Vd f (t.drop 40) (out++[t.take 40]) (by grind) Aoz;refine⟨v,?_,?_,h3⟩
   .have e1:(List.drop (Int.toNat 40) t).take (Int.toNat (t.length:Int) - Int.toNat 40)=t.drop 40:=by
     rw [AoE,show Int.toNat 40=40 from rfl];exact Ao5 Z
    have e2:(List.drop (Int.toNat 0) t).take (Int.toNat 40 - Int.toNat 0)=t.take 40:=rfl;have hs:J3 (t,out)=some (.inl (t.drop 40,out++[t.take 40])):=by
     unfold J3 cK sX;simp only [e1,e2,AoJ (Aji (n:=out.length) (m:=([t.take 40]:List (List UInt8)).length) Aoz)]
     grind
    rw [Ay,hs];exact h1
   .rw [h2,CT,AoH hne,AoN];rfl
  .refine⟨(t,out),?_,?_,by grind⟩
   .rw [Ay];unfold J3 cK sX
    grind
   .dsimp only;unfold CT;split
    .simp
    .rw [Ao5 O,ApW O,Aht]
theorem Aa0 {t:List UInt8} (h:t.length<=120):SG t=some (CT 3 t):=by
 unfold SG cK;obtain ⟨v,h1,h2,h3⟩:=Vd 3 t [] O Z;rw [h1,AoC];rw [Ao6]at h2;by_cases hv:v.1=[]
 .grind
 .rw [AoH hv]at h2;rw [AoJ (by simp [hv]),AoJ (Aji Aoz),h2];rfl
def shr (b:Bls) (hv:List Int) (k:Nat) (p:List UInt8):Int:=match hv[k]? with
 | some a=>if Er b a=p/\gb (blk b a.toNat) 1 < 250 then a else 0
 | none=>0
def shs (b:Bls) (hv:List Int) (ps:List (List UInt8)):List Int:=(List.range ps.length).map λk=>shr b hv k (ps[k]?.getD [])
theorem H8 (b:Bls) (hv:List Int) (ps:List (List UInt8)):(shs b hv ps).length=ps.length:=by simp [shs]
theorem Ac5 (b:Bls) (hv:List Int) {ps:List (List UInt8)} {k:Nat} (h:k < ps.length):(shs b hv ps)[k]?=some (shr b hv k ps[k]):=by
 unfold shs
 grind
theorem AaW (b:Bls) (hv:List Int) {ps:List (List UInt8)} {k:Nat} (h:k < ps.length):(shs b hv ps).take (k+1)=(shs b hv ps).take k++[shr b hv k ps[k]]:=by
 have hk:k < (shs b hv ps).length:=by rw [H8];exact h
 have e:=Ac5 b hv h;rw [AoF hk]at e;rw [AoL hk,ApT e]
def pcN (b:Bls) (a:Int) (p:List UInt8):Pc:=if a=0 then(0,0,p)else CQ b a
def pcl (b:Bls) (sh:List Int) (ps:List (List UInt8)):List Pc:=(List.range ps.length).map λk=>pcN b (sh[k]?.getD 0) (ps[k]?.getD [])
def flg (sh:List Int):List Bool:=sh.map λa=>decide (¬ a=0)
theorem V9 (b:Bls) (sh:List Int) (ps:List (List UInt8)):(pcl b sh ps).length=ps.length:=by simp [pcl]
theorem AkI (b:Bls) (sh:List Int) {ps:List (List UInt8)} {k:Nat} (h:k < ps.length):(pcl b sh ps)[k]?=some (pcN b (sh[k]?.getD 0) ps[k]):=by
 unfold pcl
 grind
theorem Ajp (b:Bls) (sh:List Int) {ps:List (List UInt8)} {k:Nat} (h:k < ps.length):(pcl b sh ps).take (k+1)=(pcl b sh ps).take k++[pcN b (sh[k]?.getD 0) ps[k]]:=by
 have hk:k < (pcl b sh ps).length:=by rw [V9];exact h
 have e:=AkI b sh h;rw [AoF hk]at e;rw [AoL hk,ApT e]
theorem Ai1 (b:Bls) (hv:List Int) {ps:List (List UInt8)} {k:Nat} (h:k < ps.length):(flg (shs b hv ps)).take (k+1)=(flg (shs b hv ps)).take k++[decide (¬ shr b hv k ps[k]=0)]:=by
 unfold flg;rw [<- List.map_take,AaW b hv h,Ape,List.map_take];rfl
theorem Qx {b:Bls} {x y z hv:List Int} (g:RS b x y) (hp:Pcs b x y hv) {ps:List (List UInt8)} (hps:ps.length<=3) :
  Ab GE (hv,[],ps,(ps.length:Int),0,b,x,y,z)=some (shs b hv ps):=by
 have hL:=Af GE (λk=>(hv,(shs b hv ps).take k,ps,(ps.length:Int),((k:Nat):Int),b,x,y,z)) ps.length (shs b hv ps) (λk hk=>by
  have hr:∀v:Int,Aa (((shs b hv ps).take k).length+([v]:List Int).length) 8=true:=λv=>by
   simp only [Aa,decide_eq_true_eq,AoQ,H8,AoP];omega
  rw [AaW b hv hk];unfold GE cK cZ gX wI;dsimp only;rw [iy O,iy O,iy O,AoS,AoE,AoF hk,AoC];unfold shr;by_cases hkv:k < hv.length
  .have hpk:=hp.all _ (AoR hkv);rw [iy O,iy O,iy O,AoF hkv,AoC,UQ g hpk,AoC];obtain ⟨m,hm,h33,hmb,_,_,hg⟩:=Mj hpk;rw [hm];have hc:=g.len hmb;dsimp only;rw [AoE];by_cases he:Er b (m:Int)=ps[k]
   .have hgk:hv[k]?=some (m:Int):=by grind
    rw [AoJ (by grind)];by_cases h2:gb (blk b m) 1 < 250
    .rw [AoJ (show Er b (m:Int)=ps[k]/\gb (blk b m) 1 < 250 from⟨he,h2⟩)];simp (disch:=omega) only [iy,AoC,AoE,Bj hmb,show Int.toNat 1=1 from rfl,Ai (O:1 < (blk b m).length),AoS,hgk,hr,AoU,eq_self,Ah]
    .rw [AoH (show ¬ (Er b (m:Int)=ps[k]/\gb (blk b m) 1 < 250) from λhh=>h2 hh.2)];simp (disch:=omega) only [iy,ino,AoC,AoE,Bj hmb,show Int.toNat 1=1 from rfl,Ai (O:1 < (blk b m).length),AoS,hgk,hr,AoU,eq_self,Ah]
   .rw [AoH (by grind),AoC];dsimp only;rw [AoH Z,AoH (show ¬ (Er b (m:Int)=ps[k]/\gb (blk b m) 1 < 250) from λhh=>he hh.1),AoC,AoJ (hr _),Ah O]
  .have hgk:hv[k]?=none:=App O;simp (disch:=omega) only [ino,hgk,AoC,hr,AoU,eq_self,Ah,AoO,Apa]) (by
  unfold GE cK cZ gX wI;dsimp only;rw [ino O,Ao5 (by rw [H8];omega)])
 exact hL
theorem QD {b:Bls} {x y hv:List Int} (hp:Pcs b x y hv) {ps:List (List UInt8)} (hps:ps.length<=3) :
  Ab D0 (hv.map (CQ b),[],[],ps,(ps.length:Int),0)=some (pcl b (shs b hv ps) ps,flg (shs b hv ps)):=by
 have hL:=Af D0 (λk=>(hv.map (CQ b),(pcl b (shs b hv ps) ps).take k,(flg (shs b hv ps)).take k,ps,(ps.length:Int),((k:Nat):Int))) ps.length (pcl b (shs b hv ps) ps,flg (shs b hv ps)) (λk hk=>by
  have hr:∀v:Pc,Aa (((pcl b (shs b hv ps) ps).take k).length+([v]:List Pc).length) 32=true:=λv=>by
   simp only [Aa,decide_eq_true_eq,AoQ,V9,AoP];omega
  have hr2:∀v:Bool,Aa (((flg (shs b hv ps)).take k).length+([v]:List Bool).length) 1=true:=λv=>by
   unfold flg;simp only [Aa,decide_eq_true_eq,AoQ,Ao9,H8,AoP];omega
  rw [Ajp b _ hk,Ai1 b hv hk,Ac5 b hv hk,Apo];unfold D0 cK cZ wI;dsimp only;rw [iy O,iy O,iy O,AoS,AoE,AoF hk,AoC,Ao9];unfold pcN;by_cases hkv:k < hv.length
  .have hpk:=hp.all _ (AoR hkv);have hg:(hv.map (CQ b))[k]?=some (CQ b hv[k]):=by grind
   obtain ⟨m,hm,h33,hmb,_,_,_⟩:=Mj hpk;rw [iy O,iy O,iy O,hg,AoC,AoC];rw [show(CQ b hv[k]).2.2=Er b hv[k] from rfl];by_cases he:Er b hv[k]=ps[k]
   .have e21:(CQ b hv[k]).2.1=gb (blk b hv[k].toNat) 1:=rfl;rw [AoJ (by grind)];by_cases h2:gb (blk b hv[k].toNat) 1 < 250
    .have hs:shr b hv k ps[k]=hv[k]:=by unfold shr;grind
     rw [hs,AoH (O:¬ hv[k]=0),decide_eq_true (O:¬ hv[k]=0)];simp (disch:=omega) only [iy,AoC,AoE,AoS,hg,e21,hr,hr2,AoU,eq_self,Ah,Ao9];rfl
    .have hs:shr b hv k ps[k]=0:=by unfold shr;grind
     rw [hs,AoJ rfl];simp (disch:=omega) only [iy,ino,AoC,AoE,AoS,hg,e21,hr,hr2,AoU,eq_self,Ah,Ao9];rfl
   .have hs:shr b hv k ps[k]=0:=by unfold shr;grind
    rw [AoH (by grind),hs,AoJ rfl];simp (disch:=omega) only [AoC,hr,hr2,AoU,eq_self,Ah,AoO,Apa];rfl
  .have hs:shr b hv k ps[k]=0:=by unfold shr;grind
   rw [hs,AoJ rfl];simp (disch:=omega) only [ino,Ao9,AoC,hr,hr2,AoU,eq_self,Ah,AoO,Apa];rfl) (by
  unfold D0 cK cZ wI;dsimp only;rw [ino O,Ao5 (by rw [V9];omega),Ao5 (by unfold flg;rw [Ao9,H8];omega)])
 exact hL
def JB (b:Bls) (x y:List Int) (near:Int):Option (List Int):=if near=0 then some []else ptx b x y near
theorem Ais {b:Bls} {x y hv:List Int} {near:Int} (h:JB b x y near=some hv):Pcs b x y hv:=by
 unfold JB at h;split at h
 .cases h;exact⟨λa ha=>(by cases ha),List.nodup_nil,Z⟩
 .exact(Hz h).1
theorem Aca {b:Bls} {x y z hv:List Int} {near:Int} {t:List UInt8} (g:RS b x y) (h:JB b x y near=some hv) (ht:t.length<=120):LM b x y z t near=some (shs b hv (CT 3 t)):=by
 have hp:=Ais h;unfold LM;unfold JB at h;by_cases hn:near=0
 .rw [AoJ hn]at h;cases h;rw [ino O,AoC];rw [Aa0 ht,AoC,Qx g hp (Gf _ _)];rfl
 .rw [AoH hn]at h;obtain ⟨l',e⟩:=Te (z:=z) g near;rw [h]at e;rw [iy hn,e,AoC,AoC];rw [Aa0 ht,AoC,Qx g hp (Gf _ _)];rfl
theorem Acl {b:Bls} {x y z:List Int} {near:Int} {t:List UInt8} (g:RS b x y) (ht:t.length<=120):Fi (b,x,y,z) t near =
  some (match JB b x y near with | some hv=>(pcl b (shs b hv (CT 3 t)) (CT 3 t),flg (shs b hv (CT 3 t)),true) | none=>([],[],false)):=by
 unfold Fi JB;by_cases hn:near=0
 .have hp:Pcs b x y []:=⟨λa ha=>(by cases ha),List.nodup_nil,Z⟩
  have e:=QD hp (ps:=CT 3 t) (Gf _ _);rw [AqC]at e;rw [ino O,AoC,AoJ hn];dsimp only;rw [YS ht,AoC,e];rfl
 .have e:=Tt (z:=z) g near;rw [iy hn,e,AoC,AoH hn];cases hp:ptx b x y near with
  | none=>rfl
  | some hv=>
   rw [AoH Z,AoC];dsimp only;rw [YS ht,AoC,QD (Hz hp).1 (Gf _ _)];rfl
def zs (l:List Int):Nat:=l.countP λa=>decide (a=0)
theorem Yl {b:Bls} {x y z hv:List Int} {near:Int} {t:List UInt8} (g:RS b x y) (h:JB b x y near=some hv) (ht:t.length<=120):JR b x y z t near=some ((zs (shs b hv (CT 3 t))+1:Nat):Int):=by
 have hl:(shs b hv (CT 3 t)).length<=3:=by rw [H8];exact Gf _ _
 unfold JR;rw [Aca g h ht,AoC];generalize shs b hv (CT 3 t)=l at *;have hL:=Af ET (λk=>(((zs (l.take k)+1:Nat):Int),l,(l.length:Int),((k:Nat):Int))) l.length (((zs l+1:Nat):Int)) (λk hk=>by
  have hz:zs (l.take k)<=3:=Ao2 List.countP_le_length (by grind);have e:zs (l.take (k+1))=zs (l.take k)+if l[k]=0 then 1 else 0:=by
   unfold zs;rw [AoL hk,List.countP_append];simp
  unfold ET cK cZ wI;dsimp only;rw [iy O,iy O,iy O,AoS,AoE,AoF hk,AoC,e];by_cases h0:l[k]=0
  .rw [iy h0,AoC,AoJ h0];rw [Ah O,Ah O]
  .rw [ino h0,AoC,AoH h0];rw [Ah O]) (by
  unfold ET cK cZ wI;simp)
 have hL':Ab ET (1,l,(l.length:Int),0)=_:=hL;rw [hL'];rfl
end Go.V.G
set_option maxRecDepth 100000
namespace Go.V.G
open Go.V
theorem Wk.lay {n lz:Nat} {b:Bls} {x z c:List Int} (h:Wk n b x z lz) (hlz:lz<=1048000) (hc:c.length=128) (k:Nat):Wk n (b.set k c) x (pt z (k:Int)) (lz+1):=by
 have hz:=h.hz;obtain ⟨_,_,h3,h4,_⟩:=NT (z:=z) O h.hr (k:Int);exact⟨h.hn,by rw [List.length_set];exact h.hb,λd hd=>by
  rcases ApA hd with hd | rfl
  .exact h.hk d hd
  .exact hc,h.hx,h.hu,h.hlow,h4,O⟩
structure Sh (b:Bls) (x y sh:List Int) (ps:List (List UInt8)):Prop where
 len:sh.length=ps.length
 m3:ps.length<=3
 pc:∀p∈ps,1<=p.length/\p.length<=40
 at_:∀j,j < ps.length->sh[j]?=some 0\/∃m:Nat,sh[j]?=some (m:Int)/\pcB b x y (m:Int)=true/\Er b (m:Int)=ps[j]?.getD []/\gb (blk b m) 1 < 250
 ne:∀(i j:Nat) (v:Int),i < j->sh[i]?=some v->sh[j]?=some v->v=0
structure Li (n:Nat) (b:Bls) (x z sh:List Int) (ps:List (List UInt8)) (k:Nat) (A:List Int) (b':Bls) (x' z':List Int) (q:Nat):Prop where
 wk:Wk n b' x' z' q
 bu:∀c∈b',U8s c
 len:A.length=k
 nd:A.Nodup
 at_:∀j,j < k->∃m:Nat,A[j]?=some (m:Int)/\(33<=m/\m < n)/\bit x' m=true/\
  ((sh[j]?=some 0/\bit x m=false/\blk b' m=DW ([83,1,(((ps[j]?.getD []).length:Nat):Int)]++AA (ps[j]?.getD [])))\/(sh[j]?=some (m:Int)/\blk b' m=(blk b m).set 1 (gb (blk b m) 1+1)))
 oth:∀i,i < 160->((i:Nat):Int)∉A->blk b' i=blk b i/\bit x' i=bit x i
 up:∀i,i < 160->bit x i=true->bit x' i=true
 zm:∀v∈z',v∈z\/v∈A
 ct:cnt x' n+zs (sh.take k)=cnt x n
theorem Li.mem {n k q:Nat} {b b':Bls} {x z sh x' z' A:List Int} {ps:List (List UInt8)} (h:Li n b x z sh ps k A b' x' z' q) {a:Int} (ha:a∈A):∃j m:Nat,j < k/\a=(m:Int)/\A[j]?=some (m:Int)/\(33<=m/\m < n)/\bit x' m=true/\
  ((sh[j]?=some 0/\bit x m=false)\/sh[j]?=some (m:Int)):=by
 obtain ⟨j,hj,he⟩:=Ao3 ha;have hl:=h.len;obtain ⟨m,h1,h2,h3,h4⟩:=h.at_ j O
 grind
theorem Alt {d:List Int} (h:U8s d):U8s (DW d):=λv hv=>by
 rcases AoK.1 hv with hv | hv
 .exact h v hv
 grind
def npc (p:List UInt8):List Int:=[83,1,(p.length:Int)]++AA p
theorem Aks {l:List Int} {k:Nat} {a:Int} (h:l[k]?=some a):zs (l.take (k+1))=zs (l.take k)+if a=0 then 1 else 0:=by
 obtain ⟨hk,he⟩:=Apt.1 h;unfold zs;rw [AoL hk,List.countP_append,he];simp
theorem w8d {m:Nat} (h:m < 160):IntKind.wrap .u8 (IntKind.wrap .i64 (Int.tdiv (m:Int) 256))=0:=by
 rw [Ap5 O,w64 O O,wub O O];omega
theorem Ahn {m:Nat} (h:m < 160):JY (m:Int)=some [0,(m:Int)]:=by
 unfold JY cZ wB;rw [iy O,show(2:Int) ^ (min (Int.toNat 8) (IntKind.bits .i64))=256 from rfl,Aqi _ O,wub (r:=(m:Int)) O O,wub O O]
 grind
end Go.V.G
set_option maxRecDepth 100000
namespace Go.V.G
open Go.V
def ats (m:Nat) (A:List Int):List Int:=[84,(m:Int)]++A.flatMap λa=>[0,a]
theorem AmK {l:List Int} (k:Nat):zs (l.take k)<=zs l:=List.Sublist.countP_le (List.take_sublist k l)
structure Lt (n:Nat) (b:Bls) (x z sh:List Int) (ps:List (List UInt8)) (A:List Int) (r:Nat) (b':Bls) (x' z':List Int) (q:Nat):Prop where
 wk:Wk n b' x' z' q
 bu:∀c∈b',U8s c
 len:A.length=ps.length
 nd:A.Nodup
 rt:(33<=r/\r < n)/\bit x r=false/\bit x' r=true/\blk b' r=DW (ats ps.length A)/\(r:Int)∉A
 at_:∀j,j < ps.length->∃m:Nat,A[j]?=some (m:Int)/\(33<=m/\m < n)/\bit x' m=true/\
  ((sh[j]?=some 0/\bit x m=false/\blk b' m=DW (npc (ps[j]?.getD [])))\/(sh[j]?=some (m:Int)/\blk b' m=(blk b m).set 1 (gb (blk b m) 1+1)))
 oth:∀i,i < 160->((i:Nat):Int)∉A->i≠r->blk b' i=blk b i/\bit x' i=bit x i
 up:∀i,i < 160->bit x i=true->bit x' i=true
 zm:∀v∈z',v∈z\/v∈A\/v=(r:Int)
 ct:cnt x' n+zs sh+1=cnt x n
theorem GS.wk {b:Bls} {x y z:List Int} (g:GS b x y z) (hu:U8s x):Wk b.length b x z 127:=by
 obtain ⟨r1,r2⟩:=Ht g.hz;have hb:=g.hb;exact⟨g.hb,rfl,g.hk,g.hx,hu,λk hk=>by
  have:=g.hbits k O;unfold bG at this
  grind,r1,SP r1 (λi hi=>by grind)⟩
end Go.V.G
set_option maxRecDepth 100000
namespace Go.V.G
open Go.V
structure TkI (n:Nat) (b:Bls) (x z l:List Int) (b':Bls) (x' z':List Int):Prop where
 nd:l.Nodup
 fr:∀v∈l,∃k:Nat,v=(k:Int)/\(33<=k/\k < n)/\bit x k=false/\bit x' k=true
 oth:∀i,i < 160->((i:Nat):Int)∉l->blk b' i=blk b i/\bit x' i=bit x i
 up:∀i,i < 160->bit x i=true->bit x' i=true
 zm:∀v∈z',v∈z\/v∈l
 bu:∀c∈b',U8s c
theorem ZF:U8s IE:=λv hv=>by
 unfold IE at hv
 grind
def own (data:List Int) (i:Nat):List Int:=(data.drop (124 * i)).take 124
structure Lr (n:Nat) (b:Bls) (x z data l:List Int) (b':Bls) (x' z':List Int):Prop where
 wk:Wk n b' x' z' 200
 bu:∀c∈b',U8s c
 len:l.length=nd data.length
 nd:l.Nodup
 at_:∀j,j < l.length->∃k:Nat,l[j]?=some (k:Int)/\(33<=k/\k < n)/\bit x k=false/\bit x' k=true/\blk b' k=Am0 data l j
 oth:∀i,i < 160->((i:Nat):Int)∉l->blk b' i=blk b i/\bit x' i=bit x i
 up:∀i,i < 160->bit x i=true->bit x' i=true
 zm:∀v∈z',v∈z\/v∈l
 ct:cnt x' n+l.length=cnt x n
theorem AeV {l:List Int} (hl:l.length<=1048576):Au l=some (l.any λv=>decide (¬ v=0)):=by
 unfold Au BJ;obtain ⟨r,hr,h⟩:=Ku AZ (λv=>decide (¬ v=0)) l (λk hk=>by
  unfold AZ IW gX wI;dsimp only;rw [iy O,iy O,AoE,Ai hk,AoC,AoC,Ah O]
  grind) (by
  unfold AZ gX wI;simp)
 rw [hr,AoC];rcases h with⟨rfl,h⟩ | ⟨k,rfl,h⟩
 .rw [h];rfl
 simp_all
theorem AkZ {d:List Int} (n:Nat) (h:n=d.length):rz (DW d) n=true:=by
 subst h;unfold rz DW;simp
end Go.V.G
set_option maxRecDepth 100000
namespace Go.V.G
open Go.V
def B2 (c:List Int):List Int:=(List.range 32).map λk=>num c (1+2 * k)
theorem F4 (c:List Int):(B2 c).length=32:=by simp [B2]
def pgB (b:Bls) (x y:List Int) (a kind:Int):Bool:=liv b x y a && (decide (gb (blk b a.toNat) 0=kind) && rz (blk b a.toNat) 65)
def pg (b:Bls) (x y:List Int) (a kind:Int):List Int×Bool:=if pgB b x y a kind=true then(B2 (blk b a.toNat),true)else([],false)
theorem YK {b:Bls} {x y:List Int} {a kind:Int} (h:pgB b x y a kind=false):pg b x y a kind=([],false):=by unfold pg;rw [h];rfl
theorem Vf {b:Bls} {x y:List Int} {a kind:Int} (h:pgB b x y a kind=true):pg b x y a kind=(B2 (blk b a.toNat),true):=by unfold pg;rw [h];rfl
theorem AlJ {k:Nat} (h:k<=1048576):IntKind.wrap .i64 (1+(IntKind.wrap .i64 (2 * (k:Int))))=((1+2 * k:Nat):Int):=by
 rw [w64 (n:=2 * (k:Int)) O O,w64 O O];omega
theorem Z1 {α:Type} (f:Nat->α) (k:Nat):(List.range (k+1)).map f=(List.range k).map f++[f k]:=by rw [Aqb,Ape];rfl
theorem GG {α:Type} (f:Nat->α) (k:Nat):((List.range k).map f).length=k:=by simp
theorem AbO {b:Bls} {x y z c:List Int} {m k:Nat} (hbm:b[m]?=some c) (hc:c.length=128) (hu:U8s c) (hk:k < 32) :
  Ei ((m:Int),(List.range k).map (λk=>num c (1+2 * k)),((k:Nat):Int),b,x,y,z)=some (.inl ((m:Int),(List.range (k+1)).map (λk=>num c (1+2 * k)),((k+1:Nat):Int),b,x,y,z)):=by
 have e1:=AlJ (k:=k) O;have e2:=Abi (k:=k) O;have u1:=Ec hu (1+2 * k);have u2:=Ec hu (2+2 * k);have ea:=Un u1 u2;have en:num c (1+2 * k)=gb c (1+2 * k) * 256+gb c (2+2 * k):=by unfold num;rw [(O:1+2 * k+1=2+2 * k)]
 have g1:c[1+2 * k]?=some (gb c (1+2 * k)):=Ai O;have g2:c[2+2 * k]?=some (gb c (2+2 * k)):=Ai O;have hroom:∀v:Int,Aa (((List.range k).map (λk=>num c (1+2 * k))).length+([v]:List Int).length) 8=true:=λv=>by simp only [Aa,decide_eq_true_eq,GG,AoP];omega
 unfold Ei cK gX wI;dsimp only;simp (disch:=omega) only [iy,e1,e2,AoE,hbm,AoC,g1,g2,ea,<- en,Ah,hroom,AoU,Z1]
theorem Aga {c l:List Int} {k:Nat} (hl:l.length<=1048576) (hk:k < l.length):Dt (c,l,(l.length:Int),(k:Int))=some (if decide (gb l k=0)=true then .inl (c,l,(l.length:Int),((k+1:Nat):Int))else .inr (.inr false)):=by
 unfold Dt gX wI;dsimp only;rw [iy O,iy O,AoE,Ai hk,AoC,Ah O];by_cases h:gb l k=0 <;> simp [h]
theorem RO (l:List Int) (p:Int->Bool):(∀j,j < l.length->p (gb l j)=true)↔l.all p=true:=by
 rw [Apb];constructor
 .intro h v hv;obtain ⟨j,hj,rfl⟩:=Ao3 hv;have:=h j hj;unfold gb at this
  rwa [AoF hj,Apo]at this
 .intro h j hj;exact h _ (Api (Ai hj))
theorem Rg {b:Bls} {x y z:List Int} (g:RS b x y) (a kind:Int):Ir b x y z a kind=some (pg b x y a kind):=by
 unfold Ir pg pgB gX sX;rw [Nq g,AoC];cases hl:liv b x y a with
 | false=>rfl
 | true=>
  obtain ⟨m,rfl,h33,hm,_,_⟩:=Cy hl;have hc:=g.len hm;have hu:=g.hu _ (BG hm);have hbm:=Bj hm;rw [AoE];generalize hcc:blk b m=c at *;rw [AoH Z,iy O,hbm,AoC,iy O,show Int.toNat 0=0 from rfl,Ai (O:0 < c.length),AoC,AoC];dsimp only;by_cases h0:gb c 0=kind
  .rw [ino (not_not_intro h0),decide_eq_true h0];have hloop:=Af Ei (λk=>((m:Int),(List.range k).map (λk=>num c (1+2 * k)),((k:Nat):Int),b,x,y,z)) 32 ((m:Int),B2 c,b,x,y,z)
    (λk hk=>AbO hbm hc hu hk) (by
     unfold Ei cK gX wI;dsimp only;rw [ino O];rfl)
   rw [show Ab Ei ((m:Int),[],0,b,x,y,z)=_ from hloop,AoC];dsimp only;have hd:List.take (Int.toNat (c.length:Int) - Int.toNat 65) (List.drop (Int.toNat 65) c)=c.drop 65:=by
    rw [AoE,show Int.toNat 65=65 from rfl];exact Ao5 (by rw [Apr];omega)
   rw [iy O,AoE,hbm,AoC,iy O,iy O,iy O,iy O,hd];have hdl:(c.drop 65).length=63:=by rw [Apr,hc]
   rcases BV Dt (λk=>(B2 c,c.drop 65,(((c.drop 65).length:Nat):Int),((k:Nat):Int))) (λk=>decide (gb (c.drop 65) k=0)) (λ_=>false) (B2 c) (c.drop 65).length
    (λk hk=>Aga O hk) (by
     unfold Dt gX wI;dsimp only;rw [ino O])with⟨ha,hlp⟩ | ⟨k,hk,hp,_,hlp⟩
   .have hr:rz c 65=true:=(RO (c.drop 65) λv=>decide (v=0)).1 ha;rw [show Ab Dt (B2 c,c.drop 65,(((c.drop 65).length:Nat):Int),0)=_ from hlp,AoC,hr];rfl
   .have hr:rz c 65=false:=by
     cases h:rz c 65 with
     | false=>rfl
     | true=>
      have:=(RO (c.drop 65) λv=>decide (v=0)).2 h k hk;rw [hp]at this;cases this
    rw [show Ab Dt (B2 c,c.drop 65,(((c.drop 65).length:Nat):Int),0)=_ from hlp,AoC,hr];rfl
  .rw [iy h0,decide_eq_false h0];rfl
theorem Ai3 {l:List Int} (hl:l.length<=1048576):Bc l=some (l.any λv=>decide (¬ v=0)):=by
 unfold Bc BR;obtain ⟨r,hr,h⟩:=Ku Ba (λv=>decide (¬ v=0)) l (λk hk=>by
  unfold Ba Kq gX wI;dsimp only;rw [iy O,iy O,AoE,Ai hk,AoC,AoC,Ah O];by_cases hz:gb l k=0 <;> simp [hz]) (by
  unfold Ba gX wI;dsimp only;rw [ino O])
 rw [hr,AoC];rcases h with⟨rfl,h⟩ | ⟨k,rfl,h⟩
 .rw [h];rfl
 .rw [h];dsimp only;rw [AoC,decide_eq_true O]
theorem XE {b:Bls} {x y z:List Int} (g:RS b x y) (a kind:Int):Hc (b,x,y,z) a kind=some (pg b x y a kind):=by
 unfold Hc pg pgB gX sX;rw [L3 g,AoC];cases hl:liv b x y a with
 | false=>rfl
 | true=>
  obtain ⟨m,rfl,h33,hm,_,_⟩:=Cy hl;have hc:=g.len hm;have hu:=g.hu _ (BG hm);have hbm:=Bj hm;rw [AoE];generalize hcc:blk b m=c at *;rw [AoH Z];dsimp only;rw [iy O,hbm,AoC,iy O,show Int.toNat 0=0 from rfl,Ai (O:0 < c.length),AoC,AoC];dsimp only;by_cases h0:gb c 0=kind
  .rw [ino (not_not_intro h0),decide_eq_true h0];have hd:List.take (Int.toNat (c.length:Int) - Int.toNat 65) (List.drop (Int.toNat 65) c)=c.drop 65:=by
    rw [AoE,show Int.toNat 65=65 from rfl];exact Ao5 (by rw [Apr];omega)
   rw [iy O,AoE,hbm,AoC,iy O,iy O,iy O,iy O,hd,Ai3 (by rw [Apr];omega),OP,AoC];cases hr:rz c 65 with
   | false=>rfl
   | true=>
    have hloop:=Af EU (λk=>(c,(List.range k).map (λk=>num c (1+2 * k)),((k:Nat):Int))) 32 (B2 c) (λk hk=>by
     have e1:=AlJ (k:=k) O;have hn:=GL hu (i:=1+2 * k) O O;have hroom:∀v:Int,Aa (((List.range k).map (λk=>num c (1+2 * k))).length+([v]:List Int).length) 8=true:=λv=>by simp only [Aa,decide_eq_true_eq,GG,AoP];omega
     unfold EU cK wI;dsimp only;simp (disch:=omega) only [iy,e1,hn,AoC,Ah,hroom,AoU,Z1]) (by
     unfold EU cK wI;dsimp only;rw [ino O];rfl)
    rw [AoH Z,show Ab EU (c,[],0)=_ from hloop,AoC];rfl
  .rw [iy h0,decide_eq_false h0];rfl
def nz (l:List Int):Bool:=l.any λv=>decide (¬ v=0)
theorem T4 {l:List Int} (hl:l.length<=1048576):Mr l=some (nz l):=by
 unfold Mr nz;rcases BV HZ (λk=>(l,(l.length:Int),((k:Nat):Int))) (λk=>decide (gb l k=0)) (λ_=>true) () l.length (λk hk=>by
  unfold HZ gX wI;dsimp only;rw [iy O,iy O,AoE,Ai hk,AoC,Ah O];by_cases hz:gb l k=0 <;> simp [hz]) (by
  unfold HZ gX wI;dsimp only;rw [ino O])with⟨ha,hlp⟩ | ⟨k,hk,hp,_,hlp⟩
 .rw [show Ab HZ (l,(l.length:Int),0)=_ from hlp,AoC];have:=(RO l λv=>decide (v=0)).1 ha;refine congrArg some (Eq.symm ?_);rw [Ap8];intro v hv;have:=Apb.1 this v hv;simpa using this
 .rw [show Ab HZ (l,(l.length:Int),0)=_ from hlp,AoC];refine congrArg some (Eq.symm ?_);rw [List.any_eq_true];exact⟨_,Api (Ai hk),by simpa using hp⟩
theorem LP {l:List Int} (hl:l.length<=1048576):DL l=some (!nz l):=by
 unfold DL B0 Cp nz;obtain ⟨r,hr,h⟩:=Ku Bw (λv=>decide (¬ v=0)) l (λk hk=>by
  unfold Bw Oi gX wI;dsimp only;rw [iy O,iy O,AoE,Ai hk,AoC,AoC,Ah O];by_cases hz:gb l k=0 <;> simp [hz]) (by
  unfold Bw gX wI;dsimp only;rw [ino O])
 rw [hr,AoC];rcases h with⟨rfl,h⟩ | ⟨k,rfl,h⟩
 .rw [h];rfl
 .rw [h];dsimp only;rw [AoC,AoC,decide_eq_true O]
def isb (b:Bls) (x:List Int) (v:Int):Bool:=decide (33<=v/\v<=(b.length:Int) - 1) && bit x v.toNat
theorem Aeb {b:Bls} {x y z:List Int} (g:RS b x y) (v:Int):NA b x y z v=some (isb b x v):=by
 have hn:=g.hn;have hx:=g.hx;unfold NA isb wI;rw [Cm,w64 O O,AoC];by_cases h1:33<=v/\v<=(b.length:Int) - 1
 .obtain ⟨m,rfl⟩:=AoX (O:0<=v);rw [decide_eq_true h1,AoJ rfl,Ls O O,AoC,AoE];rfl
 .rw [decide_eq_false h1];rfl
def Oc (b:Bls) (x:List Int) (l:List Int):Bool:=l.any λv=>decide (¬ v=0) && !isb b x v
theorem Ad3 {b:Bls} {x y z:List Int} (g:RS b x y) (v:Int):H6 v (some (b,x,y,z))=some (decide (¬ v=0) && !isb b x v,some (b,x,y,z)):=by
 unfold H6;by_cases h:v=0
 .rw [ino (not_not_intro h),decide_eq_false (not_not_intro h)];rfl
 .rw [iy h,decide_eq_true h,AoC,QB g,AoC];rfl
theorem AhD {b:Bls} {x y z l:List Int} (g:RS b x y) (hl:l.length<=1048576):Bb l (some (b,x,y,z))=some (l,Oc b x l,some (b,x,y,z)):=by
 unfold Bb BQ Oc;rcases BV AH (λk=>(l,(l.length:Int),((k:Nat):Int),some (b,x,y,z))) (λk=>!(decide (¬ gb l k=0) && !isb b x (gb l k))) (λk=>(l,((k:Nat):Int),some (b,x,y,z))) (l,some (b,x,y,z)) l.length (λk hk=>by
  unfold AH cK cZ wI;dsimp only;rw [iy O,iy O,iy O,AoE,AoS,Ai hk,AoC,Ad3 g,AoC,Ah O];dsimp only;cases (decide (¬ gb l k=0) && !isb b x (gb l k)) <;> rfl) (by
  unfold AH cK cZ wI;dsimp only;rw [ino O])with⟨ha,hlp⟩ | ⟨k,hk,hp,_,hlp⟩
 .rw [show Ab AH (l,(l.length:Int),0,some (b,x,y,z))=_ from hlp,AoC];dsimp only;rw [AoC];have:=(RO l λv=>!(decide (¬ v=0) && !isb b x v)).1 ha;have h2:(l.any λv=>decide (¬ v=0) && !isb b x v)=false:=by
   rw [Ap8];intro v hv;have:=Apb.1 this v hv;rw [Ao7]at this;rw [this];simp
  rw [h2];rfl
 .rw [show Ab AH (l,(l.length:Int),0,some (b,x,y,z))=_ from hlp,AoC];dsimp only;rw [AoC];have h2:(l.any λv=>decide (¬ v=0) && !isb b x v)=true:=by
   rw [List.any_eq_true];exact⟨_,Api (Ai hk),by simpa using hp⟩
  rw [h2,decide_eq_true (show(0:Int)<=((k:Nat):Int) by omega)]
end Go.V.G
set_option maxRecDepth 100000
namespace Go.V.G
open Go.V
theorem Uj {σ τ ρ:Type} (L:σ->Option (σ⊕(τ⊕ρ))) (st:Nat->σ) (l:List Int) (p:Int->Bool) (e:ρ) (z:τ)
  (step:∀k,k < l.length->L (st k)=some (if p (gb l k)=true then .inr (.inr e)else .inl (st (k+1)))) (last:L (st l.length)=some (.inr (.inl z))) :
  Ab L (st 0)=some (if l.any p=true then .inr e else .inl z):=by
 rcases BV L st (λk=>!p (gb l k)) (λ_=>e) z l.length (λk hk=>by grind) last with⟨ha,hlp⟩ | ⟨k,hk,hp,_,hlp⟩
 .have:=(RO l λv=>!p v).1 ha
  grind
 .have h2:l.any p=true:=by
   rw [List.any_eq_true];exact⟨_,Api (Ai hk),by grind⟩
  grind
theorem Sz {α:Type} (n k:Nat) (g h:Nat->α):((List.range n).map (λj=>if j < k then g j else h j)).set k (g k)=(List.range n).map (λj=>if j < k+1 then g j else h j):=by
 apply Apq
 grind
theorem Jc {α:Type} (n:Nat) (f:Nat->α) {k:Nat} (h:k < n):((List.range n).map f)[k]?=some (f k):=by grind
theorem Wv {α:Type} (n:Nat) (g h:Nat->α):(List.range n).map (λj=>if j < n then g j else h j)=(List.range n).map g:=
 Aps λj hj=>AoJ (Aqw.1 hj)
theorem map_none {α:Type} (n:Nat) (g h:Nat->α):(List.range n).map (λj=>if j < 0 then g j else h j)=(List.range n).map h:=
 Aps λj _=>AoH O
theorem AeG {l:List Int} {n:Nat} (h:l.length=n):(List.range n).map (gb l)=l:=by
 apply Apq;intro i;rw [Apl];by_cases hi:i < n
 .rw [List.getElem?_range hi,Ai O];rfl
 grind
def zer:List Int:=List.replicate 32 0
def lfs (b:Bls) (a:Int):List Int:=if a=0 then []else B2 (blk b a.toNat)
def lfv (b:Bls) (a:Int):List Int:=if a=0 then zer else B2 (blk b a.toNat)
theorem WJ (b:Bls) (a:Int):(lfv b a).length=32:=by unfold lfv zer;split <;> simp [F4]
def stG (b:Bls) (x y top:List Int) (k:Nat):Bool:=
 decide (gb top k=0) || (pgB b x y (gb top k) 81 && (nz (B2 (blk b (gb top k).toNat)) && (!(top.take k).any (λv=>decide (v=gb top k)) && !Oc b x (B2 (blk b (gb top k).toNat)))))
def JS (b:Bls) (root:Int):List Int:=B2 (blk b root.toNat)
def tre (b:Bls) (x y:List Int) (root:Int):Option (List Int):=
 if root=0 then some zer else if(pgB b x y root 80 && (nz (JS b root) && (List.range 32).all (stG b x y (JS b root))))=true then some (JS b root)else none
theorem AlR {b:Bls} {x y z top:List Int} {lv:List (List Int)} {a n:Int} {k:Nat} (hk:k<=top.length) (ht:top.length<=1000) :
  Ab Ik (lv,top,(k:Int),a,n,(k:Int),((0:Nat):Int),(k:Int),(k:Int),0,b,x,y,z) =
   some (if(top.take k).any (λv=>decide (v=a))=true then .inr false else .inl (lv,top,(k:Int),a,n,(k:Int),b,x,y,z)):=by
 have hl:(top.take k).length=k:=by grind
 exact Uj Ik (λi=>(lv,top,(k:Int),a,n,(k:Int),((0:Nat):Int),(k:Int),(k:Int),((i:Nat):Int),b,x,y,z)) (top.take k) (λv=>decide (v=a)) false
  (lv,top,(k:Int),a,n,(k:Int),b,x,y,z) (λi hi=>by
   have hi':i < k:=O
   have hg:top[i]?=some (gb (top.take k) i):=by
    rw [<- Ai hi,Apf hi']
   unfold Ik cK cZ wI;simp only [AoE,AoS];rw [hg,AoC,Ah O]
   grind) (by
   rw [hl];unfold Ik cK cZ wI;simp)
theorem Al7 {b:Bls} {x y z top l:List Int} {lv:List (List Int)} {n:Int} {i j:Int} (g:RS b x y) (hl:l.length<=1000) :
  Ab Ig (lv,top,i,l,n,j,(l.length:Int),0,b,x,y,z)=some (if Oc b x l=true then .inr false else .inl (lv,top,i,l,n,j,b,x,y,z)):=by
 exact Uj Ig (λk=>(lv,top,i,l,n,j,(l.length:Int),((k:Nat):Int),b,x,y,z)) l (λv=>decide (¬ v=0) && !isb b x v) false
  (lv,top,i,l,n,j,b,x,y,z) (λk hk=>by
   unfold Ig cK cZ wI;dsimp only;rw [iy O,iy O,iy O,AoE,AoS,Ai hk,AoC];by_cases h:gb l k=0
   .rw [ino (not_not_intro h),decide_eq_false (not_not_intro h),AoC];rw [Ah O];rfl
   .rw [iy h,decide_eq_true h,Aeb g,AoC,AoC];rw [Ah O]
    grind) (by
   unfold Ig cK cZ wI;simp)
theorem AbM {b:Bls} {x y z top:List Int} {k:Nat} (g:RS b x y) (ht:top.length=32) (hk:k < 32) :
  GJ ((List.range 32).map (λj=>if j < k then lfs b (gb top j)else []),top,((32:Nat):Int),(k:Int),b,x,y,z) =
   some (if stG b x y top k=true then .inl ((List.range 32).map (λj=>if j < k+1 then lfs b (gb top j)else []),top,((32:Nat):Int),((k+1:Nat):Int),b,x,y,z)else .inr (.inr false)):=by
 have hs:=Sz 32 k (λj=>lfs b (gb top j)) (λ_=>[]);have hgt:=Jc 32 (λj=>if j < k then lfs b (gb top j)else []) hk;have hln:((List.range 32).map (λj=>if j < k then lfs b (gb top j)else [])).length=32:=GG _ _;generalize (List.range 32).map (λj=>if j < k then lfs b (gb top j)else [])=lv at *;have hgk:top[k]?=some (gb top k):=Ai O;have hd:((List.drop (Int.toNat 0) top).take (Int.toNat (k:Int) - Int.toNat 0)).length=k:=by
  grind
 have hz0:(((Int.toNat 0:Nat)):Int)=((0:Nat):Int):=rfl;have hzk:(((Int.toNat (k:Int) - Int.toNat 0:Nat)):Int)=(k:Int):=by rfl
 have hdup:=AlR (b:=b) (x:=x) (y:=y) (z:=z) (lv:=lv) (a:=gb top k) (n:=((32:Nat):Int)) (O:k<=top.length) O;unfold GJ cK cZ sX wI;dsimp only;rw [iy O,iy O,iy O,AoE,AoS,hgk,AoC];unfold stG;generalize hak:gb top k=a at *;by_cases h0:a=0
 .rw [iy h0,AoC];dsimp only;rw [Ah O,decide_eq_true h0,Bool.true_or,AoJ rfl,<- hs];refine congrArg some (congrArg Sum.inl ?_);have:lfs b a=[]:=by unfold lfs;grind
  rw [this];refine congrArg (λq=>(q,_)) ?_;apply Apq
  grind
 rw [ino h0,decide_eq_false h0,ApR,iy O,iy O,iy O,iy O];rw [AoE]at hd hzk;rw [hd,hz0,hzk,hdup,AoC];cases hdp:(top.take k).any λv=>decide (v=a)with
 | true=>
  simp
 | false=>
  rw [AoH Z];dsimp only;rw [Rg g,Aqx,AoT];cases hp:pgB b x y a 81 with
  | false=>
   rw [YK hp,AoC];rfl
  | true=>
   rw [Vf hp,AoC];dsimp only;have hpl:=F4 (blk b a.toNat);rw [AoH Z,T4 O,AoC,AoC];dsimp only;rw [AoT];cases hnz:nz (B2 (blk b a.toNat))with
   | false=>
    rfl
   | true=>
    rw [AoH Z,Al7 g O,AoC,AoT];cases hbd:Oc b x (B2 (blk b a.toNat))with
    | true=>
     rfl
    | false=>
     rw [AoH Z];dsimp only;have hg2:lv[0+k]?=some []:=by grind
     rw [iy O,hln,iy O,AoE,hg2,AoC,AoC,AoC,AoS];dsimp only;rw [Ah O,Aqx,AoJ rfl,<- hs];have:lfs b a=B2 (blk b a.toNat):=by unfold lfs;grind
     rw [this]
def trS (b:Bls) (o:Option (List Int)):List (List Int)×(List Int×Bool):=match o with
 | some top=>(top.map (lfs b),top,true)
 | none=>([],[],false)
def trI (b:Bls) (root:Int) (o:Option (List Int)):Bool×(Int×(List Int×List (List Int))):=match o with
 | some top=>(true,root,top,top.map (lfv b))
 | none=>(false,0,[],[])
theorem AaL {α:Type} (f:Int->α) {l:List Int} {n:Nat} (h:l.length=n):(List.range n).map (λj=>f (gb l j))=l.map f:=by
 have:=congrArg (List.map f) (AeG h);rw [ApF]at this;exact this
theorem Ak8:Aa (Int.toNat 32) 24=true:=by rfl
theorem rm8:Aa (Int.toNat 32) 8=true:=by rfl
theorem N4 {b:Bls} {x y z:List Int} (g:RS b x y) (root:Int):IR b x y z root=some (trS b (tre b x y root)):=by
 unfold IR tre cK cZ;rw [iy O,iy O,AoJ Ak8,iy O,iy O,AoJ rm8];by_cases h0:root=0
 .rw [iy h0,AoJ h0];rfl
 rw [ino h0,AoH h0,Rg g];unfold JS;cases hp:pgB b x y root 80 with
 | false=>rw [YK hp];rfl
 | true=>
  rw [Vf hp,AoC];dsimp only;have hpl:=F4 (blk b root.toNat);generalize B2 (blk b root.toNat)=top at *;rw [AoH Z,T4 O,AoC,AoC];dsimp only;rw [AoT];cases hnz:nz top with
  | false=>rfl
  | true=>
   rw [AoH Z,hpl,AoT];have e0:List.replicate (Int.toNat 32) ([]:List Int)=(List.range 32).map (λj=>if j < 0 then lfs b (gb top j)else []):=by
    rfl
   rw [e0];rcases BV GJ (λk=>((List.range 32).map (λj=>if j < k then lfs b (gb top j)else []),top,((32:Nat):Int),((k:Nat):Int),b,x,y,z)) (λk=>stG b x y top k) (λ_=>false)
    ((List.range 32).map (λj=>if j < 32 then lfs b (gb top j)else []),top) 32 (λk hk=>AbM g hpl hk) (by
     rfl)with⟨ha,hlp⟩ | ⟨k,hk,hq,_,hlp⟩
   .rw [show Ab GJ ((List.range 32).map (λj=>if j < 0 then lfs b (gb top j)else []),top,((32:Nat):Int),0,b,x,y,z)=_ from hlp,AoC,AoJ (all_range.2 ha),Wv,AaL _ hpl];rfl
   .have hn:((List.range 32).all (stG b x y top))=false:=by
     grind
    rw [show Ab GJ ((List.range 32).map (λj=>if j < 0 then lfs b (gb top j)else []),top,((32:Nat):Int),0,b,x,y,z)=_ from hlp,AoC,hn];rfl
theorem AbP {b:Bls} {x y z:List Int} (root:Int):Ab GZ (root,(List.length (List.replicate (Int.toNat 32) ([]:List Int)):Int),0,some (b,x,y,z),0,root,List.replicate (Int.toNat 32) (0:Int),List.replicate (Int.toNat 32) ([]:List Int)) =
  some (root,some (b,x,y,z),0,root,zer,List.replicate 32 zer):=by
 have hln:∀k,((List.range 32).map (λj=>if j < k then zer else([]:List Int))).length=32:=λk=>GG _ _
 have hl:=Af GZ (λk=>(root,((32:Nat):Int),((k:Nat):Int),some (b,x,y,z),0,root,zer,(List.range 32).map (λj=>if j < k then zer else []))) 32 (root,some (b,x,y,z),0,root,zer,(List.range 32).map (λj=>if j < 32 then zer else [])) (λk hk=>by
   have hs:=Sz 32 k (λ_=>zer) (λ_=>([]:List Int));have hgt:=Jc 32 (λj=>if j < k then zer else([]:List Int)) hk;have h1:=hln k;generalize (List.range 32).map (λj=>if j < k then zer else([]:List Int))=lv at *;unfold GZ cK cZ wI;dsimp only;rw [iy O,iy O,iy O,AoJ rm8,iy O,h1,iy O,AoE,AoS,hgt,AoC,AoC,Ah O,<- hs];rfl) (by
   rfl)
 assumption
theorem Ab7 {b:Bls} {x y z top:List Int} {root:Int} {k:Nat} (g:RS b x y) (ht:top.length=32) (hk:k < 32) :
  DR (top,((32:Nat):Int),(k:Int),some (b,x,y,z),0,root,(List.range 32).map (λj=>if j < k then gb top j else 0),(List.range 32).map (λj=>if j < k then lfv b (gb top j)else zer)) =
   some (if stG b x y top k=true then .inl (top,((32:Nat):Int),((k+1:Nat):Int),some (b,x,y,z),0,root,(List.range 32).map (λj=>if j < k+1 then gb top j else 0),(List.range 32).map (λj=>if j < k+1 then lfv b (gb top j)else zer))else .inr (.inr (false,0))):=by
 have hs1:=Sz 32 k (λj=>gb top j) (λ_=>(0:Int));have hs2:=Sz 32 k (λj=>lfv b (gb top j)) (λ_=>zer);have hg1:=Jc 32 (λj=>if j < k then gb top j else 0) hk;have hg2:=Jc 32 (λj=>if j < k then lfv b (gb top j)else zer) hk;have hl1:((List.range 32).map (λj=>if j < k then gb top j else 0)).length=32:=GG _ _;have hl2:((List.range 32).map (λj=>if j < k then lfv b (gb top j)else zer)).length=32:=GG _ _;generalize (List.range 32).map (λj=>if j < k then gb top j else 0)=lv at *;generalize (List.range 32).map (λj=>if j < k then lfv b (gb top j)else zer)=vs at *;have hgk:top[k]?=some (gb top k):=Ai O;have hd:(List.drop (Int.toNat 0) top).take (k - Int.toNat 0)=top.take k:=by
  rfl
 rw [AoH O]at hg1 hg2;unfold DR cK cZ sX wI;dsimp only;rw [iy O,iy O,iy O,AoE,AoS,hgk,AoC];unfold stG;generalize hak:gb top k=a at *;by_cases h0:a=0
 .rw [iy h0,AoC];dsimp only;rw [Ah O,decide_eq_true h0,Bool.true_or,AoJ rfl];have e1:lfv b a=zer:=by unfold lfv;grind
  rw [e1]at hs2;rw [h0]at hs1;rw [<- hs1,<- hs2];have q1:lv.set k 0=lv:=by
   apply Apq
   grind
  have q2:vs.set k zer=vs:=by
   apply Apq
   grind
  rw [q1,q2]
 have hpl:=F4 (blk b a.toNat);have e1:lfv b a=B2 (blk b a.toNat):=by unfold lfv;grind
 rw [e1]at hs2;rw [ino h0,decide_eq_false h0,ApR,AoC,XE g];cases hp:pgB b x y a 81 with
 | false=>
  rw [YK hp,AoC];rfl
 | true=>
  rw [Vf hp,AoC];dsimp only;rw [AoH Z,LP O,AoC,AoT];cases hnz:nz (B2 (blk b a.toNat))with
  | false=>
   rfl
  | true=>
   rw [AoH Z,iy O,iy O,iy O,iy O,hd,GO (by grind),AoC,AoT];have hany:((top.take k).any λv=>decide (v=a))=decide (a∈top.take k):=by
    grind
   rw [hany];cases hdp:decide (a∈top.take k)with
   | true=>
    rfl
   | false=>
    rw [AoH Z,AhD g O,AoC,AoC];dsimp only;cases hbd:Oc b x (B2 (blk b a.toNat))with
    | true=>
     rfl
    | false=>
     rw [AoH Z,iy O,hl1,iy O,AoE,AoS,hg1,AoC,AoC,iy O,hl2,iy O,hg2,AoC,AoC,AoC];dsimp only;rw [Ah O,AoJ Z,hs1,hs2]
theorem XP {b:Bls} {x y z:List Int} (g:RS b x y) (root:Int):Hi (b,x,y,z) root=some (trI b root (tre b x y root)):=by
 unfold Hi tre cK cZ;rw [iy O,iy O,AoJ rm8,iy O,iy O,AoJ Ak8,AbP,AoC];by_cases h0:root=0
 .rw [iy h0,AoJ h0];rfl
 rw [ino h0,AoH h0,AoC,XE g];unfold JS;cases hp:pgB b x y root 80 with
 | false=>rw [YK hp];rfl
 | true=>
  rw [Vf hp,AoC];dsimp only;have hpl:=F4 (blk b root.toNat);generalize B2 (blk b root.toNat)=top at *;rw [AoH Z,LP O,AoC,AoC];rw [AoT];cases hnz:nz top with
  | false=>rfl
  | true=>
   rw [AoH Z,hpl,AoT];have e0:zer=(List.range 32).map (λj=>if j < 0 then gb top j else 0):=by
    rfl
   have e1:List.replicate 32 zer=(List.range 32).map (λj=>if j < 0 then lfv b (gb top j)else zer):=by
    rfl
   rw [e1];rcases BV DR (λk=>(top,((32:Nat):Int),((k:Nat):Int),some (b,x,y,z),0,root,(List.range 32).map (λj=>if j < k then gb top j else 0),(List.range 32).map (λj=>if j < k then lfv b (gb top j)else zer))) (λk=>stG b x y top k) (λ_=>(false,0))
    (0,root,(List.range 32).map (λj=>if j < 32 then gb top j else 0),(List.range 32).map (λj=>if j < 32 then lfv b (gb top j)else zer)) 32 (λk hk=>Ab7 g hpl hk) (by
     rfl)with⟨ha,hlp⟩ | ⟨k,hk,hq,_,hlp⟩
   .have hlp':Ab DR (top,((32:Nat):Int),0,some (b,x,y,z),0,root,zer,(List.range 32).map (λj=>if j < 0 then lfv b (gb top j)else zer))=_:=e0 ▸ hlp;rw [hlp',AoC,AoJ (all_range.2 ha),Wv,Wv,AaL _ hpl,AeG hpl];rfl
   .have hn:((List.range 32).all (stG b x y top))=false:=by
     grind
    have hlp':Ab DR (top,((32:Nat):Int),0,some (b,x,y,z),0,root,zer,(List.range 32).map (λj=>if j < 0 then lfv b (gb top j)else zer))=_:=e0 ▸ hlp;rw [hlp',AoC,hn];rfl
theorem IM {b:Bls} {x y z:List Int} (h:SB b x y z) (hu:∀c∈b,U8s c) (root:Int):H7 b x y z root=some (gsp b x y z && (tre b x y root).isSome):=by
 unfold H7;rw [OU h,AoC];cases hg:gsp b x y z with
 | false=>rfl
 | true=>
  rw [AoH Z,N4 ((Po hg).rs h hu),AoC];unfold trS
  grind
end Go.V.G
set_option maxRecDepth 100000
namespace Go.V.G
open Go.V
abbrev Kv:=Int×Int
def sg (l:List Kv) (i:Nat):Kv:=l[i]?.getD (0,0)
theorem HX {l:List Kv} {i:Nat} (h:i < l.length):l[i]?=some (sg l i):=by unfold sg;grind
def Aex (b:Bls) (x y:List Int) (l:List Kv) (i:Nat):Bool:=
 decide (0<=(sg l i).1/\(sg l i).1<=1023) && ((decide ((sg l i).2=0) || liv b x y (sg l i).2) && (decide (i=0) || decide ((sg l (i - 1)).1 < (sg l i).1)))
def Afb (b:Bls) (x y:List Int) (l:List Kv):Bool:=decide (l.length<=64) && (List.range l.length).all (Aex b x y l)
theorem im1 {k:Nat} (h:k<=1048576) (h0:0 < k):IntKind.wrap .i64 ((k:Int) - 1)=((k - 1:Nat):Int):=by rw [w64 O O];omega
def Ks (l:List Kv):Prop:=∀s∈l,0<=s.1/\s.1<=1023
def upd (k:Nat) (l:List Int) (s:Kv):List Int:=if s.1.toNat / 32=k then l.set (s.1.toNat % 32) s.2 else l
def av (b:Bls) (top:List Int) (l:List Kv) (k:Nat):List Int:=l.foldl (upd k) (lfv b (gb top k))
def oth (l:List Kv) (k:Nat):Bool:=l.any λs=>decide (s.1.toNat / 32=k)
def aft (b:Bls) (top:List Int) (l:List Kv) (k:Nat):List Int:=if oth l k=true then av b top l k else lfs b (gb top k)
theorem Bq {α:Type} {l:List α} {i:Nat} {s:α} (h:l[i]?=some s):l.take (i+1)=l.take i++[s]:=by
 obtain ⟨hi,rfl⟩:=Apt.1 h;simp
theorem AcP {b:Bls} {top:List Int} {l:List Kv} {i:Nat} {s:Kv} (h:l[i]?=some s) (k:Nat):av b top (l.take (i+1)) k=upd k (av b top (l.take i) k) s:=by
 unfold av;rw [Bq h,AqE];rfl
theorem ZB {l:List Kv} {i:Nat} {s:Kv} (h:l[i]?=some s) (k:Nat):oth (l.take (i+1)) k=(oth (l.take i) k || decide (s.1.toNat / 32=k)):=by
 unfold oth;rw [Bq h,List.any_append];simp
theorem YD {b:Bls} {top:List Int}:∀{l:List Kv} {k:Nat},oth l k=false->av b top l k=lfv b (gb top k):=by
 intro l k h;unfold av;unfold oth at h;rw [Ap8]at h;generalize lfv b (gb top k)=v
 induction l generalizing v with
 | nil=>rfl
 | cons s l ih=>
  rw [ApU];have h1:=h s Z;have:upd k v s=v:=by unfold upd;grind
  grind
theorem Qw (k:Nat):∀(l:List Kv) (v:List Int),(l.foldl (upd k) v).length=v.length
 | [],v=>rfl
 | s::l,v=>by
  rw [ApU,Qw k l];unfold upd;grind
theorem JE (b:Bls) (top:List Int) (l:List Kv) (k:Nat):(av b top l k).length=32:=by unfold av;rw [Qw,WJ]
theorem AmG (b:Bls) (top:List Int) (l:List Kv) (k:Nat):nz (aft b top l k)=nz (av b top l k):=by
 unfold aft;split
 .rfl
 .rename_i h;rw [YD (by simpa using h)];unfold lfs lfv;split
  .rfl
  .rfl
theorem AdI {α:Type} (n q:Nat) (f g:Nat->α) {v:α} (hv:g q=v) (h:∀k,k≠q->g k=f k):((List.range n).map f).set q v=(List.range n).map g:=by
 apply Apq
 grind
theorem V6 {n:Int} (h:0<=n/\n<=1023):IntKind.wrap .i64 (Int.tdiv n 32)=((n.toNat / 32:Nat):Int)/\n.toNat / 32 < 32:=by
 obtain ⟨m,rfl⟩:=AoX h.1;rw [Ap5 O,AoE,w64 O O];omega
theorem VT {n:Int} (h:0<=n/\n<=1023):Int.tmod n 32=((n.toNat % 32:Nat):Int)/\n.toNat % 32 < 32:=by
 grind
theorem Abq {b:Bls} {top:List Int} {l:List Kv} (hk:Ks l) (hl:l.length<=1000) {i:Nat} (hi:i < l.length) :
  He ((List.range 32).map (aft b top (l.take i)),(List.range 32).map (oth (l.take i)),l,(l.length:Int),(i:Int)) =
   some (.inl ((List.range 32).map (aft b top (l.take (i+1))),(List.range 32).map (oth (l.take (i+1))),l,(l.length:Int),((i+1:Nat):Int))):=by
 have hs:=HX hi;generalize sg l i=s at hs;have hks:=hk s (Api hs);obtain ⟨d1,d2⟩:=V6 hks;obtain ⟨m1,m2⟩:=VT hks;have ho:=ZB hs;have ha:=AcP (b:=b) (top:=top) hs;have g1:=Jc 32 (oth (l.take i)) d2;have g2:=Jc 32 (aft b top (l.take i)) d2;have l1:((List.range 32).map (oth (l.take i))).length=32:=GG _ _;have l2:((List.range 32).map (aft b top (l.take i))).length=32:=GG _ _;have e1:=AdI 32 (s.1.toNat / 32) (oth (l.take i)) (oth (l.take (i+1))) (v:=true) (by rw [ho];simp) (λk hne=>by grind);have hal:=JE b top (l.take i) (s.1.toNat / 32);have e2:=AdI 32 (s.1.toNat / 32) (aft b top (l.take i)) (aft b top (l.take (i+1))) (v:=(av b top (l.take i) (s.1.toNat / 32)).set (s.1.toNat % 32) s.2)
  (by unfold aft;rw [ho,decide_eq_true rfl,Bool.or_true,AoJ rfl,ha];unfold upd;simp)
  (λk hne=>by unfold aft;rw [ho,decide_eq_false (Ne.symm hne),Bool.or_false,ha];unfold upd;grind)
 have hcase:(aft b top (l.take i) (s.1.toNat / 32)=av b top (l.take i) (s.1.toNat / 32))\/(aft b top (l.take i) (s.1.toNat / 32)=[]/\av b top (l.take i) (s.1.toNat / 32)=zer):=by
  unfold aft;cases hq:oth (l.take i) (s.1.toNat / 32)with
  | true=>simp
  | false=>
   rw [AoH Z,YD hq];unfold lfs lfv
   grind
 generalize hA:av b top (l.take i) (s.1.toNat / 32)=A at *;generalize hq:s.1.toNat / 32=q at *;generalize hr:s.1.toNat % 32=r at *;generalize (List.range 32).map (oth (l.take i))=ots at *;generalize (List.range 32).map (aft b top (l.take i))=lvs at *;have hAr:A[r]?=some (gb A r):=Ai O;unfold He cK cZ gX wI;dsimp only;rw [iy O,iy O,AoE,hs,AoC,d1];simp (disch:=omega) only [iy,l1,l2,AoE,AoS,g1,g2,AoC];rcases hcase with hc | ⟨hc,hz⟩
 .rw [hc]at g2;rw [hc,ino O,AoC];dsimp only;simp (disch:=omega) only [m1,iy,l2,AoE,g2,AoC,hal,hAr,Ah,e1,e2]
 .rw [hc];have hset:(lvs.set q zer)[q]?=some A:=by grind
  have hll:(lvs.set q zer).length=32:=by grind
  have hss:(lvs.set q zer).set q (A.set r s.2)=lvs.set q (A.set r s.2):=by simp
  rw [show List.replicate (Int.toNat 32) (0:Int)=zer from rfl];rw [iy (show(((([]:List Int).length:Nat)):Int)=0 from rfl),AoJ rm8,AoC];dsimp only;simp (disch:=omega) only [m1,iy,hll,AoE,hset,AoC,hal,hAr,Ah,e1,e2,hss]
theorem Afa {b:Bls} {x y z top:List Int} {l:List Kv} {root:Int} (g:RS b x y) (ht:tre b x y root=some top) (htl:top.length=32) (hk:Ks l) (hl:l.length<=1000) :
  NB b x y z root l=some ((List.range 32).map (aft b top l),(List.range 32).map (oth l)):=by
 unfold NB cK cZ;rw [N4 g,ht,AoC];unfold trS;dsimp only;rw [iy O,iy O,AoJ (by rfl)];have h:=Af He (λi=>((List.range 32).map (aft b top (l.take i)),(List.range 32).map (oth (l.take i)),l,(l.length:Int),((i:Nat):Int))) l.length
  ((List.range 32).map (aft b top (l.take l.length)),(List.range 32).map (oth (l.take l.length))) (λi hi=>Abq hk hl hi) (by
   unfold He cK cZ gX wI;simp)
 have e0:List.map (lfs b) top=(List.range 32).map (aft b top (l.take 0)):=by
  rw [<- AaL (lfs b) htl];rfl
 have e1:List.replicate (Int.toNat 32) false=(List.range 32).map (oth (l.take 0)):=by
  rfl
 grind
def nwC (b:Bls) (top:List Int) (l:List Kv):Nat->Nat
 | 0=>0
 | k+1=>nwC b top l k+(if(oth l k && nz (av b top l k))=true then 1 else 0)
def anC (b:Bls) (top:List Int) (l:List Kv) (k:Nat):Bool:=(List.range k).any λj=>nz (av b top l j)
def ndK (b:Bls) (top:List Int) (l:List Kv):Nat:=if l.length=0 then 0 else nwC b top l 32+(if anC b top l 32=true then 1 else 0)
theorem MM (b:Bls) (top:List Int) (l:List Kv):∀k,nwC b top l k<=k
 | 0=>Ao4 _
 | k+1=>by have:=MM b top l k;simp only [nwC];grind
theorem Aak (b:Bls) (top:List Int) (l:List Kv) (k:Nat):anC b top l (k+1)=(anC b top l k || nz (av b top l k)):=by
 unfold anC;grind
theorem AeK {b:Bls} {x y z top:List Int} {l:List Kv} {root:Int} (g:RS b x y) (ht:tre b x y root=some top) (htl:top.length=32) (hk:Ks l) (hl:l.length<=1000) :
  Qh b x y z root l=some (ndK b top l:Int):=by
 unfold Qh ndK wI;by_cases h0:l.length=0
 .grind
 rw [ino O,AoH h0,Afa g ht htl hk hl,AoC];have hll:((List.range 32).map (aft b top l)).length=32:=GG _ _;have hlo:((List.range 32).map (oth l)).length=32:=GG _ _;have h:=Af KN (λk=>((List.range 32).map (oth l),(nwC b top l k:Int),(if anC b top l k=true then(1:Int)else 0),(List.range 32).map (aft b top l),((32:Nat):Int),((k:Nat):Int))) 32 ((nwC b top l 32:Int),(if anC b top l 32=true then(1:Int)else 0)) (λk hk=>by
   have g1:=Jc 32 (oth l) hk;have g2:=Jc 32 (aft b top l) hk;have hln:(aft b top l k).length<=1000:=by
    unfold aft lfs;split
    .rw [JE];omega
    .split
     .simp
     .rw [F4];omega
   have hc:=MM b top l k;unfold KN cK cZ wI;dsimp only;rw [iy O,iy O,hll,iy O,AoE,AoS,g2,AoC,AoC,T4 O,AoC,AmG,Aak];simp only [nwC];cases hnz:nz (av b top l k)with
   | false=>
    rw [AoH Z,AoC];rw [Ah O,Bool.and_false,Bool.or_false];rfl
   | true=>
    rw [AoJ rfl,iy O,hlo,iy O,g1,AoC,Ap4,Bool.or_true];cases oth l k with
    | false=>
     rw [AoH Z,AoC,AoC];rw [Ah O];rfl
    | true=>
     rw [AoJ rfl,AoC,AoC];rw [Ah O,Ah O];rfl) (by
   rfl)
 have hc:=MM b top l 32;rw [hll,show Ab KN ((List.range 32).map (oth l),0,0,(List.range 32).map (aft b top l),((32:Nat):Int),0)=_ from h,AoC];rw [w64 O O]
 grind
theorem Yq {b:Bls} {top:List Int} {l:List Kv} {vals:List (List Int)} {n root:Int} {an:Bool} (hk:Ks l) (hl:l.length<=1000) {k i:Nat} (hi:i < l.length) (hk32:k < 32) :
  Em (l,n,an,(k:Int),av b top (l.take i) k,oth (l.take i) k,(k:Int),l,(l.length:Int),(i:Int),root,top,vals) =
   some (.inl (l,n,an,(k:Int),av b top (l.take (i+1)) k,oth (l.take (i+1)) k,(k:Int),l,(l.length:Int),((i+1:Nat):Int),root,top,vals)):=by
 have hs:=HX hi;generalize sg l i=s at hs;have hks:=hk s (Api hs);obtain ⟨d1,d2⟩:=V6 hks;obtain ⟨m1,m2⟩:=VT hks;have hal:=JE b top (l.take i) k;unfold Em cK cZ gX wI;dsimp only;rw [iy O,iy O,AoE,hs,AoC,iy O,d1,AcP hs,ZB hs];unfold upd;by_cases hq:s.1.toNat / 32=k
 .rw [iy O,m1,iy O,iy O,hal,iy O,AoE,AoS,Ai (O:s.1.toNat % 32 < (av b top (l.take i) k).length),AoC,AoC,AoC];rw [Ah O,AoJ hq,decide_eq_true hq,Bool.or_true]
 .rw [ino O,AoC];rw [Ah O,AoH hq,decide_eq_false hq,Bool.or_false]
theorem Aeo {b:Bls} {top:List Int} {l:List Kv} {root:Int} (htl:top.length=32) (hk:Ks l) (hl:l.length<=1000) :
  KW root top (top.map (lfv b)) l=some (ndK b top l:Int):=by
 unfold KW ndK wI;by_cases h0:l.length=0
 .grind
 rw [ino O,AoH h0];have h:=Af HQ (λk=>(l,(nwC b top l k:Int),anC b top l k,((k:Nat):Int),root,top,top.map (lfv b))) 32 ((nwC b top l 32:Int),anC b top l 32) (λk hk32=>by
   have hg:(top.map (lfv b))[k]?=some (lfv b (gb top k)):=by rw [Apl,Ai O];rfl
   have hln:=WJ b (gb top k);have hc:=MM b top l k;have hav:=JE b top l k;have hin:=Af Em (λi=>(l,(nwC b top l k:Int),anC b top l k,((k:Nat):Int),av b top (l.take i) k,oth (l.take i) k,((k:Nat):Int),l,(l.length:Int),((i:Nat):Int),root,top,top.map (lfv b))) l.length
    (l,(nwC b top l k:Int),anC b top l k,av b top (l.take l.length) k,oth (l.take l.length) k,((k:Nat):Int),root,top,top.map (lfv b)) (λi hi=>Yq hk hl hi hk32) (by
     unfold Em cK cZ gX wI;simp)
   rw [Apy]at hin;unfold HQ gX wI;dsimp only;rw [iy O,iy O,AoE,hg,AoC,LF O,AoC,
    show Ab Em (l,(nwC b top l k:Int),anC b top l k,((k:Nat):Int),lfv b (gb top k),false,((k:Nat):Int),l,(l.length:Int),0,root,top,top.map (lfv b))=_ from hin,AoC,Aak]
   simp only [nwC];have hA:(if anC b top l k=true then some (l,(nwC b top l k:Int),true,av b top l k,oth l k,((k:Nat):Int),root,top,top.map (lfv b))else
     Option.bind (DL (av b top l k)) λc8=>some (l,(nwC b top l k:Int),(!c8),av b top l k,oth l k,((k:Nat):Int),root,top,top.map (lfv b))) =
     some (l,(nwC b top l k:Int),(anC b top l k || nz (av b top l k)),av b top l k,oth l k,((k:Nat):Int),root,top,top.map (lfv b)):=by
    cases anC b top l k with
    | true=>rfl
    | false=>rw [AoH Z,LP O,AoC,Bool.not_not,ApR]
   rw [hA,AoC];have hB:(if oth l k=true then Option.bind (DL (av b top l k)) λc10=>some (l,(nwC b top l k:Int),(anC b top l k || nz (av b top l k)),((k:Nat):Int),(!c10),root,top,top.map (lfv b))else
     some (l,(nwC b top l k:Int),(anC b top l k || nz (av b top l k)),((k:Nat):Int),false,root,top,top.map (lfv b))) =
     some (l,(nwC b top l k:Int),(anC b top l k || nz (av b top l k)),((k:Nat):Int),(oth l k && nz (av b top l k)),root,top,top.map (lfv b)):=by
    cases oth l k with
    | false=>rfl
    | true=>rw [AoJ rfl,LP O,AoC,Bool.not_not,AoT]
   rw [hB,AoC];cases (oth l k && nz (av b top l k))with
   | false=>
    rw [AoH Z,AoC];rw [Ah O];rfl
   | true=>
    rw [AoJ rfl,AoC];rw [Ah O,Ah O];rfl) (by
   rfl)
 have hc:=MM b top l 32;rw [show Ab HQ (l,0,false,0,root,top,top.map (lfv b))=_ from h,AoC];cases anC b top l 32 with
 | false=>rfl
 | true=>rw [AoJ rfl,AoC,Ah O];rfl
end Go.V.G
set_option maxRecDepth 100000
namespace Go.V.G
open Go.V
def Fx (n:Int):List Int:=[IntKind.wrap .u8 (n / 256),IntKind.wrap .u8 n]
def pgb (kind:Int) (l:List Int):List Int:=[kind]++l.flatMap Fx
theorem XA:∀l:List Int,(l.flatMap Fx).length=2 * l.length
 | []=>rfl
 | a::l=>by rw [Ap9,AoM,XA l];simp [Fx];omega
theorem Adu (kind:Int) {l:List Int} (h:l.length=32):(pgb kind l).length=65:=by unfold pgb;rw [AoM,XA,h];rfl
def V2 (l:List Int):Prop:=∀v∈l,0<=v/\v<=65535
theorem Akh {n:Int} (h:0<=n/\n<=65535):JY n=some (Fx n):=by
 unfold JY Fx cZ wB;rw [iy O,show(2:Int) ^ (min (Int.toNat 8) (IntKind.bits .i64))=256 from rfl,Aqi _ O]
theorem Aos {n:Int} (h:0<=n/\n<=65535):IntKind.wrap .i64 (Int.tdiv n 256)=n / 256:=by
 rw [Ap5 h.1,w64 O O]
theorem AfU {kind:Int} {l:List Int} (hk:0<=kind/\kind<=255):U8s (DW (pgb kind l)):=Alt λv hv=>by
 unfold pgb at hv;rcases AoK.1 hv with hv | hv
 .grind
 .obtain ⟨a,_,ha⟩:=Aqj.1 hv;unfold Fx at ha;simp only [AoY,Aqy,or_false]at ha;rcases ha with rfl | rfl <;> exact Wc _
theorem WI:∀{a b:List Int},Ris a->Ris b->(∀v,v∈a↔v∈b)->a=b:=by
 intro a b ha hb;rw [ris_iff]at ha hb
 induction a generalizing b with
 | nil=>
  intro h;cases b with
  | nil=>rfl
  | cons v b=>exact absurd ((h v).2 Z) Z
 | cons v a ih=>
  intro h;cases b with
  | nil=>grind
  | cons w b=>
   rw [List.pairwise_cons]at ha hb;have hvw:v=w:=by
    have h1:=(h v).1 Z;have h2:=(h w).2 Z
    grind
   grind
noncomputable def pts (z l:List Int):List Int:=l.foldl pt z
theorem Ajn (z l:List Int) (v:Int):pts z (l++[v])=pt (pts z l) v:=by unfold pts;simp
theorem AgZ {z:List Int} (hr:Ris z):∀{l:List Int},z.length+l.length<=1048576->Ris (pts z l)/\(pts z l).length<=z.length+l.length/\∀v,v∈pts z l↔v∈z\/v∈l:=by
 intro l
 induction l generalizing z with
 | nil=>intro h;exact⟨hr,by simp [pts],λv=>by simp [pts]⟩
 | cons a l ih=>
  intro h;rw [AoV]at h;obtain ⟨_,_,h3,h4,h5⟩:=NT (z:=z) O hr a;obtain ⟨i1,i2,i3⟩:=ih h4 O;refine⟨i1,?_,λv=>?_⟩
  .have:pts z (a::l)=pts (pt z a) l:=rfl
   grind
  .have:pts z (a::l)=pts (pt z a) l:=rfl
   grind
def tl (l:List Kv):Nat->Nat->List Int
 | _,0=>[]
 | k,d+1=>if oth l k=true then(k:Int)::tl l (k+1) d else tl l (k+1) d
def qk (s:Kv):Int:=((s.1.toNat / 32:Nat):Int)
noncomputable def Aoy (l:List Kv):List Int:=pts [] (l.map qk)
def goS (nx go:List Int) (k:Nat):List Int:=if gb nx k=0 then go else go++[gb nx k]
theorem Adg {go:List Int} (h:go.length<=1000) (v:Int):Aa (go.length+([v]:List Int).length) 8=true:=by simp only [Aa,decide_eq_true_eq,AoP];omega
section
variable {b:Bls} {x y z nx go T top A:List Int} {vals vals0:List (List Int)} {root:Int} {j k:Nat}
variable {ots:List Bool} {lvs:List (List Int)}
end
end Go.V.G
set_option maxRecDepth 100000
namespace Go.V.G
open Go.V
theorem RC {l:List Int} {k:Nat} {v:Int} (h:k < l.length):gb (l.set k v) k=v:=by unfold gb;grind
theorem DF {l:List Int} {k j:Nat} {v:Int} (h:k≠j):gb (l.set k v) j=gb l j:=by unfold gb;grind
def OH (top:List Int) (l:List Kv):Nat->List Int
 | 0=>[]
 | k+1=>if oth l k=true then goS top (OH top l k) k else OH top l k
theorem Y8 (top:List Int) (l:List Kv):∀k,(OH top l k).length<=k
 | 0=>Ao4 _
 | k+1=>by
  have:=Y8 top l k;simp only [OH];split
  .unfold goS;grind
  .omega
structure Tv (n:Nat) (b0:Bls) (x0 z0 top:List Int) (l:List Kv) (k:Nat) (nx:List Int) (b:Bls) (x z:List Int) (q:Nat):Prop where
 wk:Wk n b x z q
 bu:∀c∈b,U8s c
 nl:nx.length=32
 dn:∀j,j < k->oth l j=true->nz (av b0 top l j)=true->∃m:Nat,gb nx j=(m:Int)/\(33<=m/\m < n)/\bit x0 m=false/\bit x m=true/\blk b m=DW (pgb 81 (av b0 top l j))
 dz:∀j,j < k->oth l j=true->nz (av b0 top l j)=false->gb nx j=0
 st:∀j,j < 32->(k<=j\/oth l j=false)->gb nx j=gb top j
 ds:∀i j,i < j->j < k->oth l i=true->oth l j=true->nz (av b0 top l i)=true->nz (av b0 top l j)=true->gb nx i≠gb nx j
 ot:∀i,i < 160->bit x0 i=true->blk b i=blk b0 i/\bit x i=true
 zm:∀v∈z,v∈z0\/∃m:Nat,v=(m:Int)/\(33<=m/\m < n)/\bit x m=true
 hi:∀i,n<=i->i < 160->bit x i=bit x0 i
section
variable {n:Nat} {b0 b:Bls} {x0 z0 top nx x z:List Int} {l:List Kv} {k q:Nat}
theorem Tv.skip (h:Tv n b0 x0 z0 top l k nx b x z q) (ho:oth l k=false):Tv n b0 x0 z0 top l (k+1) nx b x z q:=by
 refine⟨h.wk,h.bu,h.nl,λj hj h1 h2=>?_,λj hj h1 h2=>?_,λj hj h1=>?_,λi j hij hj h1 h2 h3 h4=>?_,h.ot,h.zm,h.hi⟩
 .by_cases hjk:j=k
  .grind
  .exact h.dn j O h1 h2
 .by_cases hjk:j=k
  .grind
  .exact h.dz j O h1 h2
 .rcases h1 with h1 | h1
  .exact h.st j hj (.inl O)
  .exact h.st j hj (.inr h1)
 .by_cases hjk:j=k
  .grind
  .exact h.ds i j hij O h1 h2 h3 h4
theorem Tv.no (h:Tv n b0 x0 z0 top l k nx b x z q) (hk:k < 32) (ho:oth l k=true) (hz:nz (av b0 top l k)=false):Tv n b0 x0 z0 top l (k+1) (nx.set k 0) b x z q:=by
 have hnl:=h.nl;refine⟨h.wk,h.bu,by grind,λj hj h1 h2=>?_,λj hj h1 h2=>?_,λj hj h1=>?_,λi j hij hj h1 h2 h3 h4=>?_,h.ot,h.zm,h.hi⟩
 .by_cases hjk:k=j
  .grind
  .rw [DF hjk];exact h.dn j O h1 h2
 .by_cases hjk:k=j
  .subst hjk;exact RC O
  .rw [DF hjk];exact h.dz j O h1 h2
 .have hne:k≠j:=by
   grind
  rw [DF hne];rcases h1 with h1 | h1
  .exact h.st j hj (.inl O)
  .exact h.st j hj (.inr h1)
 .have hjk:k≠j:=by grind
  have hik:k≠i:=O
  rw [DF hjk,DF hik];exact h.ds i j hij O h1 h2 h3 h4
theorem Tv.yes (h:Tv n b0 x0 z0 top l k nx b x z q) (hq:q<=1000) (hk:k < 32) (ho:oth l k=true) (hnz:nz (av b0 top l k)=true) {m:Nat} (hm:33<=m/\m < n) (hbm:bit x m=false) (hw:Wk n (b.set m IE) (setB x m) (pt z (m:Int)) (q+1)) :
  Tv n b0 x0 z0 top l (k+1) (nx.set k (m:Int)) ((b.set m IE).set m (DW (pgb 81 (av b0 top l k)))) (setB x m) (pt (pt z (m:Int)) (m:Int)) (q+2):=by
 have hnl:=h.nl;have hn:=h.wk.hn;have hbl:=h.wk.hb;have hx:=h.wk.hx;have hpl:=Adu 81 (JE b0 top l k);have hz1:=h.wk.hz;obtain ⟨_,_,z3,z4,z5⟩:=NT (z:=z) O h.wk.hr (m:Int);obtain ⟨_,_,_,_,y5⟩:=NT (z:=pt z (m:Int)) O z4 (m:Int);have hbit:∀i,i < 160->bit (setB x m) i=(decide (i=m) || bit x i):=λi hi=>SJ h.wk.hu O O
 have hblk:∀i,i≠m->blk ((b.set m IE).set m (DW (pgb 81 (av b0 top l k)))) i=blk b i:=λi hi=>by rw [Ma (Ne.symm hi),Ma (Ne.symm hi)]
 refine⟨hw.lay O (Aii O) m,λc hc=>?_,by grind,λj hj h1 h2=>?_,λj hj h1 h2=>?_,λj hj h1=>?_,λi j hij hj h1 h2 h3 h4=>?_,λi hi h1=>?_,λv hv=>?_,λi h1 h2=>?_⟩
 .rcases ApA hc with hc | rfl
  .rcases ApA hc with hc | rfl
   .exact h.bu c hc
   .exact ZF
  .exact AfU O
 .by_cases hjk:k=j
  .subst hjk;refine⟨m,RC O,hm,?_,by grind,VJ (by grind)⟩;cases hx0:bit x0 m with
   | false=>rfl
   | true=>
    have:=(h.ot m O hx0).2
    grind
  .obtain ⟨m',e1,e2,e3,e4,e5⟩:=h.dn j O h1 h2;exact⟨m',by rw [DF hjk];exact e1,e2,e3,by grind,by grind⟩
 .by_cases hjk:k=j
  .grind
  .rw [DF hjk];exact h.dz j O h1 h2
 .have hne:k≠j:=by
   grind
  rw [DF hne];rcases h1 with h1 | h1
  .exact h.st j hj (.inl O)
  .exact h.st j hj (.inr h1)
 .by_cases hjk:k=j
  .subst hjk;rw [DF O,RC O];obtain ⟨m',e1,e2,e3,e4,e5⟩:=h.dn i O h1 h3
   grind
  .rw [DF O,DF hjk];exact h.ds i j hij O h1 h2 h3 h4
 .obtain ⟨e1,e2⟩:=h.ot i hi h1
  grind
 .have key:v∈z\/v=(m:Int):=by
   grind
  rcases key with hv | rfl
  .rcases h.zm v hv with hv | ⟨m',e1,e2,e3⟩
   .exact .inl hv
   grind
  grind
 .rw [hbit i h2,decide_eq_false (O:¬ i=m),ApR];exact h.hi i h1 h2
structure Cx (n:Nat) (b0:Bls) (top:List Int) (l:List Kv):Prop where
 hn:n<=160
 ht:top.length=32
 hv:∀k,V2 (av b0 top l k)
abbrev ots (l:List Kv):List Bool:=(List.range 32).map (oth l)
abbrev lvs (b0:Bls) (top:List Int) (l:List Kv):List (List Int):=(List.range 32).map (aft b0 top l)
end
section
variable {b0:Bls} {top:List Int} {l:List Kv} {root:Int} {b:Bls} {x y z:List Int}
end
end Go.V.G
set_option maxRecDepth 100000
namespace Go.V.G
open Go.V
theorem HK {b:Bls} {x y top:List Int} {root:Int} (h:tre b x y root=some top):top.length=32:=by
 unfold tre at h;split at h
 .obtain rfl:=ApT h;simp [zer]
 .split at h
  .obtain rfl:=ApT h;rfl
  .cases h
theorem AgV (j:Nat):gb zer j=0:=by
 unfold gb zer
 grind
theorem Al9 {b:Bls} {x y top:List Int} {root:Int} (h:tre b x y root=some top):∀j,j < 32->gb top j=0\/(pgB b x y (gb top j) 81=true/\nz (B2 (blk b (gb top j).toNat))=true):=by
 intro j hj;unfold tre at h;split at h
 .obtain rfl:=ApT h;exact .inl (AgV j)
 .split at h
  .rename_i hc;simp only [AoI]at hc;have:=all_range.1 hc.2.2 j hj;unfold stG at this
   grind
  .cases h
theorem Agw {b:Bls} (hu:∀c∈b,U8s c) (i:Nat):U8s (blk b i):=by
 by_cases h:i < b.length
 .exact hu _ (BG h)
 .unfold blk;rw [App O];intro v hv;cases hv
theorem Aa4 {c:List Int} (h:U8s c):V2 (B2 c):=λv hv=>by
 obtain ⟨k,_,rfl⟩:=Ao0.1 hv;exact AmC h _
theorem Af2:V2 zer:=λv hv=>by unfold zer at hv;grind
theorem Alh {b:Bls} (hu:∀c∈b,U8s c) (a:Int):V2 (lfv b a):=by
 unfold lfv;split
 .exact Af2
 .exact Aa4 (Agw hu _)
theorem Am9 {b:Bls} {top:List Int} {l:List Kv} (hu:∀c∈b,U8s c) (hv:∀s∈l,0<=s.2/\s.2<=65535) (k:Nat):V2 (av b top l k):=by
 have key:∀(l:List Kv) (v:List Int),V2 v->(∀s∈l,0<=s.2/\s.2<=65535)->V2 (l.foldl (upd k) v):=by
  intro l
  induction l with
  | nil=>simp
  | cons s l ih=>
   intro v h hs;refine ih _ ?_ λs' h'=>hs s' (by simp [h'])
   unfold upd;split
   .intro w hw;rcases ApA hw with hw | rfl
    .exact h w hw
    grind
   .exact h
 exact key l _ (Alh hu _) hv
theorem Aln {b:Bls} {x y top:List Int} {root:Int} (hu:∀c∈b,U8s c) (h:tre b x y root=some top):V2 top:=by
 unfold tre at h;split at h
 .obtain rfl:=ApT h;exact Af2
 .split at h
  .obtain rfl:=ApT h;exact Aa4 (Agw hu _)
  .cases h
theorem Akw {b:Bls} {x y:List Int} {l:List Kv} (h:Afb b x y l=true):l.length<=64/\Ks l/\(∀s∈l,s.2=0\/liv b x y s.2=true)/\∀i,i+1 < l.length->(sg l i).1 < (sg l (i+1)).1:=by
 unfold Afb at h;simp only [AoI,decide_eq_true_eq]at h;obtain ⟨h1,h2⟩:=h;have key:=all_range.1 h2;have hg:∀s∈l,∃i,i < l.length/\sg l i=s:=λs hs=>by
  obtain ⟨i,hi,he⟩:=Ao3 hs;exact⟨i,hi,by unfold sg;grind⟩
 refine⟨h1,λs hs=>?_,λs hs=>?_,λi hi=>?_⟩
 .obtain ⟨i,hi,rfl⟩:=hg s hs;have:=key i hi;unfold Aex at this
  grind
 .obtain ⟨i,hi,rfl⟩:=hg s hs;have:=key i hi;unfold Aex at this
  grind
 .have:=key (i+1) hi;unfold Aex at this
  grind
theorem AkY {b:Bls} {x y:List Int} {v:Int} (hb:b.length<=160) (h:v=0\/liv b x y v=true):0<=v/\v<=65535:=by
 rcases h with rfl | h
 .omega
 .obtain ⟨m,rfl,_,h2,_⟩:=Cy h;omega
section
variable {at_:Int} {b:Bls} {x y z go:List Int}
end
def rtL (root:Int):List Int:=if root=0 then []else [root]
structure Sk (b:Bls) (x y z top:List Int) (l:List Kv) (root at_:Int) (b':Bls) (x' y' z':List Int):Prop where
 ex:∃nx b1 x1 z1 q1,Tv b.length b x z top l 32 nx b1 x1 z1 q1/\q1<=191/\cnt x1 b.length+nwC b top l 32=cnt x b.length/\nz nx=anC b top l 32/\
  ((nz nx=false/\at_=0/\b'=b1/\x'=x1/\z'=z1)\/(nz nx=true/\∃m:Nat,at_=(m:Int)/\(33<=m/\m < b.length)/\bit x1 m=false/\b'=(b1.set m IE).set m (DW (pgb 80 nx))/\x'=setB x1 m/\z'=pt (pt z1 (m:Int)) (m:Int)/\
   Wk b.length b' x' z' (q1+2)/\cnt x' b.length+1=cnt x1 b.length))
 yy:y'=pts y (OH top l 32++rtL root)
theorem AmU {b b1:Bls} {x z top nx x1 z1:List Int} {l:List Kv} {n q:Nat} (hn:n<=160) (ht:V2 top) (htl:top.length=32) (h:Tv n b x z top l 32 nx b1 x1 z1 q):V2 nx:=by
 intro v hv;obtain ⟨j,hj,rfl⟩:=Ao3 hv;have hnl:=h.nl;have e:nx[j]=gb nx j:=by unfold gb;grind
 have hj':j < 32:=O
 rw [e];cases ho:oth l j with
 | false=>rw [h.st j hj' (.inr ho)];exact ht _ (Api (Ai O))
 | true=>
  cases hz:nz (av b top l j)with
  | false=>rw [h.dz j hj' ho hz];omega
  | true=>obtain ⟨m,e,hm,_⟩:=h.dn j hj' ho hz;rw [e];omega
theorem Sk.wk {b b':Bls} {x y z top x' y' z':List Int} {l:List Kv} {root at_:Int} (s:Sk b x y z top l root at_ b' x' y' z'):Wk b.length b' x' z' 200:=by
 obtain ⟨nx,b1,x1,z1,q1,tv,hq,_,_,h⟩:=s.ex;rcases h with⟨_,_,rfl,rfl,rfl⟩ | ⟨_,m,_,_,_,_,_,_,hw,_⟩
 .have:=tv.wk;exact⟨this.hn,this.hb,this.hk,this.hx,this.hu,this.hlow,this.hr,by have:=this.hz;omega⟩
 .exact⟨hw.hn,hw.hb,hw.hk,hw.hx,hw.hu,hw.hlow,hw.hr,by have:=hw.hz;omega⟩
theorem Sk.yl {b b':Bls} {x y z top x' y' z':List Int} {l:List Kv} {root at_:Int} (s:Sk b x y z top l root at_ b' x' y' z') (hy:Ris y) (hyl:y.length<=1000):Ris y'/\y'.length<=1100/\∀v,v∈y'↔v∈y\/v∈OH top l 32++rtL root:=by
 have h1:=Y8 top l 32;have h2:(rtL root).length<=1:=by unfold rtL;grind
 have h3:(OH top l 32++rtL root).length<=33:=by grind
 obtain ⟨p1,p2,p3⟩:=AgZ hy (l:=OH top l 32++rtL root) O;rw [s.yy]
 grind
theorem GS.ylen {b:Bls} {x y z:List Int} (g:GS b x y z):Ris y/\y.length<=127:=by
 have hb:=g.hb;have hyr:=(Ht g.hy).1;exact⟨hyr,SP hyr λi hi=>by have:=(Ht g.hy).2 i hi;omega⟩
end Go.V.G
set_option maxRecDepth 100000
namespace Go.V.G
open Go.V
theorem AdK {n q:Nat} {b b2:Bls} {x x2 y z z2:List Int} (g:GS b x y z) (hn:b.length=n) (wk:Wk n b2 x2 z2 q) (up:∀i,i < 160->bit x i=true->bit x2 i=true)
  (hi:∀i,n<=i->i < 160->bit x2 i=bit x i) (zm:∀v∈z2,v∈z\/(33<=v/\v < (n:Int)/\bit x2 v.toNat=true)):GS b2 x2 y z2:=by
 have hb:=wk.hb;have hn2:=wk.hn;obtain ⟨r1,_⟩:=Ht g.hy;have m1:=Ve g.hy;have m2:=Ve g.hz;refine⟨O,wk.hx,wk.hk,λi hi160=>?_,OJ r1 λv hv=>?_,OJ wk.hr λv hv=>?_⟩
 .unfold bG;by_cases h1:i < 33
  .rw [wk.hlow i h1,decide_eq_true h1,decide_eq_false (O:¬ b2.length<=i)];rfl
  .rw [decide_eq_false h1];by_cases h2:b2.length<=i
   .have:=g.hbits i hi160;unfold bG at this
    grind
   grind
 .grind
 grind
theorem Lr.gs {b b2:Bls} {x y z data l x2 z2:List Int} (h:Lr b.length b x z data l b2 x2 z2) (g:GS b x y z):GS b2 x2 y z2:=by
 refine AdK g rfl h.wk h.up (λi hi hi2=>?_) λv hv=>?_
 .refine(h.oth i hi2 λhh=>?_).2;obtain ⟨j,hj,he⟩:=Ao3 hh;obtain ⟨k,e,hk,_⟩:=h.at_ j hj
  grind
 .rcases h.zm v hv with hv | hv
  .exact .inl hv
  .right;obtain ⟨j,hj,he⟩:=Ao3 hv;obtain ⟨k,e,hk,_,p,_⟩:=h.at_ j hj
   grind
theorem Lt.gs {b b2:Bls} {x y z sh A x2 z2:List Int} {ps:List (List UInt8)} {r q:Nat} (h:Lt b.length b x z sh ps A r b2 x2 z2 q) (g:GS b x y z):GS b2 x2 y z2:=by
 have hlen:=h.len;obtain ⟨⟨r1,r2⟩,_,r4,_⟩:=h.rt;have hA:∀v∈A,∃k:Nat,v=(k:Int)/\(33<=k/\k < b.length)/\bit x2 k=true:=λv hv=>by
  obtain ⟨j,hj,he⟩:=Ao3 hv;obtain ⟨k,e,hk,p,_⟩:=h.at_ j O
  grind
 refine AdK g rfl h.wk h.up (λi hi hi2=>?_) λv hv=>?_
 .refine(h.oth i hi2 (λhh=>?_) O).2
  grind
 .rcases h.zm v hv with hv | hv | rfl
  .exact .inl hv
  .grind
  grind
theorem Lt.mem {n q r:Nat} {b b2:Bls} {x z sh A x2 z2:List Int} {ps:List (List UInt8)} (h:Lt n b x z sh ps A r b2 x2 z2 q) {a:Int} (ha:a∈A):∃j,j < ps.length/\A[j]?=some a:=by
 obtain ⟨j,hj,he⟩:=Ao3 ha;have:=h.len;exact⟨j,O,by grind⟩
end Go.V.G
set_option maxRecDepth 100000
namespace Go.V.G
open Go.V
inductive Atom where
 | ins (b:UInt8)
 | keep
 | drop
 deriving DecidableEq
def mk (f:Bool):Atom:=if f=true then .keep else .drop
def pa (p:Prt):List Atom:=p.2.2.map Atom.ins++List.replicate (p.1+p.2.1).toNat (mk (decide (0 < p.1)))
def Ac (c:List Prt):List Atom:=c.flatMap pa
def Ap:List Atom->List Bool
 | []=>[]
 | .ins _::l=>Ap l
 | .keep::l=>true::Ap l
 | .drop::l=>false::Ap l
def Bo (b:UInt8):List (List UInt8)->List (List UInt8)
 | p::ps=>(b::p)::ps
 | []=>[[b]]
def Al:List Atom->List (List UInt8)
 | []=>[[]]
 | .ins b::l=>Bo b (Al l)
 | .keep::l=>[]::Al l
 | .drop::l=>[]::Al l
def DI:List Atom->Nat
 | []=>0
 | .ins _::l=>DI l+1
 | _::l=>DI l
theorem JG (a b:List Prt):Ac (a++b)=Ac a++Ac b:=by simp [Ac]
theorem LK {c:List Prt} {i:Nat} (h:i < c.length):Ac (c.take (i+1))=Ac (c.take i)++pa c[i]:=by
 rw [AoL h,JG];simp [Ac]
theorem Di:∀a b:List Atom,Ap (a++b)=Ap a++Ap b
 | [],b=>rfl
 | .ins _::a,b=>Di a b
 | .keep::a,b=>congrArg (true :: ·) (Di a b)
 | .drop::a,b=>congrArg (false :: ·) (Di a b)
theorem RX:∀s:List UInt8,Ap (s.map Atom.ins)=[]
 | []=>rfl
 | _::s=>RX s
theorem XQ (f:Bool):∀m:Nat,Ap (List.replicate m (mk f))=List.replicate m f
 | 0=>rfl
 | m+1=>by
  rw [ApE,ApE,<- XQ f m];cases f <;> rfl
theorem Ab0 (b:UInt8) (P:List (List UInt8)):Bo b P≠[]:=by cases P <;> simp [Bo]
theorem HL:∀l:List Atom,Al l≠[]
 | []=>by simp [Al]
 | .ins b::l=>Ab0 b _
 | .keep::l=>by simp [Al]
 | .drop::l=>by simp [Al]
theorem Aa2 (b:UInt8) {P:List (List UInt8)} (h:P≠[]):(Bo b P).length=P.length:=by cases P with
 | nil=>grind
 | cons=>rfl
theorem EW:∀l:List Atom,(Al l).length=(Ap l).length+1
 | []=>rfl
 | .ins b::l=>by rw [Al,Aa2 b (HL l),EW l];rfl
 | .keep::l=>by simp [Al,Ap,EW l]
 | .drop::l=>by simp [Al,Ap,EW l]
theorem US (b:UInt8) {P:List (List UInt8)} (h:P≠[]) (Q:List (List UInt8)):Bo b (P++Q)=Bo b P++Q:=by cases P with
 | nil=>grind
 | cons=>rfl
theorem PV (f:Bool):∀(l:List Atom) (m:Nat),Al (l++List.replicate m (mk f))=Al l++List.replicate m []
 | [],m=>by
  induction m with
  | zero=>rfl
  | succ m ih=>
   rw [Ao6]at ih ⊢;cases f <;> (show []::Al _=_;rw [ih];rfl)
 | .ins b::l,m=>by
  show Bo b (Al (l++_))=Bo b (Al l)++_;rw [PV f l m,US b (HL l)]
 | .keep::l,m=>congrArg ([] :: ·) (PV f l m)
 | .drop::l,m=>congrArg ([] :: ·) (PV f l m)
theorem ZD:∀s:List UInt8,Al (s.map Atom.ins)=[s]
 | []=>rfl
 | b::s=>by show Bo b (Al (s.map Atom.ins))=_;rw [ZD s];rfl
theorem Qb (s:List UInt8):∀l:List Atom,Al (l++s.map Atom.ins)=(Al l).dropLast++[((Al l).getLast?).getD []++s]
 | []=>by rw [Ao6,ZD];rfl
 | .ins b::l=>by
  show Bo b (Al (l++_))=_;rw [Qb s l];show _=(Bo b (Al l)).dropLast++[((Bo b (Al l)).getLast?).getD []++s];have:=HL l
  match Al l,this with
  | [p],_=>rfl
  | p::q::ps,_=>rfl
 | .keep::l=>by
  show []::Al (l++_)=([]::Al l).dropLast++[(([]::Al l).getLast?).getD []++s];rw [Qb s l];have:=HL l
  match Al l,this with
  | p::ps,_=>rfl
 | .drop::l=>by
  show []::Al (l++_)=([]::Al l).dropLast++[(([]::Al l).getLast?).getD []++s];rw [Qb s l];have:=HL l
  match Al l,this with
  | p::ps,_=>rfl
theorem E2:∀a b:List Atom,DI (a++b)=DI a+DI b
 | [],b=>by simp [DI]
 | .ins _::a,b=>by simp only [Apj,DI,E2 a b];omega
 | .keep::a,b=>E2 a b
 | .drop::a,b=>E2 a b
theorem YT:∀s:List UInt8,DI (s.map Atom.ins)=s.length
 | []=>rfl
 | _::s=>by simp only [Apk,DI,YT s,AoV]
theorem Y1 (f:Bool):∀m:Nat,DI (List.replicate m (mk f))=0
 | 0=>rfl
 | m+1=>by rw [ApE];cases f <;> exact Y1 _ m
theorem Acy (p:Prt):DI (pa p)=p.2.2.length:=by rw [pa,E2,YT,Y1];rfl
theorem UZ:∀c:List Prt,DI (Ac c)=B8 c
 | []=>rfl
 | p::c=>by
  show DI (pa p++Ac c)=_;rw [E2,Acy,UZ c];rfl
theorem O9:∀(l:List Atom),∀p∈Al l,p.length<=DI l
 | [],p,h=>by rw [AoZ.1 h];simp
 | .ins b::l,p,h=>by
  have ih:=O9 l;simp only [Al]at h;simp only [DI]
  match hp:Al l,h with
  | q::qs,h=>
   rcases AoY.1 h with rfl | h
   .grind
   grind
  | [],h=>exact absurd hp (HL l)
 | .keep::l,p,h=>by
  rcases AoY.1 h with rfl | h
  .simp
  .exact O9 l p h
 | .drop::l,p,h=>by
  rcases AoY.1 h with rfl | h
  .simp
  .exact O9 l p h
theorem PZ (p:Prt):Ap (pa p)=List.replicate (p.1+p.2.1).toNat (decide (0 < p.1)):=by rw [pa,Di,RX,XQ];rfl
theorem Jk:∀{c:List Prt},(∀p∈c,Some1 p)->(((Ap (Ac c)).length:Nat):Int)=src c
 | [],_=>rfl
 | p::c,h=>by
  have ih:=Jk (c:=c) λq hq=>h q (by simp [hq])
  have h1:=h p Z;have:=h1.k;have:=h1.d;show(((Ap (pa p++Ac c)).length:Nat):Int)=p.1+p.2.1+src c;rw [Di,PZ,AoM,ApC];omega
theorem Pr {n b:Nat} (h:n<=1099511627776) (hb:b<=32):Aa (n+1) b=true:=by
 simp only [Aa,decide_eq_true_eq];have:(n+1) * b<=(1099511627776+1) * 32:=Nat.mul_le_mul O hb;omega
theorem Ad2 {c:List Prt} {n i:Int} {S:List Bool} {P:List (List UInt8)} {k d:Int} {s:List UInt8} {m:Nat} (hS:S.length+m<=1099511627776) (hP:P.length+m<=1099511627776) :
  Ab K8 (c,n,i,(m:Int),0,S,P,k,d,s)=some (c,n,i,S++List.replicate m (decide (0 < k)),P++List.replicate m []):=by
 have:=Af K8 (λq=>(c,n,i,(m:Int),((q:Nat):Int),S++List.replicate q (decide (0 < k)),P++List.replicate q [],k,d,s)) m (c,n,i,S++List.replicate m (decide (0 < k)),P++List.replicate m []) (by
  intro q hq;have h1:((q:Nat):Int) < (m:Int):=O
  have h2:Aa (List.length (S++List.replicate q (decide (0 < k)))+List.length ([decide ((0:Int) < k)]:List Bool)) 1=true:=Pr Aoz O;have h3:Aa (List.length (P++List.replicate q [])+List.length ([([]:List UInt8)]:List (List UInt8))) 16=true:=Pr Aoz O;unfold K8 cK wI;simp only [h1,h2,h3,decide_true,AoU,Ao (O:m<=1099511627776) hq,Aqo,AoN]) (by simp [K8,cK,wI])
 grind
theorem Ad9 {c:List Prt} {n i:Int} {S:List Bool} {P:List (List UInt8)} {k d:Int} {s:List UInt8} {m:Nat} (hkd:IntKind.wrap .i64 (k+d)=(m:Int)) (hS:S.length+m<=1099511627776) (hP:P.length+m<=1099511627776) :
  Ab Ip (0,c,n,i,S,P,k,d,s)=some (c,n,i,S++List.replicate m (decide (0 < k)),P++List.replicate m []):=by
 have:=Af Ip (λq=>(((q:Nat):Int),c,n,i,S++List.replicate q (decide (0 < k)),P++List.replicate q [],k,d,s)) m (c,n,i,S++List.replicate m (decide (0 < k)),P++List.replicate m []) (by
  intro q hq;have h1:((q:Nat):Int) < (m:Int):=O
  have h2:Aa (List.length (S++List.replicate q (decide (0 < k)))+List.length ([decide ((0:Int) < k)]:List Bool)) 1=true:=Pr Aoz O;have h3:Aa (List.length (P++List.replicate q [])+List.length ([([]:List UInt8)]:List (List UInt8))) 16=true:=Pr Aoz O;unfold Ip cK wI;simp only [hkd,h1,h2,h3,decide_true,AoU,Ao (O:m<=1099511627776) hq,Aqo,AoN]) (by simp [Ip,cK,wI,hkd])
 grind
theorem X8 {c:List Prt} {i:Nat} (hlt:i < c.length):∃q:List UInt8,(Al (Ac (c.take i)))[(Ap (Ac (c.take i))).length]?=some q/\q.length<=B8 c/\
  Ap (Ac (c.take (i+1)))=Ap (Ac (c.take i))++List.replicate (c[i].1+c[i].2.1).toNat (decide (0 < c[i].1))/\
  Al (Ac (c.take (i+1)))=((Al (Ac (c.take i))).set (Ap (Ac (c.take i))).length (q++c[i].2.2))++List.replicate (c[i].1+c[i].2.1).toNat []:=by
 obtain ⟨n,hn,hq,hset⟩:=MP (List.getLast?_eq_some_getLast (HL (Ac (c.take i))));have e:n=(Ap (Ac (c.take i))).length:=by have:=EW (Ac (c.take i));omega
 subst e;refine⟨_,hq,?_,?_,?_⟩
 .have h1:=O9 _ _ (Api hq);rw [UZ]at h1;have h2:B8 c=B8 (c.take i)+B8 (c.drop i):=by rw [<- Ef,Apm]
  omega
 .rw [LK hlt,Di,PZ]
 .rw [LK hlt,pa,<- AoN,PV,Qb,hset,List.getLast?_eq_some_getLast (HL _)];rfl
theorem Xf {B:Nat} {c:List Prt} (h:Sm B c) (hB:B<=1099511627000) (hs:∀p∈c,Some1 p) (hle:src c<=1000000):Q7 c=some (Ap (Ac c),Al (Ac c)):=by
 have hlen:=Ao2 h.len hB;have hput:=Ao2 h.put hB;unfold Q7;have:Ab Ln (c,(List.length c:Int),0,[],[([]:List UInt8)])=some (Ap (Ac c),Al (Ac c)):=by
  have:=Af Ln (λk=>(c,(List.length c:Int),((k:Nat):Int),Ap (Ac (c.take k)),Al (Ac (c.take k)))) c.length (Ap (Ac c),Al (Ac c)) (by
   intro i hlt;obtain ⟨q,h1,h2,h3,h4⟩:=X8 hlt;have hp:=hs _ (AoR hlt);have hpp:=Gi (AoR hlt);have k0:=hp.k;have d0:=hp.d;have n1:=AV (l:=c.take i) λp h=>hs p (Co h)
   have n3:=AV (l:=c.drop (i+1)) λp h=>hs p (CC h)
   have a1:=JC hlt;have sl:=Jk (c:=c.take i) λp h=>hs p (Co h)
   have pl:=EW (Ac (c.take i));have hi:(i:Int) < (List.length c:Int):=O
   have e1:IntKind.wrap .i64 ((List.length (Al (Ac (c.take i))):Int) - 1)=(((Ap (Ac (c.take i))).length:Nat):Int):=by rw [w64 O O];omega
   have g1:(((Ap (Ac (c.take i))).length:Nat):Int) < (List.length (Al (Ac (c.take i))):Int):=O
   have g0:(0:Int)<=(((Ap (Ac (c.take i))).length:Nat):Int):=O
   have g2:List.length q+List.length c[i].2.2<=9223372036854775807:=O
   have g3:IntKind.wrap .i64 (c[i].1+c[i].2.1)=(((c[i].1+c[i].2.1).toNat:Nat):Int):=by rw [w64 O O];omega
   unfold Ln cK cZ gX wI;simp only [hi,e1,g0,g1,g2,g3,decide_true,AoU,AoE,AoF hlt,AoC,AoS,h1,
    show(0:Int)<=(i:Int) from by omega]
   rw [Ad2 O (by grind),AoC];simp only [Ao (Ao2 hlen O) hlt,h3,h4]) (by simp [Ln,cK,cZ,gX,wI])
  assumption
 grind
theorem XT {B:Nat} {c:List Prt} (h:Sm B c) (hB:B<=1099511627000) (hs:∀p∈c,Some1 p) (hle:src c<=1000000):MG c=some (Ap (Ac c),Al (Ac c)):=by
 have hlen:=Ao2 h.len hB;have hput:=Ao2 h.put hB;unfold MG;have:Ab Il (c,(List.length c:Int),0,[],[([]:List UInt8)])=some (Ap (Ac c),Al (Ac c)):=by
  have:=Af Il (λk=>(c,(List.length c:Int),((k:Nat):Int),Ap (Ac (c.take k)),Al (Ac (c.take k)))) c.length (Ap (Ac c),Al (Ac c)) (by
   intro i hlt;obtain ⟨q,h1,h2,h3,h4⟩:=X8 hlt;have hp:=hs _ (AoR hlt);have hpp:=Gi (AoR hlt);have k0:=hp.k;have d0:=hp.d;have n3:=AV (l:=c.drop (i+1)) λp h=>hs p (CC h)
   have a1:=JC hlt;have sl:=Jk (c:=c.take i) λp h=>hs p (Co h)
   have pl:=EW (Ac (c.take i));have hi:(i:Int) < (List.length c:Int):=O
   have e1:IntKind.wrap .i64 ((List.length (Al (Ac (c.take i))):Int) - 1)=(((Ap (Ac (c.take i))).length:Nat):Int):=by rw [w64 O O];omega
   have g1:(((Ap (Ac (c.take i))).length:Nat):Int) < (List.length (Al (Ac (c.take i))):Int):=O
   have g0:(0:Int)<=(((Ap (Ac (c.take i))).length:Nat):Int):=O
   have g2:List.length q+List.length c[i].2.2<=9223372036854775807:=O
   have g3:IntKind.wrap .i64 (c[i].1+c[i].2.1)=(((c[i].1+c[i].2.1).toNat:Nat):Int):=by rw [w64 O O];omega
   unfold Il cK cZ gX wI;simp only [hi,e1,g0,g1,g2,decide_true,AoU,AoE,AoF hlt,AoC,AoS,h1,
    show(0:Int)<=(i:Int) from by omega]
   rw [Ad9 g3 O (by grind),AoC];simp only [Ao (Ao2 hlen O) hlt,h3,h4]) (by simp [Il,cK,cZ,gX,wI])
  assumption
 grind
end Go.V.G