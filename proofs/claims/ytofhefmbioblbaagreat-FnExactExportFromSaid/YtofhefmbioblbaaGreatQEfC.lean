import Derived.Test.YtofhefmbioblbaaGreatQEfA
import Derived.Test.YtofhefmbioblbaaGreatQEfB
set_option linter.unusedVariables false
set_option linter.unusedSimpArgs false
set_option maxRecDepth 100000
namespace Go.V.G
open Go.V
abbrev Bls:=List (List Int)
structure Bd (bl:Bls):Prop where
 n:bl.length<=100000
 b:∀x∈bl,0 < x.length/\x.length<=100000
def gd (bl:Bls) (wr lf:Int):Bool:=decide (40<=bl.length/\bl.length<=160) && (bl.all (λb=>b.length == 128) && (decide (0<=wr/\wr<=1000000000) && decide (-1<=lf/\lf<=1000000)))
theorem Wl {x:List Int} (h:x.length<=1048576):B3 x=some x:=by
 unfold B3 cK;have hr:Aa (List.length ([]:List Int)+List.length x) 1=true:=by
  simp only [Amp,Aa,decide_eq_true_eq];omega
 cases x with
 | nil=>simp [Gy,Aa]
 | cons a x=>simp only [Gy,List.isEmpty_cons,Al8,Amv,AlU,hr,Amd,Ams]
theorem AfR {x:List Int} (h:0 < x.length/\x.length<=100000):B3 x=some x:=Wl O
theorem Xi {bl:Bls} (h:Bd bl):Jf bl=some bl:=by
 have hn:=h.n;unfold Jf;refine Ok.eq (Ok.bind (Q:=λr=>r=bl) ?_ (λr hr=>Ok.mk hr));refine Ok.loop (λy=>∃k:Nat,k<=bl.length/\y=(bl.take k,bl,(bl.length:Int),(k:Int))) (λy=>((bl.length:Int) - y.2.2.2).toNat) ⟨0,O,Z⟩ ?_;rintro _ ⟨k,hk,rfl⟩;unfold Nb cK gX wI;dsimp only;refine Ok.ite (λhc=>?_) λhc=>?_
 .have hlt:k < bl.length:=by simpa using hc
  refine Ok.yes Z ?_;have hg:bl[Int.toNat (k:Int)]?=some bl[k]:=by simp [hlt]
  refine Ok.bind_eq hg (Ok.bind_eq (AfR (h.b _ (Amc hlt))) ?_);have e1:IntKind.wrap .i64 ((k:Int)+1)=(((k+1:Nat)):Int):=by rw [w64 O O];omega
  refine Ok.yes ?_ (Ok.mk ⟨⟨k+1,O,?_⟩,?_⟩)
  .simp only [Al4,Amb,Aa,decide_eq_true_eq];omega
  .rw [e1,Ama hlt]
  .dsimp only;rw [e1];omega
 .have:k=bl.length:=by simp at hc;omega
  refine Ok.mk ?_;dsimp only;rw [this,AmL]
theorem AjF {bl:Bls} (h:Bd bl) (wr:Int) (on:Bool) (lf:Int):Rh bl wr on lf=some (bl,wr,on,lf):=by
 have hn:=h.n;unfold Rh;refine Ok.eq (Ok.bind (Q:=λr=>r.1=bl/\r.2.2.1=wr/\r.2.2.2.1=on/\r.2.2.2.2.1=lf) ?_ (λr hr=>Ok.mk (by rw [hr.1,hr.2.1,hr.2.2.1,hr.2.2.2])));refine Ok.loop (λy=>∃k:Nat,k<=bl.length/\y.1=bl.take k/\y.2.1=bl/\y.2.2.1=(bl.length:Int)/\y.2.2.2.1=(k:Int)/\y.2.2.2.2.2.1=wr/\y.2.2.2.2.2.2.1=on/\y.2.2.2.2.2.2.2.1=lf) (λy=>((bl.length:Int) - y.2.2.2.1).toNat) ⟨0,O,Z,rfl,rfl,rfl,rfl,rfl,rfl⟩ ?_;rintro ⟨a,b,c,d,e,f,g,i,j⟩ ⟨k,hk,q1,q2,q3,q4,q5,q6,q7⟩;dsimp only at q1 q2 q3 q4 q5 q6 q7;subst q1 q2 q3 q4 q5 q6 q7;unfold Us cK gX wI;dsimp only;refine Ok.ite (λhc=>?_) λhc=>?_
 .have hlt:k < b.length:=by simpa using hc
  refine Ok.yes Z ?_;have hg:b[Int.toNat (k:Int)]?=some b[k]:=by simp [hlt]
  have hb:=h.b _ (Amc hlt);have e1:IntKind.wrap .i64 ((k:Int)+1)=(((k+1:Nat)):Int):=by rw [w64 O O];omega
  refine Ok.bind_eq hg (Ok.yes ?_ (Ok.yes ?_ (Ok.mk ⟨⟨k+1,O,?_,rfl,rfl,?_,rfl,rfl,rfl⟩,?_⟩)))
  .simp only [Amp,Aa,decide_eq_true_eq];omega
  .simp only [Al4,Amb,Aa,decide_eq_true_eq];omega
  .rw [Ama hlt,Ams]
  .dsimp only;rw [e1]
  .dsimp only;rw [e1];omega
 .have:k=b.length:=by simp at hc;omega
  refine Ok.mk ⟨?_,rfl,rfl,rfl⟩;dsimp only;rw [this,AmL]
theorem X2 {bl:Bls} (hn:bl.length<=1048576):Ok (Bj bl) λr=>(0<=r↔¬ bl.all (λb=>b.length == 128)=true):=by
 unfold Bj;refine Ok.bind (Q:=λr=>match r with | .inl _=>bl.all (λb=>b.length == 128)=true | .inr i=>0<=i/\¬ bl.all (λb=>b.length == 128)=true) ?_ ?_
 .refine Ok.loop (λy=>∃k:Nat,k<=bl.length/\y=(bl,(bl.length:Int),(k:Int))/\∀j (hj:j < bl.length),j < k->bl[j].length=128) (λy=>((bl.length:Int) - y.2.2).toNat) ⟨0,O,rfl,λ_ _ h=>absurd h O⟩ ?_;rintro _ ⟨k,hk,rfl,hall⟩;unfold CL gX wI;dsimp only;refine Ok.ite (λhc=>?_) λhc=>?_
  .have hlt:k < bl.length:=by simpa using hc
   refine Ok.yes Z ?_;have hg:bl[Int.toNat (k:Int)]?=some bl[k]:=by simp [hlt]
   refine Ok.bind_eq hg (Ok.bind_eq rfl (Ok.ite (λhb=>Ok.mk ⟨O,?_⟩) λhb=>?_))
   .have hb':¬ bl[k].length=128:=by simp at hb;omega
    intro hx;have:=Amr.1 hx _ (Amc hlt);simp at this;exact hb' this
   .have hb':bl[k].length=128:=by simp at hb;omega
    have e1:IntKind.wrap .i64 ((k:Int)+1)=(((k+1:Nat)):Int):=by rw [w64 O O];omega
    refine Ok.mk ⟨⟨k+1,O,by rw [e1],λj hj hjk=>?_⟩,?_⟩
    .by_cases hjk2:j=k
     .subst hjk2;exact hb'
     .exact hall j hj O
    .dsimp only;rw [e1];omega
  .have:k=bl.length:=by simp at hc;omega
   refine Ok.mk ?_;dsimp only;rw [Amr];intro x hx;obtain ⟨j,hj,rfl⟩:=AmA hx;simp [hall j hj O]
 .rintro (u | i) hr
  .refine Ok.mk ?_;simp only at hr;simp [hr]
  .refine Ok.mk ?_;simp only at hr;simp only [hr.1,true_iff];exact hr.2
theorem JO {bl:Bls} (hn:bl.length<=1048576) (wr:Int) (on:Bool) (lf:Int):Hj bl wr on lf=some (gd bl wr lf):=by
 have hA:EE bl=some (decide (40<=bl.length/\bl.length<=160) && bl.all (λb=>b.length == 128)):=by
  unfold EE;refine Ok.eq (Ok.bind (Q:=λr=>r=_) ?_ (λr hr=>Ok.mk hr));refine Ok.bind_eq (AK _ _ _) ?_;refine Ok.ite (λhc=>?_) λhc=>Ok.mk ?_
  .refine Ok.bind (Q:=λr=>r = !(bl.all (λb=>b.length == 128))) ?_ (λr hr=>Ok.mk ?_)
   .unfold Bg;refine(X2 hn).bind λr hr=>Ok.mk ?_
    cases ha:bl.all (λb=>b.length == 128)with
    | true=>rw [ha]at hr;simpa using hr
    | false=>rw [ha]at hr;simpa using hr
   .have hc':40<=bl.length/\bl.length<=160:=by simp at hc;omega
    rw [hr];simp [hc']
  .have hc':¬ (40<=bl.length/\bl.length<=160):=by simp at hc;omega
   simp [hc']
 unfold Hj gd;refine Ok.eq (Ok.bind (Q:=λr=>r=_) ?_ (λr hr=>Ok.mk hr));refine Ok.bind_eq hA ?_;refine Ok.ite (λhc=>?_) λhc=>Ok.mk ?_
 .simp only [Al2]at hc;refine Ok.bind_eq (AK _ _ _) (Ok.ite (λhw=>Ok.bind_eq (AK _ _ _) (Ok.mk ?_)) λhw=>Ok.mk ?_)
  .simp only [decide_eq_true_eq]at hw;simp [hc.1,hc.2,hw]
  .simp only [decide_eq_true_eq]at hw;simp [hw]
 .have:(decide (40<=bl.length/\bl.length<=160) && bl.all (λb=>b.length == 128))=false:=by simpa using hc
  rw [<- AnW,this,Anm]
theorem IH {bl:Bls} (hn:bl.length<=1048576) (wr:Int) (on:Bool) (lf:Int):Jt bl wr on lf=some (gd bl wr lf):=by
 unfold Jt gd;refine Ok.eq (Ok.bind (Q:=λr=>r=(!(decide (40<=bl.length/\bl.length<=160) && (decide (0<=wr/\wr<=1000000000) && decide (-1<=lf/\lf<=1000000))),bl,wr,on,lf)) ?_ ?_)
 .refine Ok.bind_eq (B2 _ _ _) (Ok.ite (λhc=>Ok.mk ?_) λhc=>?_)
  .have hc':¬ (40<=bl.length/\bl.length<=160):=by simp at hc;omega
   simp [hc']
  .have hc':40<=bl.length/\bl.length<=160:=by simp at hc;omega
   refine Ok.bind_eq (B2 _ _ _) (Ok.ite (λhw=>Ok.mk ?_) λhw=>Ok.bind_eq (B2 _ _ _) (Ok.mk ?_))
   .have hw':¬ (0<=wr/\wr<=1000000000):=by simpa only [Al9,decide_eq_false_iff_not] using hw
    simp [hw']
   .have hw':0<=wr/\wr<=1000000000:=by simpa using hw
    simp [hc',hw']
 .rintro _ rfl;dsimp only;refine Ok.ite (λhc=>Ok.mk ?_) λhc=>?_
  .have hc':(decide (40<=bl.length/\bl.length<=160) && (decide (0<=wr/\wr<=1000000000) && decide (-1<=lf/\lf<=1000000)))=false:=by simpa only [Bool.not_not,Al9,Bool.not_eq_true,Bool.not_eq_false'] using hc
   cases h1:decide (40<=bl.length/\bl.length<=160)with
   | false=>simp
   | true=>rw [h1,Amg]at hc';rw [hc'];simp
  .have hc':(decide (40<=bl.length/\bl.length<=160) && (decide (0<=wr/\wr<=1000000000) && decide (-1<=lf/\lf<=1000000)))=true:=by simpa using hc
   rw [Al2]at hc';rw [hc'.1,hc'.2,Amg,Anv];refine Ok.bind (Q:=λr=>match r with | .inl _=>bl.all (λb=>b.length == 128)=true | .inr i=>i=false/\¬ bl.all (λb=>b.length == 128)=true) ?_ ?_
   .refine Ok.loop (λy=>∃k:Nat,k<=bl.length/\y=(bl,(bl.length:Int),(k:Int))/\∀j (hj:j < bl.length),j < k->bl[j].length=128) (λy=>((bl.length:Int) - y.2.2).toNat) ⟨0,O,rfl,λ_ _ h=>absurd h O⟩ ?_;rintro _ ⟨k,hk,rfl,hall⟩;unfold PD gX wI;dsimp only;refine Ok.ite (λhc=>?_) λhc=>?_
    .have hlt:k < bl.length:=by simpa using hc
     refine Ok.yes Z ?_;have hg:bl[Int.toNat (k:Int)]?=some bl[k]:=by simp [hlt]
     refine Ok.bind_eq hg (Ok.ite (λhb=>Ok.mk ⟨rfl,?_⟩) λhb=>?_)
     .have hb':¬ bl[k].length=128:=by simp at hb;omega
      intro hx;have:=Amr.1 hx _ (Amc hlt);simp at this;exact hb' this
     .have hb':bl[k].length=128:=by simp at hb;omega
      have e1:IntKind.wrap .i64 ((k:Int)+1)=(((k+1:Nat)):Int):=by rw [w64 O O];omega
      refine Ok.mk ⟨⟨k+1,O,by rw [e1],λj hj hjk=>?_⟩,?_⟩
      .by_cases hjk2:j=k
       .subst hjk2;exact hb'
       .exact hall j hj O
      .dsimp only;rw [e1];omega
    .have:k=bl.length:=by simp at hc;omega
     refine Ok.mk ?_;dsimp only;rw [Amr];intro x hx;obtain ⟨j,hj,rfl⟩:=AmA hx;simp [hall j hj O]
   .rintro (u | i) hr
    .exact Ok.mk hr.symm
    .refine Ok.mk ?_;simp only at hr;rw [hr.1];simpa using hr.2
end Go.V.G
set_option maxRecDepth 100000
namespace Go.V.G
open Go.V
theorem Bd.set {bl:Bls} (h:Bd bl) {x:List Int} (hx:0 < x.length/\x.length<=100000) (i:Nat):Bd (bl.set i x):=
 ⟨by rw [Am0];exact h.n,λy hy=>by
  rcases Am1 hy with hy | rfl
  .exact h.b y hy
  .exact hx⟩
end Go.V.G
set_option maxRecDepth 100000
namespace Go.V.G
open Go.V
section
variable {α:Type}
theorem ixS {n i:Nat} (hn:n<=4611686018427387904) (h:i < n):IntKind.wrap .i64 ((i:Int)+1)=((i+1:Nat):Int):=by rw [w64 O O];omega
def AP (w:α->Nat):List α->Nat
 | []=>0
 | x::xs=>w x+AP w xs
theorem Pv (w:α->Nat):∀{xs:List α} {x:α},x∈xs->w x<=AP w xs
 | y::xs,x,h=>by
  rcases Ame.1 h with rfl | h
  .simp only [AP];omega
  .have:=Pv w h;simp only [AP];omega
theorem NJ (w:α->Nat):∀(a b:List α),AP w (a++b)=AP w a+AP w b
 | [],b=>by simp [AP]
 | x::a,b=>by simp only [AmH,AP,NJ w a b];omega
def lft (l:Int) (n:Nat):Int:=if(n:Int)<=l then l - n else -1
theorem Aiy (f:List α×(Int×Int)->Option ((List α×(Int×Int))⊕(Int⊕Int))) (w:α->Nat) (xs:List α)
  (step:∀(i:Nat) (h:i < xs.length) (l:Int),0<=l->l<=1048576->f (xs,l,(i:Int))=some (if(w xs[i]:Int)<=l then .inl (xs,l - w xs[i],((i+1:Nat):Int))else .inr (.inr (-1))))
  (last:∀l,f (xs,l,(xs.length:Int))=some (.inr (.inl l))) {l:Int} (h0:0<=l) (h1:l<=1048576) :
  Ab f (xs,l,0)=some (if(AP w xs:Int)<=l then .inl (l - AP w xs)else .inr (-1)):=by
 have:=AiH f (λy=>y.1=xs/\(0<=y.2.1/\y.2.1<=1048576)/\∃i:Nat,y.2.2=(i:Int)/\i<=xs.length) (λy=>((xs.length:Int) - y.2.2).toNat)
  (λy=>if(AP w (y.1.drop y.2.2.toNat):Int)<=y.2.1 then .inl (y.2.1 - AP w (y.1.drop y.2.2.toNat))else .inr (-1)) (by
   rintro ⟨ys,l,i'⟩ ⟨e1,⟨h0,h1⟩,i,e2,hi⟩;dsimp only at e1 h0 h1 e2;subst e1 e2;dsimp only;rcases Nat.lt_or_ge i ys.length with hlt | hge
   .have hs:=step i hlt l h0 h1;have hd:AP w (ys.drop i)=w ys[i]+AP w (ys.drop (i+1)):=by rw [Amx hlt];rfl
    simp only [AlX];by_cases hw:(w ys[i]:Int)<=l
    .left;rw [Al1 hw]at hs;refine⟨_,hs,⟨rfl,AlT,i+1,rfl,O⟩,AlT,?_⟩;dsimp only;simp only [AlX,hd];by_cases hx:((AP w (ys.drop (i+1)):Int))<=l - (w ys[i]:Int)
     .rw [Al1 hx,Al1 O]
      congr 1;omega
     .rw [AlZ hx,AlZ O]
    .right;rw [AlZ hw]at hs;rw [hs,AlZ (by rw [hd];omega)]
   .right;have:i=ys.length:=O
    subst this;rw [last];simp [AP,h0]) (xs,l,0) ⟨rfl,⟨h0,h1⟩,0,rfl,Ane _⟩
 simpa using this
theorem Acb (f:List α×(List α×Int)->Option ((List α×(List α×Int))⊕(Unit⊕Bool))) (xs:List α) (step:∀(i:Nat) (h:i < xs.length),f (xs,xs,(i:Int))=some (.inl (xs,xs,((i+1:Nat):Int))))
  (last:f (xs,xs,(xs.length:Int))=some (.inr (.inl ()))):Ab f (xs,xs,0)=some (.inl ()):=by
 have:=Ai f (λk=>(xs,xs,((k:Nat):Int))) xs.length (.inl ()) (λk hk=>step k hk) last;simpa using this
theorem Aby (f:List α×(List α×Int)->Option ((List α×(List α×Int))⊕(List α))) (xs:List α) (z:α)
  (step:∀(ys:List α) (i:Nat) (h:i < xs.length),ys.length=xs.length->f (xs,ys,(i:Int))=some (.inl (xs,ys.set i xs[i],((i+1:Nat):Int))))
  (last:∀ys:List α,f (xs,ys,(xs.length:Int))=some (.inr ys)):Ab f (xs,List.replicate xs.length z,0)=some xs:=by
 have:=Ai f (λk=>(xs,xs.take k++List.replicate (xs.length - k) z,((k:Nat):Int))) xs.length xs (λk hk=>by
  rw [step _ k hk AlR,(O:xs.length - k=(xs.length - (k+1))+1),AmZ,Ama hk,Aol _ _ AlR,
   Al4,Aoc (Nat.le_of_lt hk),AnF,List.set_cons_zero,Al5]
  rfl) (by rw [last];simp)
 simpa using this
def mks (m:α->Int->α) (c:α->Nat):List α->Int->List α
 | [],_=>[]
 | x::xs,k=>m x k::mks m c xs (k+c x)
theorem HG (m:α->Int->α) (c:α->Nat):∀(xs:List α) (k:Int),(mks m c xs k).length=xs.length
 | [],_=>rfl
 | x::xs,k=>by simp only [mks,Al7,HG m c xs]
theorem Pn (m:α->Int->α) (c:α->Nat):∀(a b:List α) (k:Int),mks m c (a++b) k=mks m c a k++mks m c b (k+AP c a)
 | [],b,k=>by simp [mks,AP]
 | x::a,b,k=>by
  simp only [AmH,mks,Pn m c a b,AP]
  congr 3;omega
theorem AhU (m:α->Int->α) (c:α->Nat) {xs:List α} {k:Int} {i:Nat} (h:i < xs.length):(mks m c xs k)[i]'(by rw [HG];exact h)=m xs[i] (k+AP c (xs.take i)):=by
 have e:xs=xs.take i++xs[i]::xs.drop (i+1):=by rw [<- Amx h,AmJ]
 have hl:(mks m c (xs.take i) k).length=i:=by rw [HG,Al4];omega
 have h2:(mks m c xs k)[i]?=some (m xs[i] (k+AP c (xs.take i))):=by
  conv=>lhs;rw [e]
  rw [Pn,AmE O,hl,AnF];rfl
 rw [AlW (by rw [HG];exact h)]at h2;exact Anf h2
theorem WK (c:α->Nat) {xs:List α} {i:Nat} (h:i < xs.length):AP c (xs.take (i+1))=AP c (xs.take i)+c xs[i]:=by
 rw [Ama h,NJ];simp [AP]
theorem Qt (c:α->Nat) (xs:List α) (i:Nat):AP c (xs.take i)<=AP c xs:=by
 conv=>rhs;rw [<- AmJ i xs]
 rw [NJ];omega
theorem Wn (f:List α×(Int×Int)->Option ((List α×(Int×Int))⊕(List α×Int))) (m:α->Int->α) (c:α->Nat) (xs:List α)
  (step:∀(ys:List α) (i:Nat) (h:i < ys.length) (k:Int),ys.length=xs.length->ys[i]∈xs->0<=k->k+c ys[i]<=4611686018427387904->f (ys,k,((i:Nat):Int))=some (.inl (ys.set i (m ys[i] k),k+c ys[i],((i+1:Nat):Int))))
  (last:∀(ys:List α) (k:Int),f (ys,k,(ys.length:Int))=some (.inr (ys,k))) {k:Int} (h0:0<=k) (h1:k+AP c xs<=4611686018427387904) :
  Ab f (xs,k,0)=some (mks m c xs k,k+AP c xs):=by
 have:=Ai f (λi=>(mks m c (xs.take i) k++xs.drop i,k+AP c (xs.take i),((i:Nat):Int))) xs.length (mks m c xs k,k+AP c xs) (λi hi=>by
  have hl:(mks m c (xs.take i) k).length=i:=by rw [HG,Al4];omega
  have hlen:(mks m c (xs.take i) k++xs.drop i).length=xs.length:=by rw [Al0,hl,Amm];omega
  have hget:(mks m c (xs.take i) k++xs.drop i)[i]'(by rw [hlen];exact hi)=xs[i]:=by
   rw [List.getElem_append_right O];simp [hl]
  have ht:=WK c hi;have hle:=Qt c xs (i+1);rw [step _ i (by rw [hlen];exact hi) _ hlen (by rw [hget];exact Amc hi) O (by rw [hget];omega),hget];have e1:(mks m c (xs.take i) k++xs.drop i).set i (m xs[i] (k+AP c (xs.take i)))=mks m c (xs.take (i+1)) k++xs.drop (i+1):=by
   rw [Aol _ _ O,hl,AnF,Amx hi,List.set_cons_zero,Ama hi,Pn,Al5];rfl
  rw [e1,ht]
  congr 4;omega) (by
   have hl:(mks m c (xs.take xs.length) k++xs.drop xs.length).length=xs.length:=by rw [Al0,HG];simp
   have:=last (mks m c (xs.take xs.length) k++xs.drop xs.length) (k+AP c (xs.take xs.length));rw [hl]at this;rw [this];simp)
 simpa [mks,AP] using this
theorem Afk (g:List α×(Int×Int)->Option ((List α×(Int×Int))⊕(Int⊕Int))) (m:α->Int->α) (c:α->Nat) (xs:List α)
  (step:∀(ys:List α) (i:Nat) (h:i < ys.length) (x:α) (k:Int),ys.length=xs.length->x∈xs->ys[i]=m x k->0<=k->k+c x<=4611686018427387904->g (ys,k,((i:Nat):Int))=some (.inl (ys,k+c x,((i+1:Nat):Int))))
  (last:∀(ys:List α) (k:Int),g (ys,k,(ys.length:Int))=some (.inr (.inl k))) {k:Int} (h0:0<=k) (h1:k+AP c xs<=4611686018427387904) :
  Ab g (mks m c xs k,k,0)=some (.inl (k+AP c xs)):=by
 have:=Ai g (λi=>(mks m c xs k,k+AP c (xs.take i),((i:Nat):Int))) xs.length (.inl (k+AP c xs)) (λi hi=>by
  have ht:=WK c hi;have hle:=Qt c xs (i+1);rw [step _ i (by rw [HG];exact hi) xs[i] _ (HG ..) (Amc hi) (AhU m c hi) O O,ht]
  congr 4;omega) (by
   have:=last (mks m c xs k) (k+AP c (xs.take xs.length));rw [HG]at this;rw [this];simp)
 simpa [AP] using this
end
end Go.V.G
set_option maxRecDepth 100000
namespace Go.V.G
open Go.V
def PS (xs:List (Int)):Prop:=xs.length<=maxLen
def BD (xs:List (Int)):Nat:=xs.length
theorem R8 (xs:List (Int)):xs.length<=BD xs:=by unfold BD;omega
theorem Ag6 {xs:List (Int)} (hf:PS xs) {l:Int} (h0:0<=l) (h1:l<=1048576):MJ xs l=some (lft l (BD xs)):=by
 have hl:xs.length<=maxLen:=hf;unfold maxLen at hl;unfold MJ lft BD wI;rw [w64 O O];by_cases h:l - (xs.length:Int) < 0
 .rw [Al1 (by simpa using h),AlZ O]
 .rw [AlZ (by simpa using h),Al1 O]
theorem AfQ {xs:List (Int)} (h:BD xs<=1048576):MO xs=some xs:=by
 have hl:=R8 xs;have hr:Aa xs.length 1=true:=by simp only [Aa,decide_eq_true_eq];omega
 unfold MO cK cZ;simp only [AlX,hr,Amd,Am6,decide_true,show(0:Int)<=(xs.length:Int) from by omega];rw [Aby I7 xs _ (by
  intro ys i hi hy;have hc:(i:Int) < (xs.length:Int):=O
  have hy':i < ys.length:=O
  have g1:∀x,(ys.set i x)[i]?=some x:=λx=>Ant hy'
  skip
  unfold I7 cK cZ gX wI;simp only [hy,hc,decide_true,Amd,show(0:Int)<=(i:Int) from by omega,AlX,AlW hi,AlW hy',AlU,Amk,List.set_set,g1,ixS (O:xs.length<=4611686018427387904) hi]) (by intro ys;simp [I7,cK,cZ,gX,wI])]
 rfl
theorem YQ {xs:List (Int)} (h:BD xs<=1099511627776):FF xs xs=some true:=by
 have hl:=R8 xs;unfold FF;rw [AlZ Z,Acb I3 xs (by
  intro i hi;have hc:(i:Int) < (xs.length:Int):=O
  skip
  unfold I3 gX wI;simp only [hc,decide_true,Amd,show(0:Int)<=(i:Int) from by omega,AlX,AlW hi,AlU,ixS (O:xs.length<=4611686018427387904) hi,AmN,Al8,Amv,not_true_eq_false,decide_false]) (by simp [I3,gX,wI])]
 rfl
def K7 (xs:List (List Int)):Prop:=xs.length<=maxLen/\∀x∈xs,PS x
def BL (xs:List (List Int)):Nat:=xs.length+AP BD xs
theorem Jk (xs:List (List Int)):xs.length<=BL xs:=by unfold BL;omega
theorem Ad9 {xs:List (List Int)} (hf:K7 xs) {l:Int} (h0:0<=l) (h1:l<=1048576):KZ xs l=some (lft l (BL xs)):=by
 obtain ⟨hl,hx⟩:=hf;unfold maxLen at hl;unfold KZ wI;rw [w64 O O];by_cases h:l - (xs.length:Int) < 0
 .rw [Al1 (by simpa using h)];unfold lft BL;rw [AlZ O]
 .rw [AlZ (by simpa using h),Aiy Ig BD xs (by
   intro i hi l h0 h1;have hc:(i:Int) < (xs.length:Int):=O
   have hx:=hx _ (Amc hi);unfold Ig gX wI;simp only [hc,decide_true,Amd,show(0:Int)<=(i:Int) from by omega,AlX,AlW hi,AlU,Ag6 (hx) h0 h1,ixS (O:xs.length<=4611686018427387904) hi];unfold lft;by_cases hw:(BD xs[i]:Int)<=l
   .have:¬ l - (BD xs[i]:Int) < 0:=O
    simp [hw,this]
   .simp [hw]) (by intro l;simp [Ig,gX,wI]) O O,AlU]
  unfold lft BL;by_cases hx:(AP BD xs:Int)<=l - (xs.length:Int)
  .rw [Al1 hx,Al1 O];show some _=some _
   congr 1;omega
  .rw [AlZ hx,AlZ O]
theorem Aeb {xs:List (List Int)} (h:BL xs<=1048576):Lv xs=some xs:=by
 have hl:=Jk xs;have hr:Aa xs.length 24=true:=by simp only [Aa,decide_eq_true_eq];omega
 unfold Lv cK cZ;simp only [AlX,hr,Amd,Am6,decide_true,show(0:Int)<=(xs.length:Int) from by omega];rw [Aby In xs _ (by
  intro ys i hi hy;have hc:(i:Int) < (xs.length:Int):=O
  have hy':i < ys.length:=O
  have g1:∀x,(ys.set i x)[i]?=some x:=λx=>Ant hy'
  have hb:BD xs[i]<=1048576:=by have:=Pv BD (Amc hi);unfold BL at h;omega
  unfold In cK cZ gX wI;simp only [hy,hc,decide_true,Amd,show(0:Int)<=(i:Int) from by omega,AlX,AlW hi,AlW hy',AlU,Amk,List.set_set,g1,ixS (O:xs.length<=4611686018427387904) hi,AfQ (hb)]) (by intro ys;simp [In,cK,cZ,gX,wI])]
 rfl
theorem AeL {xs:List (List Int)} (h:BL xs<=1099511627776):Lj xs xs=some true:=by
 have hl:=Jk xs;unfold Lj;rw [AlZ Z,Acb Id xs (by
  intro i hi;have hc:(i:Int) < (xs.length:Int):=O
  have hb:BD xs[i]<=1099511627776:=by have:=Pv BD (Amc hi);unfold BL at h;omega
  unfold Id gX wI;simp only [hc,decide_true,Amd,show(0:Int)<=(i:Int) from by omega,AlX,AlW hi,AlU,ixS (O:xs.length<=4611686018427387904) hi,YQ (hb),AmN,Al8,Amv,not_true_eq_false,decide_false]) (by simp [Id,gX,wI])]
 rfl
end Go.V.G
set_option maxRecDepth 100000
namespace Go.V.G
open Go.V
theorem n1:((1:Nat):Int)=1:=rfl
theorem n4:((4:Nat):Int)=4:=rfl
def CC:Int->Nat:=λ_=>1
def IV:Int->Int->Int:=λ_ k=>IntKind.wrap .u8 k
theorem Ta:∀xs:List Int,AP CC xs=xs.length
 | []=>rfl
 | x::xs=>by simp only [AP,Ta xs,CC,Al7];omega
theorem Uh {xs:List Int} (hl:xs.length<=1099511627776) {k:Int} (h0:0<=k) (h1:k+AP CC xs<=4611686018427387904):Ej xs k=some (mks IV CC xs k,k+AP CC xs):=by
 unfold Ej;rw [Wn FQ IV CC xs (by
  intro ys i hi k hlen hmem h0 hk;have hc:(i:Int) < (ys.length:Int):=O
  simp only [CC]at hk;have w1:IntKind.wrap .i64 (k+1)=k+1:=w64 O O;unfold FQ cK cZ wI;simp only [hc,decide_true,Amd,show(0:Int)<=(i:Int) from by omega,AlX,AlW hi,AlU,Amk,ixS (O:ys.length<=4611686018427387904) hi,w1,IV,CC,n1]) (by intro ys k;simp [FQ,cK,cZ,wI]) h0 h1]
 rfl
theorem Acx {xs:List Int} (hl:xs.length<=1099511627776) {k:Int} (h0:0<=k) (h1:k+AP CC xs<=4611686018427387904):Gj (mks IV CC xs k) k=some (k+AP CC xs):=by
 unfold Gj;rw [Afk HF IV CC xs (by
  intro ys i hi x k hlen hmem hx h0 hk;have hc:(i:Int) < (ys.length:Int):=O
  simp only [CC]at hk;have w1:IntKind.wrap .i64 (k+1)=k+1:=w64 O O;unfold HF gX wI;simp only [hc,decide_true,Amd,show(0:Int)<=(i:Int) from by omega,AlX,AlW hi,AlU,hx,ixS (O:ys.length<=4611686018427387904) hi,w1,IV,CC,n1,not_true_eq_false,decide_false,Al8,Amv]) (by intro ys k;simp [HF,gX,wI]) h0 h1]
 rfl
def EG:List Int->Nat:=λx=>AP CC x
def OQ:List Int->Int->List Int:=λx k=>mks IV CC x k
theorem V8:∀xs:List (List Int),AP EG xs<=BL xs
 | []=>Ane _
 | x::xs=>by
  have ih:=V8 xs;have hx:=Ta x;simp only [BL,AP,Al7,EG,BD]at ih ⊢;omega
theorem AaV {xs:List (List Int)} (h:BL xs<=1099511627776) {k:Int} (h0:0<=k) (h1:k+AP EG xs<=4611686018427387904):Hk xs k=some (mks OQ EG xs k,k+AP EG xs):=by
 have hl:=Jk xs;unfold Hk;rw [Wn ET OQ EG xs (by
  intro ys i hi k hlen hmem h0 hk;have hc:(i:Int) < (ys.length:Int):=O
  have hb:ys[i].length<=1099511627776:=by have:=Pv BD hmem;have e:BD ys[i]=ys[i].length:=rfl;unfold BL at h;omega
  have hm:=Uh hb h0 hk;unfold ET cK cZ wI;simp only [hc,decide_true,Amd,show(0:Int)<=(i:Int) from by omega,AlX,AlW hi,AlU,Amk,ixS (O:ys.length<=4611686018427387904) hi,hm,OQ,EG]) (by intro ys k;simp [ET,cK,cZ,wI]) h0 h1]
 rfl
theorem AiB (l:Int) (n:Nat):(if decide (lft l n < 0)=true then(some (-1):Option Int)else some (lft l n))=some (lft l n):=by
 by_cases h:lft l n < 0
 .rw [Al1 (by simpa using h)];unfold lft at h ⊢;split at h
  .omega
  .rename_i hn;rw [AlZ hn]
 .rw [AlZ (by simpa using h)]
theorem Aia {b:List (List Int)} {x:Int} {y:Bool} {z:Int} (hf:K7 b) {l:Int} (h0:0<=l) (h1:l<=1048576):OH b x y z l=some (lft l (BL b)):=by
 unfold OH;rw [Ad9 hf h0 h1,AlU,AiB]
theorem AhV {b:List (List Int)} {x:Int} {y:Bool} {z:Int} (h:BL b<=1048576):Hi b x y z=some (b,x,y,z):=by
 unfold Hi;rw [Aeb h];rfl
theorem Aib {b:List (List Int)} {x:Int} {y:Bool} {z:Int} (h:BL b<=1099511627776):Md b x y z b x y z=some true:=by
 unfold Md;simp [AeL h]
theorem AdV {b:List (List Int)} {x:Int} {y:Bool} {z:Int} (h:BL b<=1099511627776) {k:Int} (h0:0<=k) (h1:k<=1000000000000000) :
  Hg b x y z k=some (mks OQ EG b k,x,y,z,k+AP EG b):=by
 have:=V8 b;unfold Hg;rw [AaV h h0 O];rfl
end Go.V.G
set_option maxRecDepth 100000
namespace Go.V.G
open Go.V
abbrev Cl:=Int×(List Int×(Bool×(Int×Int)))
theorem BT {σ τ ρ:Type} (f:σ->Option (σ⊕(τ⊕ρ))) (st:Nat->σ) (p:Nat->Bool) (e:Nat->ρ) (z:τ) (n:Nat)
  (step:∀i,i < n->f (st i)=some (if p i=true then .inl (st (i+1))else .inr (.inr (e i)))) (last:f (st n)=some (.inr (.inl z))) :
  ((∀j,j < n->p j=true)/\Ab f (st 0)=some (.inl z))\/∃k,k < n/\p k=false/\(∀j,j < k->p j=true)/\Ab f (st 0)=some (.inr (e k)):=by
 by_cases h:∃k,k < n/\p k=false
 .have hf:∃k,(k < n/\p k=false)/\∀j,j < k->p j=true:=by
   obtain ⟨k,hk⟩:=h
   induction k using Nat.strongRecOn with
   | _ k ih=>
    by_cases hx:∃j,j < k/\p j=false
    .obtain ⟨j,hj,hp⟩:=hx;exact ih j hj ⟨O,hp⟩
    .refine⟨k,hk,λj hj=>?_⟩;cases hpj:p j with
     | true=>rfl
     | false=>exact absurd ⟨j,hj,hpj⟩ hx
  obtain ⟨k,⟨hk,hp⟩,hall⟩:=hf;refine .inr ⟨k,hk,hp,hall,Ai f st k _ (λj hj=>?_) ?_⟩
  .rw [step j O,Al1 (hall j hj)]
  .rw [step k hk,hp,AlZ Z]
 .have hall:∀j,j < n->p j=true:=λj hj=>by
   cases hpj:p j with
   | true=>rfl
   | false=>exact absurd ⟨j,hj,hpj⟩ h
  exact .inl ⟨hall,Ai f st n _ (λj hj=>by rw [step j hj,Al1 (hall j hj)]) last⟩
def AkV (ls:List Cl) (u:Int):Bool:=ls.any λq=>q.2.2.2.2 == u
def gl (x1:Int) (ls:List Cl) (bl:Bls) (i:Nat) (r:Cl):Bool:=
 decide (0<=r.1/\r.1 < bl.length) && (decide (0 < i->(ls[i - 1]?.getD r).1 < r.1) && (decide (r.2.1.length=128) && (decide (0<=r.2.2.2.1/\r.2.2.2.1<=100) && (decide (1<=r.2.2.2.2/\r.2.2.2.2<=x1) &&
  ((r.2.2.1 || r.2.1 == bl[r.1.toNat]?.getD []) && !(AkV (ls.take i) r.2.2.2.2))))))
structure CD (ls:List Cl) (bl:Bls):Prop where
 n:ls.length<=1048576
 m:bl.length<=1048576
 b:∀x∈ls,x.2.1.length<=1048576/\∀y∈x.2.1,0<=y/\y<=255
 k:∀x∈bl,x.length<=1048576/\∀y∈x,0<=y/\y<=255
def gc (x0 x1:Int) (ls:List Cl) (bl:Bls) (wr lf:Int):Bool:=
 gd bl wr lf && (decide (1<=x0/\x0<=8) && (decide (0<=x1/\x1<=1000000) && (decide ((ls.length:Int)<=x0) && (List.range ls.length).all λi=>gl x1 ls bl i (ls[i]?.getD (0,[],false,0,0)))))
theorem TU:∀{a b:List Int},(∀y∈a,0<=y/\y<=255)->(∀y∈b,0<=y/\y<=255)->AJ a=AJ b->a=b
 | [],[],_,_,_=>rfl
 | [],_::_,_,_,h=>by simp [AJ]at h
 | _::_,[],_,_,h=>by simp [AJ]at h
 | x::a,y::b,ha,hb,h=>by
  simp only [AJ,AmF,Aod]at h;have h1:=ha x Z;have h2:=hb y Z;have h3:x=y:=by
   have:=congrArg UInt8.toNat h.1;simp only [UInt8.toNat_ofNat']at this;omega
  rw [h3,TU (λz hz=>ha z (by simp [hz])) (λz hz=>hb z (by simp [hz])) h.2]
theorem SM {a b:List Int} (ha:∀y∈a,0<=y/\y<=255) (hb:∀y∈b,0<=y/\y<=255):(AJ a == AJ b)=(a == b):=by
 by_cases h:a=b
 .subst h;simp
 .have:¬ AJ a=AJ b:=λhh=>h (TU ha hb hh)
  rw [beq_eq_false_iff_ne.2 this,beq_eq_false_iff_ne.2 h]
theorem Am {i:Nat} (h:i<=1048576):IntKind.wrap .i64 ((i:Int)+1)=((i+1:Nat):Int):=by rw [w64 O O];omega
theorem V9 {a b:List Int} (hn:a.length<=1048576):CE a b=some (a == b):=by
 unfold CE;by_cases hl:a.length=b.length
 .rw [AlZ (by simp [hl])];rcases BT CX (λk=>(a,b,(a.length:Int),((k:Nat):Int))) (λk=>a[k]? == b[k]?) (λ_=>false) () a.length (λi hi=>by
    unfold CX gX wI;dsimp only;have hib:i < b.length:=O
    rw [Al1 AlR,Al1 Z,AlX,AlW hi,AlU,Al1 Z,AlW hib,AlU,Am O];by_cases he:a[i]=b[i]
    .rw [AlZ (by simp [he]),Al1 (by simp [he])]
    .rw [Al1 (by simp [he]),AlZ (by simp [he])]) (by
    unfold CX gX wI;dsimp only;rw [AlZ Z])with⟨h1,h2⟩ | ⟨k,hk,h1,_,h2⟩
  .rw [show(((0:Nat):Int))=0 from rfl]at h2;rw [h2,AlU];have:a=b:=by
    refine AmT λi=>?_
    by_cases hi:i < a.length
    .simpa using h1 i hi
    .rw [Amn O,Amn O]
   simp [this]
  .rw [show(((0:Nat):Int))=0 from rfl]at h2;rw [h2,AlU];have:¬ a=b:=λh=>by subst h;simp at h1
   rw [beq_eq_false_iff_ne.2 this]
 .rw [Al1 AlR];have:¬ a=b:=λh=>hl (by rw [h])
  rw [beq_eq_false_iff_ne.2 this]
structure Up (ls:List Cl) (m:Nat):Prop where
 up:∀i j (hi:i < ls.length) (hj:j < ls.length),i < j->ls[i].1 < ls[j].1
 b:∀i (hi:i < ls.length),0<=ls[i].1/\ls[i].1 < m
end Go.V.G
set_option maxRecDepth 100000
namespace Go.V.G
open Go.V
def ub (r:Int) (j:Nat):Bool:=decide ((IntKind.wrap .u8 (((BitVec.ofInt (IntKind.bits .u8) (Int.fdiv r (2 ^ (min j (IntKind.bits .u8)))) &&& BitVec.ofInt (IntKind.bits .u8) 1).toNat:Int)):Int)=1)
def sb (r:Int) (j:Nat):Int:=IntKind.wrap .u8 (((BitVec.ofInt (IntKind.bits .u8) r ||| BitVec.ofInt (IntKind.bits .u8) (IntKind.wrap .u8 (1 * 2 ^ (min j (IntKind.bits .u8))))).toNat:Int))
def bit (bits:List Int) (k:Nat):Bool:=ub (bits[k / 8]?.getD 0) (k % 8)
def setB (bits:List Int) (k:Nat):List Int:=bits.set (k / 8) (sb (bits[k / 8]?.getD 0) (k % 8))
theorem dv8 {k:Nat} (h:k<=1048576):IntKind.wrap .i64 (Int.tdiv (k:Int) 8)=((k / 8:Nat):Int):=by
 rw [An7 O,w64 O O];omega
theorem md8 (k:Nat):Int.tmod (k:Int) 8=((k % 8:Nat):Int):=by
 rw [Anz O];omega
theorem Alc (k:Nat):IntKind.wrap .u64 (Int.tmod (k:Int) 8)=((k % 8:Nat):Int):=by
 rw [md8,ZB O O]
theorem Ky {bits:List Int} {k:Nat} (h:k<=1048576) (hk:k / 8 < bits.length):GM bits (k:Int)=some (bit bits k):=by
 unfold GM bit cK cZ gX wI wB;rw [dv8 h,Alc,Al1 Z,Al1 AlR,AlX,AlW hk,AlU,Al1 Z,Al1 AlR];rfl
theorem Wy {bits:List Int} {k:Nat} (h:k<=1048576) (hk:k / 8 < bits.length) (b:Bls) (g t:List Int):DM (k:Int) b bits g t=some (bit bits k,b,bits,g,t):=by
 unfold DM bit cK cZ gX wI wB;rw [dv8 h,md8,Al1 Z,Al1 AlR,AlX,AlW hk,AlU,Al1 Z,Al1 AlR];rfl
def upG (n:Nat) (bits l:List Int) (i:Nat):Bool:=
 decide (33<=l[i]?.getD 0/\l[i]?.getD 0<=(n:Int) - 1) && (bit bits (l[i]?.getD 0).toNat && decide (0 < i->l[i - 1]?.getD 0 < l[i]?.getD 0))
def upB (n:Nat) (bits l:List Int):Bool:=(List.range l.length).all λi=>upG n bits l i
def bG (n:Nat) (bits:List Int) (k:Nat):Bool:=!((decide (k < 33) && !(bit bits k)) || (decide (n<=k) && bit bits k))
def gsp (b:Bls) (bits g t:List Int):Bool:=
 (decide (40<=b.length/\b.length<=160) && (decide (bits.length=20) && b.all (λx=>x.length == 128))) && (((List.range 160).all λk=>bG b.length bits k) && (upB b.length bits g && upB b.length bits t))
theorem all_range {p:Nat->Bool} {n:Nat}:(List.range n).all p=true↔∀i,i < n->p i=true:=by
 rw [Amr];exact⟨λh i hi=>h i (AnG.2 hi),λh i hi=>h i (AnG.1 hi)⟩
theorem Zl (n:Nat) (bits l:List Int) (i:Nat) (hi:i < l.length):upG n bits l i =
  if ¬ (33<=l[i]/\l[i]<=(n:Int) - 1)then false else if bit bits l[i].toNat=false then false else if 0 < i/\l[i]<=l[i - 1]?.getD 0 then false else true:=by
 unfold upG;rw [AlW hi,AmG];by_cases h1:33<=l[i]/\l[i]<=(n:Int) - 1
 .rw [decide_eq_true h1,AlZ (not_not_intro h1),Amg];by_cases h2:bit bits l[i].toNat=false
  .rw [h2,Al1 rfl];rfl
  .rw [AlZ h2];have h2':bit bits l[i].toNat=true:=by simpa using h2
   rw [h2',Amg];by_cases h3:0 < i/\l[i]<=l[i - 1]?.getD 0
   .rw [Al1 h3];simp;exact h3
   .rw [AlZ h3];simp;omega
 .rw [decide_eq_false h1,Al1 h1];rfl
theorem Aix {b:Bls} {bits l:List Int} (hb:b.length<=160) (h40:40<=b.length) (hx:bits.length=20) (hl:l.length<=1048576) (a1:Bls) (a1':List (List Int)) (a2 a3:Int) (g t:List Int) :
  Ab EW ((b.length:Int),l,a1',a2,a3,l,(l.length:Int),0,a1,bits,g,t)=some (if upB b.length bits l=true then .inl ((b.length:Int),a1',a2,a3,a1,bits,g,t)else .inr false):=by
 rcases BT EW (λk=>((b.length:Int),l,a1',a2,a3,l,(l.length:Int),((k:Nat):Int),a1,bits,g,t)) (λk=>upG b.length bits l k) (λ_=>false) ((b.length:Int),a1',a2,a3,a1,bits,g,t) l.length (λi hi=>by
   unfold EW gX wI;dsimp only;rw [Al1 AlR,Al1 Z,AlX,AlW hi,AlU,Zl _ _ _ _ hi,B2,w64 (n:=(b.length:Int) - 1) O O,AlU];generalize hr:l[i]=r;by_cases h1:33<=r/\r<=(b.length:Int) - 1
   .obtain ⟨m,rfl⟩:=Amq (O:0<=r);rw [decide_eq_true h1,AlZ Z,Ky O O,AlU,AlZ (not_not_intro h1),AlX];cases h2:bit bits m with
    | false=>rw [Al1 rfl];rfl
    | true=>
     rw [AlZ (show ¬ (!true)=true by simp),AlZ (show ¬ true=false by simp)];by_cases h0:0 < i
     .have e1:IntKind.wrap .i64 (((i:Nat):Int) - 1)=((i - 1:Nat):Int):=by rw [w64 O O];omega
      have hp:l[i - 1]?=some l[i - 1]:=AlW O;rw [Al1 AlR,e1,Al1 Z,AlX,hp,AlU,AlU,AmG];dsimp only;by_cases h3:(m:Int)<=l[i - 1]
      .rw [Al1 (by simpa using h3),Al1 (⟨h0,h3⟩:0 < i/\(m:Int)<=l[i - 1])];rfl
      .rw [AlZ (by simpa using h3),AlZ (show ¬ (0 < i/\(m:Int)<=l[i - 1]) from λhh=>h3 hh.2),Am O];rfl
     .rw [AlZ AlR,AlU];dsimp only;rw [AlZ Z,AlZ (show ¬ (0 < i/\(m:Int)<=l[i - 1]?.getD 0) from λhh=>h0 hh.1),Am O];rfl
   .rw [decide_eq_false h1,Al1 Z,AlU,Al1 h1];rfl) (by
   unfold EW gX wI;dsimp only;rw [AlZ Z])with⟨h1,h2⟩ | ⟨k,hk,h1,_,h2⟩
 .rw [show(((0:Nat):Int))=0 from rfl]at h2;rw [h2,show upB b.length bits l=true from all_range.2 h1];rfl
 .rw [show(((0:Nat):Int))=0 from rfl]at h2;have:upB b.length bits l=false:=by
   cases hu:upB b.length bits l with
   | false=>rfl
   | true=>have:=all_range.1 hu k hk;rw [h1]at this;cases this
  rw [h2,this];rfl
theorem Ab7 {b:Bls} {bits l:List Int} (hb:b.length<=160) (h40:40<=b.length) (hx:bits.length=20) (hl:l.length<=1048576) (g t:List Int) :
  Dc l b bits g t=some (upB b.length bits l,b,bits,g,t):=by
 unfold Dc;rcases BT Dh (λk=>(l,l,(l.length:Int),((k:Nat):Int),b,bits,g,t)) (λk=>upG b.length bits l k) (λ_=>(false,b,bits,g,t)) (b,bits,g,t) l.length (λi hi=>by
   unfold Dh FT gX wI;dsimp only;rw [Al1 AlR,Al1 Z,AlX,AlW hi,AlU,Zl _ _ _ _ hi,AK,w64 (n:=(b.length:Int) - 1) O O,AlU];generalize hr:l[i]=r;by_cases h1:33<=r/\r<=(b.length:Int) - 1
   .obtain ⟨m,rfl⟩:=Amq (O:0<=r);rw [decide_eq_true h1,Al1 rfl,Wy O O,AlU,AlU,AlU,AlZ (not_not_intro h1),AlX];dsimp only;cases h2:bit bits m with
    | false=>rw [Al1 rfl];rfl
    | true=>
     rw [AlZ (show ¬ (!true)=true by simp),AlZ (show ¬ true=false by simp)];by_cases h0:0 < i
     .have e1:IntKind.wrap .i64 (((i:Nat):Int) - 1)=((i - 1:Nat):Int):=by rw [w64 O O];omega
      have hp:l[i - 1]?=some l[i - 1]:=AlW O;rw [Al1 AlR,e1,Al1 Z,AlX,hp,AlU,AlU,AmG];dsimp only;by_cases h3:(m:Int)<=l[i - 1]
      .rw [Al1 (by simpa using h3),Al1 (⟨h0,h3⟩:0 < i/\(m:Int)<=l[i - 1])];rfl
      .rw [AlZ (by simpa using h3),AlZ (show ¬ (0 < i/\(m:Int)<=l[i - 1]) from λhh=>h3 hh.2),Am O];rfl
     .rw [AlZ AlR,AlU];dsimp only;rw [AlZ Z,AlZ (show ¬ (0 < i/\(m:Int)<=l[i - 1]?.getD 0) from λhh=>h0 hh.1),Am O];rfl
   .rw [decide_eq_false h1,AlZ Z,AlU,AlU,Al1 h1];rfl) (by
   unfold Dh gX wI;dsimp only;rw [AlZ Z])with⟨h1,h2⟩ | ⟨k,hk,h1,_,h2⟩
 .rw [show(((0:Nat):Int))=0 from rfl]at h2;rw [h2,show upB b.length bits l=true from all_range.2 h1];rfl
 .rw [show(((0:Nat):Int))=0 from rfl]at h2;have:upB b.length bits l=false:=by
   cases hu:upB b.length bits l with
   | false=>rfl
   | true=>have:=all_range.1 hu k hk;rw [h1]at this;cases this
  rw [h2,this];rfl
theorem Afi {n:Nat} {bits:List Int} (k:Nat):bG n bits k=if k < 33 then(if bit bits k=false then false else if n<=k then !(bit bits k)else true)else if n<=k then !(bit bits k)else true:=by
 unfold bG;by_cases h1:k < 33 <;> by_cases h2:n<=k <;> cases bit bits k <;> simp [h1,h2]
theorem Afd {b:Bls} {bits:List Int} (hb:b.length<=160) (hx:bits.length=20) (g t:List Int) :
  Ab Fx ((b.length:Int),0,b,bits,g,t)=some (if((List.range 160).all λk=>bG b.length bits k)=true then .inl ((b.length:Int),b,bits,g,t)else .inr false):=by
 rcases BT Fx (λk=>((b.length:Int),((k:Nat):Int),b,bits,g,t)) (λk=>bG b.length bits k) (λ_=>false) ((b.length:Int),b,bits,g,t) 160 (λi hi=>by
   unfold Fx wI;dsimp only;rw [Al1 AlR,Ky O O,AlU,Afi];by_cases h1:i < 33
   .rw [Al1 AlR,Al1 h1];cases h2:bit bits i with
    | false=>rw [Al1 (show(!false)=true from rfl),Al1 rfl];rfl
    | true=>
     rw [AlZ (show ¬ (!true)=true by simp),AlZ (show ¬ true=false by simp)];by_cases h3:b.length<=i
     .rw [Al1 AlR,Al1 h3];rfl
     .rw [AlZ AlR,AlZ h3,AlU];dsimp only;rw [AlZ Z,Am O];rfl
   .rw [AlZ AlR,AlZ h1];by_cases h3:b.length<=i
    .rw [Al1 AlR,Al1 h3,AlU];dsimp only;cases h2:bit bits i with
     | false=>rw [AlZ Z,Am O];rfl
     | true=>rw [Al1 rfl];rfl
    .rw [AlZ AlR,AlZ h3,AlU];dsimp only;rw [AlZ Z,Am O];rfl) (by
   unfold Fx wI;dsimp only;rw [AlZ Z])with⟨h1,h2⟩ | ⟨k,hk,h1,_,h2⟩
 .rw [show(((0:Nat):Int))=0 from rfl]at h2;rw [h2,all_range.2 h1];rfl
 .rw [show(((0:Nat):Int))=0 from rfl]at h2;have:((List.range 160).all λk=>bG b.length bits k)=false:=by
   cases hu:((List.range 160).all λk=>bG b.length bits k)with
   | false=>rfl
   | true=>have:=all_range.1 hu k hk;rw [h1]at this;cases this
  rw [h2,this];rfl
theorem Ae8 {b:Bls} {bits:List Int} (hb:b.length<=160) (hx:bits.length=20) (g t:List Int) :
  Ab Fr (0,b,bits,g,t)=some (if((List.range 160).all λk=>bG b.length bits k)=true then .inl (b,bits,g,t)else .inr false):=by
 rcases BT Fr (λk=>(((k:Nat):Int),b,bits,g,t)) (λk=>bG b.length bits k) (λ_=>false) (b,bits,g,t) 160 (λi hi=>by
   unfold Fr wI;dsimp only;rw [Al1 AlR,Wy O O,AlU,Afi];dsimp only;by_cases h1:i < 33
   .rw [Al1 AlR,Al1 h1];cases h2:bit bits i with
    | false=>rw [Al1 (show(!false)=true from rfl),Al1 rfl];rfl
    | true=>
     rw [AlZ (show ¬ (!true)=true by simp),AlZ (show ¬ true=false by simp)];by_cases h3:b.length<=i
     .rw [Al1 AlR,Al1 h3];rfl
     .rw [AlZ AlR,AlZ h3,AlU];dsimp only;rw [AlZ Z,Am O];rfl
   .rw [AlZ AlR,AlZ h1];by_cases h3:b.length<=i
    .rw [Al1 AlR,Al1 h3,AlU];dsimp only;cases h2:bit bits i with
     | false=>rw [AlZ Z,Am O];rfl
     | true=>rw [Al1 rfl];rfl
    .rw [AlZ AlR,AlZ h3,AlU];dsimp only;rw [AlZ Z,Am O];rfl) (by
   unfold Fr wI;dsimp only;rw [AlZ Z])with⟨h1,h2⟩ | ⟨k,hk,h1,_,h2⟩
 .rw [show(((0:Nat):Int))=0 from rfl]at h2;rw [h2,all_range.2 h1];rfl
 .rw [show(((0:Nat):Int))=0 from rfl]at h2;have:((List.range 160).all λk=>bG b.length bits k)=false:=by
   cases hu:((List.range 160).all λk=>bG b.length bits k)with
   | false=>rfl
   | true=>have:=all_range.1 hu k hk;rw [h1]at this;cases this
  rw [h2,this];rfl
theorem Aam {b:Bls} {bits:List Int} (hb:b.length<=1048576) (n:Int) (a:Bls) (g t:List Int) :
  Ab Fm (n,b,(b.length:Int),0,a,bits,g,t)=some (if b.all (λx=>x.length == 128)=true then .inl (n,a,bits,g,t)else .inr false):=by
 rcases BT Fm (λk=>(n,b,(b.length:Int),((k:Nat):Int),a,bits,g,t)) (λk=>(b[k]?.getD []).length == 128) (λ_=>false) (n,a,bits,g,t) b.length (λi hi=>by
   unfold Fm gX wI;dsimp only;rw [Al1 AlR,Al1 Z,AlX,AlW hi,AlU,AmG];by_cases h1:b[i].length=128
   .rw [AlZ AlR,Al1 (by simpa using h1),Am O]
   .rw [Al1 AlR,AlZ (by simpa using h1)]) (by
   unfold Fm gX wI;dsimp only;rw [AlZ Z])with⟨h1,h2⟩ | ⟨k,hk,h1,_,h2⟩
 .rw [show(((0:Nat):Int))=0 from rfl]at h2;have:b.all (λx=>x.length == 128)=true:=by
   rw [Amr];intro x hx;obtain ⟨j,hj,rfl⟩:=AmA hx;have:=h1 j hj;rw [AlW hj]at this;exact this
  rw [h2,this];rfl
 .rw [show(((0:Nat):Int))=0 from rfl]at h2;have:b.all (λx=>x.length == 128)=false:=by
   rw [List.all_eq_false];refine⟨b[k],Amc hk,?_⟩;rw [AlW hk]at h1;simpa using h1
  rw [h2,this];rfl
structure SB (b:Bls) (x y z:List Int):Prop where
 b:b.length<=1048576
 y:y.length<=1048576
 z:z.length<=1048576
theorem N9 {b:Bls} {x y z:List Int} (h:SB b x y z):H7 b x y z=some (gsp b x y z):=by
 have hb:=h.b;unfold H7 gsp;rw [B2,AlU];by_cases h1:(40:Int)<=(b.length:Int)/\(b.length:Int)<=160
 .have h1':40<=b.length/\b.length<=160:=O
  rw [decide_eq_true h1,decide_eq_true h1',AlZ Z,AlU,Amg];dsimp only;by_cases h2:x.length=20
  .rw [AlZ AlR,decide_eq_true h2,Amg,Aam hb,AlU];cases h3:b.all (λx=>x.length == 128)with
   | false=>rfl
   | true=>
    rw [Al1 rfl,Amg];dsimp only;rw [Afd O h2,AlU];cases h4:((List.range 160).all λk=>bG b.length x k)with
    | false=>rfl
    | true=>
     rw [Al1 rfl,Amg];dsimp only;have step:∀(i:Nat) (l:List Int),[y,z][i]?=some l->l.length<=1048576->Hy ((b.length:Int),[y,z],2,(i:Int),b,x,y,z) =
       some (if upB b.length x l=true then .inl ((b.length:Int),[y,z],2,((i+1:Nat):Int),b,x,y,z)else .inr (.inr false)):=by
      intro i l hl hll;have hi:i < 2:=(Amy.1 hl).1;unfold Hy cK cZ wI;dsimp only;rw [Al1 AlR,Al1 Z,Al1 AlR,Amk,AlX,hl,AlU,Aix h1'.2 h1'.1 h2 hll,AlU];cases upB b.length x l with
      | true=>rw [Al1 rfl,Al1 rfl];dsimp only;rw [Am O]
      | false=>rfl
     have e2:((List.length [y,z]:Int))=2:=rfl;rw [e2,AI,show(0:Int)=((0:Nat):Int) from rfl,step 0 y rfl h.y];cases h5:upB b.length x y with
     | false=>rfl
     | true=>
      rw [Al1 rfl,Amg];dsimp only;rw [AI,step 1 z rfl h.z];cases h6:upB b.length x z with
      | false=>rfl
      | true=>
       rw [Al1 rfl];dsimp only;rw [AI];unfold Hy cK cZ wI;dsimp only;rw [AlZ Z];rfl
  .rw [Al1 AlR,decide_eq_false h2];rfl
 .have h1':¬ (40<=b.length/\b.length<=160):=O
  rw [decide_eq_false h1,decide_eq_false h1'];rfl
theorem UP {b:Bls} (hb:b.length<=1048576):EE b=some (decide (40<=b.length/\b.length<=160) && b.all (λx=>x.length == 128)):=by
 unfold EE;refine Ok.eq (Ok.bind (Q:=λr=>r=_) ?_ (λr hr=>Ok.mk hr));refine Ok.bind_eq (AK _ _ _) ?_;refine Ok.ite (λhc=>?_) λhc=>Ok.mk ?_
 .refine Ok.bind (Q:=λr=>r = !(b.all (λb=>b.length == 128))) ?_ (λr hr=>Ok.mk ?_)
  .unfold Bg;refine(X2 hb).bind λr hr=>Ok.mk ?_
   cases ha:b.all (λb=>b.length == 128)with
   | true=>rw [ha]at hr;simpa using hr
   | false=>rw [ha]at hr;simpa using hr
  .have hc':40<=b.length/\b.length<=160:=by simp at hc;omega
   rw [hr];simp [hc']
 .have hc':¬ (40<=b.length/\b.length<=160):=by simp at hc;omega
  simp [hc']
theorem Va {b:Bls} {x y z:List Int} (h:SB b x y z):J6 b x y z=some (gsp b x y z):=by
 have hb:=h.b;unfold J6 gsp;rw [UP hb,AlU];by_cases h1:40<=b.length/\b.length<=160
 .rw [decide_eq_true h1,Amg,Amg];cases h3:b.all (λx=>x.length == 128)with
  | false=>rw [Aoh,Anm];rfl
  | true=>
   rw [AlZ Z,AlU,Anv];dsimp only;by_cases h2:x.length=20
   .rw [AlZ AlR,decide_eq_true h2,Amg,Ae8 h1.2 h2,AlU];cases h4:((List.range 160).all λk=>bG b.length x k)with
    | false=>rfl
    | true=>
     rw [Al1 rfl,Amg];dsimp only;rw [Ab7 h1.2 h1.1 h2 h.y,AlU];dsimp only;cases h5:upB b.length x y with
     | false=>rfl
     | true=>rw [Al1 rfl,Ab7 h1.2 h1.1 h2 h.z,AlU];rfl
   .rw [Al1 AlR,decide_eq_false h2];rfl
 .rw [decide_eq_false h1];rfl
end Go.V.G
set_option maxRecDepth 100000
namespace Go.V.G
open Go.V
def Yu (xs:List (Int)):Prop:=xs.length<=maxLen
def Yh (xs:List (Int)):Nat:=xs.length
end Go.V.G
set_option maxRecDepth 100000
namespace Go.V.G
open Go.V
structure FitS (b:List (List Int)) (x y z:List Int):Prop where
 b:K7 b
 x:PS x
 y:Yu y
 z:Yu z
def AbQ (b:List (List Int)) (x y z:List Int):Nat:=BL b+BD x+Yh y+Yh z
end Go.V.G
set_option maxRecDepth 100000
namespace Go.V.G
open Go.V
def Ris (l:List Int):Prop:=∀i j (hi:i < l.length) (hj:j < l.length),i < j->l[i] < l[j]
theorem GD {n:Nat} {bits l:List Int} (h:upB n bits l=true):Ris l/\∀i (hi:i < l.length),33<=l[i]/\l[i]<=(n:Int) - 1/\bit bits l[i].toNat=true:=by
 have hg:∀i (hi:i < l.length),(33<=l[i]/\l[i]<=(n:Int) - 1)/\bit bits l[i].toNat=true/\(0 < i->l[i - 1]?.getD 0 < l[i]):=λi hi=>by
  have:=all_range.1 h i hi;unfold upG at this;rw [AlW hi,AmG]at this;simp only [Al2,decide_eq_true_eq]at this;exact this
 refine⟨λi j hi hj hij=>?_,λi hi=>⟨(hg i hi).1.1,(hg i hi).1.2,(hg i hi).2.1⟩⟩
 induction j with
 | zero=>omega
 | succ j ih=>
  have h1:=(hg (j+1) hj).2.2 O;rw [show j+1 - 1=j from rfl,AlW O,AmG]at h1;by_cases hjj:i=j
  .subst hjj;exact h1
  .have:=ih O O;omega
structure Spot (l:List Int) (n:Int) (k:Nat):Prop where
 le:k<=l.length
 lo:∀j (h:j < l.length),j < k->l[j] < n
 hi:∀j (h:j < l.length),k<=j->n<=l[j]
theorem Spot.one {l:List Int} {n:Int} {k m:Nat} (h:Spot l n k) (h':Spot l n m):k=m:=by
 rcases Nat.lt_trichotomy k m with hl | hl | hl
 .have h1:=h.hi k (by have:=h'.le;omega) (Amu _);have h2:=h'.lo k (by have:=h'.le;omega) hl;omega
 .exact hl
 .have h1:=h'.hi m (by have:=h.le;omega) (Amu _);have h2:=h.lo m (by have:=h.le;omega) hl;omega
def QD (l:List Int) (n:Int) (k:Nat):List Int:=if l[k]?=some n then l else l.take k++([n]++l.drop k)
theorem Aes {l:List Int} (hl:l.length<=1048576) (hr:Ris l) (n:Int):∃k,Spot l n k/\Dd l n=some (QD l n k):=by
 unfold Dd cK cZ sX;have hloop:Ok (Ab Ov (l,n,0)) λv=>∃k:Nat,Spot l n k/\v=(l,n,((k:Nat):Int)):=by
  refine Ok.loop (λy=>∃k:Nat,k<=l.length/\(∀j (h:j < l.length),j < k->l[j] < n)/\y=(l,n,((k:Nat):Int))) (λy=>((l.length:Int) - y.2.2).toNat) ⟨0,O,λj h hj=>absurd hj O,rfl⟩ ?_;rintro _ ⟨k,hk,hlo,rfl⟩;unfold Ov cK cZ wI;dsimp only;by_cases hlt:k < l.length
  .rw [Al1 AlR,Al1 Z,Al1 AlR,Amk,AlX,AlW hlt,AlU,AlU];dsimp only;by_cases hc:l[k] < n
   .rw [Al1 (by simpa using hc),Am O];refine Ok.mk ⟨⟨k+1,O,λj h hj=>?_,rfl⟩,AlT⟩;by_cases hjk:j=k
    .subst hjk;exact hc
    .exact hlo j h O
   .rw [AlZ (by simpa using hc)];refine Ok.mk ⟨k,⟨hk,hlo,λj h hj=>?_⟩,rfl⟩;by_cases hjk:j=k
    .subst hjk;omega
    .have:=hr k j hlt h O;omega
  .rw [AlZ AlR,AlU];exact Ok.mk ⟨k,⟨hk,hlo,λj h hj=>absurd h O⟩,rfl⟩
 obtain ⟨v,hv,k,hs,rfl⟩:=hloop;refine⟨k,hs,?_⟩;have hk:=hs.le;rw [hv,AlU];dsimp only;have ins:∀(c:Bool),c=false->(if c=true then some l else
   if(decide ((0:Int)<=0))=true then
   if(decide ((0:Int)<=((k:Nat):Int)))=true then
   if(decide ((((k:Nat):Int):Int)<=(List.length l:Int)))=true then
   if(decide (((List.length l:Int):Int)<=(List.length l:Int)))=true then
   if(Aa (List.length ([]:List Int)+List.length ((l.drop (Int.toNat 0)).take (Int.toNat ((k:Nat):Int) - Int.toNat 0))) 8)=true then
   if(Aa (List.length (([]:List Int)++((l.drop (Int.toNat 0)).take (Int.toNat ((k:Nat):Int) - Int.toNat 0)))+List.length ([n]:List Int)) 8)=true then
   if(decide ((0:Int)<=((k:Nat):Int)))=true then
   if(decide ((((k:Nat):Int):Int)<=(List.length l:Int)))=true then
   if(decide (((List.length l:Int):Int)<=(List.length l:Int)))=true then
   if(decide (((List.length l:Int):Int)<=(List.length l:Int)))=true then
   if(Aa (List.length ((([]:List Int)++((l.drop (Int.toNat 0)).take (Int.toNat ((k:Nat):Int) - Int.toNat 0)))++([n]:List Int))+List.length ((l.drop (Int.toNat ((k:Nat):Int))).take (Int.toNat (List.length l:Int) - Int.toNat ((k:Nat):Int)))) 8)=true then
   some (((([]:List Int)++((l.drop (Int.toNat 0)).take (Int.toNat ((k:Nat):Int) - Int.toNat 0)))++([n]:List Int))++((l.drop (Int.toNat ((k:Nat):Int))).take (Int.toNat (List.length l:Int) - Int.toNat ((k:Nat):Int))))
   else none else none else none else none else none else none else none else none else none else none else none)=some (l.take k++([n]++l.drop k)):=by
  rintro c rfl;have r1:∀m:Nat,m<=1048577->Aa m 8=true:=λm hm=>by simp only [Aa,decide_eq_true_eq];omega
  rw [AlZ Z,Al1 Z,Al1 Z,Al1 AlR,Al1 Z,Al1 (r1 _ AlR),Al1 (r1 _ AlR),Al1 Z,Al1 AlR,Al1 Z,Al1 Z,Al1 (r1 _ AlR)];refine congrArg some ?_;simp only [AlX,Ams,Al5];rw [show Int.toNat 0=0 from rfl,AmX,AnE,AmK (l:=l.drop k) Z]
 unfold QD;by_cases hlt:k < l.length
 .rw [Al1 AlR,Al1 Z,Al1 AlR,Amk,AlX,AlW hlt,AlU,AlU];dsimp only;by_cases hc:l[k]=n
  .rw [Al1 (by simpa using hc),Al1 (by rw [hc])]
  .rw [AlZ (show ¬ (some l[k]=some n) by simpa using hc)];exact ins _ (by simpa using hc)
 .rw [AlZ AlR,AlU,AlZ (show ¬ (l[k]?=some n) by rw [Amn O];simp)];exact ins false rfl
theorem AhO (a b:Int):I4 a b=some (decide (a < b)):=by
 unfold I4 Ip;simp
theorem Aje {l:List Int} (hl:l.length<=1048576) (hr:Ris l) (n:Int):∃k,Spot l n k/\CB l n=some (((k:Nat):Int),decide (l[k]?=some n)):=by
 unfold CB gX;have hloop:Ok (Ab C3 (l,n,(l.length:Int),0,(l.length:Int))) (λr=>∃k,Spot l n k/\r=(l,n,(l.length:Int),((k:Nat):Int))):=by
  refine Ok.loop (λy=>∃a b:Nat,a<=b/\b<=l.length/\(∀j (h:j < l.length),j < a->l[j] < n)/\(∀j (h:j < l.length),b<=j->n<=l[j])/\y=(l,n,(l.length:Int),(a:Int),(b:Int)))
   (λy=>(y.2.2.2.2 - y.2.2.2.1).toNat) ⟨0,l.length,O,O,λj h h2=>absurd h2 O,λj h h2=>absurd h2 O,rfl⟩ ?_
  rintro _ ⟨a,b,hab,hb,h1,h2,rfl⟩;unfold C3 cZ gX wI;dsimp only;refine Ok.ite (λhc=>?_) λhc=>?_
  .have hlt:a < b:=by simpa using hc
   have e1:IntKind.wrap .i64 (Int.fdiv (IntKind.wrap .u64 (IntKind.wrap .i64 ((a:Int)+(b:Int)))) (2 ^ (min (Int.toNat 1) (IntKind.bits .u64))))=(((a+b) / 2:Nat):Int):=by
    rw [w64 (n:=(a:Int)+(b:Int)) O O,ZB O O,show(2:Int) ^ (min (Int.toNat 1) (IntKind.bits .u64))=2 from rfl,AnN _ O,w64 O O];omega
   rw [e1];have hk:(a+b) / 2 < l.length:=O
   refine Ok.yes Z (Ok.yes AlR ?_);rw [AlX];refine Ok.bind_eq (AlW hk) (Ok.bind_eq (AhO _ _) ?_);by_cases hlt2:l[(a+b) / 2] < n
   .refine Ok.bind_eq (Al1 (by simpa using hlt2)) (Ok.mk ⟨⟨(a+b) / 2+1,b,O,hb,λj h hj=>?_,h2,?_⟩,?_⟩)
    .by_cases hjj:j=(a+b) / 2
     .subst hjj;exact hlt2
     .have:=hr j _ h hk O;omega
    .rw [Am O]
    .dsimp only;rw [Am O];omega
   .refine Ok.bind_eq (AlZ (by simpa using hlt2)) (Ok.mk ⟨⟨a,(a+b) / 2,O,O,h1,λj h hj=>?_,rfl⟩,?_⟩)
    .by_cases hjj:j=(a+b) / 2
     .subst hjj;omega
     .have:=hr _ j hk h O;omega
    .dsimp only;omega
  .have hlt:a=b:=by simp at hc;omega
   subst hlt;exact Ok.mk ⟨a,⟨hb,h1,h2⟩,rfl⟩
 obtain ⟨r,hr',k,hs,rfl⟩:=hloop;refine⟨k,hs,?_⟩;rw [hr',AlU];dsimp only;by_cases hlt:k < l.length
 .rw [Al1 AlR,Al1 Z,AlX,AlW hlt,AlU];by_cases hc:l[k]=n
  .rw [Al1 (by simpa using hc),AlU,hc];simp
  .rw [AlZ (by simpa using hc),Al1 Z,AlU];unfold FV;simp [hc]
 .rw [AlZ AlR,AlU,Amn O];simp
theorem Aav {l:List Int} (hl:l.length<=1048576) (hr:Ris l) (n:Int):∃k,Spot l n k/\Iv l n=some (QD l n k):=by
 obtain ⟨k,hs,hb⟩:=Aje hl hr n;refine⟨k,hs,?_⟩;have hk:=hs.le;unfold Iv QD;rw [hb,AlU];dsimp only;by_cases hc:l[k]?=some n
 .rw [Al1 (by simpa using hc),Al1 hc]
 .rw [AlZ (by simpa using hc),AlZ hc];unfold Fc;rw [Al1 ⟨O,by rw [AlX];exact hk,Z,AlR⟩,AlU,AlX]
theorem Ac1 {x:List Int} (h:x.length<=1048576):DP x=some x:=by
 unfold DP cK;have hr:Aa (List.length ([]:List Int)+List.length x) 8=true:=by
  simp only [Amp,Aa,decide_eq_true_eq];omega
 cases x with
 | nil=>simp [Gy,Aa]
 | cons a x=>simp only [Gy,List.isEmpty_cons,Al8,Amv,AlU,hr,Amd,Ams]
structure GS (b:Bls) (x y z:List Int):Prop where
 hb:40<=b.length/\b.length<=160
 hx:x.length=20
 hk:∀c∈b,c.length=128
 hbits:∀i,i < 160->bG b.length x i=true
 hy:upB b.length x y=true
 hz:upB b.length x z=true
theorem Rq {b:Bls} {x y z:List Int} (h:gsp b x y z=true):GS b x y z:=by
 unfold gsp at h;simp only [Al2,decide_eq_true_eq]at h;obtain ⟨⟨h1,h2,h3⟩,h4,h5,h6⟩:=h;refine⟨h1,h2,λc hc=>?_,all_range.1 h4,h5,h6⟩;have:=Amr.1 h3 c hc;simpa using this
theorem GS.bd {b:Bls} {x y z:List Int} (g:GS b x y z):Bd b:=⟨by have:=g.hb;omega,λc hc=>by have:=g.hk c hc;omega⟩
def Il:List Int:=List.replicate 128 0
end Go.V.G
set_option maxRecDepth 100000
namespace Go.V.G
open Go.V
theorem Uc {r:Int} (h0:0<=r) (h1:r<=255):(BitVec.ofInt (IntKind.bits .u8) r).toNat=r.toNat:=by
 obtain ⟨n,rfl⟩:=Amq h0;show(BitVec.ofInt (IntKind.bits .u8) (n:Int)).toNat=Int.toNat (n:Int);rw [BitVec.ofInt_natCast,BitVec.toNat_ofNat,show IntKind.bits .u8=8 from rfl,AlX];omega
theorem wub {r:Int} (h0:0<=r) (h1:r<=255):IntKind.wrap .u8 r=r:=by rw [IntKind.wrap_u8];omega
theorem Ab3 {r:Int} (h0:0<=r) (h1:r<=255) {j:Nat} (hj:j < 8):ub r j=r.toNat.testBit j:=by
 obtain ⟨n,rfl⟩:=Amq h0;have hn:n<=255:=O
 unfold ub;rw [show min j (IntKind.bits .u8)=j from by show min j 8=j;omega,AnN _ (by exact Int.le_of_lt (Int.pow_pos AlS))];have hp:(2:Int) ^ j=((2 ^ j:Nat):Int):=by norm_cast
 rw [hp];have hq:(n:Int) / ((2 ^ j:Nat):Int)=((n / 2 ^ j:Nat):Int):=by norm_cast
 rw [hq];have hle:n / 2 ^ j<=255:=Amw (Aom _ _) hn;show _=Nat.testBit (Int.toNat (n:Int)) j;rw [AlX,Nat.testBit_eq_decide_div_mod_eq];generalize n / 2 ^ j=q at hle;rw [BitVec.toNat_and,Uc O O,Uc O O,AlX,show(1:Int).toNat=1 from rfl,Nat.and_one_is_mod,wub O O];by_cases h:q % 2=1
 .rw [decide_eq_true h,decide_eq_true O]
 .rw [decide_eq_false h,decide_eq_false O]
theorem Ae6 {r:Int} (h0:0<=r) (h1:r<=255) {j:Nat} (hj:j < 8):sb r j=((r.toNat ||| 2 ^ j:Nat):Int)/\r.toNat ||| 2 ^ j<=255:=by
 have hr:r.toNat < 2 ^ 8:=O
 have hj2:2 ^ j < 2 ^ 8:=Nat.pow_lt_pow_right AlS hj;have hor:r.toNat ||| 2 ^ j < 2 ^ 8:=Nat.or_lt_two_pow hr hj2;have hp:(2:Int) ^ j=((2 ^ j:Nat):Int):=by norm_cast
 unfold sb;rw [show min j (IntKind.bits .u8)=j from by show min j 8=j;omega,Int.one_mul,hp];clear hp;generalize 2 ^ j=p at hj2 hor ⊢;rw [wub (r:=(p:Int)) O O,BitVec.toNat_or,Uc h0 h1,Uc O O,AlX,wub O O];exact⟨rfl,O⟩
def U8s (x:List Int):Prop:=∀v∈x,0<=v/\v<=255
theorem Rj {x:List Int} (hu:U8s x) {k j:Nat} (hk:k / 8 < x.length) (hj:j / 8 < x.length):bit (setB x k) j=(decide (j=k) || bit x j):=by
 unfold bit setB;have hgk:x[k / 8]?=some x[k / 8]:=AlW hk;have hgj:x[j / 8]?=some x[j / 8]:=AlW hj;have uk:=hu _ (Amc hk);have uj:=hu _ (Amc hj);rw [hgk,AmG];by_cases hd:j / 8=k / 8
 .rw [hd,Ant hk,AmG,hgk,AmG];obtain ⟨e1,e2⟩:=Ae6 uk.1 uk.2 (Nat.mod_lt k AlS);rw [e1,Ab3 O O (Nat.mod_lt j AlS),Ab3 uk.1 uk.2 (Nat.mod_lt j AlS),AlX,Nat.testBit_or,Nat.testBit_two_pow];by_cases hjk:j=k
  .subst hjk;simp
  .have:¬ (k % 8=j % 8):=O
   rw [decide_eq_false hjk,decide_eq_false this];simp
 .have hjk:¬ j=k:=by rintro rfl;exact hd rfl
  rw [List.getElem?_set_ne (Ne.symm hd),decide_eq_false hjk,Anh]
theorem AjU {x:List Int} (hu:U8s x) {k:Nat} (hk:k / 8 < x.length):U8s (setB x k):=by
 intro v hv;unfold setB at hv;rcases Am1 hv with hv | rfl
 .exact hu v hv
 .have uk:=hu _ (Amc hk);rw [AlW hk,AmG];obtain ⟨e1,e2⟩:=Ae6 uk.1 uk.2 (Nat.mod_lt k AlS);rw [e1];omega
def cnt (x:List Int):Nat->Nat
 | 0=>0
 | n+1=>cnt x n+(if bit x n=true then 0 else 1)
theorem ris_iff {l:List Int}:Ris l↔l.Pairwise (· < ·):=by
 rw [List.pairwise_iff_getElem];exact⟨λh i j hi hj hij=>h i j hi hj hij,λh i j hi hj hij=>h i j hi hj hij⟩
theorem Aiw {l:List Int} (hr:Ris l) {n:Int} {k:Nat} (hs:Spot l n k):Ris (QD l n k):=by
 unfold QD;split
 .exact hr
 .rename_i hne;rw [ris_iff]at hr ⊢;have hlo:∀v∈l.take k,v < n:=by
   intro v hv;obtain ⟨j,hj,rfl⟩:=AmA hv;rw [Al4]at hj;rw [List.getElem_take];exact hs.lo j O O
  have hhi:∀v∈l.drop k,n < v:=by
   intro v hv;obtain ⟨j,hj,rfl⟩:=AmA hv;rw [Amm]at hj;rw [List.getElem_drop];have hkj:k+j < l.length:=O
   have h1:=hs.hi (k+j) hkj O;by_cases hj0:j=0
   .subst hj0;have:l[k]?=some l[k]:=AlW O;have hne':¬ l[k]=n:=λhh=>hne (by rw [this,hh])
    simp only [Anq]at h1 ⊢;omega
   .have hk0:k < l.length:=O
    have h2:=hs.hi k hk0 (Amu _);have h3:=(ris_iff.2 hr) k (k+j) hk0 hkj O;omega
  rw [AnJ];refine⟨hr.sublist (List.take_sublist _ _),?_,?_⟩
  .rw [AnJ];refine⟨Z,hr.sublist (List.drop_sublist _ _),?_⟩;intro a ha b hb;simp only [Al6]at ha;subst ha;exact hhi b hb
  .intro a ha b hb;have h1:=hlo a ha;rcases Al3.1 hb with hb | hb
   .simp only [Al6]at hb;subst hb;exact h1
   .have:=hhi b hb;omega
structure Wk (n:Nat) (b:Bls) (x z:List Int) (lz:Nat):Prop where
 hn:40<=n/\n<=160
 hb:b.length=n
 hk:∀c∈b,c.length=128
 hx:x.length=20
 hu:U8s x
 hlow:∀k,k < 33->bit x k=true
 hr:Ris z
 hz:z.length<=lz
end Go.V.G
set_option maxRecDepth 100000
namespace Go.V.G
open Go.V
def nd (n:Nat):Nat:=if n=0 then 1 else(n+123) / 124
def AkH (data list:List Int) (i:Nat):List Int:=
 let own:=(data.drop (124 * i)).take 124
 let next:=if i+1 < list.length then list[i+1]?.getD 0 else 0
 let hd:=[82,IntKind.wrap .u8 (next / 256),IntKind.wrap .u8 next,IntKind.wrap .u8 (own.length:Int)]++own
 hd++List.replicate (128 - hd.length) 0
theorem Ri {l:List Int} (hr:Ris l) (hb:∀i (h:i < l.length),33<=l[i]/\l[i]<=159):l.length<=127:=by
 have key:∀i (h:i < l.length),33+(i:Int)<=l[i]:=by
  intro i
  induction i with
  | zero=>intro h;have:=hb 0 h;omega
  | succ i ih=>intro h;have h1:=ih O;have h2:=hr i (i+1) O h O;omega
 refine Classical.byContradiction λhn=>?_
 have h1:=key 127 O;have h2:=hb 127 O;omega
end Go.V.G
set_option maxRecDepth 100000
namespace Go.V.G
open Go.V
theorem Qa {l:List Int} (hl:l.length<=1048576) (hr:Ris l) (n:Int):∃z,Dd l n=some z/\Iv l n=some z/\z.length<=l.length+1/\Ris z/\∀v,v∈z↔v∈l\/v=n:=by
 obtain ⟨k,hs,h1⟩:=Aes hl hr n;obtain ⟨m,ht,h2⟩:=Aav hl hr n;obtain rfl:=hs.one ht;refine⟨_,h1,h2,?_,Aiw hr hs,λv=>?_⟩
 .unfold QD;split
  .omega
  .have:=hs.le;simp;omega
 .unfold QD;split
  .rename_i h;have hm:=AmI h;exact⟨.inl,λh'=>h'.elim id λe=>by rw [e];exact hm⟩
  .have e:v∈l↔v∈l.take k\/v∈l.drop k:=by
    rw [<- Al3,AmJ]
   rw [e];simp only [Al3,Al6];constructor
   .rintro (h | h | h)
    .exact .inl (.inl h)
    .exact .inr h
    .exact .inl (.inr h)
   .rintro ((h | h) | h)
    .exact .inl h
    .exact .inr (.inr h)
    .exact .inr (.inl h)
structure Wq (b:Bls) (x z:List Int) (lz:Nat):Prop where
 hb:39<=b.length/\b.length<=160
 hx:x.length=20
 hu:U8s x
 hr:Ris z
 hz:z.length<=lz
theorem Wq.take {b:Bls} {x z:List Int} {lz:Nat} (h:Wq b x z lz) (hlz:lz<=1048000) {k:Nat} (hk:k < b.length) {z':List Int} (hz':Dd z (k:Int)=some z'):Wq (b.set k Il) (setB x k) z' (lz+1):=by
 have hbl:=h.hb;have hx:=h.hx;have hz:=h.hz;obtain ⟨z2,e1,_,e2,e3,_⟩:=Qa O h.hr (k:Int);rw [e1]at hz';obtain rfl:=Anf hz';exact⟨by rw [Am0];exact hbl,by unfold setB;rw [Am0];exact hx,AjU h.hu O,e3,O⟩
theorem VH (n:Int):0<=IntKind.wrap .u8 n/\IntKind.wrap .u8 n<=255:=by rw [IntKind.wrap_u8];omega
end Go.V.G
set_option maxRecDepth 100000
namespace Go.V.G
open Go.V
theorem S6 {l:List Int} {n:Int} (hl:l.length<=1048576):Ok (DU l n) λr=>(0<=r↔n∈l):=by
 unfold DU;refine Ok.bind (Q:=λr=>(r=.inl ()/\n∉l)\/∃k:Int,r=.inr k/\0<=k/\n∈l) ?_ ?_
 .refine Ok.loop (λy=>∃k:Nat,k<=l.length/\y=(l,n,(l.length:Int),(k:Int))/\∀j (h:j < l.length),j < k->l[j]≠n) (λy=>(y.2.2.1 - y.2.2.2).toNat) ⟨0,O,rfl,λj _ h=>by omega⟩ ?_;rintro _ ⟨k,hk,rfl,hn⟩;unfold HN gX wI;dsimp only;refine Ok.ite (λhc=>?_) λhc=>Ok.mk (.inl ⟨rfl,λhm=>?_⟩)
  .have hlt:k < l.length:=by simpa using hc
   have hg:l[Int.toNat (k:Int)]?=some l[k]:=by simp [hlt]
   have e1:=Am (i:=k) O;refine Ok.yes Z (Ok.bind_eq hg (Ok.ite (λhe=>Ok.mk (.inr ⟨_,rfl,O,?_⟩)) λhe=>Ok.mk ⟨⟨k+1,O,by rw [e1],λj hj hjk=>?_⟩,?_⟩))
   .have he':n=l[k]:=by simpa using he
    rw [he'];exact Amc _
   .by_cases hjk':j=k
    .subst hjk';intro hh;exact he (by simp [hh])
    .exact hn j hj O
   .dsimp only;rw [e1];omega
  .obtain ⟨j,hj,he⟩:=AmA hm;have:¬ k < l.length:=by simpa using hc
   exact hn j hj O he
 .rintro r (⟨rfl,h⟩ | ⟨k,rfl,h0,h⟩)
  .exact Ok.mk (by simp [h])
  .exact Ok.mk ⟨λ_=>h,λ_=>h0⟩
theorem AaC {l:List Int} {n:Int} (hl:l.length<=1048576):Ok (AN l n) λr=>(r=true↔n∈l):=by
 unfold AN;exact(S6 hl).bind λr hr=>Ok.mk (by rw [<- hr];simp)
theorem NT {n:Nat} {bits l:List Int} (hr:Ris l) (h:∀v∈l,33<=v/\v<=(n:Int) - 1/\bit bits v.toNat=true):upB n bits l=true:=by
 refine all_range.2 λi hi=>?_
 rw [Zl n bits l i hi];have hm:=h l[i] (Amc _);rw [AlZ (λhn=>hn ⟨hm.1,hm.2.1⟩),AlZ (by rw [hm.2.2];simp),AlZ];rintro ⟨h0,h1⟩;rw [AlW O,AmG]at h1;have:=hr (i - 1) i O hi O;omega
theorem TM {n:Nat} {bits l:List Int} (h:upB n bits l=true):∀v∈l,33<=v/\v<=(n:Int) - 1/\bit bits v.toNat=true:=by
 intro v hv;obtain ⟨i,hi,rfl⟩:=AmA hv;exact(GD h).2 i hi
theorem GS.take {b:Bls} {x y z:List Int} (g:GS b x y z) (hu:U8s x) {k:Nat} (hk:33<=k/\k < b.length) {z':List Int} (hzl:z.length<=1048000) (hz':Dd z (k:Int)=some z'):GS (b.set k Il) (setB x k) y z'/\(k:Int)∈z'/\z'.length<=z.length+1/\bit (setB x k) k=true:=by
 have hb:=g.hb;have hx:=g.hx;obtain ⟨z2,e1,_,e2,e3,e4⟩:=Qa O (GD g.hz).1 (k:Int);rw [e1]at hz';obtain rfl:=Anf hz';have hs:∀j,j < 160->bit (setB x k) j=(decide (j=k) || bit x j):=λj hj=>Rj hu O O
 have hup:∀v:Int,33<=v/\v<=(b.length:Int) - 1/\bit x v.toNat=true->33<=v/\v<=((b.set k Il).length:Int) - 1/\bit (setB x k) v.toNat=true:=λv ⟨h1,h2,h3⟩=>
  ⟨h1,by rw [Am0];exact h2,by rw [hs _ O,h3,Aoo]⟩
 refine⟨⟨by rw [Am0];exact hb,by unfold setB;rw [Am0];exact hx,λc hc=>?_,λi hi=>?_,?_,?_⟩,(e4 _).2 (.inr rfl),e2,by rw [hs k O];simp⟩
 .rcases Am1 hc with hc | rfl
  .exact g.hk c hc
  .rfl
 .rw [Am0];have:=g.hbits i hi;unfold bG at this ⊢;rw [hs i hi];by_cases hik:i=k
  .subst hik;simp;omega
  .simpa [hik] using this
 .exact NT (GD g.hy).1 λv hv=>hup v (TM g.hy v hv)
 .refine NT e3 λv hv=>?_
  rcases (e4 v).1 hv with hv | rfl
  .exact hup v (TM g.hz v hv)
  .exact⟨O,by rw [Am0];omega,by rw [hs _ O];simp⟩
end Go.V.G
set_option maxRecDepth 100000
namespace Go.V.G
open Go.V
theorem Aet {x:List Int} {n:Nat} (hx:x.length<=1048576) (hn:n<=x.length):Ok (D9 x (n:Int)) λr=>(r=true↔∀v∈x.drop n,v=0):=by
 unfold D9 sX;refine Ok.yes Z (Ok.yes AlR (Ok.yes Z (Ok.yes Z ?_)));have e:(List.drop (Int.toNat (n:Int)) x).take (Int.toNat (List.length x:Int) - Int.toNat (n:Int))=x.drop n:=by
  rw [AlX,AlX];exact AmK (by rw [Amm];omega)
 rw [e];have hl:(x.drop n).length<=1048576:=by rw [Amm];omega
 generalize x.drop n=l at hl;refine Ok.bind (Q:=λr=>(r=.inl ()/\∀v∈l,v=0)\/(r=.inr false/\¬ ∀v∈l,v=0)) ?_ ?_
 .refine Ok.loop (λy=>∃k:Nat,k<=l.length/\y=(l,(l.length:Int),(k:Int))/\∀j (h:j < l.length),j < k->l[j]=0) (λy=>(y.2.1 - y.2.2).toNat) ⟨0,O,rfl,λj _ h=>by omega⟩ ?_;rintro _ ⟨k,hk,rfl,hz⟩;unfold RR gX wI;dsimp only;refine Ok.ite (λhc=>?_) λhc=>Ok.mk (.inl ⟨rfl,λv hv=>?_⟩)
  .have hlt:k < l.length:=by simpa using hc
   have hg:l[Int.toNat (k:Int)]?=some l[k]:=by simp [hlt]
   have e1:=Am (i:=k) O;refine Ok.yes Z (Ok.bind_eq hg (Ok.ite (λhe=>Ok.mk (.inr ⟨rfl,λhall=>?_⟩)) λhe=>Ok.mk ⟨⟨k+1,O,by rw [e1],λj hj hjk=>?_⟩,?_⟩))
   .have:¬ l[k]=0:=by simpa using he
    exact this (hall _ (Amc _))
   .by_cases hjk':j=k
    .subst hjk';simpa using he
    .exact hz j hj O
   .dsimp only;rw [e1];omega
  .obtain ⟨j,hj,rfl⟩:=AmA hv;have:¬ k < l.length:=by simpa using hc
   exact hz j hj O
 .rintro r (⟨rfl,h⟩ | ⟨rfl,h⟩)
  .exact Ok.mk (by simpa using h)
  .exact Ok.mk ⟨λhh=>(by cases hh),λhh=>absurd hh h⟩
end Go.V.G
set_option maxRecDepth 100000
namespace Go.V.G
open Go.V
def gb (c:List Int) (i:Nat):Int:=c[i]?.getD 0
def blk (b:Bls) (i:Nat):List Int:=b[i]?.getD []
theorem Aj {c:List Int} {i:Nat} (h:i < c.length):c[i]?=some (gb c i):=by unfold gb;rw [AlW h];rfl
theorem Bu {b:Bls} {i:Nat} (h:i < b.length):b[i]?=some (blk b i):=by unfold blk;rw [AlW h];rfl
theorem iy {α:Type} {p:Prop} [Decidable p] {a b:α} (h:p):(if decide p=true then a else b)=a:=by rw [Al1 (by simpa using h)]
theorem ino {α:Type} {p:Prop} [Decidable p] {a b:α} (h:¬ p):(if decide p=true then a else b)=b:=by rw [AlZ (by simpa using h)]
structure RS (b:Bls) (x y:List Int):Prop where
 hn:40<=b.length/\b.length<=160
 hk:∀c∈b,c.length=128
 hu:∀c∈b,U8s c
 hx:x.length=20
 hy:y.length<=1048576
theorem BC {b:Bls} {i:Nat} (h:i < b.length):blk b i∈b:=AmI (Bu h)
theorem RS.len {b:Bls} {x y:List Int} (g:RS b x y) {i:Nat} (h:i < b.length):(blk b i).length=128:=g.hk _ (BC h)
theorem DQ {c:List Int} (h:U8s c) (j:Nat):0<=gb c j/\gb c j<=255:=by
 by_cases hj:j < c.length
 .exact h _ (AmI (Aj hj))
 .unfold gb;rw [Amn O];simp
theorem RS.u8 {b:Bls} {x y:List Int} (g:RS b x y) {i:Nat} (h:i < b.length) (j:Nat):0<=gb (blk b i) j/\gb (blk b i) j<=255:=DQ (g.hu _ (BC h)) j
def liv (b:Bls) (x y:List Int) (a:Int):Bool:=decide (33<=a/\a<=(b.length:Int) - 1) && (bit x a.toNat && !decide (a∈y))
theorem Cs {b:Bls} {x y:List Int} {a:Int} (h:liv b x y a=true):∃m:Nat,a=(m:Int)/\33<=m/\m < b.length/\bit x m=true/\(m:Int)∉y:=by
 unfold liv at h;simp only [Al2,decide_eq_true_eq,Al9,decide_eq_false_iff_not]at h;obtain ⟨⟨h1,h2⟩,h3,h4⟩:=h;obtain ⟨m,rfl⟩:=Amq (O:0<=a);exact⟨m,rfl,O,O,by simpa using h3,h4⟩
theorem GF {l:List Int} {n:Int} (hl:l.length<=1048576):Gt l n=some (decide (n∈l)):=by
 unfold Gt;refine Ok.eq (Ok.bind (Q:=λr=>(r=.inl ()/\n∉l)\/(r=.inr true/\n∈l)) ?_ ?_)
 .refine Ok.loop (λy=>∃k:Nat,k<=l.length/\y=(n,l,(l.length:Int),(k:Int))/\∀j (h:j < l.length),j < k->l[j]≠n) (λy=>(y.2.2.1 - y.2.2.2).toNat) ⟨0,O,rfl,λj _ h=>by omega⟩ ?_;rintro _ ⟨k,hk,rfl,hn⟩;unfold Tw gX wI;dsimp only;refine Ok.ite (λhc=>?_) λhc=>Ok.mk (.inl ⟨rfl,λhm=>?_⟩)
  .have hlt:k < l.length:=by simpa using hc
   have hg:l[Int.toNat (k:Int)]?=some l[k]:=by simp [hlt]
   have e1:=Am (i:=k) O;refine Ok.yes Z (Ok.bind_eq hg (Ok.ite (λhe=>Ok.mk (.inr ⟨rfl,?_⟩)) λhe=>Ok.mk ⟨⟨k+1,O,by rw [e1],λj hj hjk=>?_⟩,?_⟩))
   .have he':l[k]=n:=by simpa using he
    rw [<- he'];exact Amc _
   .by_cases hjk':j=k
    .subst hjk';intro hh;exact he (by simp [hh])
    .exact hn j hj O
   .dsimp only;rw [e1];omega
  .obtain ⟨j,hj,he⟩:=AmA hm;have:¬ k < l.length:=by simpa using hc
   exact hn j hj O he
 .rintro r (⟨rfl,h⟩ | ⟨rfl,h⟩)
  .exact Ok.mk (by simp [h])
  .exact Ok.mk (by simp [h])
theorem Gm {l:List Int} {n:Int} (hl:l.length<=1048576):AN l n=some (decide (n∈l)):=by
 refine Ok.eq ((AaC hl).mono λr hr=>?_);by_cases h:n∈l
 .rw [decide_eq_true h];exact hr.2 h
 .rw [decide_eq_false h];cases r with
  | false=>rfl
  | true=>exact absurd (hr.1 rfl) h
theorem ME {b:Bls} {x y z:List Int} (g:RS b x y) (a:Int):IG b x y z a=some (liv b x y a):=by
 have hn:=g.hn;have hx:=g.hx;unfold IG liv wI;rw [B2,w64 O O,AlU];by_cases h1:33<=a/\a<=(b.length:Int) - 1
 .obtain ⟨m,rfl⟩:=Amq (O:0<=a);rw [decide_eq_true h1,Al1 rfl,Ky O O,AlU,AlX];cases bit x m with
  | false=>rfl
  | true=>rw [Al1 rfl,GF g.hy];rfl
 .rw [decide_eq_false h1];rfl
theorem Uf {b:Bls} {bits y z:List Int} {k:Nat} (h:k<=1048576) (hk:k / 8 < bits.length):Fs (b,bits,y,z) (k:Int)=some (bit bits k):=by
 unfold Fs bit cK cZ gX wI wB;dsimp only;rw [dv8 h,md8,Al1 Z,Al1 AlR,AlX,AlW hk,AlU,Al1 Z,Al1 AlR];rfl
theorem PJ {b:Bls} {x y z:List Int} (g:RS b x y) (a:Int):DN (b,x,y,z) a=some (decide (33<=a/\a<=(b.length:Int) - 1) && bit x a.toNat):=by
 have hn:=g.hn;have hx:=g.hx;unfold DN wI;dsimp only;rw [AK,w64 O O,AlU];by_cases h1:33<=a/\a<=(b.length:Int) - 1
 .obtain ⟨m,rfl⟩:=Amq (O:0<=a);rw [decide_eq_true h1,Al1 rfl,Uf O O,AlU,AlX];rfl
 .rw [decide_eq_false h1];rfl
theorem Lu {b:Bls} {x y z:List Int} (g:RS b x y) (a:Int):CN (b,x,y,z) a=some (liv b x y a):=by
 unfold CN liv;rw [PJ g,AlU];dsimp only;cases decide (33<=a/\a<=(b.length:Int) - 1)with
 | false=>rfl
 | true=>
  cases bit x a.toNat with
  | false=>rfl
  | true=>rw [Al1 (show(true && true)=true from rfl),Gm g.hy];rfl
def rz (c:List Int) (n:Nat):Bool:=(c.drop n).all λv=>decide (v=0)
theorem PQ {c:List Int} {n:Nat} (hc:c.length<=1048576) (hn:n<=c.length):D9 c (n:Int)=some (rz c n):=by
 refine Ok.eq ((Aet hc hn).mono λr hr=>?_);unfold rz;cases h:(c.drop n).all λv=>decide (v=0)with
 | true=>rw [hr];intro v hv;simpa using Amr.1 h v hv
 | false=>
  cases r with
  | false=>rfl
  | true=>
   have:((c.drop n).all λv=>decide (v=0))=true:=Amr.2 λv hv=>by simpa using hr.1 rfl v hv
   rw [h]at this;cases this
theorem JN (L:(List Int×(Int×Int))->Option ((List Int×(Int×Int))⊕(Unit⊕Int))) (p:Int->Bool) (l:List Int)
  (h:∀k,k < l.length->L (l,(l.length:Int),((k:Nat):Int))=some (if p (gb l k)=true then .inr (.inr ((k:Nat):Int))else .inl (l,(l.length:Int),((k+1:Nat):Int))))
  (h2:L (l,(l.length:Int),(l.length:Int))=some (.inr (.inl ()))) :
  ∃r,Ab L (l,(l.length:Int),0)=some r/\((r=.inl ()/\(l.any p)=false)\/∃k:Nat,r=.inr ((k:Nat):Int)/\(l.any p)=true):=by
 rcases BT L (λk=>(l,(l.length:Int),((k:Nat):Int))) (λk=>!(p (gb l k))) (λk=>((k:Nat):Int)) () l.length (λk hk=>by
  rw [h k hk];cases p (gb l k) <;> rfl) h2 with⟨ha,hl⟩ | ⟨k,hk,hp,_,hl⟩
 .refine⟨_,hl,.inl ⟨rfl,?_⟩⟩;rw [Am4];intro v hv;obtain ⟨j,hj,rfl⟩:=AmA hv;have:=ha j hj;unfold gb at this;rw [AlW hj,AmG]at this;simpa using this
 .refine⟨_,hl,.inr ⟨k,rfl,?_⟩⟩;rw [Aoi];refine⟨_,AmI (Aj hk),?_⟩;simpa using hp
theorem Ol (c:List Int) (n:Nat):((c.drop n).any λv=>decide (¬ v=0)) = !(rz c n):=by
 unfold rz
 induction c.drop n with
 | nil=>rfl
 | cons a l ih=>rw [List.any_cons,Anc,ih];by_cases h:a=0 <;> simp [h]
theorem Aer {l:List Int} (hl:l.length<=1048576):A6 l=some (l.any λv=>decide (¬ v=0)):=by
 unfold A6 BN;obtain ⟨r,hr,h⟩:=JN A5 (λv=>decide (¬ v=0)) l (λk hk=>by
  unfold A5 I1 gX wI;dsimp only;rw [iy O,iy O,AlX,Aj hk,AlU,AlU,Am O];by_cases hz:gb l k=0 <;> simp [hz]) (by
  unfold A5 gX wI;dsimp only;rw [ino O])
 rw [hr,AlU];rcases h with⟨rfl,h⟩ | ⟨k,rfl,h⟩
 .rw [h];rfl
 .rw [h];dsimp only;rw [AlU,decide_eq_true O]
theorem Ac9 {l:List Int} (hl:l.length<=1048576):A3 l=some (l.any λv=>decide (¬ v=0)):=by
 unfold A3 BJ;obtain ⟨r,hr,h⟩:=JN A4 (λv=>decide (¬ v=0)) l (λk hk=>by
  unfold A4 Iu gX wI;dsimp only;rw [iy O,iy O,AlX,Aj hk,AlU,AlU,Am O];by_cases hz:gb l k=0 <;> simp [hz]) (by
  unfold A4 gX wI;dsimp only;rw [ino O])
 rw [hr,AlU];rcases h with⟨rfl,h⟩ | ⟨k,rfl,h⟩
 .rw [h];rfl
 .rw [h];dsimp only;rw [AlU,decide_eq_true O]
def num (c:List Int) (i:Nat):Int:=gb c i * 256+gb c (i+1)
theorem AiV {c:List Int} (h:U8s c) (i:Nat):0<=num c i/\num c i<=65535:=by
 have h1:=DQ h i;have h2:=DQ h (i+1);unfold num;omega
theorem Akx {a b:Int} (ha:0<=a/\a<=255) (hb:0<=b/\b<=255):(((BitVec.ofInt (IntKind.bits .i64) (a * 256) ||| BitVec.ofInt (IntKind.bits .i64) b).toNat:Nat):Int)=a * 256+b:=by
 obtain ⟨n,rfl⟩:=Amq ha.1;obtain ⟨m,rfl⟩:=Amq hb.1;have h1:(n:Int) * 256=((256 * n:Nat):Int):=O
 rw [h1,BitVec.ofInt_natCast,BitVec.ofInt_natCast,BitVec.toNat_or,BitVec.toNat_ofNat,BitVec.toNat_ofNat,show IntKind.bits .i64=64 from rfl,Aoj O,Aoj O];have h2:=Nat.two_pow_add_eq_or_of_lt (i:=8) (b:=m) O n;rw [show(2:Nat) ^ 8=256 from rfl]at h2;rw [<- h2];omega
theorem Gl {c:List Int} (hu:U8s c) {i:Nat} (h:i+1 < c.length) (hi:i<=1048576):CJ c (i:Int)=some (num c i):=by
 have u1:=DQ hu i;have u2:=DQ hu (i+1);unfold CJ cZ gX wI;rw [iy O,AlX,Aj O,AlU,iy O,Am hi,iy O,AlX,Aj h,AlU,
  show(2:Int) ^ (min (Int.toNat 8) (IntKind.bits .i64))=256 from rfl,w64 (n:=gb c i) O O,w64 (n:=gb c i * 256) O O,w64 (n:=gb c (i+1)) O O,Akx u1 u2,w64 O O]
 rfl
abbrev Pc:=Int×(Int×List UInt8)
def GP (b:Bls) (a:Int):List UInt8:=AJ (((blk b a.toNat).drop 3).take (gb (blk b a.toNat) 2).toNat)
def DG (b:Bls) (a:Int):Pc:=(a,gb (blk b a.toNat) 1,GP b a)
def pcG (c:List Int):Bool:=decide (gb c 0=83) && (decide (1<=gb c 1/\gb c 1<=250) && (decide (1<=gb c 2/\gb c 2<=40) && rz c (3+(gb c 2).toNat)))
def pcB (b:Bls) (x y:List Int) (a:Int):Bool:=liv b x y a && pcG (blk b a.toNat)
theorem TG {b:Bls} {x y z:List Int} (g:RS b x y) (a:Int):Gg (b,x,y,z) a=some (if pcB b x y a=true then(true,DG b a)else(false,0,0,[])):=by
 unfold Gg pcB gX sX wI;rw [Lu g,AlU];cases hl:liv b x y a with
 | false=>rfl
 | true=>
  obtain ⟨m,rfl,h33,hm,_,_⟩:=Cs hl;have hc:=g.len hm;have u1:=g.u8 hm 1;have u2:=g.u8 hm 2;unfold pcG DG GP;rw [AlX];rw [AlZ Z];dsimp only;generalize hcc:blk b m=c at *;have hbm:b[m]?=some c:=by rw [Bu hm,hcc]
  rw [iy O,hbm,AlU,iy O,show Int.toNat 0=0 from rfl,Aj O,AlU,AlU];dsimp only;by_cases h0:gb c 0=83
  .rw [decide_eq_true h0,AlZ AlR,iy O,AlX,hbm,AlU,iy O,show Int.toNat 1=1 from rfl,Aj O,AlU,iy O,show Int.toNat 2=2 from rfl,Aj O,AlU,
    w64 (n:=gb c 1) O O,w64 (n:=gb c 2) O O,AK,AlU]
   by_cases h1:1<=gb c 1/\gb c 1<=250
   .rw [decide_eq_true h1,AlZ Z,AK,AlU];by_cases h2:1<=gb c 2/\gb c 2<=40
    .obtain ⟨k,hk⟩:=Amq u2.1;rw [hk]at h2 ⊢;rw [decide_eq_true h2,AlZ Z,show(3:Int)+(k:Int)=((3+k:Nat):Int) by omega,w64 (n:=((3+k:Nat):Int)) O O,iy O,iy O,iy O,iy O];simp only [AlX];rw [AmK (show(List.drop (3+k) c).length<=c.length - (3+k) by rw [Amm];omega),Aer (by rw [Amm];omega),Ol,AlU,AlU];dsimp only;cases hr:rz c (3+k)with
     | false=>rfl
     | true=>
      rw [AlZ Z,iy O,show(3:Int)+(k:Int)=((3+k:Nat):Int) by omega,w64 (n:=((3+k:Nat):Int)) O O,iy O,iy O,iy O,AlX,
       (O:3+k - Int.toNat 3=k)]
      rfl
    .rw [decide_eq_false h2];rfl
   .rw [decide_eq_false h1];rfl
  .rw [decide_eq_false h0,Al1 (by simpa using h0)];rfl
end Go.V.G
set_option maxRecDepth 100000
namespace Go.V.G
open Go.V
def pcs (b:Bls) (x y:List Int) (c:List Int) (n:Nat):Nat->List Int->Nat->Option (List Int)
 | 0,out,_=>some out
 | f+1,out,k=>if(pcB b x y (num c (2+2 * k)) && (decide (k+1 < n->gb (blk b (num c (2+2 * k)).toNat) 2=40) && !decide (num c (2+2 * k)∈out)))=true then pcs b x y c n f (out++[num c (2+2 * k)]) (k+1)else none
theorem Uw {a b:Int} (ha:0<=a/\a<=255) (hb:0<=b/\b<=255):IntKind.wrap .i64 ((IntKind.wrap .i64 ((IntKind.wrap .i64 a) * 256))+(IntKind.wrap .i64 b))=a * 256+b:=by
 rw [w64 (n:=a) O O,w64 (n:=a * 256) O O,w64 (n:=b) O O,w64 O O]
theorem YV {k:Nat} (h:k<=1048576):IntKind.wrap .i64 (2+(IntKind.wrap .i64 (2 * (k:Int))))=((2+2 * k:Nat):Int):=by
 rw [w64 (n:=2 * (k:Int)) O O,w64 O O];omega
theorem AkX {k:Nat} (h:k<=1048576):IntKind.wrap .i64 (3+(IntKind.wrap .i64 (2 * (k:Int))))=((3+2 * k:Nat):Int):=by
 rw [w64 (n:=2 * (k:Int)) O O,w64 O O];omega
theorem Xm {b:Bls} {x y z c out:List Int} {n k:Nat} (g:RS b x y) (hc:c.length=128) (hu:U8s c) (hn:n<=3) (hk:k < n) (ho:out.length<=3) :
  Ei (c,(n:Int),out,(k:Int),b,x,y,z) =
   some (if(pcB b x y (num c (2+2 * k)) && (decide (k+1 < n->gb (blk b (num c (2+2 * k)).toNat) 2=40) && !decide (num c (2+2 * k)∈out)))=true then .inl (c,(n:Int),out++[num c (2+2 * k)],((k+1:Nat):Int),b,x,y,z)else .inr (.inr false)):=by
 have e1:=YV (k:=k) O;have e2:=AkX (k:=k) O;have u1:=DQ hu (2+2 * k);have u2:=DQ hu (3+2 * k);have ea:=Uw u1 u2;have en:num c (2+2 * k)=gb c (2+2 * k) * 256+gb c (3+2 * k):=by unfold num;rw [(O:2+2 * k+1=3+2 * k)]
 unfold Ei pcB cK gX wI;dsimp only;rw [iy O,e1,e2,iy O,AlX,Aj O,AlU,iy O,AlX,Aj O,AlU,ea,<- en];have hroom:∀v:Int,Aa (List.length out+List.length ([v]:List Int)) 8=true:=λv=>by simp only [Aa,decide_eq_true_eq,Amb];omega
 generalize num c (2+2 * k)=a;rw [ME g,AlU];cases hl:liv b x y a with
 | false=>rfl
 | true=>
  obtain ⟨m,rfl,h33,hm,_,_⟩:=Cs hl;have hc2:=g.len hm;have v1:=g.u8 hm 1;have v2:=g.u8 hm 2;rw [AlZ Z,GF O,AlU,AlU];dsimp only;by_cases hmem:(m:Int)∈out
  .rw [decide_eq_true hmem,Al1 rfl,AlZ Z]
  rw [decide_eq_false hmem,AlZ Z,iy O,AlX,Bu hm,AlU];unfold pcG;generalize blk b m=d at *;have w2:IntKind.wrap .i64 (gb d 2)=gb d 2:=w64 O O;rw [iy O,show Int.toNat 2=2 from rfl,Aj O,AlU,iy O,show Int.toNat 0=0 from rfl,Aj O,AlU];rw [w2];by_cases h0:gb d 0=83
  .rw [decide_eq_true h0,AlZ AlR,iy O,show Int.toNat 1=1 from rfl,Aj O,AlU,w64 (n:=gb d 1) O O,B2,AlU];by_cases h1:1<=gb d 1/\gb d 1<=250
   .rw [decide_eq_true h1,AlZ Z,B2,AlU];by_cases h2:1<=gb d 2/\gb d 2<=40
    .obtain ⟨j,hj⟩:=Amq v2.1;rw [hj]at h2 ⊢;rw [decide_eq_true h2,AlZ Z,show(3:Int)+(j:Int)=((3+j:Nat):Int) by omega,w64 (n:=((3+j:Nat):Int)) O O,PQ O O,AlX,w64 (n:=(n:Int) - 1) O O,AlU];have hr:∀q:Bool,(if q=true then some (Sum.inr (Sum.inr false))else
       if Aa (out.length + [(m:Int)].length) 8=true then some (Sum.inl (c,(n:Int),out++[(m:Int)],IntKind.wrap .i64 ((k:Int)+1),b,x,y,z))else none :
       Option ((List Int×(Int×(List Int×(Int×(List (List Int)×(List Int×(List Int×List Int)))))))⊕((List Int×(Int×List Int))⊕Bool))) =
       some (if(!q)=true then .inl (c,(n:Int),out++[(m:Int)],((k+1:Nat):Int),b,x,y,z)else .inr (.inr false)):=λq=>by
      cases q with
      | true=>rfl
      | false=>rw [AlZ Z,Al1 (hroom _),Am O];rfl
     by_cases h4:k+1 < n
     .rw [iy O];by_cases h5:(j:Int)=40
      .rw [ino O,AlU];dsimp only;rw [hr];have:decide (k+1 < n->(j:Int)=40)=true:=decide_eq_true λ_=>h5
       rw [this];cases rz d (3+j) <;> rfl
      .rw [iy h5,AlU];dsimp only;have:decide (k+1 < n->(j:Int)=40)=false:=decide_eq_false λhh=>h5 (hh h4)
       rw [this,Al1 rfl];cases rz d (3+j) <;> rfl
     .rw [ino O,AlU];dsimp only;rw [hr];have:decide (k+1 < n->(j:Int)=40)=true:=decide_eq_true λhh=>absurd hh h4
      rw [this];cases rz d (3+j) <;> rfl
    .rw [decide_eq_false h2];rfl
   .rw [decide_eq_false h1];rfl
  .rw [decide_eq_false h0,Al1 (by simpa using h0)];rfl
theorem PA {b:Bls} {x y z c:List Int} {n:Nat} (g:RS b x y) (hc:c.length=128) (hu:U8s c) (hn:n<=3):∀(f k:Nat) (out:List Int),k+f=n->out.length<=k->
  Ab Ei (c,(n:Int),out,(k:Int),b,x,y,z)=some (match pcs b x y c n f out k with | some l=>.inl (c,(n:Int),l) | none=>.inr false)
 | 0,k,out,hk,ho=>by
  rw [AI];unfold Ei pcs cK gX wI;dsimp only;rw [ino O]
 | f+1,k,out,hk,ho=>by
  have hs:=Xm (z:=z) (k:=k) (out:=out) g hc hu hn O O;unfold pcs;by_cases h:(pcB b x y (num c (2+2 * k)) && (decide (k+1 < n->gb (blk b (num c (2+2 * k)).toNat) 2=40) && !decide (num c (2+2 * k)∈out)))=true
  .rw [Al1 h]at hs;rw [AI,hs,Al1 h];exact PA g hc hu hn f (k+1) _ O AlR
  .rw [AlZ h]at hs;rw [AI,hs,AlZ h]
theorem AcM {l:List Pc} (hl:l.length<=1048576) (a s:Int) (t:List UInt8) :
  Ah l a s t=some (decide (a∈l.map (·.1)),a,s,t):=by
 unfold Ah Au;rcases BT Al (λk=>(l,(l.length:Int),((k:Nat):Int),a,s,t)) (λk=>!(decide ((l[k]?.getD (0,0,[])).1=a))) (λk=>(((k:Nat):Int),a,s,t)) (a,s,t) l.length (λk hk=>by
  unfold Al It gX wI;dsimp only;rw [iy O,iy O,AlX,AlW hk,AlU,AlU,Am O,AmG];by_cases hz:l[k].1=a <;> simp [hz]) (by
  unfold Al gX wI;dsimp only;rw [ino O])with⟨h1,h2⟩ | ⟨k,hk,h1,_,h2⟩
 .have:a∉l.map (·.1):=by
   intro hm;obtain ⟨p,hp,he⟩:=Aml.1 hm;obtain ⟨j,hj,rfl⟩:=AmA hp;have:=h1 j hj;rw [AlW hj,AmG]at this;simp [he]at this
  rw [show(0:Int)=((0:Nat):Int) from rfl,h2,AlU,decide_eq_false this];rfl
 .have:a∈l.map (·.1):=by
   rw [AlW hk,AmG]at h1;refine Aml.2 ⟨l[k],Amc _,?_⟩;simpa using h1
  rw [show(0:Int)=((0:Nat):Int) from rfl,h2,AlU,decide_eq_true this];dsimp only;rw [AlU];dsimp only;rw [decide_eq_true O]
theorem AiZ {b:Bls} {x y:List Int} (g:RS b x y) {m:Nat} (hm:m < b.length) (h:gb (blk b m) 2<=40):(List.length (GP b (m:Int)):Int)=gb (blk b m) 2:=by
 have hc:=g.len hm;have u2:=g.u8 hm 2;unfold GP AJ;rw [AlX,Amt,Al4,Amm];omega
theorem W8 {b:Bls} {x y z c out:List Int} {n k:Nat} (g:RS b x y) (hc:c.length=128) (hu:U8s c) (hn:n<=3) (hk:k < n) (ho:out.length<=3) :
  Df ((b,x,y,z),c,(n:Int),out.map (DG b),(n:Int),(k:Int)) =
   some (if(pcB b x y (num c (2+2 * k)) && (decide (k+1 < n->gb (blk b (num c (2+2 * k)).toNat) 2=40) && !decide (num c (2+2 * k)∈out)))=true then .inl ((b,x,y,z),c,(n:Int),(out++[num c (2+2 * k)]).map (DG b),(n:Int),((k+1:Nat):Int))else .inr (.inr false)):=by
 have e1:=YV (k:=k) O;unfold Df cK wI;dsimp only;rw [iy O,e1,Gl hu O O,AlU,TG g];generalize num c (2+2 * k)=a;rw [AlU,Am O];cases hp:pcB b x y a with
 | false=>rfl
 | true=>
  have hl:liv b x y a=true:=by unfold pcB at hp;simp only [Al2]at hp;exact hp.1
  obtain ⟨m,rfl,h33,hm,_,_⟩:=Cs hl;have h40:gb (blk b m) 2<=40:=by
   unfold pcB pcG at hp;simp only [Al2,decide_eq_true_eq,AlX]at hp;exact hp.2.2.2.1.2
  have ht:=AiZ g hm h40;have hmap:((out.map (DG b)).map (·.1))=out:=by rw [AmU];exact List.map_id out
  have hroom:∀v:Pc,Aa (List.length (out.map (DG b))+List.length ([v]:List Pc)) 32=true:=λv=>by simp only [Aa,decide_eq_true_eq,Amb,Amt];omega
  rw [Al1 rfl];dsimp only;rw [AlZ Z,AcM (by rw [Amt];omega),hmap,AlU];dsimp only;rw [show(DG b (m:Int)).1=(m:Int) from rfl,show(DG b (m:Int)).2.2=GP b (m:Int) from rfl,AlX];have hr:∀q:Bool,(if q=true then some (Sum.inr (Sum.inr false))else
    if Aa ((out.map (DG b)).length + [(((m:Int)),(DG b (m:Int)).2.1,GP b (m:Int))].length) 32=true then some (Sum.inl ((b,x,y,z),c,(n:Int),out.map (DG b)++[(((m:Int)),(DG b (m:Int)).2.1,GP b (m:Int))],(n:Int),IntKind.wrap .i64 ((k:Int)+1)))else none :
    Option (((List (List Int)×(List Int×(List Int×List Int)))×(List Int×(Int×(List (Int×(Int×List UInt8))×(Int×Int)))))⊕(List (Int×(Int×List UInt8))⊕Bool))) =
    some (if(!q)=true then .inl ((b,x,y,z),c,(n:Int),(out++[(m:Int)]).map (DG b),(n:Int),((k+1:Nat):Int))else .inr (.inr false)):=λq=>by
   cases q with
   | true=>rfl
   | false=>
    rw [AlZ Z,Al1 (hroom _),AmD,Am O];rfl
  by_cases h4:k+1 < n
  .rw [iy O,ht];by_cases h5:gb (blk b m) 2=40
   .rw [ino O,AlU];dsimp only;rw [hr];have:decide (k+1 < n->gb (blk b m) 2=40)=true:=decide_eq_true λ_=>h5
    rw [this];rfl
   .rw [iy O,AlU];dsimp only;have:decide (k+1 < n->gb (blk b m) 2=40)=false:=decide_eq_false λhh=>h5 (hh h4)
    rw [this];rfl
  .rw [ino O,AlU];dsimp only;rw [hr];have:decide (k+1 < n->gb (blk b m) 2=40)=true:=decide_eq_true λhh=>absurd hh h4
   rw [this];rfl
theorem PB {b:Bls} {x y z c:List Int} {n:Nat} (g:RS b x y) (hc:c.length=128) (hu:U8s c) (hn:n<=3):∀(f k:Nat) (out:List Int),k+f=n->out.length<=k->
  Ab Df ((b,x,y,z),c,(n:Int),out.map (DG b),(n:Int),(k:Int))=some (match pcs b x y c n f out k with | some l=>.inl (l.map (DG b)) | none=>.inr false)
 | 0,k,out,hk,ho=>by
  rw [AI];unfold Df pcs cK wI;dsimp only;rw [ino O]
 | f+1,k,out,hk,ho=>by
  have hs:=W8 (z:=z) (k:=k) (out:=out) g hc hu hn O O;unfold pcs;by_cases h:(pcB b x y (num c (2+2 * k)) && (decide (k+1 < n->gb (blk b (num c (2+2 * k)).toNat) 2=40) && !decide (num c (2+2 * k)∈out)))=true
  .rw [Al1 h]at hs;rw [AI,hs,Al1 h];exact PB g hc hu hn f (k+1) _ O AlR
  .rw [AlZ h]at hs;rw [AI,hs,AlZ h]
def ptx (b:Bls) (x y:List Int) (root:Int):Option (List Int):=
 if(liv b x y root && (decide (gb (blk b root.toNat) 0=84) && (decide (gb (blk b root.toNat) 1<=3) && rz (blk b root.toNat) (2+2 * (gb (blk b root.toNat) 1).toNat))))=true then
  pcs b x y (blk b root.toNat) (gb (blk b root.toNat) 1).toNat (gb (blk b root.toNat) 1).toNat [] 0 else none
theorem AaU {b:Bls} {x y z:List Int} (g:RS b x y) (root:Int):∃l':List Int,Ly b x y z root=some (match ptx b x y root with | some l=>(l,true) | none=>(l',false)):=by
 unfold Ly ptx gX wI;rw [ME g,AlU];cases hl:liv b x y root with
 | false=>exact⟨[],rfl⟩
 | true=>
  obtain ⟨m,rfl,h33,hm,_,_⟩:=Cs hl;have hc:=g.len hm;have hu:=g.hu _ (BC hm);rw [AlX,AlZ Z,Amg];have hbm:=Bu hm;generalize blk b m=c at *;have u1:=DQ hu 1;rw [iy O,hbm,AlU,iy O,show Int.toNat 0=0 from rfl,Aj O,AlU];by_cases h0:gb c 0=84
  .rw [decide_eq_true h0,AlZ AlR,iy O,AlU,iy O,show Int.toNat 1=1 from rfl,Aj O,AlU,AlU];dsimp only;rw [AlX,hbm,Amg];by_cases h3:gb c 1<=3
   .obtain ⟨n,hn⟩:=Amq u1.1;rw [ino O,iy O,AlU,iy O,Aj O,AlU,decide_eq_true h3,Amg,hn,w64 O O,AlX];have hL:Ab Ei (c,(n:Int),[],0,b,x,y,z)=_:=PA g hc hu O n 0 [] O Z;rw [hL,AlU];have e1:=YV (k:=n) O;cases hp:pcs b x y c n n [] 0 with
    | none=>exact⟨[],by dsimp only;cases rz c (2+2 * n) <;> rfl⟩
    | some l=>
     refine⟨l,?_⟩;dsimp only;rw [e1,PQ O O,AlU];cases rz c (2+2 * n) <;> rfl
   .exact⟨[],by rw [iy O,decide_eq_false h3];rfl⟩
  .rw [decide_eq_false h0,Al1 (by simpa using h0)];exact⟨[],rfl⟩
theorem Aa2 {b:Bls} {x y z:List Int} (g:RS b x y) (root:Int):HH (b,x,y,z) root=some (match ptx b x y root with | some l=>(l.map (DG b),true) | none=>([],false)):=by
 unfold HH ptx gX sX wI;rw [Lu g,AlU];cases hl:liv b x y root with
 | false=>rfl
 | true=>
  obtain ⟨m,rfl,h33,hm,_,_⟩:=Cs hl;have hc:=g.len hm;have hu:=g.hu _ (BC hm);rw [AlX,AlZ Z,Amg];have hbm:=Bu hm;dsimp only;generalize blk b m=c at *;have u1:=DQ hu 1;rw [iy O,hbm,AlU,iy O,show Int.toNat 0=0 from rfl,Aj O,AlU,AlU];dsimp only;by_cases h0:gb c 0=84
  .obtain ⟨n,hn⟩:=Amq u1.1;rw [decide_eq_true h0,AlZ AlR,iy O,AlX,hbm,AlU,iy O,show Int.toNat 1=1 from rfl,Aj O,AlU,Amg,hn,w64 (n:=(n:Int)) O O];have e1:=YV (k:=n) O;by_cases h3:(n:Int)<=3
   .rw [ino O,e1,iy O,iy O,iy O,iy O,decide_eq_true h3,Amg];simp only [AlX];rw [AmK (show(List.drop (2+2 * n) c).length<=c.length - (2+2 * n) by rw [Amm];omega),Ac9 (by rw [Amm];omega),Ol,AlU,AlU];dsimp only;cases hr:rz c (2+2 * n)with
    | false=>rfl
    | true=>
     have hL:Ab Df ((b,x,y,z),c,(n:Int),[],(n:Int),0)=_:=PB g hc hu O n 0 [] O Z;rw [AlZ Z,Al1 rfl,hL,AlU];cases pcs b x y c n n [] 0 <;> rfl
   .rw [iy O,decide_eq_false h3];rfl
  .rw [decide_eq_false h0,Al1 (by simpa using h0)];rfl
end Go.V.G
set_option maxRecDepth 100000
namespace Go.V.G
open Go.V
noncomputable def pt (z:List Int) (n:Int):List Int:=(Dd z n).getD []
theorem MH {z:List Int} (hz:z.length<=1048576) (hr:Ris z) (n:Int):Dd z n=some (pt z n)/\Iv z n=some (pt z n)/\(pt z n).length<=z.length+1/\Ris (pt z n)/\∀v,v∈pt z n↔v∈z\/v=n:=by
 obtain ⟨z',h1,h2,h3,h4,h5⟩:=Qa hz hr n;have e:pt z n=z':=by unfold pt;rw [h1];rfl
 rw [e];exact⟨h1,h2,h3,h4,h5⟩
def Dz (d:List Int):List Int:=d++List.replicate (128 - d.length) 0
theorem Agn {d:List Int} (h:d.length<=128):(Dz d).length=128:=by unfold Dz;simp;omega
theorem AdD {l:List Int} (h:U8s l):Ar (AJ l)=l:=by
 unfold AJ Ar;rw [AmU]
 conv=>rhs;rw [<- List.map_id l]
 refine AmV λv hv=>?_
 obtain ⟨h0,h1⟩:=h v hv;obtain ⟨n,rfl⟩:=Amq h0;simp only [Function.comp,AlX,id];rw [UInt8.toNat_ofNat_of_lt' (by show n < 256;omega)]
theorem AdP {b:Bls} {x y c:List Int} {n:Nat}:∀(f k:Nat) (out l:List Int),pcs b x y c n f out k=some l->(∀a∈out,pcB b x y a=true)->out.Nodup->
  (∀a∈l,pcB b x y a=true)/\l.Nodup/\l.length=out.length+f
 | 0,k,out,l,h,h1,h2=>by
  unfold pcs at h;cases h;exact⟨h1,h2,rfl⟩
 | f+1,k,out,l,h,h1,h2=>by
  unfold pcs at h;split at h
  .rename_i hc;simp only [Al2,Al9,decide_eq_false_iff_not]at hc;obtain ⟨hp,_,hm⟩:=hc;obtain ⟨r1,r2,r3⟩:=AdP f (k+1) _ l h (λa ha=>by
    rcases Al3.1 ha with ha | ha
    .exact h1 a ha
    .rw [Al6.1 ha];exact hp) (by
    rw [Amj];refine⟨h2,Z,λa ha b hb=>?_⟩;rw [Al6.1 hb];rintro rfl;exact hm ha)
   exact⟨r1,r2,by rw [r3];simp;omega⟩
  .cases h
structure Pcs (b:Bls) (x y l:List Int):Prop where
 all:∀a∈l,pcB b x y a=true
 nd:l.Nodup
 len:l.length<=3
theorem Jd {b:Bls} {x y:List Int} {root:Int} {l:List Int} (h:ptx b x y root=some l):Pcs b x y l/\liv b x y root=true/\gb (blk b root.toNat) 0=84/\root∉l:=by
 unfold ptx at h;split at h
 .rename_i hc;simp only [Al2,decide_eq_true_eq]at hc;obtain ⟨h1,h2,h3,_⟩:=hc;obtain ⟨r1,r2,r3⟩:=AdP _ 0 [] l h (λa ha=>by cases ha) List.nodup_nil;refine⟨⟨r1,r2,by rw [r3];simp;omega⟩,h1,h2,λhm=>?_⟩;have:=r1 root hm;unfold pcB pcG at this;simp only [Al2,decide_eq_true_eq]at this;omega
 .cases h
theorem RF {b:Bls} {x y:List Int} {a:Int} (h:pcB b x y a=true):∃m:Nat,a=(m:Int)/\33<=m/\m < b.length/\bit x m=true/\(m:Int)∉y/\pcG (blk b m)=true:=by
 unfold pcB at h;simp only [Al2]at h;obtain ⟨m,rfl,h1,h2,h3,h4⟩:=Cs h.1;exact⟨m,rfl,h1,h2,h3,h4,h.2⟩
def cat (b:Bls) (l:List Int):List UInt8:=l.flatMap (GP b)
theorem YR (b:Bls) {l:List Int} {k:Nat} (h:k < l.length):cat b (l.take (k+1))=cat b (l.take k)++GP b l[k]:=by
 unfold cat;rw [Ama h,Am9];simp
theorem Ade (b:Bls) {x y:List Int} {a:Int} (h:pcB b x y a=true):(GP b a).length<=40:=by
 obtain ⟨m,rfl,_,_,_,_,hg⟩:=RF h;unfold pcG at hg;simp only [Al2,decide_eq_true_eq]at hg;unfold GP AJ;rw [AlX,Amt,Al4];omega
theorem Ug {b:Bls} {x y:List Int}:∀{l:List Int},(∀a∈l,pcB b x y a=true)->(cat b l).length<=40 * l.length
 | [],_=>by simp [cat]
 | a::l,h=>by
  have h1:=Ade b (h a Z);have h2:=Ug (l:=l) λv hv=>h v (by simp [hv])
  have e:cat b (a::l)=GP b a++cat b l:=by simp [cat]
  rw [e,Al0,Al7];omega
theorem Ac3 {b:Bls} {x y z:List Int} (g:RS b x y) {a:Int} (h:pcB b x y a=true):MN b x y z a=some (GP b a):=by
 obtain ⟨m,rfl,h33,hm,_,_,hg⟩:=RF h;have hc:=g.len hm;have v2:=g.u8 hm 2;unfold pcG at hg;simp only [Al2,decide_eq_true_eq]at hg;unfold MN GP gX sX wI;have hbm:=Bu hm;rw [AlX];generalize blk b m=c at *;obtain ⟨n,hn⟩:=Amq v2.1;rw [hn]at hg ⊢;rw [iy O,hbm,AlU,iy O,AlU,iy O,show Int.toNat 2=2 from rfl,Aj O,AlU,hn,w64 (n:=(n:Int)) O O,
  show(3:Int)+(n:Int)=((3+n:Nat):Int) by omega,w64 O O,iy O,iy O,iy O,iy O,AlX,AlX,(O:3+n - Int.toNat 3=n)]
 rfl
def tin (b:Bls) (x y:List Int) (root:Int):List UInt8×(List Int×Bool):=match ptx b x y root with
 | some l=>(cat b l,l++[root],true)
 | none=>([],[],false)
theorem R4 {b:Bls} {x y z:List Int} (g:RS b x y) (root:Int):Oy b x y z root=some (tin b x y root):=by
 obtain ⟨l',h⟩:=AaU (z:=z) g root;unfold Oy tin cK;rw [h,AlU];cases hp:ptx b x y root with
 | none=>rfl
 | some l=>
  obtain ⟨⟨hall,hnd,hlen⟩,_⟩:=Jd hp;dsimp only;rw [AlZ Z];have hL:=Ai H4 (λk=>(root,l,cat b (l.take k),(l.length:Int),((k:Nat):Int),b,x,y,z)) l.length (root,l,cat b l) (λk hk=>by
   have hpk:=hall _ (Amc hk);have h1:=Ug (b:=b) (x:=x) (y:=y) (l:=l.take k) λv hv=>hall v (Am7 hv)
   have h2:=Ade b hpk;rw [Al4]at h1;unfold H4 cK cZ wI;dsimp only;rw [iy O,iy O,iy O,Amk,AlX,AlW hk,AlU,Ac3 g hpk,AlU,iy O,Am O,YR b hk]) (by
   unfold H4 cK cZ wI;dsimp only;rw [ino O,AmL])
  have hL':Ab H4 (root,l,([]:List UInt8),(l.length:Int),0,b,x,y,z)=_:=hL;rw [hL',AlU];dsimp only;rw [Al1 (by simp only [Aa,decide_eq_true_eq,Amb];omega)]
theorem GS.rs {b:Bls} {x y z:List Int} (g:GS b x y z) (h:SB b x y z) (hu:∀c∈b,U8s c):RS b x y:=⟨g.hb,g.hk,hu,g.hx,h.y⟩
end Go.V.G
set_option maxRecDepth 100000
namespace Go.V.G
open Go.V
abbrev Wst:=Bls×(List Int×List Int)
structure Ws (n:Nat) (s:Wst) (q:Nat):Prop where
 hn:s.1.length=n
 hk:∀c∈s.1,c.length=128
 hu:∀c∈s.1,U8s c
 hy:Ris s.2.1
 hz:Ris s.2.2
 ly:s.2.1.length<=q
 lz:s.2.2.length<=q
theorem Ws.more {n q r:Nat} {s:Wst} (h:Ws n s q) (hr:q<=r):Ws n s r:=⟨h.hn,h.hk,h.hu,h.hy,h.hz,Amw h.ly hr,Amw h.lz hr⟩
theorem Lk {b:Bls} {i j:Nat} {c:List Int} (h:i≠j):blk (b.set i c) j=blk b j:=by unfold blk;rw [List.getElem?_set_ne h]
theorem Tg {b:Bls} {i:Nat} {c:List Int} (h:i < b.length):blk (b.set i c) i=c:=by unfold blk;rw [Ant h];rfl
theorem Ws.setB {n q:Nat} {s:Wst} (h:Ws n s q) (hq:q<=1048000) {i:Nat} {c:List Int} (hc:c.length=128) (hu:U8s c):Ws n (s.1.set i c,s.2.1,pt s.2.2 (i:Int)) (q+1):=by
 have hl:=h.lz;have hl2:=h.ly;obtain ⟨_,_,h3,h4,_⟩:=MH (z:=s.2.2) O h.hz (i:Int);exact⟨by rw [Am0];exact h.hn,λd hd=>by
  rcases Am1 hd with hd | rfl
  .exact h.hk d hd
  .exact hc,λd hd=>by
  rcases Am1 hd with hd | rfl
  .exact h.hu d hd
  .exact hu,h.hy,h4,AlT,AlT⟩
theorem GS.ws {b:Bls} {x y z:List Int} (g:GS b x y z) (hu:∀c∈b,U8s c):Ws b.length (b,y,z) 127:=by
 have hb:=g.hb;obtain ⟨r1,r2⟩:=GD g.hy;obtain ⟨r3,r4⟩:=GD g.hz;have l1:y.length<=127:=Ri r1 (λi hi=>by have:=r2 i hi;omega);have l2:z.length<=127:=Ri r3 (λi hi=>by have:=r4 i hi;omega);exact⟨rfl,g.hk,hu,r1,r3,l1,l2⟩
theorem Ws.w {n q:Nat} {s:Wst} (h:Ws n s q) (hn:n<=160) (hq:q<=1000) {x:List Int} (hx:x.length=20):AbQ s.1 x s.2.1 s.2.2<=5000000:=by
 have hw:∀l:Bls,(∀c∈l,c.length=128)->AP BD l=l.length * 128:=by
  intro l
  induction l with
  | nil=>intro _;rfl
  | cons c l ih=>
   intro hh;simp only [AP,Al7];rw [ih (λd hd=>hh d (by simp [hd]))];have e:BD c=c.length:=rfl;rw [e,hh c Z];omega
 have h1:=hw s.1 h.hk;have h2:=h.hn;have h3:=h.ly;have h4:=h.lz;unfold AbQ BL BD Yh;unfold BD at h1;rw [h1];omega
end Go.V.G
set_option maxRecDepth 100000
namespace Go.V.G
open Go.V
def shr (b:Bls) (hv:List Int) (k:Nat) (p:List UInt8):Int:=match hv[k]? with
 | some a=>if GP b a=p/\gb (blk b a.toNat) 1 < 250 then a else 0
 | none=>0
def zs (l:List Int):Nat:=l.countP λa=>decide (a=0)
end Go.V.G
set_option maxRecDepth 100000
namespace Go.V.G
open Go.V
theorem Wk.lay {n lz:Nat} {b:Bls} {x z c:List Int} (h:Wk n b x z lz) (hlz:lz<=1048000) (hc:c.length=128) (k:Nat):Wk n (b.set k c) x (pt z (k:Int)) (lz+1):=by
 have hz:=h.hz;obtain ⟨_,_,h3,h4,_⟩:=MH (z:=z) O h.hr (k:Int);exact⟨h.hn,by rw [Am0];exact h.hb,λd hd=>by
  rcases Am1 hd with hd | rfl
  .exact h.hk d hd
  .exact hc,h.hx,h.hu,h.hlow,h4,O⟩
structure Sh (b:Bls) (x y sh:List Int) (ps:List (List UInt8)):Prop where
 len:sh.length=ps.length
 m3:ps.length<=3
 pc:∀p∈ps,1<=p.length/\p.length<=40
 at_:∀j,j < ps.length->sh[j]?=some 0\/∃m:Nat,sh[j]?=some (m:Int)/\pcB b x y (m:Int)=true/\GP b (m:Int)=ps[j]?.getD []/\gb (blk b m) 1 < 250
 ne:∀(i j:Nat) (v:Int),i < j->sh[i]?=some v->sh[j]?=some v->v=0
structure Li (n:Nat) (b:Bls) (x z sh:List Int) (ps:List (List UInt8)) (k:Nat) (A:List Int) (b':Bls) (x' z':List Int) (q:Nat):Prop where
 wk:Wk n b' x' z' q
 bu:∀c∈b',U8s c
 len:A.length=k
 nd:A.Nodup
 at_:∀j,j < k->∃m:Nat,A[j]?=some (m:Int)/\(33<=m/\m < n)/\bit x' m=true/\
  ((sh[j]?=some 0/\bit x m=false/\blk b' m=Dz ([83,1,(((ps[j]?.getD []).length:Nat):Int)]++Ar (ps[j]?.getD [])))\/(sh[j]?=some (m:Int)/\blk b' m=(blk b m).set 1 (gb (blk b m) 1+1)))
 oth:∀i,i < 160->((i:Nat):Int)∉A->blk b' i=blk b i/\bit x' i=bit x i
 up:∀i,i < 160->bit x i=true->bit x' i=true
 zm:∀v∈z',v∈z\/v∈A
 ct:cnt x' n+zs (sh.take k)=cnt x n
theorem Li.mem {n k q:Nat} {b b':Bls} {x z sh x' z' A:List Int} {ps:List (List UInt8)} (h:Li n b x z sh ps k A b' x' z' q) {a:Int} (ha:a∈A):∃j m:Nat,j < k/\a=(m:Int)/\A[j]?=some (m:Int)/\(33<=m/\m < n)/\bit x' m=true/\
  ((sh[j]?=some 0/\bit x m=false)\/sh[j]?=some (m:Int)):=by
 obtain ⟨j,hj,he⟩:=AmA ha;have hl:=h.len;obtain ⟨m,h1,h2,h3,h4⟩:=h.at_ j O;rw [AlW hj]at h1;have:=Anf h1;refine⟨j,m,O,by rw [<- he,this],by rw [AlW hj,this],h2,h3,?_⟩;rcases h4 with⟨p1,p2,_⟩ | ⟨p1,_⟩
 .exact .inl ⟨p1,p2⟩
 .exact .inr p1
theorem Aji {d:List Int} (h:U8s d):U8s (Dz d):=λv hv=>by
 unfold Dz at hv;rcases Al3.1 hv with hv | hv
 .exact h v hv
 .rw [AnH hv];omega
def npc (p:List UInt8):List Int:=[83,1,(p.length:Int)]++Ar p
theorem w8d {m:Nat} (h:m < 160):IntKind.wrap .u8 (IntKind.wrap .i64 (Int.tdiv (m:Int) 256))=0:=by
 rw [An7 O,w64 O O,wub O O];omega
theorem AeS {m:Nat} (h:m < 160):Ic (m:Int)=some [0,(m:Int)]:=by
 unfold Ic cZ wB;rw [iy O,show(2:Int) ^ (min (Int.toNat 8) (IntKind.bits .i64))=256 from rfl,AnN _ O,wub (r:=(m:Int)) O O,wub O O];have:(m:Int) / 256=0:=O
 rw [this]
end Go.V.G
set_option maxRecDepth 100000
namespace Go.V.G
open Go.V
def ats (m:Nat) (A:List Int):List Int:=[84,(m:Int)]++A.flatMap λa=>[0,a]
structure Lt (n:Nat) (b:Bls) (x z sh:List Int) (ps:List (List UInt8)) (A:List Int) (r:Nat) (b':Bls) (x' z':List Int) (q:Nat):Prop where
 wk:Wk n b' x' z' q
 bu:∀c∈b',U8s c
 len:A.length=ps.length
 nd:A.Nodup
 rt:(33<=r/\r < n)/\bit x r=false/\bit x' r=true/\blk b' r=Dz (ats ps.length A)/\(r:Int)∉A
 at_:∀j,j < ps.length->∃m:Nat,A[j]?=some (m:Int)/\(33<=m/\m < n)/\bit x' m=true/\
  ((sh[j]?=some 0/\bit x m=false/\blk b' m=Dz (npc (ps[j]?.getD [])))\/(sh[j]?=some (m:Int)/\blk b' m=(blk b m).set 1 (gb (blk b m) 1+1)))
 oth:∀i,i < 160->((i:Nat):Int)∉A->i≠r->blk b' i=blk b i/\bit x' i=bit x i
 up:∀i,i < 160->bit x i=true->bit x' i=true
 zm:∀v∈z',v∈z\/v∈A\/v=(r:Int)
 ct:cnt x' n+zs sh+1=cnt x n
theorem GS.wk {b:Bls} {x y z:List Int} (g:GS b x y z) (hu:U8s x):Wk b.length b x z 127:=by
 obtain ⟨r1,r2⟩:=GD g.hz;have hb:=g.hb;exact⟨g.hb,rfl,g.hk,g.hx,hu,λk hk=>by
  have:=g.hbits k O;unfold bG at this;rw [decide_eq_true hk,decide_eq_false (O:¬ b.length<=k)]at this;simpa using this,r1,Ri r1 (λi hi=>by have:=r2 i hi;omega)⟩
end Go.V.G
set_option maxRecDepth 100000
namespace Go.V.G
open Go.V
structure TkI (n:Nat) (b:Bls) (x z l:List Int) (b':Bls) (x' z':List Int):Prop where
 nd:l.Nodup
 fr:∀v∈l,∃k:Nat,v=(k:Int)/\(33<=k/\k < n)/\bit x k=false/\bit x' k=true
 oth:∀i,i < 160->((i:Nat):Int)∉l->blk b' i=blk b i/\bit x' i=bit x i
 up:∀i,i < 160->bit x i=true->bit x' i=true
 zm:∀v∈z',v∈z\/v∈l
 bu:∀c∈b',U8s c
theorem Y2:U8s Il:=λv hv=>by
 unfold Il at hv;rw [AnH hv];omega
def own (data:List Int) (i:Nat):List Int:=(data.drop (124 * i)).take 124
structure Lr (n:Nat) (b:Bls) (x z data l:List Int) (b':Bls) (x' z':List Int):Prop where
 wk:Wk n b' x' z' 200
 bu:∀c∈b',U8s c
 len:l.length=nd data.length
 nd:l.Nodup
 at_:∀j,j < l.length->∃k:Nat,l[j]?=some (k:Int)/\(33<=k/\k < n)/\bit x k=false/\bit x' k=true/\blk b' k=AkH data l j
 oth:∀i,i < 160->((i:Nat):Int)∉l->blk b' i=blk b i/\bit x' i=bit x i
 up:∀i,i < 160->bit x i=true->bit x' i=true
 zm:∀v∈z',v∈z\/v∈l
 ct:cnt x' n+l.length=cnt x n
theorem Ac4 {l:List Int} (hl:l.length<=1048576):Av l=some (l.any λv=>decide (¬ v=0)):=by
 unfold Av BI;obtain ⟨r,hr,h⟩:=JN AY (λv=>decide (¬ v=0)) l (λk hk=>by
  unfold AY IC gX wI;dsimp only;rw [iy O,iy O,AlX,Aj hk,AlU,AlU,Am O];by_cases hz:gb l k=0 <;> simp [hz]) (by
  unfold AY gX wI;dsimp only;rw [ino O])
 rw [hr,AlU];rcases h with⟨rfl,h⟩ | ⟨k,rfl,h⟩
 .rw [h];rfl
 .rw [h];dsimp only;rw [AlU,decide_eq_true O]
theorem AiT {d:List Int} (n:Nat) (h:n=d.length):rz (Dz d) n=true:=by
 subst h;unfold rz Dz;rw [List.drop_left,Amr];intro v hv;rw [AnH hv];rfl
end Go.V.G
set_option maxRecDepth 100000
namespace Go.V.G
open Go.V
def BW (c:List Int):List Int:=(List.range 32).map λk=>num c (1+2 * k)
theorem FH (c:List Int):(BW c).length=32:=by simp [BW]
def pgB (b:Bls) (x y:List Int) (a kind:Int):Bool:=liv b x y a && (decide (gb (blk b a.toNat) 0=kind) && rz (blk b a.toNat) 65)
def pg (b:Bls) (x y:List Int) (a kind:Int):List Int×Bool:=if pgB b x y a kind=true then(BW (blk b a.toNat),true)else([],false)
theorem Xu {b:Bls} {x y:List Int} {a kind:Int} (h:pgB b x y a kind=false):pg b x y a kind=([],false):=by unfold pg;rw [h];rfl
theorem Tx {b:Bls} {x y:List Int} {a kind:Int} (h:pgB b x y a kind=true):pg b x y a kind=(BW (blk b a.toNat),true):=by unfold pg;rw [h];rfl
theorem Ai0 {k:Nat} (h:k<=1048576):IntKind.wrap .i64 (1+(IntKind.wrap .i64 (2 * (k:Int))))=((1+2 * k:Nat):Int):=by
 rw [w64 (n:=2 * (k:Int)) O O,w64 O O];omega
theorem XS {α:Type} (f:Nat->α) (k:Nat):(List.range (k+1)).map f=(List.range k).map f++[f k]:=by rw [AnI,AmD];rfl
theorem LM {α:Type} (f:Nat->α) (k:Nat):((List.range k).map f).length=k:=by simp
theorem Z9 {b:Bls} {x y z c:List Int} {m k:Nat} (hbm:b[m]?=some c) (hc:c.length=128) (hu:U8s c) (hk:k < 32) :
  D1 ((m:Int),(List.range k).map (λk=>num c (1+2 * k)),((k:Nat):Int),b,x,y,z)=some (.inl ((m:Int),(List.range (k+1)).map (λk=>num c (1+2 * k)),((k+1:Nat):Int),b,x,y,z)):=by
 have e1:=Ai0 (k:=k) O;have e2:=YV (k:=k) O;have u1:=DQ hu (1+2 * k);have u2:=DQ hu (2+2 * k);have ea:=Uw u1 u2;have en:num c (1+2 * k)=gb c (1+2 * k) * 256+gb c (2+2 * k):=by unfold num;rw [(O:1+2 * k+1=2+2 * k)]
 have g1:c[1+2 * k]?=some (gb c (1+2 * k)):=Aj O;have g2:c[2+2 * k]?=some (gb c (2+2 * k)):=Aj O;have hroom:∀v:Int,Aa (((List.range k).map (λk=>num c (1+2 * k))).length+([v]:List Int).length) 8=true:=λv=>by simp only [Aa,decide_eq_true_eq,LM,Amb];omega
 unfold D1 cK gX wI;dsimp only;simp (disch:=omega) only [iy,e1,e2,AlX,hbm,AlU,g1,g2,ea,<- en,Am,hroom,Amd,XS]
theorem AdT {c l:List Int} {k:Nat} (hl:l.length<=1048576) (hk:k < l.length):Dm (c,l,(l.length:Int),(k:Int))=some (if decide (gb l k=0)=true then .inl (c,l,(l.length:Int),((k+1:Nat):Int))else .inr (.inr false)):=by
 unfold Dm gX wI;dsimp only;rw [iy O,iy O,AlX,Aj hk,AlU,Am O];by_cases h:gb l k=0 <;> simp [h]
theorem PV (l:List Int) (p:Int->Bool):(∀j,j < l.length->p (gb l j)=true)↔l.all p=true:=by
 rw [Amr];constructor
 .intro h v hv;obtain ⟨j,hj,rfl⟩:=AmA hv;have:=h j hj;unfold gb at this
  rwa [AlW hj,AmG]at this
 .intro h j hj;exact h _ (AmI (Aj hj))
theorem QL {b:Bls} {x y z:List Int} (g:RS b x y) (a kind:Int):H2 b x y z a kind=some (pg b x y a kind):=by
 unfold H2 pg pgB gX sX;rw [ME g,AlU];cases hl:liv b x y a with
 | false=>rfl
 | true=>
  obtain ⟨m,rfl,h33,hm,_,_⟩:=Cs hl;have hc:=g.len hm;have hu:=g.hu _ (BC hm);have hbm:=Bu hm;rw [AlX];generalize hcc:blk b m=c at *;rw [AlZ Z,iy O,hbm,AlU,iy O,show Int.toNat 0=0 from rfl,Aj (O:0 < c.length),AlU,AlU];dsimp only;by_cases h0:gb c 0=kind
  .rw [ino (not_not_intro h0),decide_eq_true h0];have hloop:=Ai D1 (λk=>((m:Int),(List.range k).map (λk=>num c (1+2 * k)),((k:Nat):Int),b,x,y,z)) 32 ((m:Int),BW c,b,x,y,z)
    (λk hk=>Z9 hbm hc hu hk) (by
     unfold D1 cK gX wI;dsimp only;rw [ino O];rfl)
   rw [show Ab D1 ((m:Int),[],0,b,x,y,z)=_ from hloop,AlU];dsimp only;have hd:List.take (Int.toNat (c.length:Int) - Int.toNat 65) (List.drop (Int.toNat 65) c)=c.drop 65:=by
    rw [AlX,show Int.toNat 65=65 from rfl];exact AmK (by rw [Amm];omega)
   rw [iy O,AlX,hbm,AlU,iy O,iy O,iy O,iy O,hd];have hdl:(c.drop 65).length=63:=by rw [Amm,hc]
   rcases BT Dm (λk=>(BW c,c.drop 65,(((c.drop 65).length:Nat):Int),((k:Nat):Int))) (λk=>decide (gb (c.drop 65) k=0)) (λ_=>false) (BW c) (c.drop 65).length
    (λk hk=>AdT O hk) (by
     unfold Dm gX wI;dsimp only;rw [ino O])with⟨ha,hlp⟩ | ⟨k,hk,hp,_,hlp⟩
   .have hr:rz c 65=true:=(PV (c.drop 65) λv=>decide (v=0)).1 ha;rw [show Ab Dm (BW c,c.drop 65,(((c.drop 65).length:Nat):Int),0)=_ from hlp,AlU,hr];rfl
   .have hr:rz c 65=false:=by
     cases h:rz c 65 with
     | false=>rfl
     | true=>
      have:=(PV (c.drop 65) λv=>decide (v=0)).2 h k hk;rw [hp]at this;cases this
    rw [show Ab Dm (BW c,c.drop 65,(((c.drop 65).length:Nat):Int),0)=_ from hlp,AlU,hr];rfl
  .rw [iy h0,decide_eq_false h0];rfl
theorem Af7 {l:List Int} (hl:l.length<=1048576):Ba l=some (l.any λv=>decide (¬ v=0)):=by
 unfold Ba BR;obtain ⟨r,hr,h⟩:=JN A8 (λv=>decide (¬ v=0)) l (λk hk=>by
  unfold A8 J1 gX wI;dsimp only;rw [iy O,iy O,AlX,Aj hk,AlU,AlU,Am O];by_cases hz:gb l k=0 <;> simp [hz]) (by
  unfold A8 gX wI;dsimp only;rw [ino O])
 rw [hr,AlU];rcases h with⟨rfl,h⟩ | ⟨k,rfl,h⟩
 .rw [h];rfl
 .rw [h];dsimp only;rw [AlU,decide_eq_true O]
theorem WE {b:Bls} {x y z:List Int} (g:RS b x y) (a kind:Int):GU (b,x,y,z) a kind=some (pg b x y a kind):=by
 unfold GU pg pgB gX sX;rw [Lu g,AlU];cases hl:liv b x y a with
 | false=>rfl
 | true=>
  obtain ⟨m,rfl,h33,hm,_,_⟩:=Cs hl;have hc:=g.len hm;have hu:=g.hu _ (BC hm);have hbm:=Bu hm;rw [AlX];generalize hcc:blk b m=c at *;rw [AlZ Z];dsimp only;rw [iy O,hbm,AlU,iy O,show Int.toNat 0=0 from rfl,Aj (O:0 < c.length),AlU,AlU];dsimp only;by_cases h0:gb c 0=kind
  .rw [ino (not_not_intro h0),decide_eq_true h0];have hd:List.take (Int.toNat (c.length:Int) - Int.toNat 65) (List.drop (Int.toNat 65) c)=c.drop 65:=by
    rw [AlX,show Int.toNat 65=65 from rfl];exact AmK (by rw [Amm];omega)
   rw [iy O,AlX,hbm,AlU,iy O,iy O,iy O,iy O,hd,Af7 (by rw [Amm];omega),Ol,AlU];cases hr:rz c 65 with
   | false=>rfl
   | true=>
    have hloop:=Ai Ep (λk=>(c,(List.range k).map (λk=>num c (1+2 * k)),((k:Nat):Int))) 32 (BW c) (λk hk=>by
     have e1:=Ai0 (k:=k) O;have hn:=Gl hu (i:=1+2 * k) O O;have hroom:∀v:Int,Aa (((List.range k).map (λk=>num c (1+2 * k))).length+([v]:List Int).length) 8=true:=λv=>by simp only [Aa,decide_eq_true_eq,LM,Amb];omega
     unfold Ep cK wI;dsimp only;simp (disch:=omega) only [iy,e1,hn,AlU,Am,hroom,Amd,XS]) (by
     unfold Ep cK wI;dsimp only;rw [ino O];rfl)
    rw [AlZ Z,show Ab Ep (c,[],0)=_ from hloop,AlU];rfl
  .rw [iy h0,decide_eq_false h0];rfl
def nz (l:List Int):Bool:=l.any λv=>decide (¬ v=0)
theorem ZW {l:List Int} (hl:l.length<=1048576):Om l=some (nz l):=by
 unfold Om nz;rcases BT Hw (λk=>(l,(l.length:Int),((k:Nat):Int))) (λk=>decide (gb l k=0)) (λ_=>true) () l.length (λk hk=>by
  unfold Hw gX wI;dsimp only;rw [iy O,iy O,AlX,Aj hk,AlU,Am O];by_cases hz:gb l k=0 <;> simp [hz]) (by
  unfold Hw gX wI;dsimp only;rw [ino O])with⟨ha,hlp⟩ | ⟨k,hk,hp,_,hlp⟩
 .rw [show Ab Hw (l,(l.length:Int),0)=_ from hlp,AlU];have:=(PV l λv=>decide (v=0)).1 ha;refine congrArg some (Eq.symm ?_);rw [Am4];intro v hv;have:=Amr.1 this v hv;simpa using this
 .rw [show Ab Hw (l,(l.length:Int),0)=_ from hlp,AlU];refine congrArg some (Eq.symm ?_);rw [Aoi];exact⟨_,AmI (Aj hk),by simpa using hp⟩
theorem Uk {l:List Int} (hl:l.length<=1048576):Kq l=some (!nz l):=by
 unfold Kq BZ Cn nz;obtain ⟨r,hr,h⟩:=JN Bp (λv=>decide (¬ v=0)) l (λk hk=>by
  unfold Bp NL gX wI;dsimp only;rw [iy O,iy O,AlX,Aj hk,AlU,AlU,Am O];by_cases hz:gb l k=0 <;> simp [hz]) (by
  unfold Bp gX wI;dsimp only;rw [ino O])
 rw [hr,AlU];rcases h with⟨rfl,h⟩ | ⟨k,rfl,h⟩
 .rw [h];rfl
 .rw [h];dsimp only;rw [AlU,AlU,decide_eq_true O]
def isb (b:Bls) (x:List Int) (v:Int):Bool:=decide (33<=v/\v<=(b.length:Int) - 1) && bit x v.toNat
theorem AcN {b:Bls} {x y z:List Int} (g:RS b x y) (v:Int):MZ b x y z v=some (isb b x v):=by
 have hn:=g.hn;have hx:=g.hx;unfold MZ isb wI;rw [B2,w64 O O,AlU];by_cases h1:33<=v/\v<=(b.length:Int) - 1
 .obtain ⟨m,rfl⟩:=Amq (O:0<=v);rw [decide_eq_true h1,Al1 rfl,Ky O O,AlU,AlX];rfl
 .rw [decide_eq_false h1];rfl
def NO (b:Bls) (x:List Int) (l:List Int):Bool:=l.any λv=>decide (¬ v=0) && !isb b x v
theorem AcQ {b:Bls} {x y z:List Int} (g:RS b x y) (v:Int):HI v (some (b,x,y,z))=some (decide (¬ v=0) && !isb b x v,some (b,x,y,z)):=by
 unfold HI;by_cases h:v=0
 .rw [ino (not_not_intro h),decide_eq_false (not_not_intro h)];rfl
 .rw [iy h,decide_eq_true h,AlU,PJ g,AlU];rfl
theorem AgU {b:Bls} {x y z l:List Int} (g:RS b x y) (hl:l.length<=1048576):A9 l (some (b,x,y,z))=some (l,NO b x l,some (b,x,y,z)):=by
 unfold A9 BQ NO;rcases BT AF (λk=>(l,(l.length:Int),((k:Nat):Int),some (b,x,y,z))) (λk=>!(decide (¬ gb l k=0) && !isb b x (gb l k))) (λk=>(l,((k:Nat):Int),some (b,x,y,z))) (l,some (b,x,y,z)) l.length (λk hk=>by
  unfold AF cK cZ wI;dsimp only;rw [iy O,iy O,iy O,AlX,Amk,Aj hk,AlU,AcQ g,AlU,Am O];dsimp only;cases (decide (¬ gb l k=0) && !isb b x (gb l k)) <;> rfl) (by
  unfold AF cK cZ wI;dsimp only;rw [ino O])with⟨ha,hlp⟩ | ⟨k,hk,hp,_,hlp⟩
 .rw [show Ab AF (l,(l.length:Int),0,some (b,x,y,z))=_ from hlp,AlU];dsimp only;rw [AlU];have:=(PV l λv=>!(decide (¬ v=0) && !isb b x v)).1 ha;have h2:(l.any λv=>decide (¬ v=0) && !isb b x v)=false:=by
   rw [Am4];intro v hv;have:=Amr.1 this v hv;rw [Al9]at this;rw [this];simp
  rw [h2];rfl
 .rw [show Ab AF (l,(l.length:Int),0,some (b,x,y,z))=_ from hlp,AlU];dsimp only;rw [AlU];have h2:(l.any λv=>decide (¬ v=0) && !isb b x v)=true:=by
   rw [Aoi];exact⟨_,AmI (Aj hk),by simpa using hp⟩
  rw [h2,decide_eq_true (show(0:Int)<=((k:Nat):Int) by omega)]
end Go.V.G
set_option maxRecDepth 100000
namespace Go.V.G
open Go.V
theorem SN {σ τ ρ:Type} (L:σ->Option (σ⊕(τ⊕ρ))) (st:Nat->σ) (l:List Int) (p:Int->Bool) (e:ρ) (z:τ)
  (step:∀k,k < l.length->L (st k)=some (if p (gb l k)=true then .inr (.inr e)else .inl (st (k+1)))) (last:L (st l.length)=some (.inr (.inl z))) :
  Ab L (st 0)=some (if l.any p=true then .inr e else .inl z):=by
 rcases BT L st (λk=>!p (gb l k)) (λ_=>e) z l.length (λk hk=>by rw [step k hk];cases p (gb l k) <;> rfl) last with⟨ha,hlp⟩ | ⟨k,hk,hp,_,hlp⟩
 .have:=(PV l λv=>!p v).1 ha;have h2:l.any p=false:=by
   rw [Am4];intro v hv;have:=Amr.1 this v hv;simpa using this
  rw [hlp,h2];rfl
 .have h2:l.any p=true:=by
   rw [Aoi];exact⟨_,AmI (Aj hk),by simpa using hp⟩
  rw [hlp,h2];rfl
theorem Q5 {α:Type} (n k:Nat) (g h:Nat->α):((List.range n).map (λj=>if j < k then g j else h j)).set k (g k)=(List.range n).map (λj=>if j < k+1 then g j else h j):=by
 apply AmT;intro i;rw [Aon,AmB,AmB,Amt,List.length_range];by_cases hi:i < n
 .rw [An1 hi];by_cases hki:k=i
  .subst hki;simp [hi]
  .have:(i < k)=(i < k+1):=by apply propext;omega
   simp [hki,this]
 .rw [Amn (by simpa using hi)];by_cases hki:k=i
  .subst hki;simp [hi]
  .simp [hki]
theorem Q4 {α:Type} (n:Nat) (f:Nat->α) {k:Nat} (h:k < n):((List.range n).map f)[k]?=some (f k):=by rw [AmB,An1 h];rfl
theorem Ru {α:Type} (n:Nat) (g h:Nat->α):(List.range n).map (λj=>if j < n then g j else h j)=(List.range n).map g:=
 AmV λj hj=>Al1 (AnG.1 hj)
theorem map_none {α:Type} (n:Nat) (g h:Nat->α):(List.range n).map (λj=>if j < 0 then g j else h j)=(List.range n).map h:=
 AmV λj _=>AlZ O
theorem KA {α:Type} (n:Nat) (v:α):(List.range n).map (λ_=>v)=List.replicate n v:=by
 apply AmT;intro i;rw [AmB,List.getElem?_replicate];by_cases hi:i < n
 .rw [An1 hi,Al1 hi];rfl
 .rw [AlZ hi,Amn (by simpa using hi)];rfl
theorem AcA {l:List Int} {n:Nat} (h:l.length=n):(List.range n).map (gb l)=l:=by
 apply AmT;intro i;rw [AmB];by_cases hi:i < n
 .rw [An1 hi,Aj O];rfl
 .rw [Amn (by simpa using hi),Amn O];rfl
def zer:List Int:=List.replicate 32 0
def lfs (b:Bls) (a:Int):List Int:=if a=0 then []else BW (blk b a.toNat)
def lfv (b:Bls) (a:Int):List Int:=if a=0 then zer else BW (blk b a.toNat)
theorem Ab9 (b:Bls) (a:Int):(lfv b a).length=32:=by unfold lfv zer;split <;> simp [FH]
def stG (b:Bls) (x y top:List Int) (k:Nat):Bool:=
 decide (gb top k=0) || (pgB b x y (gb top k) 81 && (nz (BW (blk b (gb top k).toNat)) && (!(top.take k).any (λv=>decide (v=gb top k)) && !NO b x (BW (blk b (gb top k).toNat)))))
def Jb (b:Bls) (root:Int):List Int:=BW (blk b root.toNat)
def tre (b:Bls) (x y:List Int) (root:Int):Option (List Int):=
 if root=0 then some zer else if(pgB b x y root 80 && (nz (Jb b root) && (List.range 32).all (stG b x y (Jb b root))))=true then some (Jb b root)else none
theorem Ake {b:Bls} {x y z top:List Int} {lv:List (List Int)} {a n:Int} {k:Nat} (hk:k<=top.length) (ht:top.length<=1000) :
  Ab H1 (lv,top,(k:Int),a,n,(k:Int),((0:Nat):Int),(k:Int),(k:Int),0,b,x,y,z) =
   some (if(top.take k).any (λv=>decide (v=a))=true then .inr false else .inl (lv,top,(k:Int),a,n,(k:Int),b,x,y,z)):=by
 have hl:(top.take k).length=k:=by rw [Al4];omega
 exact SN H1 (λi=>(lv,top,(k:Int),a,n,(k:Int),((0:Nat):Int),(k:Int),(k:Int),((i:Nat):Int),b,x,y,z)) (top.take k) (λv=>decide (v=a)) false
  (lv,top,(k:Int),a,n,(k:Int),b,x,y,z) (λi hi=>by
   have hi':i < k:=O
   have hg:top[i]?=some (gb (top.take k) i):=by
    rw [<- Aj hi,Ami hi']
   unfold H1 cK cZ wI;dsimp only;have hd:((List.drop (Int.toNat ((0:Nat):Int)) top).take (Int.toNat (k:Int))).length=k:=by
    rw [AlX,AlX,AmX,hl]
   rw [iy O,iy O,hd,iy O];simp only [AlX,Amk];rw [hg,AlU,Am O];by_cases h:gb (top.take k) i=a
   .rw [iy h,decide_eq_true h];rfl
   .rw [ino h,decide_eq_false h];rfl) (by
   rw [hl];unfold H1 cK cZ wI;dsimp only;rw [ino O])
theorem Akl {b:Bls} {x y z top l:List Int} {lv:List (List Int)} {n:Int} {i j:Int} (g:RS b x y) (hl:l.length<=1000) :
  Ab HS (lv,top,i,l,n,j,(l.length:Int),0,b,x,y,z)=some (if NO b x l=true then .inr false else .inl (lv,top,i,l,n,j,b,x,y,z)):=by
 exact SN HS (λk=>(lv,top,i,l,n,j,(l.length:Int),((k:Nat):Int),b,x,y,z)) l (λv=>decide (¬ v=0) && !isb b x v) false
  (lv,top,i,l,n,j,b,x,y,z) (λk hk=>by
   unfold HS cK cZ wI;dsimp only;rw [iy O,iy O,iy O,AlX,Amk,Aj hk,AlU];by_cases h:gb l k=0
   .rw [ino (not_not_intro h),decide_eq_false (not_not_intro h),AlU];dsimp only;rw [Am O];rfl
   .rw [iy h,decide_eq_true h,AcN g,AlU,AlU];dsimp only;rw [Am O];cases isb b x (gb l k) <;> rfl) (by
   unfold HS cK cZ wI;dsimp only;rw [ino O])
theorem Aaw {b:Bls} {x y z top:List Int} {k:Nat} (g:RS b x y) (ht:top.length=32) (hk:k < 32) :
  EC ((List.range 32).map (λj=>if j < k then lfs b (gb top j)else []),top,((32:Nat):Int),(k:Int),b,x,y,z) =
   some (if stG b x y top k=true then .inl ((List.range 32).map (λj=>if j < k+1 then lfs b (gb top j)else []),top,((32:Nat):Int),((k+1:Nat):Int),b,x,y,z)else .inr (.inr false)):=by
 have hs:=Q5 32 k (λj=>lfs b (gb top j)) (λ_=>[]);have hgt:=Q4 32 (λj=>if j < k then lfs b (gb top j)else []) hk;have hln:((List.range 32).map (λj=>if j < k then lfs b (gb top j)else [])).length=32:=LM _ _;generalize (List.range 32).map (λj=>if j < k then lfs b (gb top j)else [])=lv at *;have hgk:top[k]?=some (gb top k):=Aj O;have hd:((List.drop (Int.toNat 0) top).take (Int.toNat (k:Int) - Int.toNat 0)).length=k:=by
  rw [AlX,show Int.toNat 0=0 from rfl,AmX,AnE,Al4];omega
 have hz0:(((Int.toNat 0:Nat)):Int)=((0:Nat):Int):=rfl;have hzk:(((Int.toNat (k:Int) - Int.toNat 0:Nat)):Int)=(k:Int):=by rw [AlX];rfl
 have hdup:=Ake (b:=b) (x:=x) (y:=y) (z:=z) (lv:=lv) (a:=gb top k) (n:=((32:Nat):Int)) (O:k<=top.length) O;unfold EC cK cZ sX wI;dsimp only;rw [iy O,iy O,iy O,AlX,Amk,hgk,AlU];unfold stG;generalize hak:gb top k=a at *;by_cases h0:a=0
 .rw [iy h0,AlU];dsimp only;rw [Am O,decide_eq_true h0,Bool.true_or,Al1 rfl,<- hs];refine congrArg some (congrArg Sum.inl ?_);have:lfs b a=[]:=by unfold lfs;rw [Al1 h0]
  rw [this];refine congrArg (λq=>(q,_)) ?_;apply AmT;intro i;rw [Aon];split
  .rename_i he;subst he;rw [Al1 O,hgt,AlZ O]
  .rfl
 rw [ino h0,decide_eq_false h0,Anh,iy O,iy O,iy O,iy O];rw [AlX]at hd hzk;rw [hd,hz0,hzk,hdup,AlU];cases hdp:(top.take k).any λv=>decide (v=a)with
 | true=>
  rw [Al1 rfl];dsimp only;rw [AlU];dsimp only;rw [AmN,Anm,Aoh,Aoh,AlZ Z]
 | false=>
  rw [AlZ Z];dsimp only;rw [QL g,AnX,Amg];cases hp:pgB b x y a 81 with
  | false=>
   rw [Xu hp,AlU];dsimp only;rw [Al1 Z,AlU];dsimp only;rw [Al1 rfl,AlU];dsimp only;rw [Anm,AlZ Z]
  | true=>
   rw [Tx hp,AlU];dsimp only;have hpl:=FH (blk b a.toNat);rw [AlZ Z,ZW O,AlU,AlU];dsimp only;rw [Amg];cases hnz:nz (BW (blk b a.toNat))with
   | false=>
    rw [Al1 Z,AlU];dsimp only;rw [Anm,AlZ Z]
   | true=>
    rw [AlZ Z,Akl g O,AlU,Amg];cases hbd:NO b x (BW (blk b a.toNat))with
    | true=>
     rw [Al1 rfl];dsimp only;rw [AlU];rfl
    | false=>
     rw [AlZ Z];dsimp only;have hg2:lv[0+k]?=some []:=by rw [Amk,hgt,AlZ O]
     rw [iy O,hln,iy O,AlX,hg2,AlU,AlU,AlU,Amk];dsimp only;rw [Am O,AnX,Al1 rfl,<- hs];have:lfs b a=BW (blk b a.toNat):=by unfold lfs;rw [AlZ h0]
     rw [this]
def trS (b:Bls) (o:Option (List Int)):List (List Int)×(List Int×Bool):=match o with
 | some top=>(top.map (lfs b),top,true)
 | none=>([],[],false)
def trI (b:Bls) (root:Int) (o:Option (List Int)):Bool×(Int×(List Int×List (List Int))):=match o with
 | some top=>(true,root,top,top.map (lfv b))
 | none=>(false,0,[],[])
theorem Afg {α:Type} (f:Int->α) {l:List Int} {n:Nat} (h:l.length=n):(List.range n).map (λj=>f (gb l j))=l.map f:=by
 have:=congrArg (List.map f) (AcA h);rw [AmU]at this;exact this
theorem Ajt:Aa (Int.toNat 32) 24=true:=by simp [Aa]
theorem rm8:Aa (Int.toNat 32) 8=true:=by simp [Aa]
theorem Qj {b:Bls} {x y z:List Int} (g:RS b x y) (root:Int):J4 b x y z root=some (trS b (tre b x y root)):=by
 unfold J4 tre cK cZ;rw [iy O,iy O,Al1 Ajt,iy O,iy O,Al1 rm8];by_cases h0:root=0
 .rw [iy h0,Al1 h0];unfold trS zer;dsimp only;rw [List.map_replicate];rfl
 rw [ino h0,AlZ h0,QL g];unfold Jb;cases hp:pgB b x y root 80 with
 | false=>rw [Xu hp];rfl
 | true=>
  rw [Tx hp,AlU];dsimp only;have hpl:=FH (blk b root.toNat);generalize BW (blk b root.toNat)=top at *;rw [AlZ Z,ZW O,AlU,AlU];dsimp only;rw [Amg];cases hnz:nz top with
  | false=>rfl
  | true=>
   rw [AlZ Z,hpl,Amg];have e0:List.replicate (Int.toNat 32) ([]:List Int)=(List.range 32).map (λj=>if j < 0 then lfs b (gb top j)else []):=by
    rw [map_none,KA];rfl
   rw [e0];rcases BT EC (λk=>((List.range 32).map (λj=>if j < k then lfs b (gb top j)else []),top,((32:Nat):Int),((k:Nat):Int),b,x,y,z)) (λk=>stG b x y top k) (λ_=>false)
    ((List.range 32).map (λj=>if j < 32 then lfs b (gb top j)else []),top) 32 (λk hk=>Aaw g hpl hk) (by
     unfold EC cK cZ sX wI;dsimp only;rw [ino O])with⟨ha,hlp⟩ | ⟨k,hk,hq,_,hlp⟩
   .rw [show Ab EC ((List.range 32).map (λj=>if j < 0 then lfs b (gb top j)else []),top,((32:Nat):Int),0,b,x,y,z)=_ from hlp,AlU,Al1 (all_range.2 ha),Ru,Afg _ hpl];rfl
   .have hn:((List.range 32).all (stG b x y top))=false:=by
     cases h:(List.range 32).all (stG b x y top)with
     | false=>rfl
     | true=>have:=all_range.1 h k hk;rw [hq]at this;cases this
    rw [show Ab EC ((List.range 32).map (λj=>if j < 0 then lfs b (gb top j)else []),top,((32:Nat):Int),0,b,x,y,z)=_ from hlp,AlU,hn];rfl
theorem AaB {b:Bls} {x y z:List Int} (root:Int):Ab Er (root,(List.length (List.replicate (Int.toNat 32) ([]:List Int)):Int),0,some (b,x,y,z),0,root,List.replicate (Int.toNat 32) (0:Int),List.replicate (Int.toNat 32) ([]:List Int)) =
  some (root,some (b,x,y,z),0,root,zer,List.replicate 32 zer):=by
 have hln:∀k,((List.range 32).map (λj=>if j < k then zer else([]:List Int))).length=32:=λk=>LM _ _
 have hl:=Ai Er (λk=>(root,((32:Nat):Int),((k:Nat):Int),some (b,x,y,z),0,root,zer,(List.range 32).map (λj=>if j < k then zer else []))) 32 (root,some (b,x,y,z),0,root,zer,(List.range 32).map (λj=>if j < 32 then zer else [])) (λk hk=>by
   have hs:=Q5 32 k (λ_=>zer) (λ_=>([]:List Int));have hgt:=Q4 32 (λj=>if j < k then zer else([]:List Int)) hk;have h1:=hln k;generalize (List.range 32).map (λj=>if j < k then zer else([]:List Int))=lv at *;unfold Er cK cZ wI;dsimp only;rw [iy O,iy O,iy O,Al1 rm8,iy O,h1,iy O,AlX,Amk,hgt,AlU,AlU,Am O,<- hs];rfl) (by
   unfold Er cK cZ wI;dsimp only;rw [ino O])
 rw [Ru,KA]at hl;have e0:List.replicate (Int.toNat 32) ([]:List Int)=(List.range 32).map (λj=>if j < 0 then zer else []):=by
  rw [map_none,KA];rfl
 rw [e0,hln 0];exact hl
theorem Aaq {b:Bls} {x y z top:List Int} {root:Int} {k:Nat} (g:RS b x y) (ht:top.length=32) (hk:k < 32) :
  Da (top,((32:Nat):Int),(k:Int),some (b,x,y,z),0,root,(List.range 32).map (λj=>if j < k then gb top j else 0),(List.range 32).map (λj=>if j < k then lfv b (gb top j)else zer)) =
   some (if stG b x y top k=true then .inl (top,((32:Nat):Int),((k+1:Nat):Int),some (b,x,y,z),0,root,(List.range 32).map (λj=>if j < k+1 then gb top j else 0),(List.range 32).map (λj=>if j < k+1 then lfv b (gb top j)else zer))else .inr (.inr (false,0))):=by
 have hs1:=Q5 32 k (λj=>gb top j) (λ_=>(0:Int));have hs2:=Q5 32 k (λj=>lfv b (gb top j)) (λ_=>zer);have hg1:=Q4 32 (λj=>if j < k then gb top j else 0) hk;have hg2:=Q4 32 (λj=>if j < k then lfv b (gb top j)else zer) hk;have hl1:((List.range 32).map (λj=>if j < k then gb top j else 0)).length=32:=LM _ _;have hl2:((List.range 32).map (λj=>if j < k then lfv b (gb top j)else zer)).length=32:=LM _ _;generalize (List.range 32).map (λj=>if j < k then gb top j else 0)=lv at *;generalize (List.range 32).map (λj=>if j < k then lfv b (gb top j)else zer)=vs at *;have hgk:top[k]?=some (gb top k):=Aj O;have hd:(List.drop (Int.toNat 0) top).take (k - Int.toNat 0)=top.take k:=by
  rw [show Int.toNat 0=0 from rfl,AmX,AnE]
 rw [AlZ O]at hg1 hg2;unfold Da cK cZ sX wI;dsimp only;rw [iy O,iy O,iy O,AlX,Amk,hgk,AlU];unfold stG;generalize hak:gb top k=a at *;by_cases h0:a=0
 .rw [iy h0,AlU];dsimp only;rw [Am O,decide_eq_true h0,Bool.true_or,Al1 rfl];have e1:lfv b a=zer:=by unfold lfv;rw [Al1 h0]
  rw [e1]at hs2;rw [h0]at hs1;rw [<- hs1,<- hs2];have q1:lv.set k 0=lv:=by
   apply AmT;intro i;rw [Aon];split
   .rename_i he;subst he;rw [Al1 O,hg1]
   .rfl
  have q2:vs.set k zer=vs:=by
   apply AmT;intro i;rw [Aon];split
   .rename_i he;subst he;rw [Al1 O,hg2]
   .rfl
  rw [q1,q2]
 have hpl:=FH (blk b a.toNat);have e1:lfv b a=BW (blk b a.toNat):=by unfold lfv;rw [AlZ h0]
 rw [e1]at hs2;rw [ino h0,decide_eq_false h0,Anh,AlU,WE g];cases hp:pgB b x y a 81 with
 | false=>
  rw [Xu hp,AlU];dsimp only;rw [Al1 Z,AlU];dsimp only;rw [Al1 rfl,AlU];dsimp only;rw [Anm,AlZ Z]
 | true=>
  rw [Tx hp,AlU];dsimp only;rw [AlZ Z,Uk O,AlU,Amg];cases hnz:nz (BW (blk b a.toNat))with
  | false=>
   rw [Al1 Z,AlU];dsimp only;rw [Al1 rfl,AlU];dsimp only;rw [Anm,AlZ Z]
  | true=>
   rw [AlZ Z,iy O,iy O,iy O,iy O,hd,Gm (by rw [Al4];omega),AlU,Amg];have hany:((top.take k).any λv=>decide (v=a))=decide (a∈top.take k):=by
    by_cases hm:a∈top.take k
    .rw [decide_eq_true hm,Aoi];exact⟨a,hm,Z⟩
    .rw [decide_eq_false hm,Am4];intro v hv hva;have:v=a:=by simpa using hva
     exact hm (this ▸ hv)
   rw [hany];cases hdp:decide (a∈top.take k)with
   | true=>
    rw [Al1 rfl,AlU];dsimp only;rw [Al1 rfl,AlU];rfl
   | false=>
    rw [AlZ Z,AgU g O,AlU,AlU];dsimp only;cases hbd:NO b x (BW (blk b a.toNat))with
    | true=>
     rw [Al1 rfl,AlU];rfl
    | false=>
     rw [AlZ Z,iy O,hl1,iy O,AlX,Amk,hg1,AlU,AlU,iy O,hl2,iy O,hg2,AlU,AlU,AlU];dsimp only;rw [Am O,Al1 Z,hs1,hs2]
theorem Wx {b:Bls} {x y z:List Int} (g:RS b x y) (root:Int):GX (b,x,y,z) root=some (trI b root (tre b x y root)):=by
 unfold GX tre cK cZ;rw [iy O,iy O,Al1 rm8,iy O,iy O,Al1 Ajt,AaB,AlU];dsimp only;by_cases h0:root=0
 .rw [iy h0,Al1 h0];unfold trI;dsimp only;have:zer.map (lfv b)=List.replicate 32 zer:=by unfold zer;rw [List.map_replicate];rfl
  rw [this]
 rw [ino h0,AlZ h0,AlU,WE g];unfold Jb;cases hp:pgB b x y root 80 with
 | false=>rw [Xu hp];rfl
 | true=>
  rw [Tx hp,AlU];dsimp only;have hpl:=FH (blk b root.toNat);generalize BW (blk b root.toNat)=top at *;rw [AlZ Z,Uk O,AlU,AlU];dsimp only;rw [Amg];cases hnz:nz top with
  | false=>rfl
  | true=>
   rw [AlZ Z,hpl,Amg];have e0:zer=(List.range 32).map (λj=>if j < 0 then gb top j else 0):=by
    rw [map_none,KA];rfl
   have e1:List.replicate 32 zer=(List.range 32).map (λj=>if j < 0 then lfv b (gb top j)else zer):=by
    rw [map_none,KA]
   rw [e1];rcases BT Da (λk=>(top,((32:Nat):Int),((k:Nat):Int),some (b,x,y,z),0,root,(List.range 32).map (λj=>if j < k then gb top j else 0),(List.range 32).map (λj=>if j < k then lfv b (gb top j)else zer))) (λk=>stG b x y top k) (λ_=>(false,0))
    (0,root,(List.range 32).map (λj=>if j < 32 then gb top j else 0),(List.range 32).map (λj=>if j < 32 then lfv b (gb top j)else zer)) 32 (λk hk=>Aaq g hpl hk) (by
     unfold Da cK cZ sX wI;dsimp only;rw [ino O])with⟨ha,hlp⟩ | ⟨k,hk,hq,_,hlp⟩
   .have hlp':Ab Da (top,((32:Nat):Int),0,some (b,x,y,z),0,root,zer,(List.range 32).map (λj=>if j < 0 then lfv b (gb top j)else zer))=_:=e0 ▸ hlp;rw [hlp',AlU,Al1 (all_range.2 ha),Ru,Ru,Afg _ hpl,AcA hpl];rfl
   .have hn:((List.range 32).all (stG b x y top))=false:=by
     cases h:(List.range 32).all (stG b x y top)with
     | false=>rfl
     | true=>have:=all_range.1 h k hk;rw [hq]at this;cases this
    have hlp':Ab Da (top,((32:Nat):Int),0,some (b,x,y,z),0,root,zer,(List.range 32).map (λj=>if j < 0 then lfv b (gb top j)else zer))=_:=e0 ▸ hlp;rw [hlp',AlU,hn];rfl
theorem Io {b:Bls} {x y z:List Int} (h:SB b x y z) (hu:∀c∈b,U8s c) (root:Int):Hs b x y z root=some (gsp b x y z && (tre b x y root).isSome):=by
 unfold Hs;rw [N9 h,AlU];cases hg:gsp b x y z with
 | false=>rfl
 | true=>
  rw [AlZ Z,Qj ((Rq hg).rs h hu),AlU];unfold trS;cases tre b x y root <;> rfl
end Go.V.G
set_option maxRecDepth 100000
namespace Go.V.G
open Go.V
abbrev Kv:=Int×Int
def sg (l:List Kv) (i:Nat):Kv:=l[i]?.getD (0,0)
theorem J5 {l:List Kv} {i:Nat} (h:i < l.length):l[i]?=some (sg l i):=by unfold sg;rw [AlW h];rfl
def Ac5 (b:Bls) (x y:List Int) (l:List Kv) (i:Nat):Bool:=
 decide (0<=(sg l i).1/\(sg l i).1<=1023) && ((decide ((sg l i).2=0) || liv b x y (sg l i).2) && (decide (i=0) || decide ((sg l (i - 1)).1 < (sg l i).1)))
def Adc (b:Bls) (x y:List Int) (l:List Kv):Bool:=decide (l.length<=64) && (List.range l.length).all (Ac5 b x y l)
theorem im1 {k:Nat} (h:k<=1048576) (h0:0 < k):IntKind.wrap .i64 ((k:Int) - 1)=((k - 1:Nat):Int):=by rw [w64 O O];omega
def Ks (l:List Kv):Prop:=∀s∈l,0<=s.1/\s.1<=1023
def upd (k:Nat) (l:List Int) (s:Kv):List Int:=if s.1.toNat / 32=k then l.set (s.1.toNat % 32) s.2 else l
def av (b:Bls) (top:List Int) (l:List Kv) (k:Nat):List Int:=l.foldl (upd k) (lfv b (gb top k))
def oth (l:List Kv) (k:Nat):Bool:=l.any λs=>decide (s.1.toNat / 32=k)
def aft (b:Bls) (top:List Int) (l:List Kv) (k:Nat):List Int:=if oth l k=true then av b top l k else lfs b (gb top k)
theorem C9 {α:Type} {l:List α} {i:Nat} {s:α} (h:l[i]?=some s):l.take (i+1)=l.take i++[s]:=by
 obtain ⟨hi,rfl⟩:=Amy.1 h;exact Ama hi
theorem Ahz {b:Bls} {top:List Int}:∀{l:List Kv} {k:Nat},oth l k=false->av b top l k=lfv b (gb top k):=by
 intro l k h;unfold av;unfold oth at h;rw [Am4]at h;generalize lfv b (gb top k)=v
 induction l generalizing v with
 | nil=>rfl
 | cons s l ih=>
  rw [Anw];have h1:=h s Z;have:upd k v s=v:=by unfold upd;rw [AlZ (by simpa using h1)]
  rw [this];exact ih (λs hs=>h s (by simp [hs])) v
theorem PE (k:Nat):∀(l:List Kv) (v:List Int),(l.foldl (upd k) v).length=v.length
 | [],v=>rfl
 | s::l,v=>by
  rw [Anw,PE k l];unfold upd;split <;> simp
theorem Uv (b:Bls) (top:List Int) (l:List Kv) (k:Nat):(av b top l k).length=32:=by unfold av;rw [PE,Ab9]
theorem Aiv {n:Int} (h:0<=n/\n<=1023):IntKind.wrap .i64 (Int.tdiv n 32)=((n.toNat / 32:Nat):Int)/\n.toNat / 32 < 32:=by
 obtain ⟨m,rfl⟩:=Amq h.1;have hm:m<=1023:=O
 rw [An7 O,AlX,w64 O O];omega
theorem Ah9 {n:Int} (h:0<=n/\n<=1023):Int.tmod n 32=((n.toNat % 32:Nat):Int)/\n.toNat % 32 < 32:=by
 obtain ⟨m,rfl⟩:=Amq h.1;rw [Anz O,AlX];omega
def nwC (b:Bls) (top:List Int) (l:List Kv):Nat->Nat
 | 0=>0
 | k+1=>nwC b top l k+(if(oth l k && nz (av b top l k))=true then 1 else 0)
def anC (b:Bls) (top:List Int) (l:List Kv) (k:Nat):Bool:=(List.range k).any λj=>nz (av b top l j)
end Go.V.G
set_option maxRecDepth 100000
namespace Go.V.G
open Go.V
def Eg (n:Int):List Int:=[IntKind.wrap .u8 (n / 256),IntKind.wrap .u8 n]
def pgb (kind:Int) (l:List Int):List Int:=[kind]++l.flatMap Eg
theorem Qy:∀l:List Int,(l.flatMap Eg).length=2 * l.length
 | []=>rfl
 | a::l=>by rw [Ana,Al0,Qy l];simp [Eg];omega
theorem AbE (kind:Int) {l:List Int} (h:l.length=32):(pgb kind l).length=65:=by unfold pgb;rw [Al0,Qy,h];rfl
def V2 (l:List Int):Prop:=∀v∈l,0<=v/\v<=65535
theorem AiM {n:Int} (h:0<=n/\n<=65535):Ic n=some (Eg n):=by
 unfold Ic Eg cZ wB;rw [iy O,show(2:Int) ^ (min (Int.toNat 8) (IntKind.bits .i64))=256 from rfl,AnN _ O]
theorem AlO {n:Int} (h:0<=n/\n<=65535):IntKind.wrap .i64 (Int.tdiv n 256)=n / 256:=by
 rw [An7 h.1,w64 O O]
theorem AeU {kind:Int} {l:List Int} (hk:0<=kind/\kind<=255):U8s (Dz (pgb kind l)):=Aji λv hv=>by
 unfold pgb at hv;rcases Al3.1 hv with hv | hv
 .rw [Al6.1 hv];exact hk
 .obtain ⟨a,_,ha⟩:=AnK.1 hv;unfold Eg at ha;simp only [Ame,AnL,or_false]at ha;rcases ha with rfl | rfl <;> exact VH _
theorem Aca:∀{a b:List Int},Ris a->Ris b->(∀v,v∈a↔v∈b)->a=b:=by
 intro a b ha hb;rw [ris_iff]at ha hb
 induction a generalizing b with
 | nil=>
  intro h;cases b with
  | nil=>rfl
  | cons v b=>exact absurd ((h v).2 Z) Z
 | cons v a ih=>
  intro h;cases b with
  | nil=>exact absurd ((h v).1 Z) Z
  | cons w b=>
   rw [List.pairwise_cons]at ha hb;have hvw:v=w:=by
    have h1:=(h v).1 Z;have h2:=(h w).2 Z;rcases Ame.1 h1 with h1 | h1
    .exact h1
    .rcases Ame.1 h2 with h2 | h2
     .exact h2.symm
     .have:=ha.1 w h2;have:=hb.1 v h1;omega
   subst hvw;refine congrArg (v :: ·) (ih ha.2 hb.2 λu=>?_);have hu:=h u;constructor
   .intro hm;rcases Ame.1 (hu.1 (by simp [hm]))with rfl | h3
    .have:=ha.1 u hm;omega
    .exact h3
   .intro hm;rcases Ame.1 (hu.2 (by simp [hm]))with rfl | h3
    .have:=hb.1 u hm;omega
    .exact h3
noncomputable def pts (z l:List Int):List Int:=l.foldl pt z
theorem Ag3 (z l:List Int) (v:Int):pts z (l++[v])=pt (pts z l) v:=by unfold pts;rw [AnD];rfl
theorem AfF {z:List Int} (hr:Ris z):∀{l:List Int},z.length+l.length<=1048576->Ris (pts z l)/\(pts z l).length<=z.length+l.length/\∀v,v∈pts z l↔v∈z\/v∈l:=by
 intro l
 induction l generalizing z with
 | nil=>intro h;exact⟨hr,by simp [pts],λv=>by simp [pts]⟩
 | cons a l ih=>
  intro h;rw [Al7]at h;obtain ⟨_,_,h3,h4,h5⟩:=MH (z:=z) O hr a;obtain ⟨i1,i2,i3⟩:=ih h4 O;refine⟨i1,?_,λv=>?_⟩
  .have:pts z (a::l)=pts (pt z a) l:=rfl;rw [this,Al7];omega
  .have:pts z (a::l)=pts (pt z a) l:=rfl;rw [this,i3 v,h5 v,Ame];constructor
   .rintro ((h | h) | h)
    .exact .inl h
    .exact .inr (.inl h)
    .exact .inr (.inr h)
   .rintro (h | h | h)
    .exact .inl (.inl h)
    .exact .inl (.inr h)
    .exact .inr h
def tl (l:List Kv):Nat->Nat->List Int
 | _,0=>[]
 | k,d+1=>if oth l k=true then(k:Int)::tl l (k+1) d else tl l (k+1) d
def qk (s:Kv):Int:=((s.1.toNat / 32:Nat):Int)
noncomputable def AlQ (l:List Kv):List Int:=pts [] (l.map qk)
def goS (nx go:List Int) (k:Nat):List Int:=if gb nx k=0 then go else go++[gb nx k]
theorem Abw {go:List Int} (h:go.length<=1000) (v:Int):Aa (go.length+([v]:List Int).length) 8=true:=by simp only [Aa,decide_eq_true_eq,Amb];omega
section
variable {b:Bls} {x y z nx go T top A:List Int} {vals vals0:List (List Int)} {root:Int} {j k:Nat}
variable {ots:List Bool} {lvs:List (List Int)}
end
end Go.V.G
set_option maxRecDepth 100000
namespace Go.V.G
open Go.V
theorem PW {l:List Int} {k:Nat} {v:Int} (h:k < l.length):gb (l.set k v) k=v:=by unfold gb;rw [Ant h];rfl
theorem Dy {l:List Int} {k j:Nat} {v:Int} (h:k≠j):gb (l.set k v) j=gb l j:=by unfold gb;rw [List.getElem?_set_ne h]
def Nx (top:List Int) (l:List Kv):Nat->List Int
 | 0=>[]
 | k+1=>if oth l k=true then goS top (Nx top l k) k else Nx top l k
theorem YF (top:List Int) (l:List Kv):∀k,(Nx top l k).length<=k
 | 0=>Amu _
 | k+1=>by
  have:=YF top l k;simp only [Nx];split
  .unfold goS;split
   .omega
   .rw [Al0,Amb];omega
  .omega
structure Tv (n:Nat) (b0:Bls) (x0 z0 top:List Int) (l:List Kv) (k:Nat) (nx:List Int) (b:Bls) (x z:List Int) (q:Nat):Prop where
 wk:Wk n b x z q
 bu:∀c∈b,U8s c
 nl:nx.length=32
 dn:∀j,j < k->oth l j=true->nz (av b0 top l j)=true->∃m:Nat,gb nx j=(m:Int)/\(33<=m/\m < n)/\bit x0 m=false/\bit x m=true/\blk b m=Dz (pgb 81 (av b0 top l j))
 dz:∀j,j < k->oth l j=true->nz (av b0 top l j)=false->gb nx j=0
 st:∀j,j < 32->(k<=j\/oth l j=false)->gb nx j=gb top j
 ds:∀i j,i < j->j < k->oth l i=true->oth l j=true->nz (av b0 top l i)=true->nz (av b0 top l j)=true->gb nx i≠gb nx j
 ot:∀i,i < 160->bit x0 i=true->blk b i=blk b0 i/\bit x i=true
 zm:∀v∈z,v∈z0\/∃m:Nat,v=(m:Int)/\(33<=m/\m < n)/\bit x m=true
 hi:∀i,n<=i->i < 160->bit x i=bit x0 i
section
variable {n:Nat} {b0 b:Bls} {x0 z0 top nx x z:List Int} {l:List Kv} {k q:Nat}
theorem Tv.skip (h:Tv n b0 x0 z0 top l k nx b x z q) (ho:oth l k=false):Tv n b0 x0 z0 top l (k+1) nx b x z q:=by
 refine⟨h.wk,h.bu,h.nl,λj hj h1 h2=>?_,λj hj h1 h2=>?_,λj hj h1=>?_,λi j hij hj h1 h2 h3 h4=>?_,h.ot,h.zm,h.hi⟩
 .by_cases hjk:j=k
  .subst hjk;rw [ho]at h1;cases h1
  .exact h.dn j O h1 h2
 .by_cases hjk:j=k
  .subst hjk;rw [ho]at h1;cases h1
  .exact h.dz j O h1 h2
 .rcases h1 with h1 | h1
  .exact h.st j hj (.inl O)
  .exact h.st j hj (.inr h1)
 .by_cases hjk:j=k
  .subst hjk;rw [ho]at h2;cases h2
  .exact h.ds i j hij O h1 h2 h3 h4
theorem Tv.no (h:Tv n b0 x0 z0 top l k nx b x z q) (hk:k < 32) (ho:oth l k=true) (hz:nz (av b0 top l k)=false):Tv n b0 x0 z0 top l (k+1) (nx.set k 0) b x z q:=by
 have hnl:=h.nl;refine⟨h.wk,h.bu,by rw [Am0];exact h.nl,λj hj h1 h2=>?_,λj hj h1 h2=>?_,λj hj h1=>?_,λi j hij hj h1 h2 h3 h4=>?_,h.ot,h.zm,h.hi⟩
 .by_cases hjk:k=j
  .subst hjk;rw [hz]at h2;cases h2
  .rw [Dy hjk];exact h.dn j O h1 h2
 .by_cases hjk:k=j
  .subst hjk;exact PW O
  .rw [Dy hjk];exact h.dz j O h1 h2
 .have hne:k≠j:=by
   rintro rfl;rcases h1 with h1 | h1
   .omega
   .rw [ho]at h1;cases h1
  rw [Dy hne];rcases h1 with h1 | h1
  .exact h.st j hj (.inl O)
  .exact h.st j hj (.inr h1)
 .have hjk:k≠j:=by rintro rfl;rw [hz]at h4;cases h4
  have hik:k≠i:=by rintro rfl;rw [hz]at h3;cases h3
  rw [Dy hjk,Dy hik];exact h.ds i j hij O h1 h2 h3 h4
theorem Tv.yes (h:Tv n b0 x0 z0 top l k nx b x z q) (hq:q<=1000) (hk:k < 32) (ho:oth l k=true) (hnz:nz (av b0 top l k)=true) {m:Nat} (hm:33<=m/\m < n) (hbm:bit x m=false) (hw:Wk n (b.set m Il) (setB x m) (pt z (m:Int)) (q+1)) :
  Tv n b0 x0 z0 top l (k+1) (nx.set k (m:Int)) ((b.set m Il).set m (Dz (pgb 81 (av b0 top l k)))) (setB x m) (pt (pt z (m:Int)) (m:Int)) (q+2):=by
 have hnl:=h.nl;have hn:=h.wk.hn;have hbl:=h.wk.hb;have hx:=h.wk.hx;have hpl:=AbE 81 (Uv b0 top l k);have hz1:=h.wk.hz;obtain ⟨_,_,z3,z4,z5⟩:=MH (z:=z) O h.wk.hr (m:Int);obtain ⟨_,_,_,_,y5⟩:=MH (z:=pt z (m:Int)) O z4 (m:Int);have hbit:∀i,i < 160->bit (setB x m) i=(decide (i=m) || bit x i):=λi hi=>Rj h.wk.hu O O
 have hblk:∀i,i≠m->blk ((b.set m Il).set m (Dz (pgb 81 (av b0 top l k)))) i=blk b i:=λi hi=>by rw [Lk (Ne.symm hi),Lk (Ne.symm hi)]
 refine⟨hw.lay O (Agn O) m,λc hc=>?_,by rw [Am0];exact h.nl,λj hj h1 h2=>?_,λj hj h1 h2=>?_,λj hj h1=>?_,λi j hij hj h1 h2 h3 h4=>?_,λi hi h1=>?_,λv hv=>?_,λi h1 h2=>?_⟩
 .rcases Am1 hc with hc | rfl
  .rcases Am1 hc with hc | rfl
   .exact h.bu c hc
   .exact Y2
  .exact AeU O
 .by_cases hjk:k=j
  .subst hjk;refine⟨m,PW O,hm,?_,by rw [hbit m O];simp,Tg (by rw [Am0];omega)⟩;cases hx0:bit x0 m with
   | false=>rfl
   | true=>
    have:=(h.ot m O hx0).2;rw [hbm]at this;cases this
  .obtain ⟨m',e1,e2,e3,e4,e5⟩:=h.dn j O h1 h2;have hmm:m'≠m:=by rintro rfl;rw [hbm]at e4;cases e4
   exact⟨m',by rw [Dy hjk];exact e1,e2,e3,by rw [hbit m' O,e4,Aoo],by rw [hblk m' hmm];exact e5⟩
 .by_cases hjk:k=j
  .subst hjk;rw [hnz]at h2;cases h2
  .rw [Dy hjk];exact h.dz j O h1 h2
 .have hne:k≠j:=by
   rintro rfl;rcases h1 with h1 | h1
   .omega
   .rw [ho]at h1;cases h1
  rw [Dy hne];rcases h1 with h1 | h1
  .exact h.st j hj (.inl O)
  .exact h.st j hj (.inr h1)
 .by_cases hjk:k=j
  .subst hjk;rw [Dy O,PW O];obtain ⟨m',e1,e2,e3,e4,e5⟩:=h.dn i O h1 h3;rw [e1];intro he;obtain rfl:m'=m:=O
   rw [hbm]at e4;cases e4
  .rw [Dy O,Dy hjk];exact h.ds i j hij O h1 h2 h3 h4
 .obtain ⟨e1,e2⟩:=h.ot i hi h1;have him:i≠m:=by rintro rfl;rw [hbm]at e2;cases e2
  exact⟨by rw [hblk i him];exact e1,by rw [hbit i hi,e2,Aoo]⟩
 .have key:v∈z\/v=(m:Int):=by
   rcases (y5 v).1 hv with hv | hv
   .exact(z5 v).1 hv
   .exact .inr hv
  rcases key with hv | rfl
  .rcases h.zm v hv with hv | ⟨m',e1,e2,e3⟩
   .exact .inl hv
   .exact .inr ⟨m',e1,e2,by rw [hbit m' O,e3,Aoo]⟩
  .exact .inr ⟨m,rfl,hm,by rw [hbit m O];simp⟩
 .rw [hbit i h2,decide_eq_false (O:¬ i=m),Anh];exact h.hi i h1 h2
structure Cx (n:Nat) (b0:Bls) (top:List Int) (l:List Kv):Prop where
 hn:n<=160
 ht:top.length=32
 hv:∀k,V2 (av b0 top l k)
abbrev ots (l:List Kv):List Bool:=(List.range 32).map (oth l)
abbrev lvs (b0:Bls) (top:List Int) (l:List Kv):List (List Int):=(List.range 32).map (aft b0 top l)
end
section
variable {b0:Bls} {top:List Int} {l:List Kv} {root:Int} {b:Bls} {x y z:List Int}
end
end Go.V.G
set_option maxRecDepth 100000
namespace Go.V.G
open Go.V
theorem IU {b:Bls} {x y top:List Int} {root:Int} (h:tre b x y root=some top):top.length=32:=by
 unfold tre at h;split at h
 .obtain rfl:=Anf h;simp [zer]
 .split at h
  .obtain rfl:=Anf h;exact FH _
  .cases h
theorem Afq (j:Nat):gb zer j=0:=by
 unfold gb zer;rw [List.getElem?_replicate];split <;> rfl
theorem AjG {b:Bls} {x y top:List Int} {root:Int} (h:tre b x y root=some top):∀j,j < 32->gb top j=0\/(pgB b x y (gb top j) 81=true/\nz (BW (blk b (gb top j).toNat))=true):=by
 intro j hj;unfold tre at h;split at h
 .obtain rfl:=Anf h;exact .inl (Afq j)
 .split at h
  .rename_i hc;obtain rfl:=Anf h;simp only [Al2]at hc;have:=all_range.1 hc.2.2 j hj;unfold stG at this;simp only [Ang,Al2,decide_eq_true_eq]at this;rcases this with h1 | h1
   .exact .inl h1
   .exact .inr ⟨h1.1,h1.2.1⟩
  .cases h
theorem Ae1 {b:Bls} (hu:∀c∈b,U8s c) (i:Nat):U8s (blk b i):=by
 by_cases h:i < b.length
 .exact hu _ (BC h)
 .unfold blk;rw [Amn O];intro v hv;cases hv
theorem YL {c:List Int} (h:U8s c):V2 (BW c):=λv hv=>by
 unfold BW at hv;obtain ⟨k,_,rfl⟩:=Aml.1 hv;exact AiV h _
theorem AdU:V2 zer:=λv hv=>by unfold zer at hv;rw [AnH hv];omega
theorem Akm {b:Bls} (hu:∀c∈b,U8s c) (a:Int):V2 (lfv b a):=by
 unfold lfv;split
 .exact AdU
 .exact YL (Ae1 hu _)
theorem AkA {b:Bls} {top:List Int} {l:List Kv} (hu:∀c∈b,U8s c) (hv:∀s∈l,0<=s.2/\s.2<=65535) (k:Nat):V2 (av b top l k):=by
 unfold av;have key:∀(l:List Kv) (v:List Int),V2 v->(∀s∈l,0<=s.2/\s.2<=65535)->V2 (l.foldl (upd k) v):=by
  intro l
  induction l with
  | nil=>intro v h _;exact h
  | cons s l ih=>
   intro v h hs;rw [Anw];refine ih _ ?_ λs' h'=>hs s' (by simp [h'])
   unfold upd;split
   .intro w hw;rcases Am1 hw with hw | rfl
    .exact h w hw
    .exact hs s Z
   .exact h
 exact key l _ (Akm hu _) hv
theorem Aj4 {b:Bls} {x y top:List Int} {root:Int} (hu:∀c∈b,U8s c) (h:tre b x y root=some top):V2 top:=by
 unfold tre at h;split at h
 .obtain rfl:=Anf h;exact AdU
 .split at h
  .obtain rfl:=Anf h;exact YL (Ae1 hu _)
  .cases h
theorem Aie {b:Bls} {x y:List Int} {l:List Kv} (h:Adc b x y l=true):l.length<=64/\Ks l/\(∀s∈l,s.2=0\/liv b x y s.2=true)/\∀i,i+1 < l.length->(sg l i).1 < (sg l (i+1)).1:=by
 unfold Adc at h;simp only [Al2,decide_eq_true_eq]at h;obtain ⟨h1,h2⟩:=h;have key:=all_range.1 h2;have hg:∀s∈l,∃i,i < l.length/\sg l i=s:=λs hs=>by
  obtain ⟨i,hi,he⟩:=AmA hs;exact⟨i,hi,by unfold sg;rw [AlW hi,he];rfl⟩
 refine⟨h1,λs hs=>?_,λs hs=>?_,λi hi=>?_⟩
 .obtain ⟨i,hi,rfl⟩:=hg s hs;have:=key i hi;unfold Ac5 at this;simp only [Al2,decide_eq_true_eq]at this;exact this.1
 .obtain ⟨i,hi,rfl⟩:=hg s hs;have:=key i hi;unfold Ac5 at this;simp only [Al2,Ang,decide_eq_true_eq]at this;exact this.2.1
 .have:=key (i+1) hi;unfold Ac5 at this;simp only [Al2,Ang,decide_eq_true_eq]at this;rcases this.2.2 with h3 | h3
  .omega
  .exact h3
theorem Ai2 {b:Bls} {x y:List Int} {v:Int} (hb:b.length<=160) (h:v=0\/liv b x y v=true):0<=v/\v<=65535:=by
 rcases h with rfl | h
 .omega
 .obtain ⟨m,rfl,_,h2,_⟩:=Cs h;omega
section
variable {at_:Int} {b:Bls} {x y z go:List Int}
end
def rtL (root:Int):List Int:=if root=0 then []else [root]
structure Sk (b:Bls) (x y z top:List Int) (l:List Kv) (root at_:Int) (b':Bls) (x' y' z':List Int):Prop where
 ex:∃nx b1 x1 z1 q1,Tv b.length b x z top l 32 nx b1 x1 z1 q1/\q1<=191/\cnt x1 b.length+nwC b top l 32=cnt x b.length/\nz nx=anC b top l 32/\
  ((nz nx=false/\at_=0/\b'=b1/\x'=x1/\z'=z1)\/(nz nx=true/\∃m:Nat,at_=(m:Int)/\(33<=m/\m < b.length)/\bit x1 m=false/\b'=(b1.set m Il).set m (Dz (pgb 80 nx))/\x'=setB x1 m/\z'=pt (pt z1 (m:Int)) (m:Int)/\
   Wk b.length b' x' z' (q1+2)/\cnt x' b.length+1=cnt x1 b.length))
 yy:y'=pts y (Nx top l 32++rtL root)
theorem Akn {b b1:Bls} {x z top nx x1 z1:List Int} {l:List Kv} {n q:Nat} (hn:n<=160) (ht:V2 top) (htl:top.length=32) (h:Tv n b x z top l 32 nx b1 x1 z1 q):V2 nx:=by
 intro v hv;obtain ⟨j,hj,rfl⟩:=AmA hv;have hnl:=h.nl;have e:nx[j]=gb nx j:=by unfold gb;rw [AlW hj];rfl
 have hj':j < 32:=O
 rw [e];cases ho:oth l j with
 | false=>rw [h.st j hj' (.inr ho)];exact ht _ (AmI (Aj O))
 | true=>
  cases hz:nz (av b top l j)with
  | false=>rw [h.dz j hj' ho hz];omega
  | true=>obtain ⟨m,e,hm,_⟩:=h.dn j hj' ho hz;rw [e];omega
theorem Sk.wk {b b':Bls} {x y z top x' y' z':List Int} {l:List Kv} {root at_:Int} (s:Sk b x y z top l root at_ b' x' y' z'):Wk b.length b' x' z' 200:=by
 obtain ⟨nx,b1,x1,z1,q1,tv,hq,_,_,h⟩:=s.ex;rcases h with⟨_,_,rfl,rfl,rfl⟩ | ⟨_,m,_,_,_,_,_,_,hw,_⟩
 .have:=tv.wk;exact⟨this.hn,this.hb,this.hk,this.hx,this.hu,this.hlow,this.hr,by have:=this.hz;omega⟩
 .exact⟨hw.hn,hw.hb,hw.hk,hw.hx,hw.hu,hw.hlow,hw.hr,by have:=hw.hz;omega⟩
theorem Sk.yl {b b':Bls} {x y z top x' y' z':List Int} {l:List Kv} {root at_:Int} (s:Sk b x y z top l root at_ b' x' y' z') (hy:Ris y) (hyl:y.length<=1000):Ris y'/\y'.length<=1100/\∀v,v∈y'↔v∈y\/v∈Nx top l 32++rtL root:=by
 have h1:=YF top l 32;have h2:(rtL root).length<=1:=by unfold rtL;split <;> simp
 have h3:(Nx top l 32++rtL root).length<=33:=by rw [Al0];omega
 obtain ⟨p1,p2,p3⟩:=AfF hy (l:=Nx top l 32++rtL root) O;rw [s.yy];exact⟨p1,O,p3⟩
theorem GS.ylen {b:Bls} {x y z:List Int} (g:GS b x y z):Ris y/\y.length<=127:=by
 have hb:=g.hb;have hyr:=(GD g.hy).1;exact⟨hyr,Ri hyr λi hi=>by have:=(GD g.hy).2 i hi;omega⟩
end Go.V.G
set_option maxRecDepth 100000
namespace Go.V.G
open Go.V
theorem AbZ {n q:Nat} {b b2:Bls} {x x2 y z z2:List Int} (g:GS b x y z) (hn:b.length=n) (wk:Wk n b2 x2 z2 q) (up:∀i,i < 160->bit x i=true->bit x2 i=true)
  (hi:∀i,n<=i->i < 160->bit x2 i=bit x i) (zm:∀v∈z2,v∈z\/(33<=v/\v < (n:Int)/\bit x2 v.toNat=true)):GS b2 x2 y z2:=by
 have hb:=wk.hb;have hn2:=wk.hn;obtain ⟨r1,_⟩:=GD g.hy;have m1:=TM g.hy;have m2:=TM g.hz;refine⟨O,wk.hx,wk.hk,λi hi160=>?_,NT r1 λv hv=>?_,NT wk.hr λv hv=>?_⟩
 .unfold bG;by_cases h1:i < 33
  .rw [wk.hlow i h1,decide_eq_true h1,decide_eq_false (O:¬ b2.length<=i)];rfl
  .rw [decide_eq_false h1];by_cases h2:b2.length<=i
   .have:=g.hbits i hi160;unfold bG at this;rw [decide_eq_false h1,decide_eq_true (O:b.length<=i)]at this;rw [hi i O hi160,decide_eq_true h2];exact this
   .rw [decide_eq_false h2];rfl
 .obtain ⟨p1,p2,p3⟩:=m1 v hv;exact⟨p1,O,up _ O p3⟩
 .rcases zm v hv with hv | ⟨p1,p2,p3⟩
  .obtain ⟨p1,p2,p3⟩:=m2 v hv;exact⟨p1,O,up _ O p3⟩
  .exact⟨p1,O,p3⟩
theorem Lr.gs {b b2:Bls} {x y z data l x2 z2:List Int} (h:Lr b.length b x z data l b2 x2 z2) (g:GS b x y z):GS b2 x2 y z2:=by
 have hn:=h.wk.hn;refine AbZ g rfl h.wk h.up (λi hi hi2=>?_) λv hv=>?_
 .refine(h.oth i hi2 λhh=>?_).2;obtain ⟨j,hj,he⟩:=AmA hh;obtain ⟨k,e,hk,_⟩:=h.at_ j hj;rw [AlW hj]at e;have:=Anf e;omega
 .rcases h.zm v hv with hv | hv
  .exact .inl hv
  .right;obtain ⟨j,hj,he⟩:=AmA hv;obtain ⟨k,e,hk,_,p,_⟩:=h.at_ j hj;rw [AlW hj,he]at e;have e':=Anf e;subst e';exact⟨O,O,by rw [AlX];exact p⟩
theorem Lt.gs {b b2:Bls} {x y z sh A x2 z2:List Int} {ps:List (List UInt8)} {r q:Nat} (h:Lt b.length b x z sh ps A r b2 x2 z2 q) (g:GS b x y z):GS b2 x2 y z2:=by
 have hn:=h.wk.hn;have hlen:=h.len;obtain ⟨⟨r1,r2⟩,_,r4,_⟩:=h.rt;have hA:∀v∈A,∃k:Nat,v=(k:Int)/\(33<=k/\k < b.length)/\bit x2 k=true:=λv hv=>by
  obtain ⟨j,hj,he⟩:=AmA hv;obtain ⟨k,e,hk,p,_⟩:=h.at_ j O;rw [AlW hj,he]at e;exact⟨k,Anf e,hk,p⟩
 refine AbZ g rfl h.wk h.up (λi hi hi2=>?_) λv hv=>?_
 .refine(h.oth i hi2 (λhh=>?_) O).2;obtain ⟨k,e,hk,_⟩:=hA _ hh;omega
 .rcases h.zm v hv with hv | hv | rfl
  .exact .inl hv
  .right;obtain ⟨k,rfl,hk,p⟩:=hA v hv;exact⟨O,O,by rw [AlX];exact p⟩
  .exact .inr ⟨O,O,by rw [AlX];exact r4⟩
theorem Lt.mem {n q r:Nat} {b b2:Bls} {x z sh A x2 z2:List Int} {ps:List (List UInt8)} (h:Lt n b x z sh ps A r b2 x2 z2 q) {a:Int} (ha:a∈A):∃j,j < ps.length/\A[j]?=some a:=by
 obtain ⟨j,hj,he⟩:=AmA ha;have:=h.len;exact⟨j,O,by rw [AlW hj,he]⟩
end Go.V.G
set_option maxRecDepth 100000
namespace Go.V.G
open Go.V
inductive Atom where
 | ins (b:UInt8)
 | keep
 | drop
 deriving DecidableEq
def mk (f:Bool):Atom:=if f=true then .keep else .drop
def pa (p:Prt):List Atom:=p.2.2.map Atom.ins++List.replicate (p.1+p.2.1).toNat (mk (decide (0 < p.1)))
def Ac (c:List Prt):List Atom:=c.flatMap pa
def Aq:List Atom->List Bool
 | []=>[]
 | .ins _::l=>Aq l
 | .keep::l=>true::Aq l
 | .drop::l=>false::Aq l
def Bl (b:UInt8):List (List UInt8)->List (List UInt8)
 | p::ps=>(b::p)::ps
 | []=>[[b]]
def Ak:List Atom->List (List UInt8)
 | []=>[[]]
 | .ins b::l=>Bl b (Ak l)
 | .keep::l=>[]::Ak l
 | .drop::l=>[]::Ak l
def Dx:List Atom->Nat
 | []=>0
 | .ins _::l=>Dx l+1
 | _::l=>Dx l
theorem I8 (a b:List Prt):Ac (a++b)=Ac a++Ac b:=by simp [Ac]
theorem Lw {c:List Prt} {i:Nat} (h:i < c.length):Ac (c.take (i+1))=Ac (c.take i)++pa c[i]:=by
 rw [Ama h,I8];simp [Ac]
theorem C6:∀a b:List Atom,Aq (a++b)=Aq a++Aq b
 | [],b=>rfl
 | .ins _::a,b=>C6 a b
 | .keep::a,b=>congrArg (true :: ·) (C6 a b)
 | .drop::a,b=>congrArg (false :: ·) (C6 a b)
theorem Qo:∀s:List UInt8,Aq (s.map Atom.ins)=[]
 | []=>rfl
 | _::s=>Qo s
theorem WJ (f:Bool):∀m:Nat,Aq (List.replicate m (mk f))=List.replicate m f
 | 0=>rfl
 | m+1=>by
  rw [AmZ,AmZ,<- WJ f m];cases f <;> rfl
theorem Aau (b:UInt8) (P:List (List UInt8)):Bl b P≠[]:=by cases P <;> simp [Bl]
theorem HJ:∀l:List Atom,Ak l≠[]
 | []=>by simp [Ak]
 | .ins b::l=>Aau b _
 | .keep::l=>by simp [Ak]
 | .drop::l=>by simp [Ak]
theorem Y6 (b:UInt8) {P:List (List UInt8)} (h:P≠[]):(Bl b P).length=P.length:=by cases P with
 | nil=>exact absurd rfl h
 | cons=>rfl
theorem EK:∀l:List Atom,(Ak l).length=(Aq l).length+1
 | []=>rfl
 | .ins b::l=>by rw [Ak,Y6 b (HJ l),EK l];rfl
 | .keep::l=>by simp [Ak,Aq,EK l]
 | .drop::l=>by simp [Ak,Aq,EK l]
theorem Ul (b:UInt8) {P:List (List UInt8)} (h:P≠[]) (Q:List (List UInt8)):Bl b (P++Q)=Bl b P++Q:=by cases P with
 | nil=>exact absurd rfl h
 | cons=>rfl
theorem Ox (f:Bool):∀(l:List Atom) (m:Nat),Ak (l++List.replicate m (mk f))=Ak l++List.replicate m []
 | [],m=>by
  induction m with
  | zero=>rfl
  | succ m ih=>
   rw [Ams]at ih ⊢;rw [AmZ,AmZ];cases f <;> (show []::Ak _=_;rw [ih];rfl)
 | .ins b::l,m=>by
  show Bl b (Ak (l++_))=Bl b (Ak l)++_;rw [Ox f l m,Ul b (HJ l)]
 | .keep::l,m=>congrArg ([] :: ·) (Ox f l m)
 | .drop::l,m=>congrArg ([] :: ·) (Ox f l m)
theorem YA:∀s:List UInt8,Ak (s.map Atom.ins)=[s]
 | []=>rfl
 | b::s=>by show Bl b (Ak (s.map Atom.ins))=_;rw [YA s];rfl
theorem Pr (s:List UInt8):∀l:List Atom,Ak (l++s.map Atom.ins)=(Ak l).dropLast++[((Ak l).getLast?).getD []++s]
 | []=>by rw [Ams,YA];rfl
 | .ins b::l=>by
  show Bl b (Ak (l++_))=_;rw [Pr s l];show _=(Bl b (Ak l)).dropLast++[((Bl b (Ak l)).getLast?).getD []++s];have:=HJ l
  match Ak l,this with
  | [p],_=>rfl
  | p::q::ps,_=>rfl
 | .keep::l=>by
  show []::Ak (l++_)=([]::Ak l).dropLast++[(([]::Ak l).getLast?).getD []++s];rw [Pr s l];have:=HJ l
  match Ak l,this with
  | p::ps,_=>rfl
 | .drop::l=>by
  show []::Ak (l++_)=([]::Ak l).dropLast++[(([]::Ak l).getLast?).getD []++s];rw [Pr s l];have:=HJ l
  match Ak l,this with
  | p::ps,_=>rfl
theorem EJ:∀a b:List Atom,Dx (a++b)=Dx a+Dx b
 | [],b=>by simp [Dx]
 | .ins _::a,b=>by simp only [AmH,Dx,EJ a b];omega
 | .keep::a,b=>EJ a b
 | .drop::a,b=>EJ a b
theorem ZD:∀s:List UInt8,Dx (s.map Atom.ins)=s.length
 | []=>rfl
 | _::s=>by simp only [AmF,Dx,ZD s,Al7]
theorem YO (f:Bool):∀m:Nat,Dx (List.replicate m (mk f))=0
 | 0=>rfl
 | m+1=>by rw [AmZ];cases f <;> exact YO _ m
theorem Abg (p:Prt):Dx (pa p)=p.2.2.length:=by rw [pa,EJ,ZD,YO];rfl
theorem TE:∀c:List Prt,Dx (Ac c)=B6 c
 | []=>rfl
 | p::c=>by
  show Dx (pa p++Ac c)=_;rw [EJ,Abg,TE c];rfl
theorem Ob:∀(l:List Atom),∀p∈Ak l,p.length<=Dx l
 | [],p,h=>by rw [Al6.1 h];simp
 | .ins b::l,p,h=>by
  have ih:=Ob l;simp only [Ak]at h;simp only [Dx]
  match hp:Ak l,h with
  | q::qs,h=>
   rw [hp]at ih;rcases Ame.1 h with rfl | h
   .have:=ih q Z;simp only [Al7];omega
   .have:=ih p (by simp [h]);omega
  | [],h=>exact absurd hp (HJ l)
 | .keep::l,p,h=>by
  rcases Ame.1 h with rfl | h
  .simp
  .exact Ob l p h
 | .drop::l,p,h=>by
  rcases Ame.1 h with rfl | h
  .simp
  .exact Ob l p h
theorem OU (p:Prt):Aq (pa p)=List.replicate (p.1+p.2.1).toNat (decide (0 < p.1)):=by rw [pa,C6,Qo,WJ];rfl
theorem IQ:∀{c:List Prt},(∀p∈c,Some1 p)->(((Aq (Ac c)).length:Nat):Int)=src c
 | [],_=>rfl
 | p::c,h=>by
  have ih:=IQ (c:=c) λq hq=>h q (by simp [hq])
  have h1:=h p Z;have:=h1.k;have:=h1.d;show(((Aq (pa p++Ac c)).length:Nat):Int)=p.1+p.2.1+src c;rw [C6,OU,Al0,AmM];omega
theorem OD {n b:Nat} (h:n<=1099511627776) (hb:b<=32):Aa (n+1) b=true:=by
 simp only [Aa,decide_eq_true_eq];have:(n+1) * b<=(1099511627776+1) * 32:=Nat.mul_le_mul O hb;omega
theorem Adr {c:List Prt} {n i:Int} {S:List Bool} {P:List (List UInt8)} {k d:Int} {s:List UInt8} {m:Nat} (hS:S.length+m<=1099511627776) (hP:P.length+m<=1099511627776) :
  Ab KN (c,n,i,(m:Int),0,S,P,k,d,s)=some (c,n,i,S++List.replicate m (decide (0 < k)),P++List.replicate m []):=by
 have:=Ai KN (λq=>(c,n,i,(m:Int),((q:Nat):Int),S++List.replicate q (decide (0 < k)),P++List.replicate q [],k,d,s)) m (c,n,i,S++List.replicate m (decide (0 < k)),P++List.replicate m []) (by
  intro q hq;have h1:((q:Nat):Int) < (m:Int):=O
  have h2:Aa (List.length (S++List.replicate q (decide (0 < k)))+List.length ([decide ((0:Int) < k)]:List Bool)) 1=true:=OD AlR O;have h3:Aa (List.length (P++List.replicate q [])+List.length ([([]:List UInt8)]:List (List UInt8))) 16=true:=OD AlR O;unfold KN cK wI;simp only [h1,h2,h3,decide_true,Amd,An (O:m<=1099511627776) hq,Aoe,Al5]) (by simp [KN,cK,wI])
 simpa using this
theorem Adn {c:List Prt} {n i:Int} {S:List Bool} {P:List (List UInt8)} {k d:Int} {s:List UInt8} {m:Nat} (hkd:IntKind.wrap .i64 (k+d)=(m:Int)) (hS:S.length+m<=1099511627776) (hP:P.length+m<=1099511627776) :
  Ab HO (0,c,n,i,S,P,k,d,s)=some (c,n,i,S++List.replicate m (decide (0 < k)),P++List.replicate m []):=by
 have:=Ai HO (λq=>(((q:Nat):Int),c,n,i,S++List.replicate q (decide (0 < k)),P++List.replicate q [],k,d,s)) m (c,n,i,S++List.replicate m (decide (0 < k)),P++List.replicate m []) (by
  intro q hq;have h1:((q:Nat):Int) < (m:Int):=O
  have h2:Aa (List.length (S++List.replicate q (decide (0 < k)))+List.length ([decide ((0:Int) < k)]:List Bool)) 1=true:=OD AlR O;have h3:Aa (List.length (P++List.replicate q [])+List.length ([([]:List UInt8)]:List (List UInt8))) 16=true:=OD AlR O;unfold HO cK wI;simp only [hkd,h1,h2,h3,decide_true,Amd,An (O:m<=1099511627776) hq,Aoe,Al5]) (by simp [HO,cK,wI,hkd])
 simpa using this
theorem Ww {c:List Prt} {i:Nat} (hlt:i < c.length):∃q:List UInt8,(Ak (Ac (c.take i)))[(Aq (Ac (c.take i))).length]?=some q/\q.length<=B6 c/\
  Aq (Ac (c.take (i+1)))=Aq (Ac (c.take i))++List.replicate (c[i].1+c[i].2.1).toNat (decide (0 < c[i].1))/\
  Ak (Ac (c.take (i+1)))=((Ak (Ac (c.take i))).set (Aq (Ac (c.take i))).length (q++c[i].2.2))++List.replicate (c[i].1+c[i].2.1).toNat []:=by
 obtain ⟨n,hn,hq,hset⟩:=Mi (List.getLast?_eq_some_getLast (HJ (Ac (c.take i))));have e:n=(Aq (Ac (c.take i))).length:=by have:=EK (Ac (c.take i));omega
 subst e;refine⟨_,hq,?_,?_,?_⟩
 .have h1:=Ob _ _ (AmI hq);rw [TE]at h1;have h2:B6 c=B6 (c.take i)+B6 (c.drop i):=by rw [<- D0,AmJ]
  omega
 .rw [Lw hlt,C6,OU]
 .rw [Lw hlt,pa,<- Al5,Ox,Pr,hset,List.getLast?_eq_some_getLast (HJ _)];rfl
theorem Wz {B:Nat} {c:List Prt} (h:Sm B c) (hB:B<=1099511627000) (hs:∀p∈c,Some1 p) (hle:src c<=1000000):P3 c=some (Aq (Ac c),Ak (Ac c)):=by
 have hlen:=Amw h.len hB;have hput:=Amw h.put hB;unfold P3;have:Ab Kz (c,(List.length c:Int),0,[],[([]:List UInt8)])=some (Aq (Ac c),Ak (Ac c)):=by
  have:=Ai Kz (λk=>(c,(List.length c:Int),((k:Nat):Int),Aq (Ac (c.take k)),Ak (Ac (c.take k)))) c.length (Aq (Ac c),Ak (Ac c)) (by
   intro i hlt;obtain ⟨q,h1,h2,h3,h4⟩:=Ww hlt;have hp:=hs _ (Amc hlt);have hpp:=FK (Amc hlt);have k0:=hp.k;have d0:=hp.d;have n1:=AR (l:=c.take i) λp h=>hs p (B5 h)
   have n3:=AR (l:=c.drop (i+1)) λp h=>hs p (Cz h)
   have a1:=Ju hlt;have sl:=IQ (c:=c.take i) λp h=>hs p (B5 h)
   have pl:=EK (Ac (c.take i));have hi:(i:Int) < (List.length c:Int):=O
   have e1:IntKind.wrap .i64 ((List.length (Ak (Ac (c.take i))):Int) - 1)=(((Aq (Ac (c.take i))).length:Nat):Int):=by rw [w64 O O];omega
   have g1:(((Aq (Ac (c.take i))).length:Nat):Int) < (List.length (Ak (Ac (c.take i))):Int):=O
   have g0:(0:Int)<=(((Aq (Ac (c.take i))).length:Nat):Int):=O
   have g2:List.length q+List.length c[i].2.2<=9223372036854775807:=O
   have g3:IntKind.wrap .i64 (c[i].1+c[i].2.1)=(((c[i].1+c[i].2.1).toNat:Nat):Int):=by rw [w64 O O];omega
   unfold Kz cK cZ gX wI;simp only [hi,e1,g0,g1,g2,g3,decide_true,Amd,AlX,AlW hlt,AlU,Amk,h1,
    show(0:Int)<=(i:Int) from by omega]
   rw [Adr O (by rw [Am0];omega),AlU];simp only [An (Amw hlen O) hlt,h3,h4]) (by simp [Kz,cK,cZ,gX,wI])
  simpa [Ac,Aq,Ak] using this
 rw [this];rfl
theorem Wc {B:Nat} {c:List Prt} (h:Sm B c) (hB:B<=1099511627000) (hs:∀p∈c,Some1 p) (hle:src c<=1000000):LU c=some (Aq (Ac c),Ak (Ac c)):=by
 have hlen:=Amw h.len hB;have hput:=Amw h.put hB;unfold LU;have:Ab H6 (c,(List.length c:Int),0,[],[([]:List UInt8)])=some (Aq (Ac c),Ak (Ac c)):=by
  have:=Ai H6 (λk=>(c,(List.length c:Int),((k:Nat):Int),Aq (Ac (c.take k)),Ak (Ac (c.take k)))) c.length (Aq (Ac c),Ak (Ac c)) (by
   intro i hlt;obtain ⟨q,h1,h2,h3,h4⟩:=Ww hlt;have hp:=hs _ (Amc hlt);have hpp:=FK (Amc hlt);have k0:=hp.k;have d0:=hp.d;have n1:=AR (l:=c.take i) λp h=>hs p (B5 h)
   have n3:=AR (l:=c.drop (i+1)) λp h=>hs p (Cz h)
   have a1:=Ju hlt;have sl:=IQ (c:=c.take i) λp h=>hs p (B5 h)
   have pl:=EK (Ac (c.take i));have hi:(i:Int) < (List.length c:Int):=O
   have e1:IntKind.wrap .i64 ((List.length (Ak (Ac (c.take i))):Int) - 1)=(((Aq (Ac (c.take i))).length:Nat):Int):=by rw [w64 O O];omega
   have g1:(((Aq (Ac (c.take i))).length:Nat):Int) < (List.length (Ak (Ac (c.take i))):Int):=O
   have g0:(0:Int)<=(((Aq (Ac (c.take i))).length:Nat):Int):=O
   have g2:List.length q+List.length c[i].2.2<=9223372036854775807:=O
   have g3:IntKind.wrap .i64 (c[i].1+c[i].2.1)=(((c[i].1+c[i].2.1).toNat:Nat):Int):=by rw [w64 O O];omega
   unfold H6 cK cZ gX wI;simp only [hi,e1,g0,g1,g2,decide_true,Amd,AlX,AlW hlt,AlU,Amk,h1,
    show(0:Int)<=(i:Int) from by omega]
   rw [Adn g3 O (by rw [Am0];omega),AlU];simp only [An (Amw hlen O) hlt,h3,h4]) (by simp [H6,cK,cZ,gX,wI])
  simpa [Ac,Aq,Ak] using this
 rw [this];rfl
end Go.V.G
namespace Go.V
theorem Bb (g off n:Nat):(⟨g,off,none⟩:Addr).add n=⟨g,off+n,none⟩:=by
 unfold Addr.add;split
 .subst_vars;rfl
 .rfl
theorem add_add (a:Addr) (i j:Nat):(a.add i).add j=a.add (i+j):=by
 unfold Addr.add;by_cases hi:i=0
 .subst hi;simp
 .by_cases hj:j=0
  .subst hj;simp [hi]
  .have:¬ (i+j=0):=O
   simp only [hi,hj,this,Amv]
   congr 1;omega
theorem Bc {w:World} {g:Nat} {cs:Array Value} {e:TypeId} {fr:Nat×Nat} (h:w.heap[g]?=some (.cells cs e fr)) (i:Nat):w.cell? ⟨g,i,none⟩=cs[i]?:=by
 unfold World.cell?;rw [h];rfl
theorem Dt {w:World} {g:Nat} {cs:Array Value} {e:TypeId} {fr:Nat×Nat} (h:w.heap[g]?=some (.cells cs e fr)) (hf:∀i,i < cs.size->¬ (fr.1<=i/\i < fr.2)) {i:Nat} (hi:i < cs.size):w.frozen? ⟨g,i,none⟩=false:=by
 unfold World.frozen?;rw [h];have:=hf i hi;simp only [Bool.and_eq_false_iff,decide_eq_false_iff_not];omega
theorem Nn {w:World} {g:Nat} {cs:Array Value} {e:TypeId} {fr:Nat×Nat} (h:w.heap[g]?=some (.cells cs e fr)) (i:Nat) (v:Value) :
  (w.setCell ⟨g,i,none⟩ v).heap[g]?=some (.cells (cs.setIfInBounds i v) e fr):=by
 simp only [World.setCell,Array.getElem?_modify,Amd,h,AmS];rfl
theorem BS {w:World} {g:Nat} {o:Obj} (h:w.heap[g]?=some o):g < w.heap.size:=(Ano.1 h).1
def RpL {α:Type} (p:α->List Value->List Nat->Prop):List α->List Value->List Nat->Prop
 | [],vs,F=>vs=[]/\F=[]
 | x::xs,vs,F=>∃v1 v2 F1 F2,vs=v1++v2/\F=F1++F2/\p x v1 F1/\RpL p xs v2 F2
def NF (fr:Nat×Nat) (n:Nat):Prop:=∀i,i < n->¬ (fr.1<=i/\i < fr.2)
structure NFt (r:Ty) (fr:Nat×Nat) (n:Nat):Prop where
 nf:NF fr n
 at':r≠.int .u8->¬ (fr.1<=n/\n < fr.2)
 le:r=.int .i64->n<=9223372036854775807
theorem NFt.zero (r:Ty) {n:Nat} (h:r=.int .i64->n<=9223372036854775807):NFt r (0,0) n:=⟨λi _ hx=>by simp at hx,λ_ hx=>by simp at hx,h⟩
def ErV:Bool->Value->Prop
 | false,v=>v=.nilIface
 | true,v=>∃te pe,v=.iface te pe
def Rp (w:World) (K:Nat->Prop):(t:Ty)->t.D->List Value->List Nat->Prop
 | .int k,n,vs,F=>vs=[.int k n]/\F=[]
 | .bool,b,vs,F=>vs=[.bool b]/\F=[]
 | .str,s,vs,F=>vs=[.string ⟨s.toArray⟩]/\F=[]
 | .er,b,vs,F=>∃v,vs=[v]/\F=[]/\ErV b v
 | .lp,_,_,_=>False
 | .mh,x,vs,F=>vs=[.map none]/\F=[]/\(x:Nat)=0
 | .mp,_,_,_=>False
 | .unit,_,vs,F=>vs=[]/\F=[]
 | .pair a b,x,vs,F=>∃v1 v2 F1 F2,vs=v1++v2/\F=F1++F2/\Rp w K a x.1 v1 F1/\Rp w K b x.2 v2 F2
 | .sl true e r,xs,vs,F=>(xs=[]/\F=[]/\vs=[.slice none 0 0])\/
   ∃g off c cs fr F',vs=[.slice (some ⟨g,off,none⟩) (List.length xs) c]/\F=g::F'/\w.heap[g]?=some (.cells cs e fr)/\NFt r fr cs.size/\
    off+c * r.size<=cs.size/\List.length xs<=c/\RpL (Rp w K r) xs ((cs.toList.drop off).take (List.length xs * r.size)) F'
 | .pt t,o,vs,F=>F=[]/\match o with
  | none=>vs=[.pointer none]
  | some x=>∃ad ws,vs=[.pointer (some ad)]/\Rp w K t x ws []/\K ad.block/\ad.block < w.heap.size/\∀j,j < ws.length->w.cell? (ad.add j)=ws[j]?
 | .sl false _ r,xs,vs,F=>F=[]/\∃A c ws,vs=[.slice A (List.length xs) c]/\List.length xs<=c/\RpL (Rp w K r) xs ws []/\
   (xs=[]\/∃ad,A=some ad/\K ad.block/\ad.block < w.heap.size/\∀j,j < ws.length->w.cell? (ad.add j)=ws[j]?)
section
variable {α:Type} {p q:α->List Value->List Nat->Prop}
theorem RpL.mono (h:∀x vs F,p x vs F->q x vs F):∀{xs:List α} {vs F},RpL p xs vs F->RpL q xs vs F
 | [],_,_,hx=>hx
 | _::_,_,_,⟨v1,v2,F1,F2,e1,e2,h1,h2⟩=>⟨v1,v2,F1,F2,e1,e2,h _ _ _ h1,RpL.mono h h2⟩
theorem RpL.len {n:Nat} (h:∀x vs F,p x vs F->vs.length=n):∀{xs:List α} {vs F},RpL p xs vs F->vs.length=xs.length * n
 | [],_,_,⟨e,_⟩=>by subst e;simp
 | x::xs,_,_,⟨v1,v2,F1,F2,e1,_,h1,h2⟩=>by
  have a:=h _ _ _ h1;have b:=RpL.len h h2;subst e1;simp only [Al0,Al7,a,b,An4];omega
theorem RpL.append:∀{xs ys:List α} {vs ws F G},RpL p xs vs F->RpL p ys ws G->RpL p (xs++ys) (vs++ws) (F++G)
 | [],_,_,_,_,_,⟨e1,e2⟩,h=>by subst e1 e2;exact h
 | _::_,_,_,_,_,_,⟨v1,v2,F1,F2,e1,e2,h1,h2⟩,h=>by
  subst e1 e2;exact⟨v1,_,F1,_,Al5 ..,Al5 ..,h1,RpL.append h2 h⟩
theorem RpL.split:∀{xs ys:List α} {vs F},RpL p (xs++ys) vs F->∃v1 v2 F1 F2,vs=v1++v2/\F=F1++F2/\RpL p xs v1 F1/\RpL p ys v2 F2
 | [],_,vs,F,h=>⟨[],vs,[],F,rfl,rfl,⟨rfl,rfl⟩,h⟩
 | _::_,_,_,_,⟨v1,v2,F1,F2,e1,e2,h1,h2⟩=>by
  obtain ⟨a,b,c,d,e3,e4,h3,h4⟩:=RpL.split h2;subst e1 e2 e3 e4;exact⟨v1++a,b,F1++c,d,(Al5 ..).symm,(Al5 ..).symm,⟨v1,a,F1,c,rfl,rfl,h1,h3⟩,h4⟩
theorem RpL.get {n:Nat} (hn:∀x vs F,p x vs F->vs.length=n):∀{xs:List α} {vs F} {i:Nat} {x:α},RpL p xs vs F->xs[i]?=some x->
  ∃v1 v v2 F1 G F2,vs=v1++(v++v2)/\v1.length=i * n/\F=F1++(G++F2)/\p x v G/\
   RpL p (xs.take i) v1 F1/\RpL p (xs.drop (i+1)) v2 F2
 | [],_,_,i,_,_,hi=>by simp at hi
 | y::ys,_,_,0,x,⟨v1,v2,F1,F2,e1,e2,h1,h2⟩,hi=>by
  simp only [Anb,AlV]at hi;subst hi e1 e2;exact⟨[],v1,v2,[],F1,F2,rfl,Z,rfl,h1,⟨rfl,rfl⟩,h2⟩
 | y::ys,_,_,i+1,x,⟨v1,v2,F1,F2,e1,e2,h1,h2⟩,hi=>by
  simp only [Am3]at hi;obtain ⟨a,v,b,G1,G,G2,e3,hl,e4,hp,ht,hd⟩:=RpL.get hn h2 hi;subst e1 e2 e3 e4;refine⟨v1++a,v,b,F1++G1,G,G2,Z,?_,Z,hp,⟨v1,a,F1,G1,rfl,rfl,h1,ht⟩,by simpa using hd⟩;rw [Al0,hn _ _ _ h1,hl,An4];omega
theorem RpL.set {xs:List α} {i:Nat} {x y:α} (hi:xs[i]?=some x) {v1 v2 v F1 F2 G} (ht:RpL p (xs.take i) v1 F1) (hd:RpL p (xs.drop (i+1)) v2 F2) (hy:p y v G) :
  RpL p (xs.set i y) (v1++(v++v2)) (F1++(G++F2)):=by
 have hlt:i < xs.length:=(Amy.1 hi).1;rw [List.set_eq_take_append_cons_drop,Al1 hlt];exact RpL.append ht ⟨v,v2,G,F2,rfl,rfl,hy,hd⟩
end
theorem Rp.len {w:World} {K:Nat->Prop}:∀(t:Ty) (x:t.D) {vs F},Rp w K t x vs F->vs.length=t.size
 | .int _,_,_,_,h=>by simp only [Rp]at h;simp [h.1,Ty.size]
 | .bool,_,_,_,h=>by simp only [Rp]at h;simp [h.1,Ty.size]
 | .er,_,_,_,h=>by simp only [Rp]at h;obtain ⟨v,rfl,_⟩:=h;simp [Ty.size]
 | .lp,_,_,_,h=>by simp only [Rp]at h
 | .mh,_,_,_,h=>by simp only [Rp]at h;simp [h.1,Ty.size]
 | .mp,_,_,_,h=>by simp only [Rp]at h
 | .str,_,_,_,h=>by simp only [Rp]at h;simp [h.1,Ty.size]
 | .unit,_,_,_,h=>by simp only [Rp]at h;simp [h.1,Ty.size]
 | .pair a b,x,_,_,h=>by
  simp only [Rp]at h;obtain ⟨v1,v2,F1,F2,rfl,_,h1,h2⟩:=h;simp [Ty.size,Rp.len a _ h1,Rp.len b _ h2]
 | .sl true _ r,_,_,_,h=>by
  simp only [Rp]at h;rcases h with⟨_,_,rfl⟩ | ⟨g,off,c,cs,fr,F',rfl,_⟩ <;> simp [Ty.size]
 | .sl false _ r,_,_,_,h=>by
  simp only [Rp]at h;obtain ⟨_,A,c,ws,rfl,_⟩:=h;simp [Ty.size]
 | .pt t,o,_,_,h=>by
  simp only [Rp]at h;cases o with
  | none=>simp [h.2,Ty.size]
  | some x=>obtain ⟨_,ad,ws,rfl,_⟩:=h;simp [Ty.size]
def Dg (w w':World) (F:List Nat):Prop:=∀g∈F,w'.heap[g]?=w.heap[g]?
def KSame (w w':World) (K K':Nat->Prop):Prop:=w.heap.size<=w'.heap.size/\∀g,K g->g < w.heap.size->w'.heap[g]?=w.heap[g]?/\K' g
theorem KSame.refl (w:World) (K:Nat->Prop):KSame w w K K:=⟨Amu _,λ_ h _=>⟨rfl,h⟩⟩
theorem MT {w w':World} {a:Addr} (h:w'.heap[a.block]?=w.heap[a.block]?):w'.cell? a=w.cell? a:=by
 unfold World.cell?;rw [h]
theorem DB (a:Addr) (n:Nat):(a.add n).block=a.block:=by unfold Addr.add;split <;> rfl
theorem Rp.frame {w w':World} {K K':Nat->Prop} (hK:KSame w w' K K'):∀(t:Ty) (x:t.D) {vs F},Rp w K t x vs F->Dg w w' F->Rp w' K' t x vs F
 | .int _,_,_,_,h,_=>by simp only [Rp]at h ⊢;exact h
 | .bool,_,_,_,h,_=>by simp only [Rp]at h ⊢;exact h
 | .er,_,_,_,h,_=>by simp only [Rp]at h ⊢;exact h
 | .lp,_,_,_,h,_=>by simp only [Rp]at h
 | .mh,_,_,_,h,_=>by simp only [Rp]at h ⊢;exact h
 | .mp,_,_,_,h,_=>by simp only [Rp]at h
 | .str,_,_,_,h,_=>by simp only [Rp]at h ⊢;exact h
 | .unit,_,_,_,h,_=>by simp only [Rp]at h ⊢;exact h
 | .pair a b,x,_,_,h,hF=>by
  simp only [Rp]at h ⊢;obtain ⟨v1,v2,F1,F2,rfl,rfl,h1,h2⟩:=h;exact⟨v1,v2,F1,F2,rfl,rfl,Rp.frame hK a _ h1 λg hg=>hF g (by simp [hg]),Rp.frame hK b _ h2 λg hg=>hF g (by simp [hg])⟩
 | .sl true _ r,xs,_,_,h,hF=>by
  simp only [Rp]at h ⊢;rcases h with h | ⟨g,off,c,cs,fr,F',rfl,rfl,hh,hn,hc,hl,hr⟩
  .exact .inl h
  .refine .inr ⟨g,off,c,cs,fr,F',rfl,rfl,by rw [hF g Z];exact hh,hn,hc,hl,?_⟩;have key:∀(ys:List r.D) (us:List Value) (G:List Nat),Dg w w' G->RpL (Rp w K r) ys us G->RpL (Rp w' K' r) ys us G:=by
    intro ys
    induction ys with
    | nil=>intro us G _ h;exact h
    | cons y ys ih=>
     rintro us G hG ⟨v1,v2,F1,F2,rfl,rfl,h1,h2⟩;exact⟨v1,v2,F1,F2,rfl,rfl,Rp.frame hK r y h1 λg hg=>hG g (by simp [hg]),ih _ _ (λg hg=>hG g (by simp [hg])) h2⟩
   exact key _ _ _ (λg hg=>hF g (by simp [hg])) hr
 | .sl false _ r,xs,_,_,h,_=>by
  simp only [Rp]at h ⊢;obtain ⟨rfl,A,c,ws,rfl,hle,hr,hx⟩:=h;refine⟨rfl,A,c,ws,rfl,hle,?_,?_⟩
  .have key:∀(ys:List r.D) (us:List Value) (G:List Nat),Dg w w' G->RpL (Rp w K r) ys us G->RpL (Rp w' K' r) ys us G:=by
    intro ys
    induction ys with
    | nil=>intro us G _ h;exact h
    | cons y ys ih=>
     rintro us G hG ⟨v1,v2,F1,F2,rfl,rfl,h1,h2⟩;exact⟨v1,v2,F1,F2,rfl,rfl,Rp.frame hK r y h1 λg hg=>hG g (by simp [hg]),ih _ _ (λg hg=>hG g (by simp [hg])) h2⟩
   exact key _ _ _ (λg hg=>by cases hg) hr
  .rcases hx with hx | ⟨ad,e,h1,h2,h3⟩
   .exact .inl hx
   .obtain ⟨h4,h5⟩:=hK.2 _ h1 h2;exact .inr ⟨ad,e,h5,AmR h2 hK.1,λj hj=>(MT (w:=w) (w':=w') (a:=ad.add j) (by rw [DB];exact h4)).trans (h3 j hj)⟩
 | .pt t,o,_,_,h,_=>by
  simp only [Rp]at h ⊢;refine⟨h.1,?_⟩;cases o with
  | none=>exact h.2
  | some x=>
   obtain ⟨ad,ws,e,h0,h1,h2,h3⟩:=h.2;obtain ⟨h4,h5⟩:=hK.2 _ h1 h2;exact⟨ad,ws,e,Rp.frame hK t x h0 (λg hg=>by cases hg),h5,AmR h2 hK.1,λj hj=>(MT (w:=w) (w':=w') (a:=ad.add j) (by rw [DB];exact h4)).trans (h3 j hj)⟩
theorem RpL.frame {w w':World} {K K':Nat->Prop} (hK:KSame w w' K K') (r:Ty):∀(ys:List r.D) (us:List Value) (G:List Nat),Dg w w' G->RpL (Rp w K r) ys us G->RpL (Rp w' K' r) ys us G:=by
 intro ys
 induction ys with
 | nil=>intro us G _ h;exact h
 | cons y ys ih=>
  rintro us G hG ⟨v1,v2,F1,F2,rfl,rfl,h1,h2⟩;exact⟨v1,v2,F1,F2,rfl,rfl,Rp.frame hK r y h1 λg hg=>hG g (by simp [hg]),ih _ _ (λg hg=>hG g (by simp [hg])) h2⟩
theorem Afl {w:World} {K:Nat->Prop} {t:Ty} {x:t.D} {vs F} (hs:t.size=1) (h:Rp w K t x vs F):∃v,vs=[v]:=by
 have:=Rp.len t x h;rw [hs]at this
 match vs,this with
 | [v],_=>exact⟨v,rfl⟩
theorem ZA {t:Ty} {x z:t.D} (hp:∀a b,t≠.pair a b) (hu:t≠.unit) {u:Ty} {zz:u.D} {y:t.D} (h:setCell t x 0 u zz=some y):∃e:u=t,y=e ▸ zz:=by
 cases t with
 | pair a b=>exact absurd rfl (hp a b)
 | unit=>exact absurd rfl hu
 | lp=>simp [setCell]at h
 | mp=>simp [setCell]at h
 | _=>simp only [setCell]at h;split at h <;> simp_all
theorem Rp.cell {w:World} {K:Nat->Prop}:∀(t:Ty) (x:t.D) (j:Nat) {c:(u:Ty)×u.D} {vs F},Rp w K t x vs F->Ax t x j=some c->
  ∃pre v post Fa G Fb,vs=pre++([v]++post)/\pre.length=j/\F=Fa++(G++Fb)/\Rp w K c.1 c.2 [v] G/\
   ∀(w':World) (K':Nat->Prop) (y:c.1.D) (v':Value) (G':List Nat) (x':t.D),setCell t x j c.1 y=some x'->Rp w' K' c.1 y [v'] G'->KSame w w' K K'->
    Dg w w' Fa->Dg w w' Fb->Rp w' K' t x' (pre++([v']++post)) (Fa++(G'++Fb))
 | .pair a b,(x,y),j,c,vs,F,h,hc=>by
  simp only [Rp]at h;obtain ⟨v1,v2,F1,F2,rfl,rfl,h1,h2⟩:=h;have l1:=Rp.len a _ h1;simp only [Ax]at hc;split at hc
  .rename_i hj;obtain ⟨pre,v,post,Fa,G,Fb,rfl,hl,rfl,hv,hset⟩:=Rp.cell a x j h1 hc;refine⟨pre,v,post++v2,Fa,G,Fb++F2,Z,hl,Z,hv,?_⟩;intro w' K' z v' G' x' hs hz hK sa sb;simp only [setCell,Al1 hj,AmY]at hs;obtain ⟨xa,hxa,rfl⟩:=hs;simp only [Rp];refine⟨pre++([v']++post),v2,Fa++(G'++Fb),F2,Z,Z,hset w' K' z v' G' xa hxa hz hK sa (λg hg=>sb g (by simp [hg])),?_⟩;exact Rp.frame hK b _ h2 λg hg=>sb g (by simp [hg])
  .rename_i hj;obtain ⟨pre,v,post,Fa,G,Fb,rfl,hl,rfl,hv,hset⟩:=Rp.cell b y _ h2 hc;refine⟨v1++pre,v,post,F1++Fa,G,Fb,Z,by rw [Al0];omega,Z,hv,?_⟩;intro w' K' z v' G' x' hs hz hK sa sb;simp only [setCell,AlZ hj,AmY]at hs;obtain ⟨xb,hxb,rfl⟩:=hs;simp only [Rp];refine⟨v1,pre++([v']++post),F1,Fa++(G'++Fb),Z,Z,?_,hset w' K' z v' G' xb hxb hz hK (λg hg=>sa g (by simp [hg])) sb⟩;exact Rp.frame hK a _ h1 λg hg=>sa g (by simp [hg])
 | .unit,_,_,_,_,_,_,hc=>by simp [Ax]at hc
 | .int k,x,j,c,vs,F,h,hc=>leafCase (λ_ _=>by simp) Z rfl h hc (by cases j <;> simp [Ax]at hc ⊢)
 | .bool,x,j,c,vs,F,h,hc=>leafCase (λ_ _=>by simp) Z rfl h hc (by cases j <;> simp [Ax]at hc ⊢)
 | .lp,_,_,_,_,_,h,_=>by simp only [Rp]at h
 | .mh,x,j,c,vs,F,h,hc=>leafCase (λ_ _=>by simp) Z rfl h hc (by cases j <;> simp [Ax]at hc ⊢)
 | .mp,_,_,_,_,_,h,_=>by simp only [Rp]at h
 | .er,x,j,c,vs,F,h,hc=>leafCase (λ_ _=>by simp) Z rfl h hc (by cases j <;> simp [Ax]at hc ⊢)
 | .pt t,x,j,c,vs,F,h,hc=>leafCase (λ_ _=>by simp) Z rfl h hc (by cases j <;> simp [Ax]at hc ⊢)
 | .str,x,j,c,vs,F,h,hc=>leafCase (λ_ _=>by simp) Z rfl h hc (by cases j <;> simp [Ax]at hc ⊢)
 | .sl o e r,x,j,c,vs,F,h,hc=>leafCase (λ_ _=>by simp) Z rfl h hc (by cases j <;> simp [Ax]at hc ⊢)
where
 leafCase {w:World} {K:Nat->Prop} {t:Ty} {x:t.D} {j:Nat} {c:(u:Ty)×u.D} {vs F} (hp:∀a b,t≠.pair a b) (hu:t≠.unit) (hs:t.size=1)
   (h:Rp w K t x vs F) (hc:Ax t x j=some c) (hj:j=0) :
   ∃pre v post Fa G Fb,vs=pre++([v]++post)/\pre.length=j/\F=Fa++(G++Fb)/\Rp w K c.1 c.2 [v] G/\
    ∀(w':World) (K':Nat->Prop) (y:c.1.D) (v':Value) (G':List Nat) (x':t.D),setCell t x j c.1 y=some x'->Rp w' K' c.1 y [v'] G'->KSame w w' K K'->
     Dg w w' Fa->Dg w w' Fb->Rp w' K' t x' (pre++([v']++post)) (Fa++(G'++Fb)):=by
  subst hj;have hct:c=⟨t,x⟩:=by
   cases t with
   | pair a b=>exact absurd rfl (hp a b)
   | unit=>exact absurd rfl hu
   | lp=>simp [Ty.size]at hs
   | mp=>simp [Ty.size]at hs
   | _=>simp only [Ax,AlV]at hc;exact hc.symm
  subst hct;obtain ⟨v,rfl⟩:=Afl hs h;refine⟨[],v,[],[],F,[],Z,rfl,Z,h,?_⟩;intro w' K' y v' G' x' hset hy _ _ _;obtain ⟨e,rfl⟩:=ZA (z:=x) hp hu hset;simpa using hy
def adr (w:World) (h:Value):Ty->AT->Option Addr
 | .sl _ _ r,(i,j)::ps=>match h with
  | .slice (some a) _ _=>match ps with
   | []=>some (a.add (i * r.size+j))
   | p::ps=>match w.cell? (a.add (i * r.size+j)),cty r j with
    | some h',some t'=>adr w h' t' (p::ps)
    | _,_=>none
  | _=>none
 | _,_=>none
where
 cty:Ty->Nat->Option Ty
  | .pair a b,j=>if j < a.size then cty a j else cty b (j - a.size)
  | .unit,_=>none
  | t,0=>some t
  | _,_+1=>none
def hdr (w:World) (h:Value) (t:Ty):AT->Option Value
 | []=>some h
 | st=>match adr w h t st with
  | some a=>w.cell? a
  | none=>none
theorem Dp:∀(t:Ty) (x:t.D) (j:Nat) {c},Ax t x j=some c->adr.cty t j=some c.1
 | .pair a b,(x,y),j,c,h=>by
  simp only [Ax]at h;simp only [adr.cty];split at h
  .rename_i hj;rw [Al1 hj];exact Dp a x j h
  .rename_i hj;rw [AlZ hj];exact Dp b y _ h
 | .unit,_,_,_,h=>by simp [Ax]at h
 | .int _,_,0,_,h=>by simp only [Ax,AlV]at h;subst h;rfl
 | .bool,_,0,_,h=>by simp only [Ax,AlV]at h;subst h;rfl
 | .er,_,0,_,h=>by simp only [Ax,AlV]at h;subst h;rfl
 | .lp,_,_,_,h=>by simp [Ax]at h
 | .mh,_,0,_,h=>by simp only [Ax,AlV]at h;subst h;rfl
 | .mh,_,_+1,_,h=>by simp [Ax]at h
 | .mp,_,_,_,h=>by simp [Ax]at h
 | .str,_,0,_,h=>by simp only [Ax,AlV]at h;subst h;rfl
 | .pt _,_,0,_,h=>by simp only [Ax,AlV]at h;subst h;rfl
 | .sl _ _ _,_,0,_,h=>by simp only [Ax,AlV]at h;subst h;rfl
 | .int _,_,_+1,_,h=>by simp [Ax]at h
 | .bool,_,_+1,_,h=>by simp [Ax]at h
 | .er,_,_+1,_,h=>by simp [Ax]at h
 | .str,_,_+1,_,h=>by simp [Ax]at h
 | .pt _,_,_+1,_,h=>by simp [Ax]at h
 | .sl _ _ _,_,_+1,_,h=>by simp [Ax]at h
theorem De {α β:Type} (o:Option β) (f:β->Tr α):(Tr.get β o f).run=o.bind λb=>(f b).run:=by cases o <;> rfl
theorem run_bind {α β:Type} (t:Tr α) (f:α->Tr β):(t.bind f).run=t.run.bind λx=>(f x).run:=by
 induction t with
 | ret a=>rfl
 | fail=>rfl
 | br c t e ih1 ih2=>simp only [Tr.bind,Tr.run];split <;> assumption
 | get γ o g ih=>cases o <;> simp [Tr.bind,Tr.run,ih]
 | alt γ δ s g h ih1 ih2=>cases s <;> simp [Tr.bind,Tr.run,ih1,ih2]
 | rdO k g ih=>rfl
 | rdC k off g ih=>rfl
 | rdM k g ih=>rfl
theorem W6 {α:Type} (cs:List α) (off n:Nat) (a v b:List α) (h:(cs.drop off).take n=a++(v++b)) (j:Nat) (hj:j < v.length):cs[off+a.length+j]?=v[j]?:=by
 have h1:((cs.drop off).take n)[a.length+j]?=v[j]?:=by
  rw [h,AmE O,AmQ O]
  congr 1;omega
 rw [<- h1,List.getElem?_take,AmC];have:a.length+j < n:=by
  have:=congrArg List.length h;simp only [Al4,Al0]at this;have h3:(cs.drop off).length=cs.length - off:=Amm ..;rcases Nat.lt_or_ge (a.length+j) n with h4 | h4
  .exact h4
  .omega
 rw [Al1 this];congr 1;omega
theorem Rp.elem {w:World} {K:Nat->Prop} {e:TypeId} {r:Ty} {xs:List r.D} {h:Value} {F:List Nat} (hp:Rp w K (.sl true e r) xs [h] F) {i j:Nat} {row:r.D} {c:(u:Ty)×u.D}
  (hi:xs[i]?=some row) (hc:Ax r row j=some c) :
  ∃(g off cap:Nat) (cs:Array Value) (fr:Nat×Nat) (v:Value) (F1 Fa G Fb F2:List Nat),h=.slice (some ⟨g,off,none⟩) xs.length cap/\F=g::(F1++((Fa++(G++Fb))++F2))/\w.heap[g]?=some (.cells cs e fr)/\NFt r fr cs.size/\
   off+cap * r.size<=cs.size/\xs.length<=cap/\
   cs[off+(i * r.size+j)]?=some v/\off+(i * r.size+j) < cs.size/\Rp w K c.1 c.2 [v] G/\
   ∀(w':World) (K':Nat->Prop) (y:c.1.D) (v':Value) (G':List Nat) (row':r.D) (cs':Array Value),setCell r row j c.1 y=some row'->Rp w' K' c.1 y [v'] G'->KSame w w' K K'->
    w'.heap[g]?=some (.cells cs' e fr)->cs'=cs.setIfInBounds (off+(i * r.size+j)) v'->Dg w w' F1->Dg w w' Fa->Dg w w' Fb->Dg w w' F2->
    Rp w' K' (.sl true e r) (xs.set i row') [h] (g::(F1++((Fa++(G'++Fb))++F2))):=by
 simp only [Rp]at hp;rcases hp with⟨rfl,_⟩ | ⟨g,off,cap,cs,fr,F',hh,rfl,hg,hn,hoff,hlen,hr⟩
 .simp at hi
 obtain ⟨v1,v,v2,F1,G0,F2,hw,hl,rfl,hrow,ht,hd⟩:=RpL.get (λx vs F h=>Rp.len r x h) hr hi;obtain ⟨pre,u,post,Fa,G,Fb,rfl,hpl,rfl,hu,hset⟩:=Rp.cell r row j hrow hc;have hcell:cs[off+(i * r.size+j)]?=some u:=by
  have:=W6 cs.toList off _ v1 (pre++([u]++post)) v2 hw pre.length Z;rw [AmE O]at this;simp only [AnF,AmH,Ams,Anb]at this;rw [hl,hpl]at this;rw [<- Amh,<- this];congr 1;omega
 have hlt:off+(i * r.size+j) < cs.size:=(Ano.1 hcell).1;have hil:i < xs.length:=(Amy.1 hi).1;injection hh with hh _
 refine⟨g,off,cap,cs,fr,u,F1,Fa,G,Fb,F2,hh,rfl,hg,hn,hoff,hlen,hcell,hlt,hu,?_⟩;intro w' K' y v' G' row' cs' hs hy hK hg' hcs s1 sa sb s2;subst hcs;simp only [Rp];refine .inr ⟨g,off,cap,_,fr,_,by rw [Am0,hh],rfl,hg',by simpa using hn,by simpa using hoff,by simpa using hlen,?_⟩;have hnew:=RpL.set hi (RpL.frame hK r _ _ _ s1 ht) (RpL.frame hK r _ _ _ s2 hd) (hset w' K' y v' G' row' hs hy hK sa sb);rw [Am0];have:((cs.setIfInBounds (off+(i * r.size+j)) v').toList.drop off).take (xs.length * r.size)=v1++((pre++([v']++post))++v2):=by
  rw [Array.toList_setIfInBounds,List.drop_set,AlZ O,List.take_set,hw];have h1:v1++((pre++([u]++post))++v2)=(v1++pre)++u::(post++v2):=by simp
  have h2:v1++((pre++([v']++post))++v2)=(v1++pre)++v'::(post++v2):=by simp
  rw [h1,h2,Aol _ _ (by rw [Al0];omega)];have h3:off+(i * r.size+j) - off - (v1++pre).length=0:=by rw [Al0];omega
  rw [h3];rfl
 rw [this];exact hnew
theorem DJ {e:TypeId} {r:Ty} {xs:List r.D} {i j:Nat} {ps:AT} {c:(u:Ty)×u.D} (h:(Ap (.sl true e r) xs ((i,j)::ps)).run=some c) :
  ∃row d,xs[i]?=some row/\Ax r row j=some d/\(Ap d.1 d.2 ps).run=some c:=by
 simp only [Ap,De,AlY]at h;obtain ⟨row,hrow,h⟩:=h;split at h
 .rename_i d hd;exact⟨row,d,hrow,hd,h⟩
 .simp [Tr.run]at h
theorem V3 {g:Nat} {F1 Fa G Fb F2:List Nat} (hnd:(g::(F1++((Fa++(G++Fb))++F2))).Nodup):G.Nodup:=by
 rw [AmP]at hnd;have h1:=hnd.2;rw [Amj]at h1;have h2:=h1.2.1;rw [Amj]at h2;have h3:=h2.1;rw [Amj]at h3;have h4:=h3.2.1;rw [Amj]at h4;exact h4.1
theorem Rp.reach {w:World} {K:Nat->Prop}:∀(st:AT) (t:Ty) (x:t.D) {h:Value} {F:List Nat} {c:(u:Ty)×u.D},Rp w K t x [h] F->(Ap t x st).run=some c->
  ∃h' F',hdr w h t st=some h'/\Rp w K c.1 c.2 [h'] F'/\(∀g∈F',g∈F)/\(F.Nodup->F'.Nodup)/\(st≠[]->∃a,adr w h t st=some a/\w.cell? a=some h'/\a.block∈F/\a.spot=none/\w.frozen? a=false)
 | [],t,x,h,F,c,hp,hg=>by
  simp only [Ap,Tr.run,AlV]at hg;subst hg;exact⟨h,F,rfl,hp,λ_ hg=>hg,λh=>h,λhne=>absurd rfl hne⟩
 | (i,j)::ps,t,x,h,F,c,hp,hg=>by
  match t,x,hp,hg with
  | .sl true e r,xs,hp,hg=>
   obtain ⟨row,d,hrow,hd,hrest⟩:=DJ hg;obtain ⟨g,off,cap,cs,fr,v,F1,Fa,G,Fb,F2,rfl,rfl,hh,hn,_,_,hcell,hlt,hv,_⟩:=Rp.elem hp hrow hd;have hc?:w.cell? ⟨g,off+(i * r.size+j),none⟩=some v:=by rw [Bc hh];exact hcell
   obtain ⟨h',F',hhd,hp',hsub,hnod,hne⟩:=Rp.reach ps d.1 d.2 hv hrest;refine⟨h',F',?_,hp',?_,λhx=>hnod (V3 hx),?_⟩
   .cases ps with
    | nil=>
     simp only [hdr,AlV]at hhd;subst hhd;simp only [hdr,adr,Bb];exact hc?
    | cons p ps=>
     simp only [hdr,adr,Bb,hc?,Dp r row j hd];simpa only [hdr] using hhd
   .intro b hb;have:=hsub b hb;simp [*]
   .intro _;cases ps with
    | nil=>
     simp only [hdr,AlV]at hhd;subst hhd;exact⟨⟨g,off+(i * r.size+j),none⟩,by simp only [adr,Bb],hc?,Z,rfl,Dt hh hn.nf hlt⟩
    | cons p ps=>
     obtain ⟨a,ha,h1,h2,h3,h4⟩:=hne Z;refine⟨a,by simp only [adr,Bb,hc?,Dp r row j hd];exact ha,h1,?_,h3,h4⟩;simp [*]
  | .sl false _ _,_,_,hg=>simp [Ap,Tr.run]at hg
  | .int _,_,_,hg=>simp [Ap,Tr.run]at hg
  | .bool,_,_,hg=>simp [Ap,Tr.run]at hg
  | .er,_,_,hg=>simp [Ap,Tr.run]at hg
  | .lp,_,_,hg=>simp [Ap,Tr.run]at hg
  | .mh,_,_,hg=>simp [Ap,Tr.run]at hg
  | .mp,_,_,hg=>simp [Ap,Tr.run]at hg
  | .str,_,_,hg=>simp [Ap,Tr.run]at hg
  | .unit,_,_,hg=>simp [Ap,Tr.run]at hg
  | .pair _ _,_,_,hg=>simp [Ap,Tr.run]at hg
theorem UD {w w':World} {h:Value} {t:Ty} {p:Nat×Nat}:adr w' h t [p]=adr w h t [p]:=by
 cases t with
 | sl o e r=>
  cases h with
  | slice A _ _=>cases A <;> rfl
  | _=>rfl
 | _=>rfl
theorem Rp.put {w:World} {K:Nat->Prop}:∀(st:AT) (t:Ty) (x:t.D) {h:Value} {F:List Nat} {c:(u:Ty)×u.D} {z:c.1.D} {y:t.D},st≠[]->Rp w K t x [h] F->F.Nodup->(Ap t x st).run=some c->(FY t x st c.1 z).run=some y->
  ∃a h' Fa G Fb,adr w h t st=some a/\w.cell? a=some h'/\a.spot=none/\F=Fa++(G++Fb)/\a.block∈Fa/\Rp w K c.1 c.2 [h'] G/\w.frozen? a=false/\
   ∀(w':World) (K':Nat->Prop) (v':Value) (G':List Nat),Rp w' K' c.1 z [v'] G'->KSame w w' K K'->w'.heap[a.block]?=(w.setCell a v').heap[a.block]?->
    (∀g∈Fa++Fb,g≠a.block->w'.heap[g]?=w.heap[g]?)->Rp w' K' t y [h] (Fa++(G'++Fb))/\∀n,adr w' h t (Cq st n)=adr w h t (Cq st n)
 | [],_,_,_,_,_,_,_,hne,_,_,_,_=>absurd rfl hne
 | (i,j)::ps,t,x,h,F,c,z,y,_,hp,hnd,hg,hs=>by
  match t,x,y,hp,hg,hs with
  | .sl true e r,xs,y,hp,hg,hs=>
   obtain ⟨row,d,hrow,hd,hrest⟩:=DJ hg;have hs':∃yy row',(FY d.1 d.2 ps c.1 z).run=some yy/\setCell r row j d.1 yy=some row'/\y=(xs:List r.D).set i row':=by
    simp only [FY,De,AlY]at hs;obtain ⟨row2,hrow2,hs⟩:=hs;obtain rfl:row=row2:=by rw [hrow]at hrow2;injection hrow2
    rw [hd]at hs;simp only [run_bind,AlY]at hs;obtain ⟨yy,h1,hs⟩:=hs;split at hs
    .rename_i row' hr;simp only [Tr.run,AlV]at hs;exact⟨yy,row',h1,hr,hs.symm⟩
    .simp [Tr.run]at hs
   obtain ⟨yy,row',hsy,hset,rfl⟩:=hs';obtain ⟨g,off,cap,cs,fr,v,F1,Fa,G,Fb,F2,rfl,rfl,hh,hn,hcap,hlen,hcell,hlt,hv,hput⟩:=Rp.elem hp hrow hd;have hc?:w.cell? ⟨g,off+(i * r.size+j),none⟩=some v:=by rw [Bc hh];exact hcell
   cases ps with
   | nil=>
    simp only [Ap,Tr.run,AlV]at hrest;subst hrest;simp only [FY]at hsy;split at hsy
    .simp only [Tr.run,AlV]at hsy;subst hsy;refine⟨⟨g,off+(i * r.size+j),none⟩,v,g::(F1++Fa),G,Fb++F2,by simp only [adr,Bb],hc?,rfl,Z,Z,hv,Dt hh hn.nf hlt,?_⟩;intro w' K' v' G' hz hK hblk hrest;have hnd':∀b,b∈F1\/b∈Fa\/b∈Fb\/b∈F2->b≠g:=by
      rintro b hb rfl;rw [AmP]at hnd;apply hnd.1;simp only [Al3];rcases hb with hb | hb | hb | hb <;> simp [hb]
     have hnew:w'.heap[g]?=some (.cells (cs.setIfInBounds (off+(i * r.size+j)) v') e fr):=by
      rw [hblk];exact Nn hh _ _
     have:=hput w' K' z v' G' row' _ hset hz hK hnew rfl (λb hb=>hrest b (by simp [hb]) (hnd' b (by simp [hb]))) (λb hb=>hrest b (by simp [hb]) (hnd' b (by simp [hb])))
      (λb hb=>hrest b (by simp [hb]) (hnd' b (by simp [hb]))) (λb hb=>hrest b (by simp [hb]) (hnd' b (by simp [hb])))
     exact⟨by simpa using this,λn=>UD⟩
    .simp [Tr.run]at hsy
   | cons p ps=>
    have hndG:G.Nodup:=V3 hnd;obtain ⟨a,h',Ga,G0,Gb,ha,h1,h2,rfl,hain,hG0,h4,hset2⟩:=Rp.put (p::ps) d.1 d.2 Z hv hndG hrest hsy;have hag:a.block≠g:=by
     rintro rfl;rw [AmP]at hnd;apply hnd.1;simp [hain]
    have hout:∀b,b∈F1\/b∈Fa\/b∈Fb\/b∈F2->b≠a.block:=by
     rintro b hb rfl;rw [AmP]at hnd;have hn2:=hnd.2;have hA:∀(X Y:List Nat),(X++Y).Nodup->∀q,q∈X->q∈Y->False:=λX Y hXY q hX hY=>(Amj.1 hXY).2.2 q hX q hY rfl
     rcases hb with hb | hb | hb | hb
     .exact hA F1 _ hn2 a.block hb (by simp [hain])
     .have h5:=(Amj.1 hn2).2.1;have h6:=(Amj.1 h5).1;exact hA Fa _ h6 a.block hb (by simp [hain])
     .have h5:=(Amj.1 hn2).2.1;have h6:=(Amj.1 h5).1;have h7:=(Amj.1 h6).2.1;exact hA _ Fb h7 a.block (by simp [hain]) hb
     .have h5:=(Amj.1 hn2).2.1;exact hA _ F2 h5 a.block (by simp [hain]) hb
    refine⟨a,h',g::(F1++(Fa++Ga)),G0,Gb++(Fb++F2),by simp only [adr,Bb,hc?,Dp r row j hd];exact ha,h1,h2,Z,by simp [hain],hG0,h4,?_⟩;intro w' K' v' G' hz hK hblk hrest2;obtain ⟨hinner,hadr⟩:=hset2 w' K' v' G' hz hK hblk (λb hb hne=>hrest2 b (by simp only [Al3,Ame]at hb ⊢;rcases hb with hb | hb <;> simp [hb]) hne);have hgs:w'.heap[g]?=some (.cells cs e fr):=by rw [hrest2 g Z (Ne.symm hag)];exact hh
    have hsame:cs=cs.setIfInBounds (off+(i * r.size+j)) v:=by
     apply Array.ext_getElem?;intro m;rw [Array.getElem?_setIfInBounds];split
     .subst_vars;first | exact hcell | (rw [Al1 hlt];exact hcell)
     .rfl
    have:=hput w' K' yy v (Ga++(G'++Gb)) row' cs hset hinner hK hgs hsame (λb hb=>hrest2 b (by simp [hb]) (hout b (by simp [hb]))) (λb hb=>hrest2 b (by simp [hb]) (hout b (by simp [hb])))
      (λb hb=>hrest2 b (by simp [hb]) (hout b (by simp [hb]))) (λb hb=>hrest2 b (by simp [hb]) (hout b (by simp [hb])))
    refine⟨by simpa using this,λn=>?_⟩;have hc2:w'.cell? ⟨g,off+(i * r.size+j),none⟩=some v:=by rw [Bc hgs];exact hcell
    have hb:Cq ((i,j)::p::ps) n=(i,j)::Cq (p::ps) n:=rfl;obtain ⟨q',ps',hq⟩:∃q' ps',Cq (p::ps) n=q'::ps':=by
     cases ps with
     | nil=>obtain ⟨x,y⟩:=p;exact⟨_,_,rfl⟩
     | cons q2 ps=>exact⟨_,_,rfl⟩
    have:=hadr n;rw [hb];rw [hq]at this ⊢;simp only [adr,Bb,hc?,hc2,Dp r row j hd];exact this
  | .sl false _ _,_,_,_,hg,_=>simp [Ap,Tr.run]at hg
  | .int _,_,_,_,hg,_=>simp [Ap,Tr.run]at hg
  | .bool,_,_,_,hg,_=>simp [Ap,Tr.run]at hg
  | .er,_,_,_,hg,_=>simp [Ap,Tr.run]at hg
  | .lp,_,_,_,hg,_=>simp [Ap,Tr.run]at hg
  | .mh,_,_,_,hg,_=>simp [Ap,Tr.run]at hg
  | .mp,_,_,_,hg,_=>simp [Ap,Tr.run]at hg
  | .str,_,_,_,hg,_=>simp [Ap,Tr.run]at hg
  | .unit,_,_,_,hg,_=>simp [Ap,Tr.run]at hg
  | .pair _ _,_,_,_,hg,_=>simp [Ap,Tr.run]at hg
end Go.V
namespace Go.V
def glo:Nat->Prop:=λ_=>False
def GlF:World->Prop:=λ_=>True
theorem YY {w:World} (_:GlF w) {g:Nat} (hg:glo g):g < w.heap.size:=hg.elim
theorem WU {w w':World} (_:GlF w) (_:∀g,glo g->w'.heap[g]?=w.heap[g]?):GlF w':=trivial
theorem Yw (w:World):GlF w:=trivial
end Go.V