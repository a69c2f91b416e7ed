import Derived.Test.YtofhefmbioblbaaGreatQOsA
import Derived.Test.YtofhefmbioblbaaGreatQOsB
set_option linter.unusedVariables false
set_option linter.unusedSimpArgs false
set_option maxRecDepth 100000
namespace Go.V.G
open Go.V
theorem Bd.set {bl:Bls} (h:Bd bl) {x:List Int} (hx:0 < x.length/\x.length<=100000) (i:Nat):Bd (bl.set i x):=
 ⟨by rw [AlB];exact h.n,λy hy=>by
  rcases AlC hy with hy | rfl
  .exact h.b y hy
  .exact hx⟩
def BA (a:Int) (data:List Int) (bl:Bls) (wr:Int) (on:Bool) (lf:Int):Bool×Dsk:=
 if on=false then(false,bl,wr,on,lf)else if lf=0 then(false,bl,wr,false,lf)else
  (true,bl.set a.toNat data,IntKind.wrap .i64 (wr+1),on,if 0 < lf then IntKind.wrap .i64 (lf - 1)else lf)
theorem WU {a:Int} {data:List Int} {bl:Bls} (hd:data.length<=100000) (h0:0<=a) (h1:a < bl.length) (wr:Int) (on:Bool) (lf:Int):JZ a data bl wr on lf=some (BA a data bl wr on lf):=by
 unfold JZ BA cK cZ wI;have hg:bl[Int.toNat a]?=some bl[a.toNat]:=AkD O;have hr:Aa (List.length ([]:List Int)+List.length data) 1=true:=by simp only [Alc,Aa,decide_eq_true_eq];omega
 cases on with
 | false=>simp
 | true=>
  by_cases hl:lf=0
  .simp [hl]
  .by_cases hp:0 < lf
   .simp only [Alt,AkR,Alg,hl,decide_false,hp,decide_true,Ak4,AkB,hr,h0,h1,hg,reduceCtorEq,Ala,AkZ]
   .simp only [Alt,AkR,Alg,hl,decide_false,hp,Ak4,AkB,hr,h0,h1,hg,decide_true,reduceCtorEq,Ala,AkZ]
theorem Ae7 {a:Int} {data:List Int} {bl:Bls} (hd:0 < data.length/\data.length<=100000) (h0:0<=a) (h1:a < bl.length) (wr:Int) (lf:Int):G9 a data bl wr true lf=some (BA a data bl wr true lf):=by
 unfold G9 BA cK cZ wI;have hg:bl[Int.toNat a]?=some bl[a.toNat]:=AkD O;by_cases hl:lf=0
 .simp [hl]
 .by_cases hp:0 < lf
  .simp only [AkR,Alg,hl,decide_false,hp,decide_true,Ak4,AkB,Rh hd,h0,h1,hg,reduceCtorEq,AkZ]
  .simp only [AkR,Alg,hl,decide_false,hp,Ak4,AkB,Rh hd,h0,h1,hg,decide_true,reduceCtorEq,AkZ]
theorem UK {bl:Bls} (h:Bd bl) (wr:Int) (on:Bool) (lf:Int):FZ bl wr on lf=some (bl,wr,on,lf):=by
 unfold FZ;rw [OO h];rfl
end Go.V.G
set_option maxRecDepth 100000
namespace Go.V.G
open Go.V
section
variable {α:Type}
theorem ixS {n i:Nat} (hn:n<=4611686018427387904) (h:i < n):IntKind.wrap .i64 ((i:Int)+1)=((i+1:Nat):Int):=by rw [w64 O O];omega
def AG (w:α->Nat):List α->Nat
 | []=>0
 | x::xs=>w x+AG w xs
theorem Lc (w:α->Nat):∀{xs:List α} {x:α},x∈xs->w x<=AG w xs
 | y::xs,x,h=>by
  rcases AkU.1 h with rfl | h
  .simp only [AG];omega
  .have:=Lc w h;simp only [AG];omega
theorem MJ (w:α->Nat):∀(a b:List α),AG w (a++b)=AG w a+AG w b
 | [],b=>by simp [AG]
 | x::a,b=>by simp only [Alp,AG,MJ w a b];omega
def lft (l:Int) (n:Nat):Int:=if(n:Int)<=l then l - n else -1
theorem AgB (f:List α×(Int×Int)->Option ((List α×(Int×Int))⊕(Int⊕Int))) (w:α->Nat) (xs:List α)
  (step:∀(i:Nat) (h:i < xs.length) (l:Int),0<=l->l<=1048576->f (xs,l,(i:Int))=some (if(w xs[i]:Int)<=l then .inl (xs,l - w xs[i],((i+1:Nat):Int))else .inr (.inr (-1))))
  (last:∀l,f (xs,l,(xs.length:Int))=some (.inr (.inl l))) {l:Int} (h0:0<=l) (h1:l<=1048576) :
  Ab f (xs,l,0)=some (if(AG w xs:Int)<=l then .inl (l - AG w xs)else .inr (-1)):=by
 have:=Ahi f (λy=>y.1=xs/\(0<=y.2.1/\y.2.1<=1048576)/\∃i:Nat,y.2.2=(i:Int)/\i<=xs.length) (λy=>((xs.length:Int) - y.2.2).toNat)
  (λy=>if(AG w (y.1.drop y.2.2.toNat):Int)<=y.2.1 then .inl (y.2.1 - AG w (y.1.drop y.2.2.toNat))else .inr (-1)) (by
   rintro ⟨ys,l,i'⟩ ⟨e1,⟨h0,h1⟩,i,e2,hi⟩;dsimp only at e1 h0 h1 e2;subst e1 e2;dsimp only;rcases Nat.lt_or_ge i ys.length with hlt | hge
   .have hs:=step i hlt l h0 h1;have hd:AG w (ys.drop i)=w ys[i]+AG w (ys.drop (i+1)):=by rw [Alb hlt];rfl
    simp only [AkE];by_cases hw:(w ys[i]:Int)<=l
    .left;rw [AkH hw]at hs;refine⟨_,hs,⟨rfl,AkA,i+1,rfl,O⟩,AkA,?_⟩;dsimp only;simp only [AkE,hd];by_cases hx:((AG w (ys.drop (i+1)):Int))<=l - (w ys[i]:Int)
     .rw [AkH hx,AkH O]
      congr 1;omega
     .rw [AkG hx,AkG O]
    .right;rw [AkG hw]at hs;rw [hs,AkG (by rw [hd];omega)]
   .right;have:i=ys.length:=O
    subst this;rw [last];simp [AG,h0]) (xs,l,0) ⟨rfl,⟨h0,h1⟩,0,rfl,Al6 _⟩
 simpa using this
theorem AaS (f:List α×(List α×Int)->Option ((List α×(List α×Int))⊕(Unit⊕Bool))) (xs:List α) (step:∀(i:Nat) (h:i < xs.length),f (xs,xs,(i:Int))=some (.inl (xs,xs,((i+1:Nat):Int))))
  (last:f (xs,xs,(xs.length:Int))=some (.inr (.inl ()))):Ab f (xs,xs,0)=some (.inl ()):=by
 have:=Am f (λk=>(xs,xs,((k:Nat):Int))) xs.length (.inl ()) (λk hk=>step k hk) last;simpa using this
theorem Abc (f:List α×(List α×Int)->Option ((List α×(List α×Int))⊕(List α))) (xs:List α) (z:α)
  (step:∀(ys:List α) (i:Nat) (h:i < xs.length),ys.length=xs.length->f (xs,ys,(i:Int))=some (.inl (xs,ys.set i xs[i],((i+1:Nat):Int))))
  (last:∀ys:List α,f (xs,ys,(xs.length:Int))=some (.inr ys)):Ab f (xs,List.replicate xs.length z,0)=some xs:=by
 have:=Am f (λk=>(xs,xs.take k++List.replicate (xs.length - k) z,((k:Nat):Int))) xs.length xs (λk hk=>by
  rw [step _ k hk Aky,(O:xs.length - k=(xs.length - (k+1))+1),AlG,Ak0 hk,AmT _ _ Aky,
   AkL,AmU (Nat.le_of_lt hk),Amj,List.set_cons_zero,AkN]
  rfl) (by rw [last];simp)
 simpa using this
def mks (m:α->Int->α) (c:α->Nat):List α->Int->List α
 | [],_=>[]
 | x::xs,k=>m x k::mks m c xs (k+c x)
theorem GZ (m:α->Int->α) (c:α->Nat):∀(xs:List α) (k:Int),(mks m c xs k).length=xs.length
 | [],_=>rfl
 | x::xs,k=>by simp only [mks,AkQ,GZ m c xs]
theorem N9 (m:α->Int->α) (c:α->Nat):∀(a b:List α) (k:Int),mks m c (a++b) k=mks m c a k++mks m c b (k+AG c a)
 | [],b,k=>by simp [mks,AG]
 | x::a,b,k=>by
  simp only [Alp,mks,N9 m c a b,AG]
  congr 3;omega
theorem Ahv (m:α->Int->α) (c:α->Nat) {xs:List α} {k:Int} {i:Nat} (h:i < xs.length):(mks m c xs k)[i]'(by rw [GZ];exact h)=m xs[i] (k+AG c (xs.take i)):=by
 have e:xs=xs.take i++xs[i]::xs.drop (i+1):=by rw [<- Alb h,Als]
 have hl:(mks m c (xs.take i) k).length=i:=by rw [GZ,AkL];omega
 have h2:(mks m c xs k)[i]?=some (m xs[i] (k+AG c (xs.take i))):=by
  conv=>lhs;rw [e]
  rw [N9,Alm O,hl,Amj];rfl
 rw [AkD (by rw [GZ];exact h)]at h2;exact AlR h2
theorem Vp (c:α->Nat) {xs:List α} {i:Nat} (h:i < xs.length):AG c (xs.take (i+1))=AG c (xs.take i)+c xs[i]:=by
 rw [Ak0 h,MJ];simp [AG]
theorem PI (c:α->Nat) (xs:List α) (i:Nat):AG c (xs.take i)<=AG c xs:=by
 conv=>rhs;rw [<- Als i xs]
 rw [MJ];omega
theorem VB (f:List α×(Int×Int)->Option ((List α×(Int×Int))⊕(List α×Int))) (m:α->Int->α) (c:α->Nat) (xs:List α)
  (step:∀(ys:List α) (i:Nat) (h:i < ys.length) (k:Int),ys.length=xs.length->ys[i]∈xs->0<=k->k+c ys[i]<=4611686018427387904->f (ys,k,(i:Int))=some (.inl (ys.set i (m ys[i] k),k+c ys[i],((i+1:Nat):Int))))
  (last:∀(ys:List α) (k:Int),f (ys,k,(ys.length:Int))=some (.inr (ys,k))) {k:Int} (h0:0<=k) (h1:k+AG c xs<=4611686018427387904) :
  Ab f (xs,k,0)=some (mks m c xs k,k+AG c xs):=by
 have:=Am f (λi=>(mks m c (xs.take i) k++xs.drop i,k+AG c (xs.take i),((i:Nat):Int))) xs.length (mks m c xs k,k+AG c xs) (λi hi=>by
  have hl:(mks m c (xs.take i) k).length=i:=by rw [GZ,AkL];omega
  have hlen:(mks m c (xs.take i) k++xs.drop i).length=xs.length:=by rw [AkJ,hl,Ak5];omega
  have hget:(mks m c (xs.take i) k++xs.drop i)[i]'(by rw [hlen];exact hi)=xs[i]:=by
   rw [List.getElem_append_right O];simp [hl]
  have ht:=Vp c hi;have hle:=PI c xs (i+1);rw [step _ i (by rw [hlen];exact hi) _ hlen (by rw [hget];exact Ak1 hi) O (by rw [hget];omega),hget];have e1:(mks m c (xs.take i) k++xs.drop i).set i (m xs[i] (k+AG c (xs.take i)))=mks m c (xs.take (i+1)) k++xs.drop (i+1):=by
   rw [AmT _ _ O,hl,Amj,Alb hi,List.set_cons_zero,Ak0 hi,N9,AkN];rfl
  rw [e1,ht]
  congr 4;omega) (by
   have hl:(mks m c (xs.take xs.length) k++xs.drop xs.length).length=xs.length:=by rw [AkJ,GZ];simp
   have:=last (mks m c (xs.take xs.length) k++xs.drop xs.length) (k+AG c (xs.take xs.length));rw [hl]at this;rw [this];simp)
 simpa [mks,AG] using this
theorem VI (g:List α×(Int×Int)->Option ((List α×(Int×Int))⊕(Int⊕Int))) (m:α->Int->α) (c:α->Nat) (xs:List α)
  (step:∀(ys:List α) (i:Nat) (h:i < ys.length) (x:α) (k:Int),ys.length=xs.length->x∈xs->ys[i]=m x k->0<=k->k+c x<=4611686018427387904->g (ys,k,(i:Int))=some (.inl (ys,k+c x,((i+1:Nat):Int))))
  (last:∀(ys:List α) (k:Int),g (ys,k,(ys.length:Int))=some (.inr (.inl k))) {k:Int} (h0:0<=k) (h1:k+AG c xs<=4611686018427387904) :
  Ab g (mks m c xs k,k,0)=some (.inl (k+AG c xs)):=by
 have:=Am g (λi=>(mks m c xs k,k+AG c (xs.take i),((i:Nat):Int))) xs.length (.inl (k+AG c xs)) (λi hi=>by
  have ht:=Vp c hi;have hle:=PI c xs (i+1);rw [step _ i (by rw [GZ];exact hi) xs[i] _ (GZ ..) (Ak1 hi) (Ahv m c hi) O O,ht]
  congr 4;omega) (by
   have:=last (mks m c xs k) (k+AG c (xs.take xs.length));rw [GZ]at this;rw [this];simp)
 simpa [AG] using this
end
end Go.V.G
set_option maxRecDepth 100000
namespace Go.V.G
open Go.V
def P8 (xs:List (Int)):Prop:=xs.length<=maxLen
def Bo (xs:List (Int)):Nat:=xs.length
theorem Rc (xs:List (Int)):xs.length<=Bo xs:=by unfold Bo;omega
theorem AfP {xs:List (Int)} (hf:P8 xs) {l:Int} (h0:0<=l) (h1:l<=1048576):Mg xs l=some (lft l (Bo xs)):=by
 have hl:xs.length<=maxLen:=hf;unfold maxLen at hl;unfold Mg lft Bo wI;rw [w64 O O];by_cases h:l - (xs.length:Int) < 0
 .rw [AkH (by simpa using h),AkG O]
 .rw [AkG (by simpa using h),AkH O]
theorem AeH {xs:List (Int)} (h:Bo xs<=1048576):Ma xs=some xs:=by
 have hl:=Rc xs;have hr:Aa xs.length 1=true:=by simp only [Aa,decide_eq_true_eq];omega
 unfold Ma cK cZ;simp only [AkE,hr,Ak4,AlO,decide_true,show(0:Int)<=(xs.length:Int) from by omega];rw [Abc IH xs _ (by
  intro ys i hi hy;have hc:(i:Int) < (xs.length:Int):=O
  have hy':i < ys.length:=O
  have g1:∀x,(ys.set i x)[i]?=some x:=λx=>Al7 hy'
  skip
  unfold IH cK cZ gX wI;simp only [hy,hc,decide_true,Ak4,show(0:Int)<=(i:Int) from by omega,AkE,AkD hi,AkD hy',AkB,AkZ,List.set_set,g1,ixS (O:xs.length<=4611686018427387904) hi]) (by intro ys;simp [IH,cK,cZ,gX,wI])]
 rfl
theorem Aex {xs:List (Int)} (h:Bo xs<=1099511627776):Mb xs xs=some true:=by
 have hl:=Rc xs;unfold Mb;rw [AkG Z,AaS I0 xs (by
  intro i hi;have hc:(i:Int) < (xs.length:Int):=O
  skip
  unfold I0 gX wI;simp only [hc,decide_true,Ak4,show(0:Int)<=(i:Int) from by omega,AkE,AkD hi,AkB,ixS (O:xs.length<=4611686018427387904) hi,Alt,AkR,Alg,not_true_eq_false,decide_false]) (by simp [I0,gX,wI])]
 rfl
def KJ (xs:List (List Int)):Prop:=xs.length<=maxLen/\∀x∈xs,P8 x
def Bc (xs:List (List Int)):Nat:=xs.length+AG Bo xs
theorem GA (xs:List (List Int)):xs.length<=Bc xs:=by unfold Bc;omega
theorem Ado {xs:List (List Int)} (hf:KJ xs) {l:Int} (h0:0<=l) (h1:l<=1048576):KK xs l=some (lft l (Bc xs)):=by
 obtain ⟨hl,hx⟩:=hf;unfold maxLen at hl;unfold KK wI;rw [w64 O O];by_cases h:l - (xs.length:Int) < 0
 .rw [AkH (by simpa using h)];unfold lft Bc;rw [AkG O]
 .rw [AkG (by simpa using h),AgB HR Bo xs (by
   intro i hi l h0 h1;have hc:(i:Int) < (xs.length:Int):=O
   have hx:=hx _ (Ak1 hi);unfold HR gX wI;simp only [hc,decide_true,Ak4,show(0:Int)<=(i:Int) from by omega,AkE,AkD hi,AkB,AfP (hx) h0 h1,ixS (O:xs.length<=4611686018427387904) hi];unfold lft;by_cases hw:(Bo xs[i]:Int)<=l
   .have:¬ l - (Bo xs[i]:Int) < 0:=O
    simp [hw,this]
   .simp [hw]) (by intro l;simp [HR,gX,wI]) O O,AkB]
  unfold lft Bc;by_cases hx:(AG Bo xs:Int)<=l - (xs.length:Int)
  .rw [AkH hx,AkH O];show some _=some _
   congr 1;omega
  .rw [AkG hx,AkG O]
theorem AcY {xs:List (List Int)} (h:Bc xs<=1048576):Ky xs=some xs:=by
 have hl:=GA xs;have hr:Aa xs.length 24=true:=by simp only [Aa,decide_eq_true_eq];omega
 unfold Ky cK cZ;simp only [AkE,hr,Ak4,AlO,decide_true,show(0:Int)<=(xs.length:Int) from by omega];rw [Abc HT xs _ (by
  intro ys i hi hy;have hc:(i:Int) < (xs.length:Int):=O
  have hy':i < ys.length:=O
  have g1:∀x,(ys.set i x)[i]?=some x:=λx=>Al7 hy'
  have hb:Bo xs[i]<=1048576:=by have:=Lc Bo (Ak1 hi);unfold Bc at h;omega
  unfold HT cK cZ gX wI;simp only [hy,hc,decide_true,Ak4,show(0:Int)<=(i:Int) from by omega,AkE,AkD hi,AkD hy',AkB,AkZ,List.set_set,g1,ixS (O:xs.length<=4611686018427387904) hi,AeH (hb)]) (by intro ys;simp [HT,cK,cZ,gX,wI])]
 rfl
theorem AdM {xs:List (List Int)} (h:Bc xs<=1099511627776):Km xs xs=some true:=by
 have hl:=GA xs;unfold Km;rw [AkG Z,AaS H2 xs (by
  intro i hi;have hc:(i:Int) < (xs.length:Int):=O
  have hb:Bo xs[i]<=1099511627776:=by have:=Lc Bo (Ak1 hi);unfold Bc at h;omega
  unfold H2 gX wI;simp only [hc,decide_true,Ak4,show(0:Int)<=(i:Int) from by omega,AkE,AkD hi,AkB,ixS (O:xs.length<=4611686018427387904) hi,Aex (hb),Alt,AkR,Alg,not_true_eq_false,decide_false]) (by simp [H2,gX,wI])]
 rfl
end Go.V.G
set_option maxRecDepth 100000
namespace Go.V.G
open Go.V
theorem n1:((1:Nat):Int)=1:=rfl
theorem n4:((4:Nat):Int)=4:=rfl
def CO:Int->Nat:=λ_=>1
def Js:Int->Int->Int:=λ_ k=>IntKind.wrap .u8 k
theorem Xt:∀xs:List Int,AG CO xs=xs.length
 | []=>rfl
 | x::xs=>by simp only [AG,Xt xs,CO,AkQ];omega
theorem Aco {xs:List Int} (hl:xs.length<=1099511627776) {k:Int} (h0:0<=k) (h1:k+AG CO xs<=4611686018427387904):H3 xs k=some (mks Js CO xs k,k+AG CO xs):=by
 unfold H3;rw [VB FK Js CO xs (by
  intro ys i hi k hlen hmem h0 hk;have hc:(i:Int) < (ys.length:Int):=O
  simp only [CO]at hk;have w1:IntKind.wrap .i64 (k+1)=k+1:=w64 O O;unfold FK cK cZ wI;simp only [hc,decide_true,Ak4,show(0:Int)<=(i:Int) from by omega,AkE,AkD hi,AkB,AkZ,ixS (O:ys.length<=4611686018427387904) hi,w1,Js,CO,n1]) (by intro ys k;simp [FK,cK,cZ,wI]) h0 h1]
 rfl
theorem Ab1 {xs:List Int} (hl:xs.length<=1099511627776) {k:Int} (h0:0<=k) (h1:k+AG CO xs<=4611686018427387904):JP (mks Js CO xs k) k=some (k+AG CO xs):=by
 unfold JP;rw [VI Hc Js CO xs (by
  intro ys i hi x k hlen hmem hx h0 hk;have hc:(i:Int) < (ys.length:Int):=O
  simp only [CO]at hk;have w1:IntKind.wrap .i64 (k+1)=k+1:=w64 O O;unfold Hc gX wI;simp only [hc,decide_true,Ak4,show(0:Int)<=(i:Int) from by omega,AkE,AkD hi,AkB,hx,ixS (O:ys.length<=4611686018427387904) hi,w1,Js,CO,n1,not_true_eq_false,decide_false,AkR,Alg]) (by intro ys k;simp [Hc,gX,wI]) h0 h1]
 rfl
def BO:List Int->Nat:=λx=>AG CO x
def FN:List Int->Int->List Int:=λx k=>mks Js CO x k
theorem PH:∀xs:List (List Int),AG BO xs<=Bc xs
 | []=>Al6 _
 | x::xs=>by
  have ih:=PH xs;have hx:=Xt x;simp only [Bc,AG,AkQ,BO,Bo]at ih ⊢;omega
theorem ZD {xs:List (List Int)} (h:Bc xs<=1099511627776) {k:Int} (h0:0<=k) (h1:k+AG BO xs<=4611686018427387904):Hi xs k=some (mks FN BO xs k,k+AG BO xs):=by
 have hl:=GA xs;unfold Hi;rw [VB EP FN BO xs (by
  intro ys i hi k hlen hmem h0 hk;have hc:(i:Int) < (ys.length:Int):=O
  have hb:ys[i].length<=1099511627776:=by have:=Lc Bo hmem;have e:Bo ys[i]=ys[i].length:=rfl;unfold Bc at h;omega
  have hm:=Aco hb h0 hk;unfold EP cK cZ wI;simp only [hc,decide_true,Ak4,show(0:Int)<=(i:Int) from by omega,AkE,AkD hi,AkB,AkZ,ixS (O:ys.length<=4611686018427387904) hi,hm,FN,BO]) (by intro ys k;simp [EP,cK,cZ,wI]) h0 h1]
 rfl
theorem Ag4 (l:Int) (n:Nat):(if decide (lft l n < 0)=true then(some (-1):Option Int)else some (lft l n))=some (lft l n):=by
 by_cases h:lft l n < 0
 .rw [AkH (by simpa using h)];unfold lft at h ⊢;split at h
  .omega
  .rename_i hn;rw [AkG hn]
 .rw [AkG (by simpa using h)]
theorem Ago {b:List (List Int)} {x:Int} {y:Bool} {z:Int} (hf:KJ b) {l:Int} (h0:0<=l) (h1:l<=1048576):NR b x y z l=some (lft l (Bc b)):=by
 unfold NR;rw [Ado hf h0 h1,AkB,Ag4]
theorem AgE {b:List (List Int)} {x:Int} {y:Bool} {z:Int} (h:Bc b<=1048576):Gx b x y z=some (b,x,y,z):=by
 unfold Gx;rw [AcY h];rfl
theorem AaN {b:List (List Int)} {x:Int} {y:Bool} {z:Int} (h:Bc b<=1099511627776):FM b x y z b x y z=some true:=by
 unfold FM;simp [AdM h]
theorem Vm {b:List (List Int)} {x:Int} {y:Bool} {z:Int} (h:Bc b<=1099511627776) {k:Int} (h0:0<=k) (h1:k<=1000000000000000) :
  D8 b x y z k=some (mks FN BO b k,x,y,z,k+AG BO b):=by
 have:=PH b;unfold D8;rw [ZD h h0 O];rfl
end Go.V.G
set_option maxRecDepth 100000
namespace Go.V.G
open Go.V
abbrev Cl:=Int×(List Int×(Bool×(Int×Int)))
theorem BW {σ τ ρ:Type} (f:σ->Option (σ⊕(τ⊕ρ))) (st:Nat->σ) (p:Nat->Bool) (e:Nat->ρ) (z:τ) (n:Nat)
  (step:∀i,i < n->f (st i)=some (if p i=true then .inl (st (i+1))else .inr (.inr (e i)))) (last:f (st n)=some (.inr (.inl z))) :
  ((∀j,j < n->p j=true)/\Ab f (st 0)=some (.inl z))\/∃k,k < n/\p k=false/\(∀j,j < k->p j=true)/\Ab f (st 0)=some (.inr (e k)):=by
 by_cases h:∃k,k < n/\p k=false
 .have hf:∃k,(k < n/\p k=false)/\∀j,j < k->p j=true:=by
   obtain ⟨k,hk⟩:=h
   induction k using Nat.strongRecOn with
   | _ k ih=>
    by_cases hx:∃j,j < k/\p j=false
    .obtain ⟨j,hj,hp⟩:=hx;exact ih j hj ⟨O,hp⟩
    .refine⟨k,hk,λj hj=>?_⟩;cases hpj:p j with
     | true=>rfl
     | false=>exact absurd ⟨j,hj,hpj⟩ hx
  obtain ⟨k,⟨hk,hp⟩,hall⟩:=hf;refine .inr ⟨k,hk,hp,hall,Am f st k _ (λj hj=>?_) ?_⟩
  .rw [step j O,AkH (hall j hj)]
  .rw [step k hk,hp,AkG Z]
 .have hall:∀j,j < n->p j=true:=λj hj=>by
   cases hpj:p j with
   | true=>rfl
   | false=>exact absurd ⟨j,hj,hpj⟩ h
  exact .inl ⟨hall,Am f st n _ (λj hj=>by rw [step j hj,AkH (hall j hj)]) last⟩
def Ajy (ls:List Cl) (u:Int):Bool:=ls.any λq=>q.2.2.2.2 == u
def gl (x1:Int) (ls:List Cl) (bl:Bls) (i:Nat) (r:Cl):Bool:=
 decide (0<=r.1/\r.1 < bl.length) && (decide (0 < i->(ls[i - 1]?.getD r).1 < r.1) && (decide (r.2.1.length=128) && (decide (0<=r.2.2.2.1/\r.2.2.2.1<=100) && (decide (1<=r.2.2.2.2/\r.2.2.2.2<=x1) &&
  ((r.2.2.1 || r.2.1 == bl[r.1.toNat]?.getD []) && !(Ajy (ls.take i) r.2.2.2.2))))))
structure CD (ls:List Cl) (bl:Bls):Prop where
 n:ls.length<=1048576
 m:bl.length<=1048576
 b:∀x∈ls,x.2.1.length<=1048576/\∀y∈x.2.1,0<=y/\y<=255
 k:∀x∈bl,x.length<=1048576/\∀y∈x,0<=y/\y<=255
def gc (x0 x1:Int) (ls:List Cl) (bl:Bls) (wr lf:Int):Bool:=
 gd bl wr lf && (decide (1<=x0/\x0<=8) && (decide (0<=x1/\x1<=1000000) && (decide ((ls.length:Int)<=x0) && (List.range ls.length).all λi=>gl x1 ls bl i (ls[i]?.getD (0,[],false,0,0)))))
theorem Tl:∀{a b:List Int},(∀y∈a,0<=y/\y<=255)->(∀y∈b,0<=y/\y<=255)->AF a=AF b->a=b
 | [],[],_,_,_=>rfl
 | [],_::_,_,_,h=>by simp [AF]at h
 | _::_,[],_,_,h=>by simp [AF]at h
 | x::a,y::b,ha,hb,h=>by
  simp only [AF,Alo,AmV]at h;have h1:=ha x Z;have h2:=hb y Z;have h3:x=y:=by
   have:=congrArg UInt8.toNat h.1;simp only [UInt8.toNat_ofNat']at this;omega
  rw [h3,Tl (λz hz=>ha z (by simp [hz])) (λz hz=>hb z (by simp [hz])) h.2]
theorem Rg {a b:List Int} (ha:∀y∈a,0<=y/\y<=255) (hb:∀y∈b,0<=y/\y<=255):(AF a == AF b)=(a == b):=by
 by_cases h:a=b
 .subst h;simp
 .have:¬ AF a=AF b:=λhh=>h (Tl ha hb hh)
  rw [beq_eq_false_iff_ne.2 this,beq_eq_false_iff_ne.2 h]
theorem Ak {i:Nat} (h:i<=1048576):IntKind.wrap .i64 ((i:Int)+1)=((i+1:Nat):Int):=by rw [w64 O O];omega
theorem U8 {a b:List Int} (hn:a.length<=1048576):CB a b=some (a == b):=by
 unfold CB;by_cases hl:a.length=b.length
 .rw [AkG (by simp [hl])];rcases BW CV (λk=>(a,b,(a.length:Int),((k:Nat):Int))) (λk=>a[k]? == b[k]?) (λ_=>false) () a.length (λi hi=>by
    unfold CV gX wI;dsimp only;have hib:i < b.length:=O
    rw [AkH Aky,AkH Z,AkE,AkD hi,AkB,AkH Z,AkD hib,AkB,Ak O];by_cases he:a[i]=b[i]
    .rw [AkG (by simp [he]),AkH (by simp [he])]
    .rw [AkH (by simp [he]),AkG (by simp [he])]) (by
    unfold CV gX wI;dsimp only;rw [AkG Z])with⟨h1,h2⟩ | ⟨k,hk,h1,_,h2⟩
  .rw [show(((0:Nat):Int))=0 from rfl]at h2;rw [h2,AkB];have:a=b:=by
    refine Alz λi=>?_
    by_cases hi:i < a.length
    .simpa using h1 i hi
    .rw [Ak2 O,Ak2 O]
   simp [this]
  .rw [show(((0:Nat):Int))=0 from rfl]at h2;rw [h2,AkB];have:¬ a=b:=λh=>by subst h;simp at h1
   rw [beq_eq_false_iff_ne.2 this]
 .rw [AkH Aky];have:¬ a=b:=λh=>hl (by rw [h])
  rw [beq_eq_false_iff_ne.2 this]
structure Up (ls:List Cl) (m:Nat):Prop where
 up:∀i j (hi:i < ls.length) (hj:j < ls.length),i < j->ls[i].1 < ls[j].1
 b:∀i (hi:i < ls.length),0<=ls[i].1/\ls[i].1 < m
end Go.V.G
set_option maxRecDepth 100000
namespace Go.V.G
open Go.V
def ub (r:Int) (j:Nat):Bool:=decide ((IntKind.wrap .u8 (((BitVec.ofInt (IntKind.bits .u8) (Int.fdiv r (2 ^ (min j (IntKind.bits .u8)))) &&& BitVec.ofInt (IntKind.bits .u8) 1).toNat:Int)):Int)=1)
def sb (r:Int) (j:Nat):Int:=IntKind.wrap .u8 (((BitVec.ofInt (IntKind.bits .u8) r ||| BitVec.ofInt (IntKind.bits .u8) (IntKind.wrap .u8 (1 * 2 ^ (min j (IntKind.bits .u8))))).toNat:Int))
def bit (bits:List Int) (k:Nat):Bool:=ub (bits[k / 8]?.getD 0) (k % 8)
def setB (bits:List Int) (k:Nat):List Int:=bits.set (k / 8) (sb (bits[k / 8]?.getD 0) (k % 8))
theorem dv8 {k:Nat} (h:k<=1048576):IntKind.wrap .i64 (Int.tdiv (k:Int) 8)=((k / 8:Nat):Int):=by
 rw [Int.tdiv_eq_ediv_of_nonneg O,w64 O O];omega
theorem md8 (k:Nat):Int.tmod (k:Int) 8=((k % 8:Nat):Int):=by
 rw [Amc O];omega
theorem Akc (k:Nat):IntKind.wrap .u64 (Int.tmod (k:Int) 8)=((k % 8:Nat):Int):=by
 rw [md8,YK O O]
theorem J0 {bits:List Int} {k:Nat} (h:k<=1048576) (hk:k / 8 < bits.length):GX bits (k:Int)=some (bit bits k):=by
 unfold GX bit cK cZ gX wI wB;rw [dv8 h,Akc,AkH Z,AkH Aky,AkE,AkD hk,AkB,AkH Z,AkH Aky];rfl
theorem VA {bits:List Int} {k:Nat} (h:k<=1048576) (hk:k / 8 < bits.length) (b:Bls) (g t:List Int):DL (k:Int) b bits g t=some (bit bits k,b,bits,g,t):=by
 unfold DL bit cK cZ gX wI wB;rw [dv8 h,md8,AkH Z,AkH Aky,AkE,AkD hk,AkB,AkH Z,AkH Aky];rfl
def upG (n:Nat) (bits l:List Int) (i:Nat):Bool:=
 decide (33<=l[i]?.getD 0/\l[i]?.getD 0<=(n:Int) - 1) && (bit bits (l[i]?.getD 0).toNat && decide (0 < i->l[i - 1]?.getD 0 < l[i]?.getD 0))
def upB (n:Nat) (bits l:List Int):Bool:=(List.range l.length).all λi=>upG n bits l i
def bG (n:Nat) (bits:List Int) (k:Nat):Bool:=!((decide (k < 33) && !(bit bits k)) || (decide (n<=k) && bit bits k))
def gsp (b:Bls) (bits g t:List Int):Bool:=
 (decide (40<=b.length/\b.length<=160) && (decide (bits.length=20) && b.all (λx=>x.length == 128))) && (((List.range 160).all λk=>bG b.length bits k) && (upB b.length bits g && upB b.length bits t))
theorem all_range {p:Nat->Bool} {n:Nat}:(List.range n).all p=true↔∀i,i < n->p i=true:=by
 rw [Ak7];exact⟨λh i hi=>h i (Amd.2 hi),λh i hi=>h i (Amd.1 hi)⟩
theorem XC (n:Nat) (bits l:List Int) (i:Nat) (hi:i < l.length):upG n bits l i =
  if ¬ (33<=l[i]/\l[i]<=(n:Int) - 1)then false else if bit bits l[i].toNat=false then false else if 0 < i/\l[i]<=l[i - 1]?.getD 0 then false else true:=by
 unfold upG;rw [AkD hi,Aln];by_cases h1:33<=l[i]/\l[i]<=(n:Int) - 1
 .rw [decide_eq_true h1,AkG (not_not_intro h1),AkS];by_cases h2:bit bits l[i].toNat=false
  .rw [h2,AkH rfl];rfl
  .rw [AkG h2];have h2':bit bits l[i].toNat=true:=by simpa using h2
   rw [h2',AkS];by_cases h3:0 < i/\l[i]<=l[i - 1]?.getD 0
   .rw [AkH h3];simp;exact h3
   .rw [AkG h3];simp;omega
 .rw [decide_eq_false h1,AkH h1];rfl
theorem Ahs {b:Bls} {bits l:List Int} (hb:b.length<=160) (h40:40<=b.length) (hx:bits.length=20) (hl:l.length<=1048576) (a1:Bls) (a1':List (List Int)) (a2 a3:Int) (g t:List Int) :
  Ab EX ((b.length:Int),l,a1',a2,a3,l,(l.length:Int),0,a1,bits,g,t)=some (if upB b.length bits l=true then .inl ((b.length:Int),a1',a2,a3,a1,bits,g,t)else .inr false):=by
 rcases BW EX (λk=>((b.length:Int),l,a1',a2,a3,l,(l.length:Int),((k:Nat):Int),a1,bits,g,t)) (λk=>upG b.length bits l k) (λ_=>false) ((b.length:Int),a1',a2,a3,a1,bits,g,t) l.length (λi hi=>by
   unfold EX gX wI;dsimp only;rw [AkH Aky,AkH Z,AkE,AkD hi,AkB,XC _ _ _ _ hi,Cf,w64 (n:=(b.length:Int) - 1) O O,AkB];generalize hr:l[i]=r;by_cases h1:33<=r/\r<=(b.length:Int) - 1
   .obtain ⟨m,rfl⟩:=Ak6 (O:0<=r);rw [decide_eq_true h1,AkG Z,J0 O O,AkB,AkG (not_not_intro h1),AkE];cases h2:bit bits m with
    | false=>rw [AkH rfl];rfl
    | true=>
     rw [AkG (show ¬ (!true)=true by simp),AkG (show ¬ true=false by simp)];by_cases h0:0 < i
     .have e1:IntKind.wrap .i64 ((i:Int) - 1)=((i - 1:Nat):Int):=by rw [w64 O O];omega
      have hp:l[i - 1]?=some l[i - 1]:=AkD O;rw [AkH Aky,e1,AkH Z,AkE,hp,AkB,AkB,Aln];dsimp only;by_cases h3:(m:Int)<=l[i - 1]
      .rw [AkH (by simpa using h3),AkH (⟨h0,h3⟩:0 < i/\(m:Int)<=l[i - 1])];rfl
      .rw [AkG (by simpa using h3),AkG (show ¬ (0 < i/\(m:Int)<=l[i - 1]) from λhh=>h3 hh.2),Ak O];rfl
     .rw [AkG Aky,AkB];dsimp only;rw [AkG Z,AkG (show ¬ (0 < i/\(m:Int)<=l[i - 1]?.getD 0) from λhh=>h0 hh.1),Ak O];rfl
   .rw [decide_eq_false h1,AkH Z,AkB,AkH h1];rfl) (by
   unfold EX gX wI;dsimp only;rw [AkG Z])with⟨h1,h2⟩ | ⟨k,hk,h1,_,h2⟩
 .rw [show(((0:Nat):Int))=0 from rfl]at h2;rw [h2,show upB b.length bits l=true from all_range.2 h1];rfl
 .rw [show(((0:Nat):Int))=0 from rfl]at h2;have:upB b.length bits l=false:=by
   cases hu:upB b.length bits l with
   | false=>rfl
   | true=>have:=all_range.1 hu k hk;rw [h1]at this;cases this
  rw [h2,this];rfl
theorem Abe {b:Bls} {bits l:List Int} (hb:b.length<=160) (h40:40<=b.length) (hx:bits.length=20) (hl:l.length<=1048576) (g t:List Int) :
  C8 l b bits g t=some (upB b.length bits l,b,bits,g,t):=by
 unfold C8;rcases BW Dg (λk=>(l,l,(l.length:Int),((k:Nat):Int),b,bits,g,t)) (λk=>upG b.length bits l k) (λ_=>(false,b,bits,g,t)) (b,bits,g,t) l.length (λi hi=>by
   unfold Dg FH gX wI;dsimp only;rw [AkH Aky,AkH Z,AkE,AkD hi,AkB,XC _ _ _ _ hi,AI,w64 (n:=(b.length:Int) - 1) O O,AkB];generalize hr:l[i]=r;by_cases h1:33<=r/\r<=(b.length:Int) - 1
   .obtain ⟨m,rfl⟩:=Ak6 (O:0<=r);rw [decide_eq_true h1,AkH rfl,VA O O,AkB,AkB,AkB,AkG (not_not_intro h1),AkE];dsimp only;cases h2:bit bits m with
    | false=>rw [AkH rfl];rfl
    | true=>
     rw [AkG (show ¬ (!true)=true by simp),AkG (show ¬ true=false by simp)];by_cases h0:0 < i
     .have e1:IntKind.wrap .i64 ((i:Int) - 1)=((i - 1:Nat):Int):=by rw [w64 O O];omega
      have hp:l[i - 1]?=some l[i - 1]:=AkD O;rw [AkH Aky,e1,AkH Z,AkE,hp,AkB,AkB,Aln];dsimp only;by_cases h3:(m:Int)<=l[i - 1]
      .rw [AkH (by simpa using h3),AkH (⟨h0,h3⟩:0 < i/\(m:Int)<=l[i - 1])];rfl
      .rw [AkG (by simpa using h3),AkG (show ¬ (0 < i/\(m:Int)<=l[i - 1]) from λhh=>h3 hh.2),Ak O];rfl
     .rw [AkG Aky,AkB];dsimp only;rw [AkG Z,AkG (show ¬ (0 < i/\(m:Int)<=l[i - 1]?.getD 0) from λhh=>h0 hh.1),Ak O];rfl
   .rw [decide_eq_false h1,AkG Z,AkB,AkB,AkH h1];rfl) (by
   unfold Dg gX wI;dsimp only;rw [AkG Z])with⟨h1,h2⟩ | ⟨k,hk,h1,_,h2⟩
 .rw [show(((0:Nat):Int))=0 from rfl]at h2;rw [h2,show upB b.length bits l=true from all_range.2 h1];rfl
 .rw [show(((0:Nat):Int))=0 from rfl]at h2;have:upB b.length bits l=false:=by
   cases hu:upB b.length bits l with
   | false=>rfl
   | true=>have:=all_range.1 hu k hk;rw [h1]at this;cases this
  rw [h2,this];rfl
theorem Ac5 {n:Nat} {bits:List Int} (k:Nat):bG n bits k=if k < 33 then(if bit bits k=false then false else if n<=k then !(bit bits k)else true)else if n<=k then !(bit bits k)else true:=by
 unfold bG;by_cases h1:k < 33 <;> by_cases h2:n<=k <;> cases bit bits k <;> simp [h1,h2]
theorem Ad7 {b:Bls} {bits:List Int} (hb:b.length<=160) (hx:bits.length=20) (g t:List Int) :
  Ab Fq ((b.length:Int),0,b,bits,g,t)=some (if((List.range 160).all λk=>bG b.length bits k)=true then .inl ((b.length:Int),b,bits,g,t)else .inr false):=by
 rcases BW Fq (λk=>((b.length:Int),((k:Nat):Int),b,bits,g,t)) (λk=>bG b.length bits k) (λ_=>false) ((b.length:Int),b,bits,g,t) 160 (λi hi=>by
   unfold Fq wI;dsimp only;rw [AkH Aky,J0 O O,AkB,Ac5];by_cases h1:i < 33
   .rw [AkH Aky,AkH h1];cases h2:bit bits i with
    | false=>rw [AkH (show(!false)=true from rfl),AkH rfl];rfl
    | true=>
     rw [AkG (show ¬ (!true)=true by simp),AkG (show ¬ true=false by simp)];by_cases h3:b.length<=i
     .rw [AkH Aky,AkH h3];rfl
     .rw [AkG Aky,AkG h3,AkB];dsimp only;rw [AkG Z,Ak O];rfl
   .rw [AkG Aky,AkG h1];by_cases h3:b.length<=i
    .rw [AkH Aky,AkH h3,AkB];dsimp only;cases h2:bit bits i with
     | false=>rw [AkG Z,Ak O];rfl
     | true=>rw [AkH rfl];rfl
    .rw [AkG Aky,AkG h3,AkB];dsimp only;rw [AkG Z,Ak O];rfl) (by
   unfold Fq wI;dsimp only;rw [AkG Z])with⟨h1,h2⟩ | ⟨k,hk,h1,_,h2⟩
 .rw [show(((0:Nat):Int))=0 from rfl]at h2;rw [h2,all_range.2 h1];rfl
 .rw [show(((0:Nat):Int))=0 from rfl]at h2;have:((List.range 160).all λk=>bG b.length bits k)=false:=by
   cases hu:((List.range 160).all λk=>bG b.length bits k)with
   | false=>rfl
   | true=>have:=all_range.1 hu k hk;rw [h1]at this;cases this
  rw [h2,this];rfl
theorem AdN {b:Bls} {bits:List Int} (hb:b.length<=160) (hx:bits.length=20) (g t:List Int) :
  Ab Fe (0,b,bits,g,t)=some (if((List.range 160).all λk=>bG b.length bits k)=true then .inl (b,bits,g,t)else .inr false):=by
 rcases BW Fe (λk=>(((k:Nat):Int),b,bits,g,t)) (λk=>bG b.length bits k) (λ_=>false) (b,bits,g,t) 160 (λi hi=>by
   unfold Fe wI;dsimp only;rw [AkH Aky,VA O O,AkB,Ac5];dsimp only;by_cases h1:i < 33
   .rw [AkH Aky,AkH h1];cases h2:bit bits i with
    | false=>rw [AkH (show(!false)=true from rfl),AkH rfl];rfl
    | true=>
     rw [AkG (show ¬ (!true)=true by simp),AkG (show ¬ true=false by simp)];by_cases h3:b.length<=i
     .rw [AkH Aky,AkH h3];rfl
     .rw [AkG Aky,AkG h3,AkB];dsimp only;rw [AkG Z,Ak O];rfl
   .rw [AkG Aky,AkG h1];by_cases h3:b.length<=i
    .rw [AkH Aky,AkH h3,AkB];dsimp only;cases h2:bit bits i with
     | false=>rw [AkG Z,Ak O];rfl
     | true=>rw [AkH rfl];rfl
    .rw [AkG Aky,AkG h3,AkB];dsimp only;rw [AkG Z,Ak O];rfl) (by
   unfold Fe wI;dsimp only;rw [AkG Z])with⟨h1,h2⟩ | ⟨k,hk,h1,_,h2⟩
 .rw [show(((0:Nat):Int))=0 from rfl]at h2;rw [h2,all_range.2 h1];rfl
 .rw [show(((0:Nat):Int))=0 from rfl]at h2;have:((List.range 160).all λk=>bG b.length bits k)=false:=by
   cases hu:((List.range 160).all λk=>bG b.length bits k)with
   | false=>rfl
   | true=>have:=all_range.1 hu k hk;rw [h1]at this;cases this
  rw [h2,this];rfl
theorem Zs {b:Bls} {bits:List Int} (hb:b.length<=1048576) (n:Int) (a:Bls) (g t:List Int) :
  Ab E7 (n,b,(b.length:Int),0,a,bits,g,t)=some (if b.all (λx=>x.length == 128)=true then .inl (n,a,bits,g,t)else .inr false):=by
 rcases BW E7 (λk=>(n,b,(b.length:Int),((k:Nat):Int),a,bits,g,t)) (λk=>(b[k]?.getD []).length == 128) (λ_=>false) (n,a,bits,g,t) b.length (λi hi=>by
   unfold E7 gX wI;dsimp only;rw [AkH Aky,AkH Z,AkE,AkD hi,AkB,Aln];by_cases h1:b[i].length=128
   .rw [AkG Aky,AkH (by simpa using h1),Ak O]
   .rw [AkH Aky,AkG (by simpa using h1)]) (by
   unfold E7 gX wI;dsimp only;rw [AkG Z])with⟨h1,h2⟩ | ⟨k,hk,h1,_,h2⟩
 .rw [show(((0:Nat):Int))=0 from rfl]at h2;have:b.all (λx=>x.length == 128)=true:=by
   rw [Ak7];intro x hx;obtain ⟨j,hj,rfl⟩:=Alh hx;have:=h1 j hj;rw [AkD hj]at this;exact this
  rw [h2,this];rfl
 .rw [show(((0:Nat):Int))=0 from rfl]at h2;have:b.all (λx=>x.length == 128)=false:=by
   rw [List.all_eq_false];refine⟨b[k],Ak1 hk,?_⟩;rw [AkD hk]at h1;simpa using h1
  rw [h2,this];rfl
structure SB (b:Bls) (x y z:List Int):Prop where
 b:b.length<=1048576
 y:y.length<=1048576
 z:z.length<=1048576
theorem Nl {b:Bls} {x y z:List Int} (h:SB b x y z):Hz b x y z=some (gsp b x y z):=by
 have hb:=h.b;unfold Hz gsp;rw [Cf,AkB];by_cases h1:(40:Int)<=(b.length:Int)/\(b.length:Int)<=160
 .have h1':40<=b.length/\b.length<=160:=O
  rw [decide_eq_true h1,decide_eq_true h1',AkG Z,AkB,AkS];dsimp only;by_cases h2:x.length=20
  .rw [AkG Aky,decide_eq_true h2,AkS,Zs hb,AkB];cases h3:b.all (λx=>x.length == 128)with
   | false=>rfl
   | true=>
    rw [AkH rfl,AkS];dsimp only;rw [Ad7 O h2,AkB];cases h4:((List.range 160).all λk=>bG b.length x k)with
    | false=>rfl
    | true=>
     rw [AkH rfl,AkS];dsimp only;have step:∀(i:Nat) (l:List Int),[y,z][i]?=some l->l.length<=1048576->Hp ((b.length:Int),[y,z],2,(i:Int),b,x,y,z) =
       some (if upB b.length x l=true then .inl ((b.length:Int),[y,z],2,((i+1:Nat):Int),b,x,y,z)else .inr (.inr false)):=by
      intro i l hl hll;have hi:i < 2:=(Ald.1 hl).1;unfold Hp cK cZ wI;dsimp only;rw [AkH Aky,AkH Z,AkH Aky,AkZ,AkE,hl,AkB,Ahs h1'.2 h1'.1 h2 hll,AkB];cases upB b.length x l with
      | true=>rw [AkH rfl,AkH rfl];dsimp only;rw [Ak O]
      | false=>rfl
     have e2:((List.length [y,z]:Int))=2:=rfl;rw [e2,Ax,show(0:Int)=((0:Nat):Int) from rfl,step 0 y rfl h.y];cases h5:upB b.length x y with
     | false=>rfl
     | true=>
      rw [AkH rfl,AkS];dsimp only;rw [Ax,step 1 z rfl h.z];cases h6:upB b.length x z with
      | false=>rfl
      | true=>
       rw [AkH rfl];dsimp only;rw [Ax];unfold Hp cK cZ wI;dsimp only;rw [AkG Z];rfl
  .rw [AkH Aky,decide_eq_false h2];rfl
 .have h1':¬ (40<=b.length/\b.length<=160):=O
  rw [decide_eq_false h1,decide_eq_false h1'];rfl
theorem TD {b:Bls} (hb:b.length<=1048576):EI b=some (decide (40<=b.length/\b.length<=160) && b.all (λx=>x.length == 128)):=by
 unfold EI;refine Ok.eq (Ok.bind (Q:=λr=>r=_) ?_ (λr hr=>Ok.mk hr));refine Ok.bind_eq (AI _ _ _) ?_;refine Ok.ite (λhc=>?_) λhc=>Ok.mk ?_
 .refine Ok.bind (Q:=λr=>r = !(b.all (λb=>b.length == 128))) ?_ (λr hr=>Ok.mk ?_)
  .unfold Bb;refine(Xh hb).bind λr hr=>Ok.mk ?_
   cases ha:b.all (λb=>b.length == 128)with
   | true=>rw [ha]at hr;simpa using hr
   | false=>rw [ha]at hr;simpa using hr
  .have hc':40<=b.length/\b.length<=160:=by simp at hc;omega
   rw [hr];simp [hc']
 .have hc':¬ (40<=b.length/\b.length<=160):=by simp at hc;omega
  simp [hc']
theorem Uu {b:Bls} {x y z:List Int} (h:SB b x y z):JM b x y z=some (gsp b x y z):=by
 have hb:=h.b;unfold JM gsp;rw [TD hb,AkB];by_cases h1:40<=b.length/\b.length<=160
 .rw [decide_eq_true h1,AkS,AkS];cases h3:b.all (λx=>x.length == 128)with
  | false=>rw [AmL,Al1];rfl
  | true=>
   rw [AkG Z,AkB,Amb];dsimp only;by_cases h2:x.length=20
   .rw [AkG Aky,decide_eq_true h2,AkS,AdN h1.2 h2,AkB];cases h4:((List.range 160).all λk=>bG b.length x k)with
    | false=>rfl
    | true=>
     rw [AkH rfl,AkS];dsimp only;rw [Abe h1.2 h1.1 h2 h.y,AkB];dsimp only;cases h5:upB b.length x y with
     | false=>rfl
     | true=>rw [AkH rfl,Abe h1.2 h1.1 h2 h.z,AkB];rfl
   .rw [AkH Aky,decide_eq_false h2];rfl
 .rw [decide_eq_false h1];rfl
end Go.V.G
set_option maxRecDepth 100000
namespace Go.V.G
open Go.V
def W6 (xs:List (Int)):Prop:=xs.length<=maxLen
def W0 (xs:List (Int)):Nat:=xs.length
end Go.V.G
set_option maxRecDepth 100000
namespace Go.V.G
open Go.V
theorem ZV {xs:List (List Int)} (h:Bc xs<=1099511627776) {k:Int} (h0:0<=k) (h1:k+AG BO xs<=4611686018427387904):IK (mks FN BO xs k) k=some (k+AG BO xs):=by
 have hl:=GA xs;unfold IK;rw [VI Gp FN BO xs (by
  intro ys i hi x k hlen hmem hx h0 hk;have hc:(i:Int) < (ys.length:Int):=O
  have hb:x.length<=1099511627776:=by have:=Lc Bo hmem;have e:Bo x=x.length:=rfl;unfold Bc at h;omega
  have hm:=Ab1 hb h0 hk;simp only [BO]at hk;have hn:¬ (k+(AG CO x:Int) < 0):=O
  unfold Gp gX wI;simp only [hc,decide_true,Ak4,show(0:Int)<=(i:Int) from by omega,AkE,AkD hi,AkB,hx,ixS (O:ys.length<=4611686018427387904) hi,hm,FN,BO,hn,decide_false,AkR,Alg]) (by intro ys k;simp [Gp,gX,wI]) h0 h1]
 rfl
structure FitS (b:List (List Int)) (x y z:List Int):Prop where
 b:KJ b
 x:P8 x
 y:W6 y
 z:W6 z
def AaX (b:List (List Int)) (x y z:List Int):Nat:=Bc b+Bo x+W0 y+W0 z
end Go.V.G
set_option maxRecDepth 100000
namespace Go.V.G
open Go.V
def Ris (l:List Int):Prop:=∀i j (hi:i < l.length) (hj:j < l.length),i < j->l[i] < l[j]
theorem GB {n:Nat} {bits l:List Int} (h:upB n bits l=true):Ris l/\∀i (hi:i < l.length),33<=l[i]/\l[i]<=(n:Int) - 1/\bit bits l[i].toNat=true:=by
 have hg:∀i (hi:i < l.length),(33<=l[i]/\l[i]<=(n:Int) - 1)/\bit bits l[i].toNat=true/\(0 < i->l[i - 1]?.getD 0 < l[i]):=λi hi=>by
  have:=all_range.1 h i hi;unfold upG at this;rw [AkD hi,Aln]at this;simp only [AkI,decide_eq_true_eq]at this;exact this
 refine⟨λi j hi hj hij=>?_,λi hi=>⟨(hg i hi).1.1,(hg i hi).1.2,(hg i hi).2.1⟩⟩
 induction j with
 | zero=>omega
 | succ j ih=>
  have h1:=(hg (j+1) hj).2.2 O;rw [show j+1 - 1=j from rfl,AkD O,Aln]at h1;by_cases hjj:i=j
  .subst hjj;exact h1
  .have:=ih O O;omega
structure Spot (l:List Int) (n:Int) (k:Nat):Prop where
 le:k<=l.length
 lo:∀j (h:j < l.length),j < k->l[j] < n
 hi:∀j (h:j < l.length),k<=j->n<=l[j]
theorem Spot.one {l:List Int} {n:Int} {k m:Nat} (h:Spot l n k) (h':Spot l n m):k=m:=by
 rcases Nat.lt_trichotomy k m with hl | hl | hl
 .have h1:=h.hi k (by have:=h'.le;omega) (Ak9 _);have h2:=h'.lo k (by have:=h'.le;omega) hl;omega
 .exact hl
 .have h1:=h'.hi m (by have:=h.le;omega) (Ak9 _);have h2:=h.lo m (by have:=h.le;omega) hl;omega
def Pq (l:List Int) (n:Int) (k:Nat):List Int:=if l[k]?=some n then l else l.take k++([n]++l.drop k)
theorem Aem {l:List Int} (hl:l.length<=1048576) (hr:Ris l) (n:Int):∃k,Spot l n k/\Dc l n=some (Pq l n k):=by
 unfold Dc cK cZ sX;have hloop:Ok (Ab N1 (l,n,0)) λv=>∃k:Nat,Spot l n k/\v=(l,n,(k:Int)):=by
  refine Ok.loop (λy=>∃k:Nat,k<=l.length/\(∀j (h:j < l.length),j < k->l[j] < n)/\y=(l,n,(k:Int))) (λy=>((l.length:Int) - y.2.2).toNat) ⟨0,O,λj h hj=>absurd hj O,rfl⟩ ?_;rintro _ ⟨k,hk,hlo,rfl⟩;unfold N1 cK cZ wI;dsimp only;by_cases hlt:k < l.length
  .rw [AkH Aky,AkH Z,AkH Aky,AkZ,AkE,AkD hlt,AkB,AkB];dsimp only;by_cases hc:l[k] < n
   .rw [AkH (by simpa using hc),Ak O];refine Ok.mk ⟨⟨k+1,O,λj h hj=>?_,rfl⟩,AkA⟩;by_cases hjk:j=k
    .subst hjk;exact hc
    .exact hlo j h O
   .rw [AkG (by simpa using hc)];refine Ok.mk ⟨k,⟨hk,hlo,λj h hj=>?_⟩,rfl⟩;by_cases hjk:j=k
    .subst hjk;omega
    .have:=hr k j hlt h O;omega
  .rw [AkG Aky,AkB];exact Ok.mk ⟨k,⟨hk,hlo,λj h hj=>absurd h O⟩,rfl⟩
 obtain ⟨v,hv,k,hs,rfl⟩:=hloop;refine⟨k,hs,?_⟩;have hk:=hs.le;rw [hv,AkB];dsimp only;have ins:∀(c:Bool),c=false->(if c=true then some l else
   if(decide ((0:Int)<=0))=true then
   if(decide ((0:Int)<=(k:Int)))=true then
   if(decide (((k:Int):Int)<=(List.length l:Int)))=true then
   if(decide (((List.length l:Int):Int)<=(List.length l:Int)))=true then
   if(Aa (List.length ([]:List Int)+List.length ((l.drop (Int.toNat 0)).take (Int.toNat (k:Int) - Int.toNat 0))) 8)=true then
   if(Aa (List.length (([]:List Int)++((l.drop (Int.toNat 0)).take (Int.toNat (k:Int) - Int.toNat 0)))+List.length ([n]:List Int)) 8)=true then
   if(decide ((0:Int)<=(k:Int)))=true then
   if(decide (((k:Int):Int)<=(List.length l:Int)))=true then
   if(decide (((List.length l:Int):Int)<=(List.length l:Int)))=true then
   if(decide (((List.length l:Int):Int)<=(List.length l:Int)))=true then
   if(Aa (List.length ((([]:List Int)++((l.drop (Int.toNat 0)).take (Int.toNat (k:Int) - Int.toNat 0)))++([n]:List Int))+List.length ((l.drop (Int.toNat (k:Int))).take (Int.toNat (List.length l:Int) - Int.toNat (k:Int)))) 8)=true then
   some (((([]:List Int)++((l.drop (Int.toNat 0)).take (Int.toNat (k:Int) - Int.toNat 0)))++([n]:List Int))++((l.drop (Int.toNat (k:Int))).take (Int.toNat (List.length l:Int) - Int.toNat (k:Int))))
   else none else none else none else none else none else none else none else none else none else none else none)=some (l.take k++([n]++l.drop k)):=by
  rintro c rfl;have r1:∀m:Nat,m<=1048577->Aa m 8=true:=λm hm=>by simp only [Aa,decide_eq_true_eq];omega
  rw [AkG Z,AkH Z,AkH Z,AkH Aky,AkH Z,AkH (r1 _ Aky),AkH (r1 _ Aky),AkH Z,AkH Aky,AkH Z,AkH Z,AkH (r1 _ Aky)];refine congrArg some ?_;simp only [AkE,Ala,AkN];rw [show Int.toNat 0=0 from rfl,AlH,Amt,Alr (l:=l.drop k) Z]
 unfold Pq;by_cases hlt:k < l.length
 .rw [AkH Aky,AkH Z,AkH Aky,AkZ,AkE,AkD hlt,AkB,AkB];dsimp only;by_cases hc:l[k]=n
  .rw [AkH (by simpa using hc),AkH (by rw [hc])]
  .rw [AkG (show ¬ (some l[k]=some n) by simpa using hc)];exact ins _ (by simpa using hc)
 .rw [AkG Aky,AkB,AkG (show ¬ (l[k]?=some n) by rw [Ak2 O];simp)];exact ins false rfl
theorem AgA (a b:Int):IP a b=some (decide (a < b)):=by
 unfold IP HS;simp
theorem Ai4 {l:List Int} (hl:l.length<=1048576) (hr:Ris l) (n:Int):∃k,Spot l n k/\Cw l n=some (((k:Nat):Int),decide (l[k]?=some n)):=by
 unfold Cw gX;have hloop:Ok (Ab C4 (l,n,(l.length:Int),0,(l.length:Int))) (λr=>∃k,Spot l n k/\r=(l,n,(l.length:Int),((k:Nat):Int))):=by
  refine Ok.loop (λy=>∃a b:Nat,a<=b/\b<=l.length/\(∀j (h:j < l.length),j < a->l[j] < n)/\(∀j (h:j < l.length),b<=j->n<=l[j])/\y=(l,n,(l.length:Int),(a:Int),(b:Int)))
   (λy=>(y.2.2.2.2 - y.2.2.2.1).toNat) ⟨0,l.length,O,O,λj h h2=>absurd h2 O,λj h h2=>absurd h2 O,rfl⟩ ?_
  rintro _ ⟨a,b,hab,hb,h1,h2,rfl⟩;unfold C4 cZ gX wI;dsimp only;refine Ok.ite (λhc=>?_) λhc=>?_
  .have hlt:a < b:=by simpa using hc
   have e1:IntKind.wrap .i64 (Int.fdiv (IntKind.wrap .u64 (IntKind.wrap .i64 ((a:Int)+(b:Int)))) (2 ^ (min (Int.toNat 1) (IntKind.bits .u64))))=(((a+b) / 2:Nat):Int):=by
    rw [w64 (n:=(a:Int)+(b:Int)) O O,YK O O,show(2:Int) ^ (min (Int.toNat 1) (IntKind.bits .u64))=2 from rfl,AmF _ O,w64 O O];omega
   rw [e1];have hk:(a+b) / 2 < l.length:=O
   refine Ok.yes Z (Ok.yes Aky ?_);rw [AkE];refine Ok.bind_eq (AkD hk) (Ok.bind_eq (AgA _ _) ?_);by_cases hlt2:l[(a+b) / 2] < n
   .refine Ok.bind_eq (AkH (by simpa using hlt2)) (Ok.mk ⟨⟨(a+b) / 2+1,b,O,hb,λj h hj=>?_,h2,?_⟩,?_⟩)
    .by_cases hjj:j=(a+b) / 2
     .subst hjj;exact hlt2
     .have:=hr j _ h hk O;omega
    .rw [Ak O]
    .dsimp only;rw [Ak O];omega
   .refine Ok.bind_eq (AkG (by simpa using hlt2)) (Ok.mk ⟨⟨a,(a+b) / 2,O,O,h1,λj h hj=>?_,rfl⟩,?_⟩)
    .by_cases hjj:j=(a+b) / 2
     .subst hjj;omega
     .have:=hr _ j hk h O;omega
    .dsimp only;omega
  .have hlt:a=b:=by simp at hc;omega
   subst hlt;exact Ok.mk ⟨a,⟨hb,h1,h2⟩,rfl⟩
 obtain ⟨r,hr',k,hs,rfl⟩:=hloop;refine⟨k,hs,?_⟩;rw [hr',AkB];dsimp only;by_cases hlt:k < l.length
 .rw [AkH Aky,AkH Z,AkE,AkD hlt,AkB];by_cases hc:l[k]=n
  .rw [AkH (by simpa using hc),AkB,hc];simp
  .rw [AkG (by simpa using hc),AkH Z,AkB];unfold FT;simp [hc]
 .rw [AkG Aky,AkB,Ak2 O];simp
theorem Z1 {l:List Int} (hl:l.length<=1048576) (hr:Ris l) (n:Int):∃k,Spot l n k/\H5 l n=some (Pq l n k):=by
 obtain ⟨k,hs,hb⟩:=Ai4 hl hr n;refine⟨k,hs,?_⟩;have hk:=hs.le;unfold H5 Pq;rw [hb,AkB];dsimp only;by_cases hc:l[k]?=some n
 .rw [AkH (by simpa using hc),AkH hc]
 .rw [AkG (by simpa using hc),AkG hc];unfold ET;rw [AkH ⟨O,by rw [AkE];exact hk,Z,Aky⟩,AkB,AkE]
theorem Ab6 {x:List Int} (h:x.length<=1048576):DP x=some x:=by
 unfold DP cK;have hr:Aa (List.length ([]:List Int)+List.length x) 8=true:=by
  simp only [Alc,Aa,decide_eq_true_eq];omega
 cases x with
 | nil=>simp [IU,Aa]
 | cons a x=>simp only [IU,List.isEmpty_cons,AkR,Alg,AkB,hr,Ak4,Ala]
structure GS (b:Bls) (x y z:List Int):Prop where
 hb:40<=b.length/\b.length<=160
 hx:x.length=20
 hk:∀c∈b,c.length=128
 hbits:∀i,i < 160->bG b.length x i=true
 hy:upB b.length x y=true
 hz:upB b.length x z=true
theorem Qx {b:Bls} {x y z:List Int} (h:gsp b x y z=true):GS b x y z:=by
 unfold gsp at h;simp only [AkI,decide_eq_true_eq]at h;obtain ⟨⟨h1,h2,h3⟩,h4,h5,h6⟩:=h;refine⟨h1,h2,λc hc=>?_,all_range.1 h4,h5,h6⟩;have:=Ak7.1 h3 c hc;simpa using this
theorem GS.bd {b:Bls} {x y z:List Int} (g:GS b x y z):Bd b:=⟨by have:=g.hb;omega,λc hc=>by have:=g.hk c hc;omega⟩
def CG:List Int:=List.replicate 128 0
end Go.V.G
set_option maxRecDepth 100000
namespace Go.V.G
open Go.V
theorem SU {r:Int} (h0:0<=r) (h1:r<=255):(BitVec.ofInt (IntKind.bits .u8) r).toNat=r.toNat:=by
 obtain ⟨n,rfl⟩:=Ak6 h0;show(BitVec.ofInt (IntKind.bits .u8) (n:Int)).toNat=Int.toNat (n:Int);rw [BitVec.ofInt_natCast,BitVec.toNat_ofNat,show IntKind.bits .u8=8 from rfl,AkE];omega
theorem wub {r:Int} (h0:0<=r) (h1:r<=255):IntKind.wrap .u8 r=r:=by rw [IntKind.wrap_u8];omega
theorem Aak {r:Int} (h0:0<=r) (h1:r<=255) {j:Nat} (hj:j < 8):ub r j=r.toNat.testBit j:=by
 obtain ⟨n,rfl⟩:=Ak6 h0;have hn:n<=255:=O
 unfold ub;rw [show min j (IntKind.bits .u8)=j from by show min j 8=j;omega,AmF _ (by exact Int.le_of_lt (Int.pow_pos Akz))];have hp:(2:Int) ^ j=((2 ^ j:Nat):Int):=by norm_cast
 rw [hp];have hq:(n:Int) / ((2 ^ j:Nat):Int)=((n / 2 ^ j:Nat):Int):=by norm_cast
 rw [hq];have hle:n / 2 ^ j<=255:=Ale (AmW _ _) hn;show _=Nat.testBit (Int.toNat (n:Int)) j;rw [AkE,Nat.testBit_eq_decide_div_mod_eq];generalize n / 2 ^ j=q at hle;rw [BitVec.toNat_and,SU O O,SU O O,AkE,show(1:Int).toNat=1 from rfl,Nat.and_one_is_mod,wub O O];by_cases h:q % 2=1
 .rw [decide_eq_true h,decide_eq_true O]
 .rw [decide_eq_false h,decide_eq_false O]
theorem Aeq {r:Int} (h0:0<=r) (h1:r<=255) {j:Nat} (hj:j < 8):sb r j=((r.toNat ||| 2 ^ j:Nat):Int)/\r.toNat ||| 2 ^ j<=255:=by
 have hr:r.toNat < 2 ^ 8:=O
 have hj2:2 ^ j < 2 ^ 8:=Nat.pow_lt_pow_right Akz hj;have hor:r.toNat ||| 2 ^ j < 2 ^ 8:=Nat.or_lt_two_pow hr hj2;have hp:(2:Int) ^ j=((2 ^ j:Nat):Int):=by norm_cast
 unfold sb;rw [show min j (IntKind.bits .u8)=j from by show min j 8=j;omega,Int.one_mul,hp];clear hp;generalize 2 ^ j=p at hj2 hor ⊢;rw [wub (r:=(p:Int)) O O,BitVec.toNat_or,SU h0 h1,SU O O,AkE,wub O O];exact⟨rfl,O⟩
def U8s (x:List Int):Prop:=∀v∈x,0<=v/\v<=255
theorem Qy {x:List Int} (hu:U8s x) {k j:Nat} (hk:k / 8 < x.length) (hj:j / 8 < x.length):bit (setB x k) j=(decide (j=k) || bit x j):=by
 unfold bit setB;have hgk:x[k / 8]?=some x[k / 8]:=AkD hk;have hgj:x[j / 8]?=some x[j / 8]:=AkD hj;have uk:=hu _ (Ak1 hk);have uj:=hu _ (Ak1 hj);rw [hgk,Aln];by_cases hd:j / 8=k / 8
 .rw [hd,Al7 hk,Aln,hgk,Aln];obtain ⟨e1,e2⟩:=Aeq uk.1 uk.2 (Nat.mod_lt k Akz);rw [e1,Aak O O (Nat.mod_lt j Akz),Aak uk.1 uk.2 (Nat.mod_lt j Akz),AkE,Nat.testBit_or,Nat.testBit_two_pow];by_cases hjk:j=k
  .subst hjk;simp
  .have:¬ (k % 8=j % 8):=O
   rw [decide_eq_false hjk,decide_eq_false this];simp
 .have hjk:¬ j=k:=by rintro rfl;exact hd rfl
  rw [List.getElem?_set_ne (Ne.symm hd),decide_eq_false hjk,AlT]
theorem AhJ {x:List Int} (hu:U8s x) {k:Nat} (hk:k / 8 < x.length):U8s (setB x k):=by
 intro v hv;unfold setB at hv;rcases AlC hv with hv | rfl
 .exact hu v hv
 .have uk:=hu _ (Ak1 hk);rw [AkD hk,Aln];obtain ⟨e1,e2⟩:=Aeq uk.1 uk.2 (Nat.mod_lt k Akz);rw [e1];omega
def cnt (x:List Int):Nat->Nat
 | 0=>0
 | n+1=>cnt x n+(if bit x n=true then 0 else 1)
theorem ris_iff {l:List Int}:Ris l↔l.Pairwise (· < ·):=by
 rw [List.pairwise_iff_getElem];exact⟨λh i j hi hj hij=>h i j hi hj hij,λh i j hi hj hij=>h i j hi hj hij⟩
theorem AgO {l:List Int} (hr:Ris l) {n:Int} {k:Nat} (hs:Spot l n k):Ris (Pq l n k):=by
 unfold Pq;split
 .exact hr
 .rename_i hne;rw [ris_iff]at hr ⊢;have hlo:∀v∈l.take k,v < n:=by
   intro v hv;obtain ⟨j,hj,rfl⟩:=Alh hv;rw [AkL]at hj;rw [List.getElem_take];exact hs.lo j O O
  have hhi:∀v∈l.drop k,n < v:=by
   intro v hv;obtain ⟨j,hj,rfl⟩:=Alh hv;rw [Ak5]at hj;rw [List.getElem_drop];have hkj:k+j < l.length:=O
   have h1:=hs.hi (k+j) hkj O;by_cases hj0:j=0
   .subst hj0;have:l[k]?=some l[k]:=AkD O;have hne':¬ l[k]=n:=λhh=>hne (by rw [this,hh])
    simp only [Al4]at h1 ⊢;omega
   .have hk0:k < l.length:=O
    have h2:=hs.hi k hk0 (Ak9 _);have h3:=(ris_iff.2 hr) k (k+j) hk0 hkj O;omega
  rw [Amm];refine⟨hr.sublist (List.take_sublist _ _),?_,?_⟩
  .rw [Amm];refine⟨Z,hr.sublist (List.drop_sublist _ _),?_⟩;intro a ha b hb;simp only [AkM]at ha;subst ha;exact hhi b hb
  .intro a ha b hb;have h1:=hlo a ha;rcases AkK.1 hb with hb | hb
   .simp only [AkM]at hb;subst hb;exact h1
   .have:=hhi b hb;omega
structure Wk (n:Nat) (b:Bls) (x z:List Int) (lz:Nat):Prop where
 hn:40<=n/\n<=160
 hb:b.length=n
 hk:∀c∈b,c.length=128
 hx:x.length=20
 hu:U8s x
 hlow:∀k,k < 33->bit x k=true
 hr:Ris z
 hz:z.length<=lz
end Go.V.G
set_option maxRecDepth 100000
namespace Go.V.G
open Go.V
def nd (n:Nat):Nat:=if n=0 then 1 else(n+123) / 124
def Aje (data list:List Int) (i:Nat):List Int:=
 let own:=(data.drop (124 * i)).take 124
 let next:=if i+1 < list.length then list[i+1]?.getD 0 else 0
 let hd:=[82,IntKind.wrap .u8 (next / 256),IntKind.wrap .u8 next,IntKind.wrap .u8 (own.length:Int)]++own
 hd++List.replicate (128 - hd.length) 0
theorem QF {l:List Int} (hr:Ris l) (hb:∀i (h:i < l.length),33<=l[i]/\l[i]<=159):l.length<=127:=by
 have key:∀i (h:i < l.length),33+(i:Int)<=l[i]:=by
  intro i
  induction i with
  | zero=>intro h;have:=hb 0 h;omega
  | succ i ih=>intro h;have h1:=ih O;have h2:=hr i (i+1) O h O;omega
 refine Classical.byContradiction λhn=>?_
 have h1:=key 127 O;have h2:=hb 127 O;omega
end Go.V.G
set_option maxRecDepth 100000
namespace Go.V.G
open Go.V
theorem PQ {l:List Int} (hl:l.length<=1048576) (hr:Ris l) (n:Int):∃z,Dc l n=some z/\H5 l n=some z/\z.length<=l.length+1/\Ris z/\∀v,v∈z↔v∈l\/v=n:=by
 obtain ⟨k,hs,h1⟩:=Aem hl hr n;obtain ⟨m,ht,h2⟩:=Z1 hl hr n;obtain rfl:=hs.one ht;refine⟨_,h1,h2,?_,AgO hr hs,λv=>?_⟩
 .unfold Pq;split
  .omega
  .have:=hs.le;simp;omega
 .unfold Pq;split
  .rename_i h;have hm:=All h;exact⟨.inl,λh'=>h'.elim id λe=>by rw [e];exact hm⟩
  .have e:v∈l↔v∈l.take k\/v∈l.drop k:=by
    rw [<- AkK,Als]
   rw [e];simp only [AkK,AkM];constructor
   .rintro (h | h | h)
    .exact .inl (.inl h)
    .exact .inr h
    .exact .inl (.inr h)
   .rintro ((h | h) | h)
    .exact .inl h
    .exact .inr (.inr h)
    .exact .inr (.inl h)
structure Wq (b:Bls) (x z:List Int) (lz:Nat):Prop where
 hb:39<=b.length/\b.length<=160
 hx:x.length=20
 hu:U8s x
 hr:Ris z
 hz:z.length<=lz
theorem Wq.take {b:Bls} {x z:List Int} {lz:Nat} (h:Wq b x z lz) (hlz:lz<=1048000) {k:Nat} (hk:k < b.length) {z':List Int} (hz':Dc z (k:Int)=some z'):Wq (b.set k CG) (setB x k) z' (lz+1):=by
 have hbl:=h.hb;have hx:=h.hx;have hz:=h.hz;obtain ⟨z2,e1,_,e2,e3,_⟩:=PQ O h.hr (k:Int);rw [e1]at hz';obtain rfl:=AlR hz';exact⟨by rw [AlB];exact hbl,by unfold setB;rw [AlB];exact hx,AhJ h.hu O,e3,O⟩
theorem TM (n:Int):0<=IntKind.wrap .u8 n/\IntKind.wrap .u8 n<=255:=by rw [IntKind.wrap_u8];omega
end Go.V.G
set_option maxRecDepth 100000
namespace Go.V.G
open Go.V
theorem RL {l:List Int} {n:Int} (hl:l.length<=1048576):Ok (DO l n) λr=>(0<=r↔n∈l):=by
 unfold DO;refine Ok.bind (Q:=λr=>(r=.inl ()/\n∉l)\/∃k:Int,r=.inr k/\0<=k/\n∈l) ?_ ?_
 .refine Ok.loop (λy=>∃k:Nat,k<=l.length/\y=(l,n,(l.length:Int),(k:Int))/\∀j (h:j < l.length),j < k->l[j]≠n) (λy=>(y.2.2.1 - y.2.2.2).toNat) ⟨0,O,rfl,λj _ h=>by omega⟩ ?_;rintro _ ⟨k,hk,rfl,hn⟩;unfold Hs gX wI;dsimp only;refine Ok.ite (λhc=>?_) λhc=>Ok.mk (.inl ⟨rfl,λhm=>?_⟩)
  .have hlt:k < l.length:=by simpa using hc
   have hg:l[Int.toNat (k:Int)]?=some l[k]:=by simp [hlt]
   have e1:=Ak (i:=k) O;refine Ok.yes Z (Ok.bind_eq hg (Ok.ite (λhe=>Ok.mk (.inr ⟨_,rfl,O,?_⟩)) λhe=>Ok.mk ⟨⟨k+1,O,by rw [e1],λj hj hjk=>?_⟩,?_⟩))
   .have he':n=l[k]:=by simpa using he
    rw [he'];exact Ak1 _
   .by_cases hjk':j=k
    .subst hjk';intro hh;exact he (by simp [hh])
    .exact hn j hj O
   .dsimp only;rw [e1];omega
  .obtain ⟨j,hj,he⟩:=Alh hm;have:¬ k < l.length:=by simpa using hc
   exact hn j hj O he
 .rintro r (⟨rfl,h⟩ | ⟨k,rfl,h0,h⟩)
  .exact Ok.mk (by simp [h])
  .exact Ok.mk ⟨λ_=>h,λ_=>h0⟩
theorem Z6 {l:List Int} {n:Int} (hl:l.length<=1048576):Ok (AL l n) λr=>(r=true↔n∈l):=by
 unfold AL;exact(RL hl).bind λr hr=>Ok.mk (by rw [<- hr];simp)
theorem Nk {n:Nat} {bits l:List Int} (hr:Ris l) (h:∀v∈l,33<=v/\v<=(n:Int) - 1/\bit bits v.toNat=true):upB n bits l=true:=by
 refine all_range.2 λi hi=>?_
 rw [XC n bits l i hi];have hm:=h l[i] (Ak1 _);rw [AkG (λhn=>hn ⟨hm.1,hm.2.1⟩),AkG (by rw [hm.2.2];simp),AkG];rintro ⟨h0,h1⟩;rw [AkD O,Aln]at h1;have:=hr (i - 1) i O hi O;omega
theorem SI {n:Nat} {bits l:List Int} (h:upB n bits l=true):∀v∈l,33<=v/\v<=(n:Int) - 1/\bit bits v.toNat=true:=by
 intro v hv;obtain ⟨i,hi,rfl⟩:=Alh hv;exact(GB h).2 i hi
theorem GS.take {b:Bls} {x y z:List Int} (g:GS b x y z) (hu:U8s x) {k:Nat} (hk:33<=k/\k < b.length) {z':List Int} (hzl:z.length<=1048000) (hz':Dc z (k:Int)=some z'):GS (b.set k CG) (setB x k) y z'/\(k:Int)∈z'/\z'.length<=z.length+1/\bit (setB x k) k=true:=by
 have hb:=g.hb;have hx:=g.hx;obtain ⟨z2,e1,_,e2,e3,e4⟩:=PQ O (GB g.hz).1 (k:Int);rw [e1]at hz';obtain rfl:=AlR hz';have hs:∀j,j < 160->bit (setB x k) j=(decide (j=k) || bit x j):=λj hj=>Qy hu O O
 have hup:∀v:Int,33<=v/\v<=(b.length:Int) - 1/\bit x v.toNat=true->33<=v/\v<=((b.set k CG).length:Int) - 1/\bit (setB x k) v.toNat=true:=λv ⟨h1,h2,h3⟩=>
  ⟨h1,by rw [AlB];exact h2,by rw [hs _ O,h3,AmY]⟩
 refine⟨⟨by rw [AlB];exact hb,by unfold setB;rw [AlB];exact hx,λc hc=>?_,λi hi=>?_,?_,?_⟩,(e4 _).2 (.inr rfl),e2,by rw [hs k O];simp⟩
 .rcases AlC hc with hc | rfl
  .exact g.hk c hc
  .rfl
 .rw [AlB];have:=g.hbits i hi;unfold bG at this ⊢;rw [hs i hi];by_cases hik:i=k
  .subst hik;simp;omega
  .simpa [hik] using this
 .exact Nk (GB g.hy).1 λv hv=>hup v (SI g.hy v hv)
 .refine Nk e3 λv hv=>?_
  rcases (e4 v).1 hv with hv | rfl
  .exact hup v (SI g.hz v hv)
  .exact⟨O,by rw [AlB];omega,by rw [hs _ O];simp⟩
end Go.V.G
set_option maxRecDepth 100000
namespace Go.V.G
open Go.V
theorem AdJ {x:List Int} {n:Nat} (hx:x.length<=1048576) (hn:n<=x.length):Ok (Ea x ((n:Nat):Int)) λr=>(r=true↔∀v∈x.drop n,v=0):=by
 unfold Ea sX;refine Ok.yes Z (Ok.yes Aky (Ok.yes Z (Ok.yes Z ?_)));have e:(List.drop (Int.toNat (n:Int)) x).take (Int.toNat (List.length x:Int) - Int.toNat (n:Int))=x.drop n:=by
  rw [AkE,AkE];exact Alr (by rw [Ak5];omega)
 rw [e];have hl:(x.drop n).length<=1048576:=by rw [Ak5];omega
 generalize x.drop n=l at hl;refine Ok.bind (Q:=λr=>(r=.inl ()/\∀v∈l,v=0)\/(r=.inr false/\¬ ∀v∈l,v=0)) ?_ ?_
 .refine Ok.loop (λy=>∃k:Nat,k<=l.length/\y=(l,(l.length:Int),(k:Int))/\∀j (h:j < l.length),j < k->l[j]=0) (λy=>(y.2.1 - y.2.2).toNat) ⟨0,O,rfl,λj _ h=>by omega⟩ ?_;rintro _ ⟨k,hk,rfl,hz⟩;unfold Rb gX wI;dsimp only;refine Ok.ite (λhc=>?_) λhc=>Ok.mk (.inl ⟨rfl,λv hv=>?_⟩)
  .have hlt:k < l.length:=by simpa using hc
   have hg:l[Int.toNat (k:Int)]?=some l[k]:=by simp [hlt]
   have e1:=Ak (i:=k) O;refine Ok.yes Z (Ok.bind_eq hg (Ok.ite (λhe=>Ok.mk (.inr ⟨rfl,λhall=>?_⟩)) λhe=>Ok.mk ⟨⟨k+1,O,by rw [e1],λj hj hjk=>?_⟩,?_⟩))
   .have:¬ l[k]=0:=by simpa using he
    exact this (hall _ (Ak1 _))
   .by_cases hjk':j=k
    .subst hjk';simpa using he
    .exact hz j hj O
   .dsimp only;rw [e1];omega
  .obtain ⟨j,hj,rfl⟩:=Alh hv;have:¬ k < l.length:=by simpa using hc
   exact hz j hj O
 .rintro r (⟨rfl,h⟩ | ⟨rfl,h⟩)
  .exact Ok.mk (by simpa using h)
  .exact Ok.mk ⟨λhh=>(by cases hh),λhh=>absurd hh h⟩
end Go.V.G
set_option maxRecDepth 100000
namespace Go.V.G
open Go.V
def gb (c:List Int) (i:Nat):Int:=c[i]?.getD 0
def blk (b:Bls) (i:Nat):List Int:=b[i]?.getD []
theorem Ai {c:List Int} {i:Nat} (h:i < c.length):c[i]?=some (gb c i):=by unfold gb;rw [AkD h];rfl
theorem Bu {b:Bls} {i:Nat} (h:i < b.length):b[i]?=some (blk b i):=by unfold blk;rw [AkD h];rfl
theorem iy {α:Type} {p:Prop} [Decidable p] {a b:α} (h:p):(if decide p=true then a else b)=a:=by rw [AkH (by simpa using h)]
theorem ino {α:Type} {p:Prop} [Decidable p] {a b:α} (h:¬ p):(if decide p=true then a else b)=b:=by rw [AkG (by simpa using h)]
structure RS (b:Bls) (x y:List Int):Prop where
 hn:40<=b.length/\b.length<=160
 hk:∀c∈b,c.length=128
 hu:∀c∈b,U8s c
 hx:x.length=20
 hy:y.length<=1048576
theorem BF {b:Bls} {i:Nat} (h:i < b.length):blk b i∈b:=All (Bu h)
theorem RS.len {b:Bls} {x y:List Int} (g:RS b x y) {i:Nat} (h:i < b.length):(blk b i).length=128:=g.hk _ (BF h)
theorem DV {c:List Int} (h:U8s c) (j:Nat):0<=gb c j/\gb c j<=255:=by
 by_cases hj:j < c.length
 .exact h _ (All (Ai hj))
 .unfold gb;rw [Ak2 O];simp
theorem RS.u8 {b:Bls} {x y:List Int} (g:RS b x y) {i:Nat} (h:i < b.length) (j:Nat):0<=gb (blk b i) j/\gb (blk b i) j<=255:=DV (g.hu _ (BF h)) j
def liv (b:Bls) (x y:List Int) (a:Int):Bool:=decide (33<=a/\a<=(b.length:Int) - 1) && (bit x a.toNat && !decide (a∈y))
theorem Cp {b:Bls} {x y:List Int} {a:Int} (h:liv b x y a=true):∃m:Nat,a=(m:Int)/\33<=m/\m < b.length/\bit x m=true/\(m:Int)∉y:=by
 unfold liv at h;simp only [AkI,decide_eq_true_eq,AkP,decide_eq_false_iff_not]at h;obtain ⟨⟨h1,h2⟩,h3,h4⟩:=h;obtain ⟨m,rfl⟩:=Ak6 (O:0<=a);exact⟨m,rfl,O,O,by simpa using h3,h4⟩
theorem GW {l:List Int} {n:Int} (hl:l.length<=1048576):Gf l n=some (decide (n∈l)):=by
 unfold Gf;refine Ok.eq (Ok.bind (Q:=λr=>(r=.inl ()/\n∉l)\/(r=.inr true/\n∈l)) ?_ ?_)
 .refine Ok.loop (λy=>∃k:Nat,k<=l.length/\y=(n,l,(l.length:Int),(k:Int))/\∀j (h:j < l.length),j < k->l[j]≠n) (λy=>(y.2.2.1 - y.2.2.2).toNat) ⟨0,O,rfl,λj _ h=>by omega⟩ ?_;rintro _ ⟨k,hk,rfl,hn⟩;unfold Th gX wI;dsimp only;refine Ok.ite (λhc=>?_) λhc=>Ok.mk (.inl ⟨rfl,λhm=>?_⟩)
  .have hlt:k < l.length:=by simpa using hc
   have hg:l[Int.toNat (k:Int)]?=some l[k]:=by simp [hlt]
   have e1:=Ak (i:=k) O;refine Ok.yes Z (Ok.bind_eq hg (Ok.ite (λhe=>Ok.mk (.inr ⟨rfl,?_⟩)) λhe=>Ok.mk ⟨⟨k+1,O,by rw [e1],λj hj hjk=>?_⟩,?_⟩))
   .have he':l[k]=n:=by simpa using he
    rw [<- he'];exact Ak1 _
   .by_cases hjk':j=k
    .subst hjk';intro hh;exact he (by simp [hh])
    .exact hn j hj O
   .dsimp only;rw [e1];omega
  .obtain ⟨j,hj,he⟩:=Alh hm;have:¬ k < l.length:=by simpa using hc
   exact hn j hj O he
 .rintro r (⟨rfl,h⟩ | ⟨rfl,h⟩)
  .exact Ok.mk (by simp [h])
  .exact Ok.mk (by simp [h])
theorem Gj {l:List Int} {n:Int} (hl:l.length<=1048576):AL l n=some (decide (n∈l)):=by
 refine Ok.eq ((Z6 hl).mono λr hr=>?_);by_cases h:n∈l
 .rw [decide_eq_true h];exact hr.2 h
 .rw [decide_eq_false h];cases r with
  | false=>rfl
  | true=>exact absurd (hr.1 rfl) h
theorem Mf {b:Bls} {x y z:List Int} (g:RS b x y) (a:Int):H7 b x y z a=some (liv b x y a):=by
 have hn:=g.hn;have hx:=g.hx;unfold H7 liv wI;rw [Cf,w64 O O,AkB];by_cases h1:33<=a/\a<=(b.length:Int) - 1
 .obtain ⟨m,rfl⟩:=Ak6 (O:0<=a);rw [decide_eq_true h1,AkH rfl,J0 O O,AkB,AkE];cases bit x m with
  | false=>rfl
  | true=>rw [AkH rfl,GW g.hy];rfl
 .rw [decide_eq_false h1];rfl
theorem Sj {b:Bls} {bits y z:List Int} {k:Nat} (h:k<=1048576) (hk:k / 8 < bits.length):Fp (b,bits,y,z) (k:Int)=some (bit bits k):=by
 unfold Fp bit cK cZ gX wI wB;dsimp only;rw [dv8 h,md8,AkH Z,AkH Aky,AkE,AkD hk,AkB,AkH Z,AkH Aky];rfl
theorem OJ {b:Bls} {x y z:List Int} (g:RS b x y) (a:Int):DN (b,x,y,z) a=some (decide (33<=a/\a<=(b.length:Int) - 1) && bit x a.toNat):=by
 have hn:=g.hn;have hx:=g.hx;unfold DN wI;dsimp only;rw [AI,w64 O O,AkB];by_cases h1:33<=a/\a<=(b.length:Int) - 1
 .obtain ⟨m,rfl⟩:=Ak6 (O:0<=a);rw [decide_eq_true h1,AkH rfl,Sj O O,AkB,AkE];rfl
 .rw [decide_eq_false h1];rfl
theorem Kk {b:Bls} {x y z:List Int} (g:RS b x y) (a:Int):CK (b,x,y,z) a=some (liv b x y a):=by
 unfold CK liv;rw [OJ g,AkB];dsimp only;cases decide (33<=a/\a<=(b.length:Int) - 1)with
 | false=>rfl
 | true=>
  cases bit x a.toNat with
  | false=>rfl
  | true=>rw [AkH (show(true && true)=true from rfl),Gj g.hy];rfl
def rz (c:List Int) (n:Nat):Bool:=(c.drop n).all λv=>decide (v=0)
theorem Pe {c:List Int} {n:Nat} (hc:c.length<=1048576) (hn:n<=c.length):Ea c (n:Int)=some (rz c n):=by
 refine Ok.eq ((AdJ hc hn).mono λr hr=>?_);unfold rz;cases h:(c.drop n).all λv=>decide (v=0)with
 | true=>rw [hr];intro v hv;simpa using Ak7.1 h v hv
 | false=>
  cases r with
  | false=>rfl
  | true=>
   have:((c.drop n).all λv=>decide (v=0))=true:=Ak7.2 λv hv=>by simpa using hr.1 rfl v hv
   rw [h]at this;cases this
theorem Jv (L:(List Int×(Int×Int))->Option ((List Int×(Int×Int))⊕(Unit⊕Int))) (p:Int->Bool) (l:List Int)
  (h:∀k,k < l.length->L (l,(l.length:Int),((k:Nat):Int))=some (if p (gb l k)=true then .inr (.inr ((k:Nat):Int))else .inl (l,(l.length:Int),((k+1:Nat):Int))))
  (h2:L (l,(l.length:Int),(l.length:Int))=some (.inr (.inl ()))) :
  ∃r,Ab L (l,(l.length:Int),0)=some r/\((r=.inl ()/\(l.any p)=false)\/∃k:Nat,r=.inr (k:Int)/\(l.any p)=true):=by
 rcases BW L (λk=>(l,(l.length:Int),((k:Nat):Int))) (λk=>!(p (gb l k))) (λk=>((k:Nat):Int)) () l.length (λk hk=>by
  rw [h k hk];cases p (gb l k) <;> rfl) h2 with⟨ha,hl⟩ | ⟨k,hk,hp,_,hl⟩
 .refine⟨_,hl,.inl ⟨rfl,?_⟩⟩;rw [AlK];intro v hv;obtain ⟨j,hj,rfl⟩:=Alh hv;have:=ha j hj;unfold gb at this;rw [AkD hj,Aln]at this;simpa using this
 .refine⟨_,hl,.inr ⟨k,rfl,?_⟩⟩;rw [AmM];refine⟨_,All (Ai hk),?_⟩;simpa using hp
theorem M4 (c:List Int) (n:Nat):((c.drop n).any λv=>decide (¬ v=0)) = !(rz c n):=by
 unfold rz
 induction c.drop n with
 | nil=>rfl
 | cons a l ih=>rw [List.any_cons,AlX,ih];by_cases h:a=0 <;> simp [h]
theorem Ade {l:List Int} (hl:l.length<=1048576):A3 l=some (l.any λv=>decide (¬ v=0)):=by
 unfold A3 BN;obtain ⟨r,hr,h⟩:=Jv AZ (λv=>decide (¬ v=0)) l (λk hk=>by
  unfold AZ IB gX wI;dsimp only;rw [iy O,iy O,AkE,Ai hk,AkB,AkB,Ak O];by_cases hz:gb l k=0 <;> simp [hz]) (by
  unfold AZ gX wI;dsimp only;rw [ino O])
 rw [hr,AkB];rcases h with⟨rfl,h⟩ | ⟨k,rfl,h⟩
 .rw [h];rfl
 .rw [h];dsimp only;rw [AkB,decide_eq_true O]
theorem Aby {l:List Int} (hl:l.length<=1048576):AW l=some (l.any λv=>decide (¬ v=0)):=by
 unfold AW BI;obtain ⟨r,hr,h⟩:=Jv AY (λv=>decide (¬ v=0)) l (λk hk=>by
  unfold AY Id gX wI;dsimp only;rw [iy O,iy O,AkE,Ai hk,AkB,AkB,Ak O];by_cases hz:gb l k=0 <;> simp [hz]) (by
  unfold AY gX wI;dsimp only;rw [ino O])
 rw [hr,AkB];rcases h with⟨rfl,h⟩ | ⟨k,rfl,h⟩
 .rw [h];rfl
 .rw [h];dsimp only;rw [AkB,decide_eq_true O]
def num (c:List Int) (i:Nat):Int:=gb c i * 256+gb c (i+1)
theorem Aiy {c:List Int} (h:U8s c) (i:Nat):0<=num c i/\num c i<=65535:=by
 have h1:=DV h i;have h2:=DV h (i+1);unfold num;omega
theorem Aju {a b:Int} (ha:0<=a/\a<=255) (hb:0<=b/\b<=255):(((BitVec.ofInt (IntKind.bits .i64) (a * 256) ||| BitVec.ofInt (IntKind.bits .i64) b).toNat:Nat):Int)=a * 256+b:=by
 obtain ⟨n,rfl⟩:=Ak6 ha.1;obtain ⟨m,rfl⟩:=Ak6 hb.1;have h1:(n:Int) * 256=((256 * n:Nat):Int):=O
 rw [h1,BitVec.ofInt_natCast,BitVec.ofInt_natCast,BitVec.toNat_or,BitVec.toNat_ofNat,BitVec.toNat_ofNat,show IntKind.bits .i64=64 from rfl,AmN O,AmN O];have h2:=Nat.two_pow_add_eq_or_of_lt (i:=8) (b:=m) O n;rw [show(2:Nat) ^ 8=256 from rfl]at h2;rw [<- h2];omega
theorem Gd {c:List Int} (hu:U8s c) {i:Nat} (h:i+1 < c.length) (hi:i<=1048576):CI c (i:Int)=some (num c i):=by
 have u1:=DV hu i;have u2:=DV hu (i+1);unfold CI cZ gX wI;rw [iy O,AkE,Ai O,AkB,iy O,Ak hi,iy O,AkE,Ai h,AkB,
  show(2:Int) ^ (min (Int.toNat 8) (IntKind.bits .i64))=256 from rfl,w64 (n:=gb c i) O O,w64 (n:=gb c i * 256) O O,w64 (n:=gb c (i+1)) O O,Aju u1 u2,w64 O O]
 rfl
abbrev Pc:=Int×(Int×List UInt8)
def GD (b:Bls) (a:Int):List UInt8:=AF (((blk b a.toNat).drop 3).take (gb (blk b a.toNat) 2).toNat)
def DG (b:Bls) (a:Int):Pc:=(a,gb (blk b a.toNat) 1,GD b a)
def pcG (c:List Int):Bool:=decide (gb c 0=83) && (decide (1<=gb c 1/\gb c 1<=250) && (decide (1<=gb c 2/\gb c 2<=40) && rz c (3+(gb c 2).toNat)))
def pcB (b:Bls) (x y:List Int) (a:Int):Bool:=liv b x y a && pcG (blk b a.toNat)
theorem Te {b:Bls} {x y z:List Int} (g:RS b x y) (a:Int):Gc (b,x,y,z) a=some (if pcB b x y a=true then(true,DG b a)else(false,0,0,[])):=by
 unfold Gc pcB gX sX wI;rw [Kk g,AkB];cases hl:liv b x y a with
 | false=>rfl
 | true=>
  obtain ⟨m,rfl,h33,hm,_,_⟩:=Cp hl;have hc:=g.len hm;have u1:=g.u8 hm 1;have u2:=g.u8 hm 2;unfold pcG DG GD;rw [AkE];rw [AkG Z];dsimp only;generalize hcc:blk b m=c at *;have hbm:b[m]?=some c:=by rw [Bu hm,hcc]
  rw [iy O,hbm,AkB,iy O,show Int.toNat 0=0 from rfl,Ai O,AkB,AkB];dsimp only;by_cases h0:gb c 0=83
  .rw [decide_eq_true h0,AkG Aky,iy O,AkE,hbm,AkB,iy O,show Int.toNat 1=1 from rfl,Ai O,AkB,iy O,show Int.toNat 2=2 from rfl,Ai O,AkB,
    w64 (n:=gb c 1) O O,w64 (n:=gb c 2) O O,AI,AkB]
   by_cases h1:1<=gb c 1/\gb c 1<=250
   .rw [decide_eq_true h1,AkG Z,AI,AkB];by_cases h2:1<=gb c 2/\gb c 2<=40
    .obtain ⟨k,hk⟩:=Ak6 u2.1;rw [hk]at h2 ⊢;rw [decide_eq_true h2,AkG Z,show(3:Int)+(k:Int)=((3+k:Nat):Int) by omega,w64 (n:=((3+k:Nat):Int)) O O,iy O,iy O,iy O,iy O];simp only [AkE];rw [Alr (show(List.drop (3+k) c).length<=c.length - (3+k) by rw [Ak5];omega),Ade (by rw [Ak5];omega),M4,AkB,AkB];dsimp only;cases hr:rz c (3+k)with
     | false=>rfl
     | true=>
      rw [AkG Z,iy O,show(3:Int)+(k:Int)=((3+k:Nat):Int) by omega,w64 (n:=((3+k:Nat):Int)) O O,iy O,iy O,iy O,AkE,
       (O:3+k - Int.toNat 3=k)]
      rfl
    .rw [decide_eq_false h2];rfl
   .rw [decide_eq_false h1];rfl
  .rw [decide_eq_false h0,AkH (by simpa using h0)];rfl
end Go.V.G
set_option maxRecDepth 100000
namespace Go.V.G
open Go.V
def pcs (b:Bls) (x y:List Int) (c:List Int) (n:Nat):Nat->List Int->Nat->Option (List Int)
 | 0,out,_=>some out
 | f+1,out,k=>if(pcB b x y (num c (2+2 * k)) && (decide (k+1 < n->gb (blk b (num c (2+2 * k)).toNat) 2=40) && !decide (num c (2+2 * k)∈out)))=true then pcs b x y c n f (out++[num c (2+2 * k)]) (k+1)else none
theorem S7 {a b:Int} (ha:0<=a/\a<=255) (hb:0<=b/\b<=255):IntKind.wrap .i64 ((IntKind.wrap .i64 ((IntKind.wrap .i64 a) * 256))+(IntKind.wrap .i64 b))=a * 256+b:=by
 rw [w64 (n:=a) O O,w64 (n:=a * 256) O O,w64 (n:=b) O O,w64 O O]
theorem Xn {k:Nat} (h:k<=1048576):IntKind.wrap .i64 (2+(IntKind.wrap .i64 (2 * (k:Int))))=((2+2 * k:Nat):Int):=by
 rw [w64 (n:=2 * (k:Int)) O O,w64 O O];omega
theorem Aj7 {k:Nat} (h:k<=1048576):IntKind.wrap .i64 (3+(IntKind.wrap .i64 (2 * (k:Int))))=((3+2 * k:Nat):Int):=by
 rw [w64 (n:=2 * (k:Int)) O O,w64 O O];omega
theorem VR {b:Bls} {x y z c out:List Int} {n k:Nat} (g:RS b x y) (hc:c.length=128) (hu:U8s c) (hn:n<=3) (hk:k < n) (ho:out.length<=3) :
  Ej (c,(n:Int),out,(k:Int),b,x,y,z) =
   some (if(pcB b x y (num c (2+2 * k)) && (decide (k+1 < n->gb (blk b (num c (2+2 * k)).toNat) 2=40) && !decide (num c (2+2 * k)∈out)))=true then .inl (c,(n:Int),out++[num c (2+2 * k)],((k+1:Nat):Int),b,x,y,z)else .inr (.inr false)):=by
 have e1:=Xn (k:=k) O;have e2:=Aj7 (k:=k) O;have u1:=DV hu (2+2 * k);have u2:=DV hu (3+2 * k);have ea:=S7 u1 u2;have en:num c (2+2 * k)=gb c (2+2 * k) * 256+gb c (3+2 * k):=by unfold num;rw [(O:2+2 * k+1=3+2 * k)]
 unfold Ej pcB cK gX wI;dsimp only;rw [iy O,e1,e2,iy O,AkE,Ai O,AkB,iy O,AkE,Ai O,AkB,ea,<- en];have hroom:∀v:Int,Aa (List.length out+List.length ([v]:List Int)) 8=true:=λv=>by simp only [Aa,decide_eq_true_eq,AkO];omega
 generalize num c (2+2 * k)=a;rw [Mf g,AkB];cases hl:liv b x y a with
 | false=>rfl
 | true=>
  obtain ⟨m,rfl,h33,hm,_,_⟩:=Cp hl;have hc2:=g.len hm;have v1:=g.u8 hm 1;have v2:=g.u8 hm 2;rw [AkG Z,GW O,AkB,AkB];dsimp only;by_cases hmem:(m:Int)∈out
  .rw [decide_eq_true hmem,AkH rfl,AkG Z]
  rw [decide_eq_false hmem,AkG Z,iy O,AkE,Bu hm,AkB];unfold pcG;generalize blk b m=d at *;have w2:IntKind.wrap .i64 (gb d 2)=gb d 2:=w64 O O;rw [iy O,show Int.toNat 2=2 from rfl,Ai O,AkB,iy O,show Int.toNat 0=0 from rfl,Ai O,AkB];rw [w2];by_cases h0:gb d 0=83
  .rw [decide_eq_true h0,AkG Aky,iy O,show Int.toNat 1=1 from rfl,Ai O,AkB,w64 (n:=gb d 1) O O,Cf,AkB];by_cases h1:1<=gb d 1/\gb d 1<=250
   .rw [decide_eq_true h1,AkG Z,Cf,AkB];by_cases h2:1<=gb d 2/\gb d 2<=40
    .obtain ⟨j,hj⟩:=Ak6 v2.1;rw [hj]at h2 ⊢;rw [decide_eq_true h2,AkG Z,show(3:Int)+(j:Int)=((3+j:Nat):Int) by omega,w64 (n:=((3+j:Nat):Int)) O O,Pe O O,AkE,w64 (n:=(n:Int) - 1) O O,AkB];have hr:∀q:Bool,(if q=true then some (Sum.inr (Sum.inr false))else
       if Aa (out.length + [(m:Int)].length) 8=true then some (Sum.inl (c,(n:Int),out++[(m:Int)],IntKind.wrap .i64 ((k:Int)+1),b,x,y,z))else none :
       Option ((List Int×(Int×(List Int×(Int×(List (List Int)×(List Int×(List Int×List Int)))))))⊕((List Int×(Int×List Int))⊕Bool))) =
       some (if(!q)=true then .inl (c,(n:Int),out++[(m:Int)],((k+1:Nat):Int),b,x,y,z)else .inr (.inr false)):=λq=>by
      cases q with
      | true=>rfl
      | false=>rw [AkG Z,AkH (hroom _),Ak O];rfl
     by_cases h4:k+1 < n
     .rw [iy O];by_cases h5:(j:Int)=40
      .rw [ino O,AkB];dsimp only;rw [hr];have:decide (k+1 < n->(j:Int)=40)=true:=decide_eq_true λ_=>h5
       rw [this];cases rz d (3+j) <;> rfl
      .rw [iy h5,AkB];dsimp only;have:decide (k+1 < n->(j:Int)=40)=false:=decide_eq_false λhh=>h5 (hh h4)
       rw [this,AkH rfl];cases rz d (3+j) <;> rfl
     .rw [ino O,AkB];dsimp only;rw [hr];have:decide (k+1 < n->(j:Int)=40)=true:=decide_eq_true λhh=>absurd hh h4
      rw [this];cases rz d (3+j) <;> rfl
    .rw [decide_eq_false h2];rfl
   .rw [decide_eq_false h1];rfl
  .rw [decide_eq_false h0,AkH (by simpa using h0)];rfl
theorem OG {b:Bls} {x y z c:List Int} {n:Nat} (g:RS b x y) (hc:c.length=128) (hu:U8s c) (hn:n<=3):∀(f k:Nat) (out:List Int),k+f=n->out.length<=k->
  Ab Ej (c,(n:Int),out,(k:Int),b,x,y,z)=some (match pcs b x y c n f out k with | some l=>.inl (c,(n:Int),l) | none=>.inr false)
 | 0,k,out,hk,ho=>by
  rw [Ax];unfold Ej pcs cK gX wI;dsimp only;rw [ino O]
 | f+1,k,out,hk,ho=>by
  have hs:=VR (z:=z) (k:=k) (out:=out) g hc hu hn O O;unfold pcs;by_cases h:(pcB b x y (num c (2+2 * k)) && (decide (k+1 < n->gb (blk b (num c (2+2 * k)).toNat) 2=40) && !decide (num c (2+2 * k)∈out)))=true
  .rw [AkH h]at hs;rw [Ax,hs,AkH h];exact OG g hc hu hn f (k+1) _ O Aky
  .rw [AkG h]at hs;rw [Ax,hs,AkG h]
theorem Ach {l:List Pc} (hl:l.length<=1048576) (a s:Int) (t:List UInt8) :
  Af l a s t=some (decide (a∈l.map (·.1)),a,s,t):=by
 unfold Af Ar;rcases BW Al (λk=>(l,(l.length:Int),((k:Nat):Int),a,s,t)) (λk=>!(decide ((l[k]?.getD (0,0,[])).1=a))) (λk=>(((k:Nat):Int),a,s,t)) (a,s,t) l.length (λk hk=>by
  unfold Al H6 gX wI;dsimp only;rw [iy O,iy O,AkE,AkD hk,AkB,AkB,Ak O,Aln];by_cases hz:l[k].1=a <;> simp [hz]) (by
  unfold Al gX wI;dsimp only;rw [ino O])with⟨h1,h2⟩ | ⟨k,hk,h1,_,h2⟩
 .have:a∉l.map (·.1):=by
   intro hm;obtain ⟨p,hp,he⟩:=AkY.1 hm;obtain ⟨j,hj,rfl⟩:=Alh hp;have:=h1 j hj;rw [AkD hj,Aln]at this;simp [he]at this
  rw [show(0:Int)=((0:Nat):Int) from rfl,h2,AkB,decide_eq_false this];rfl
 .have:a∈l.map (·.1):=by
   rw [AkD hk,Aln]at h1;refine AkY.2 ⟨l[k],Ak1 _,?_⟩;simpa using h1
  rw [show(0:Int)=((0:Nat):Int) from rfl,h2,AkB,decide_eq_true this];dsimp only;rw [AkB];dsimp only;rw [decide_eq_true O]
theorem AhK {b:Bls} {x y:List Int} (g:RS b x y) {m:Nat} (hm:m < b.length) (h:gb (blk b m) 2<=40):(List.length (GD b (m:Int)):Int)=gb (blk b m) 2:=by
 have hc:=g.len hm;have u2:=g.u8 hm 2;unfold GD AF;rw [AkE,Ak8,AkL,Ak5];omega
theorem V0 {b:Bls} {x y z c out:List Int} {n k:Nat} (g:RS b x y) (hc:c.length=128) (hu:U8s c) (hn:n<=3) (hk:k < n) (ho:out.length<=3) :
  Dd ((b,x,y,z),c,(n:Int),out.map (DG b),(n:Int),(k:Int)) =
   some (if(pcB b x y (num c (2+2 * k)) && (decide (k+1 < n->gb (blk b (num c (2+2 * k)).toNat) 2=40) && !decide (num c (2+2 * k)∈out)))=true then .inl ((b,x,y,z),c,(n:Int),(out++[num c (2+2 * k)]).map (DG b),(n:Int),((k+1:Nat):Int))else .inr (.inr false)):=by
 have e1:=Xn (k:=k) O;unfold Dd cK wI;dsimp only;rw [iy O,e1,Gd hu O O,AkB,Te g];generalize num c (2+2 * k)=a;rw [AkB,Ak O];cases hp:pcB b x y a with
 | false=>rfl
 | true=>
  have hl:liv b x y a=true:=by unfold pcB at hp;simp only [AkI]at hp;exact hp.1
  obtain ⟨m,rfl,h33,hm,_,_⟩:=Cp hl;have h40:gb (blk b m) 2<=40:=by
   unfold pcB pcG at hp;simp only [AkI,decide_eq_true_eq,AkE]at hp;exact hp.2.2.2.1.2
  have ht:=AhK g hm h40;have hmap:((out.map (DG b)).map (·.1))=out:=by rw [AlA];exact List.map_id out
  have hroom:∀v:Pc,Aa (List.length (out.map (DG b))+List.length ([v]:List Pc)) 32=true:=λv=>by simp only [Aa,decide_eq_true_eq,AkO,Ak8];omega
  rw [AkH rfl];dsimp only;rw [AkG Z,Ach (by rw [Ak8];omega),hmap,AkB];dsimp only;rw [show(DG b (m:Int)).1=(m:Int) from rfl,show(DG b (m:Int)).2.2=GD b (m:Int) from rfl,AkE];have hr:∀q:Bool,(if q=true then some (Sum.inr (Sum.inr false))else
    if Aa ((out.map (DG b)).length + [(((m:Int)),(DG b (m:Int)).2.1,GD b (m:Int))].length) 32=true then some (Sum.inl ((b,x,y,z),c,(n:Int),out.map (DG b)++[(((m:Int)),(DG b (m:Int)).2.1,GD b (m:Int))],(n:Int),IntKind.wrap .i64 ((k:Int)+1)))else none :
    Option (((List (List Int)×(List Int×(List Int×List Int)))×(List Int×(Int×(List (Int×(Int×List UInt8))×(Int×Int)))))⊕(List (Int×(Int×List UInt8))⊕Bool))) =
    some (if(!q)=true then .inl ((b,x,y,z),c,(n:Int),(out++[(m:Int)]).map (DG b),(n:Int),((k+1:Nat):Int))else .inr (.inr false)):=λq=>by
   cases q with
   | true=>rfl
   | false=>
    rw [AkG Z,AkH (hroom _),Alk,Ak O];rfl
  by_cases h4:k+1 < n
  .rw [iy O,ht];by_cases h5:gb (blk b m) 2=40
   .rw [ino O,AkB];dsimp only;rw [hr];have:decide (k+1 < n->gb (blk b m) 2=40)=true:=decide_eq_true λ_=>h5
    rw [this];rfl
   .rw [iy O,AkB];dsimp only;have:decide (k+1 < n->gb (blk b m) 2=40)=false:=decide_eq_false λhh=>h5 (hh h4)
    rw [this];rfl
  .rw [ino O,AkB];dsimp only;rw [hr];have:decide (k+1 < n->gb (blk b m) 2=40)=true:=decide_eq_true λhh=>absurd hh h4
   rw [this];rfl
theorem ON {b:Bls} {x y z c:List Int} {n:Nat} (g:RS b x y) (hc:c.length=128) (hu:U8s c) (hn:n<=3):∀(f k:Nat) (out:List Int),k+f=n->out.length<=k->
  Ab Dd ((b,x,y,z),c,(n:Int),out.map (DG b),(n:Int),(k:Int))=some (match pcs b x y c n f out k with | some l=>.inl (l.map (DG b)) | none=>.inr false)
 | 0,k,out,hk,ho=>by
  rw [Ax];unfold Dd pcs cK wI;dsimp only;rw [ino O]
 | f+1,k,out,hk,ho=>by
  have hs:=V0 (z:=z) (k:=k) (out:=out) g hc hu hn O O;unfold pcs;by_cases h:(pcB b x y (num c (2+2 * k)) && (decide (k+1 < n->gb (blk b (num c (2+2 * k)).toNat) 2=40) && !decide (num c (2+2 * k)∈out)))=true
  .rw [AkH h]at hs;rw [Ax,hs,AkH h];exact ON g hc hu hn f (k+1) _ O Aky
  .rw [AkG h]at hs;rw [Ax,hs,AkG h]
def ptx (b:Bls) (x y:List Int) (root:Int):Option (List Int):=
 if(liv b x y root && (decide (gb (blk b root.toNat) 0=84) && (decide (gb (blk b root.toNat) 1<=3) && rz (blk b root.toNat) (2+2 * (gb (blk b root.toNat) 1).toNat))))=true then
  pcs b x y (blk b root.toNat) (gb (blk b root.toNat) 1).toNat (gb (blk b root.toNat) 1).toNat [] 0 else none
theorem Z5 {b:Bls} {x y z:List Int} (g:RS b x y) (root:Int):∃l':List Int,Kx b x y z root=some (match ptx b x y root with | some l=>(l,true) | none=>(l',false)):=by
 unfold Kx ptx gX wI;rw [Mf g,AkB];cases hl:liv b x y root with
 | false=>exact⟨[],rfl⟩
 | true=>
  obtain ⟨m,rfl,h33,hm,_,_⟩:=Cp hl;have hc:=g.len hm;have hu:=g.hu _ (BF hm);rw [AkE,AkG Z,AkS];have hbm:=Bu hm;generalize blk b m=c at *;have u1:=DV hu 1;rw [iy O,hbm,AkB,iy O,show Int.toNat 0=0 from rfl,Ai O,AkB];by_cases h0:gb c 0=84
  .rw [decide_eq_true h0,AkG Aky,iy O,AkB,iy O,show Int.toNat 1=1 from rfl,Ai O,AkB,AkB];dsimp only;rw [AkE,hbm,AkS];by_cases h3:gb c 1<=3
   .obtain ⟨n,hn⟩:=Ak6 u1.1;rw [ino O,iy O,AkB,iy O,Ai O,AkB,decide_eq_true h3,AkS,hn,w64 O O,AkE];have hL:Ab Ej (c,(n:Int),[],0,b,x,y,z)=_:=OG g hc hu O n 0 [] O Z;rw [hL,AkB];have e1:=Xn (k:=n) O;cases hp:pcs b x y c n n [] 0 with
    | none=>exact⟨[],by dsimp only;cases rz c (2+2 * n) <;> rfl⟩
    | some l=>
     refine⟨l,?_⟩;dsimp only;rw [e1,Pe O O,AkB];cases rz c (2+2 * n) <;> rfl
   .exact⟨[],by rw [iy O,decide_eq_false h3];rfl⟩
  .rw [decide_eq_false h0,AkH (by simpa using h0)];exact⟨[],rfl⟩
theorem ZH {b:Bls} {x y z:List Int} (g:RS b x y) (root:Int):Hf (b,x,y,z) root=some (match ptx b x y root with | some l=>(l.map (DG b),true) | none=>([],false)):=by
 unfold Hf ptx gX sX wI;rw [Kk g,AkB];cases hl:liv b x y root with
 | false=>rfl
 | true=>
  obtain ⟨m,rfl,h33,hm,_,_⟩:=Cp hl;have hc:=g.len hm;have hu:=g.hu _ (BF hm);rw [AkE,AkG Z,AkS];have hbm:=Bu hm;dsimp only;generalize blk b m=c at *;have u1:=DV hu 1;rw [iy O,hbm,AkB,iy O,show Int.toNat 0=0 from rfl,Ai O,AkB,AkB];dsimp only;by_cases h0:gb c 0=84
  .obtain ⟨n,hn⟩:=Ak6 u1.1;rw [decide_eq_true h0,AkG Aky,iy O,AkE,hbm,AkB,iy O,show Int.toNat 1=1 from rfl,Ai O,AkB,AkS,hn,w64 (n:=(n:Int)) O O];have e1:=Xn (k:=n) O;by_cases h3:(n:Int)<=3
   .rw [ino O,e1,iy O,iy O,iy O,iy O,decide_eq_true h3,AkS];simp only [AkE];rw [Alr (show(List.drop (2+2 * n) c).length<=c.length - (2+2 * n) by rw [Ak5];omega),Aby (by rw [Ak5];omega),M4,AkB,AkB];dsimp only;cases hr:rz c (2+2 * n)with
    | false=>rfl
    | true=>
     have hL:Ab Dd ((b,x,y,z),c,(n:Int),[],(n:Int),0)=_:=ON g hc hu O n 0 [] O Z;rw [AkG Z,AkH rfl,hL,AkB];cases pcs b x y c n n [] 0 <;> rfl
   .rw [iy O,decide_eq_false h3];rfl
  .rw [decide_eq_false h0,AkH (by simpa using h0)];rfl
end Go.V.G
set_option maxRecDepth 100000
namespace Go.V.G
open Go.V
noncomputable def pt (z:List Int) (n:Int):List Int:=(Dc z n).getD []
theorem Mu {z:List Int} (hz:z.length<=1048576) (hr:Ris z) (n:Int):Dc z n=some (pt z n)/\H5 z n=some (pt z n)/\(pt z n).length<=z.length+1/\Ris (pt z n)/\∀v,v∈pt z n↔v∈z\/v=n:=by
 obtain ⟨z',h1,h2,h3,h4,h5⟩:=PQ hz hr n;have e:pt z n=z':=by unfold pt;rw [h1];rfl
 rw [e];exact⟨h1,h2,h3,h4,h5⟩
def Dv (d:List Int):List Int:=d++List.replicate (128 - d.length) 0
theorem Aeu {d:List Int} (h:d.length<=128):(Dv d).length=128:=by unfold Dv;simp;omega
theorem AbM {l:List Int} (h:U8s l):Ay (AF l)=l:=by
 unfold AF Ay;rw [AlA]
 conv=>rhs;rw [<- List.map_id l]
 refine AlD λv hv=>?_
 obtain ⟨h0,h1⟩:=h v hv;obtain ⟨n,rfl⟩:=Ak6 h0;simp only [Function.comp,AkE,id];rw [UInt8.toNat_ofNat_of_lt' (by show n < 256;omega)]
theorem Ac3 {b:Bls} {x y c:List Int} {n:Nat}:∀(f k:Nat) (out l:List Int),pcs b x y c n f out k=some l->(∀a∈out,pcB b x y a=true)->out.Nodup->
  (∀a∈l,pcB b x y a=true)/\l.Nodup/\l.length=out.length+f
 | 0,k,out,l,h,h1,h2=>by
  unfold pcs at h;cases h;exact⟨h1,h2,rfl⟩
 | f+1,k,out,l,h,h1,h2=>by
  unfold pcs at h;split at h
  .rename_i hc;simp only [AkI,AkP,decide_eq_false_iff_not]at hc;obtain ⟨hp,_,hm⟩:=hc;obtain ⟨r1,r2,r3⟩:=Ac3 f (k+1) _ l h (λa ha=>by
    rcases AkK.1 ha with ha | ha
    .exact h1 a ha
    .rw [AkM.1 ha];exact hp) (by
    rw [AkX];refine⟨h2,Z,λa ha b hb=>?_⟩;rw [AkM.1 hb];rintro rfl;exact hm ha)
   exact⟨r1,r2,by rw [r3];simp;omega⟩
  .cases h
structure Pcs (b:Bls) (x y l:List Int):Prop where
 all:∀a∈l,pcB b x y a=true
 nd:l.Nodup
 len:l.length<=3
theorem IV {b:Bls} {x y:List Int} {root:Int} {l:List Int} (h:ptx b x y root=some l):Pcs b x y l/\liv b x y root=true/\gb (blk b root.toNat) 0=84/\root∉l:=by
 unfold ptx at h;split at h
 .rename_i hc;simp only [AkI,decide_eq_true_eq]at hc;obtain ⟨h1,h2,h3,_⟩:=hc;obtain ⟨r1,r2,r3⟩:=Ac3 _ 0 [] l h (λa ha=>by cases ha) List.nodup_nil;refine⟨⟨r1,r2,by rw [r3];simp;omega⟩,h1,h2,λhm=>?_⟩;have:=r1 root hm;unfold pcB pcG at this;simp only [AkI,decide_eq_true_eq]at this;omega
 .cases h
theorem QC {b:Bls} {x y:List Int} {a:Int} (h:pcB b x y a=true):∃m:Nat,a=(m:Int)/\33<=m/\m < b.length/\bit x m=true/\(m:Int)∉y/\pcG (blk b m)=true:=by
 unfold pcB at h;simp only [AkI]at h;obtain ⟨m,rfl,h1,h2,h3,h4⟩:=Cp h.1;exact⟨m,rfl,h1,h2,h3,h4,h.2⟩
def cat (b:Bls) (l:List Int):List UInt8:=l.flatMap (GD b)
theorem YX (b:Bls) {l:List Int} {k:Nat} (h:k < l.length):cat b (l.take (k+1))=cat b (l.take k)++GD b l[k]:=by
 unfold cat;rw [Ak0 h,AlW];simp
theorem Ab5 (b:Bls) {x y:List Int} {a:Int} (h:pcB b x y a=true):(GD b a).length<=40:=by
 obtain ⟨m,rfl,_,_,_,_,hg⟩:=QC h;unfold pcG at hg;simp only [AkI,decide_eq_true_eq]at hg;unfold GD AF;rw [AkE,Ak8,AkL];omega
theorem R9 {b:Bls} {x y:List Int}:∀{l:List Int},(∀a∈l,pcB b x y a=true)->(cat b l).length<=40 * l.length
 | [],_=>by simp [cat]
 | a::l,h=>by
  have h1:=Ab5 b (h a Z);have h2:=R9 (l:=l) λv hv=>h v (by simp [hv])
  have e:cat b (a::l)=GD b a++cat b l:=by simp [cat]
  rw [e,AkJ,AkQ];omega
theorem AbJ {b:Bls} {x y z:List Int} (g:RS b x y) {a:Int} (h:pcB b x y a=true):L6 b x y z a=some (GD b a):=by
 obtain ⟨m,rfl,h33,hm,_,_,hg⟩:=QC h;have hc:=g.len hm;have v2:=g.u8 hm 2;unfold pcG at hg;simp only [AkI,decide_eq_true_eq]at hg;unfold L6 GD gX sX wI;have hbm:=Bu hm;rw [AkE];generalize blk b m=c at *;obtain ⟨n,hn⟩:=Ak6 v2.1;rw [hn]at hg ⊢;rw [iy O,hbm,AkB,iy O,AkB,iy O,show Int.toNat 2=2 from rfl,Ai O,AkB,hn,w64 (n:=(n:Int)) O O,
  show(3:Int)+(n:Int)=((3+n:Nat):Int) by omega,w64 O O,iy O,iy O,iy O,iy O,AkE,AkE,(O:3+n - Int.toNat 3=n)]
 rfl
def tin (b:Bls) (x y:List Int) (root:Int):List UInt8×(List Int×Bool):=match ptx b x y root with
 | some l=>(cat b l,l++[root],true)
 | none=>([],[],false)
theorem Re {b:Bls} {x y z:List Int} (g:RS b x y) (root:Int):NP b x y z root=some (tin b x y root):=by
 obtain ⟨l',h⟩:=Z5 (z:=z) g root;unfold NP tin cK;rw [h,AkB];cases hp:ptx b x y root with
 | none=>rfl
 | some l=>
  obtain ⟨⟨hall,hnd,hlen⟩,_⟩:=IV hp;dsimp only;rw [AkG Z];have hL:=Am Hu (λk=>(root,l,cat b (l.take k),(l.length:Int),((k:Nat):Int),b,x,y,z)) l.length (root,l,cat b l) (λk hk=>by
   have hpk:=hall _ (Ak1 hk);have h1:=R9 (b:=b) (x:=x) (y:=y) (l:=l.take k) λv hv=>hall v (Ame hv)
   have h2:=Ab5 b hpk;rw [AkL]at h1;unfold Hu cK cZ wI;dsimp only;rw [iy O,iy O,iy O,AkZ,AkE,AkD hk,AkB,AbJ g hpk,AkB,iy O,Ak O,YX b hk]) (by
   unfold Hu cK cZ wI;dsimp only;rw [ino O,Alq])
  have hL':Ab Hu (root,l,([]:List UInt8),(l.length:Int),0,b,x,y,z)=_:=hL;rw [hL',AkB];dsimp only;rw [AkH (by simp only [Aa,decide_eq_true_eq,AkO];omega)]
theorem GS.rs {b:Bls} {x y z:List Int} (g:GS b x y z) (h:SB b x y z) (hu:∀c∈b,U8s c):RS b x y:=⟨g.hb,g.hk,hu,g.hx,h.y⟩
end Go.V.G
set_option maxRecDepth 100000
namespace Go.V.G
open Go.V
abbrev Wst:=Bls×(List Int×List Int)
structure Ws (n:Nat) (s:Wst) (q:Nat):Prop where
 hn:s.1.length=n
 hk:∀c∈s.1,c.length=128
 hu:∀c∈s.1,U8s c
 hy:Ris s.2.1
 hz:Ris s.2.2
 ly:s.2.1.length<=q
 lz:s.2.2.length<=q
theorem Ws.more {n q r:Nat} {s:Wst} (h:Ws n s q) (hr:q<=r):Ws n s r:=⟨h.hn,h.hk,h.hu,h.hy,h.hz,Ale h.ly hr,Ale h.lz hr⟩
theorem Ku {b:Bls} {i j:Nat} {c:List Int} (h:i≠j):blk (b.set i c) j=blk b j:=by unfold blk;rw [List.getElem?_set_ne h]
theorem Sf {b:Bls} {i:Nat} {c:List Int} (h:i < b.length):blk (b.set i c) i=c:=by unfold blk;rw [Al7 h];rfl
theorem Ws.setB {n q:Nat} {s:Wst} (h:Ws n s q) (hq:q<=1048000) {i:Nat} {c:List Int} (hc:c.length=128) (hu:U8s c):Ws n (s.1.set i c,s.2.1,pt s.2.2 (i:Int)) (q+1):=by
 have hl:=h.lz;have hl2:=h.ly;obtain ⟨_,_,h3,h4,_⟩:=Mu (z:=s.2.2) O h.hz (i:Int);exact⟨by rw [AlB];exact h.hn,λd hd=>by
  rcases AlC hd with hd | rfl
  .exact h.hk d hd
  .exact hc,λd hd=>by
  rcases AlC hd with hd | rfl
  .exact h.hu d hd
  .exact hu,h.hy,h4,AkA,AkA⟩
theorem GS.ws {b:Bls} {x y z:List Int} (g:GS b x y z) (hu:∀c∈b,U8s c):Ws b.length (b,y,z) 127:=by
 have hb:=g.hb;obtain ⟨r1,r2⟩:=GB g.hy;obtain ⟨r3,r4⟩:=GB g.hz;have l1:y.length<=127:=QF r1 (λi hi=>by have:=r2 i hi;omega);have l2:z.length<=127:=QF r3 (λi hi=>by have:=r4 i hi;omega);exact⟨rfl,g.hk,hu,r1,r3,l1,l2⟩
theorem Ws.w {n q:Nat} {s:Wst} (h:Ws n s q) (hn:n<=160) (hq:q<=1000) {x:List Int} (hx:x.length=20):AaX s.1 x s.2.1 s.2.2<=5000000:=by
 have hw:∀l:Bls,(∀c∈l,c.length=128)->AG Bo l=l.length * 128:=by
  intro l
  induction l with
  | nil=>intro _;rfl
  | cons c l ih=>
   intro hh;simp only [AG,AkQ];rw [ih (λd hd=>hh d (by simp [hd]))];have e:Bo c=c.length:=rfl;rw [e,hh c Z];omega
 have h1:=hw s.1 h.hk;have h2:=h.hn;have h3:=h.ly;have h4:=h.lz;unfold AaX Bc Bo W0;unfold Bo at h1;rw [h1];omega
end Go.V.G
set_option maxRecDepth 100000
namespace Go.V.G
open Go.V
def shr (b:Bls) (hv:List Int) (k:Nat) (p:List UInt8):Int:=match hv[k]? with
 | some a=>if GD b a=p/\gb (blk b a.toNat) 1 < 250 then a else 0
 | none=>0
def zs (l:List Int):Nat:=l.countP λa=>decide (a=0)
end Go.V.G
set_option maxRecDepth 100000
namespace Go.V.G
open Go.V
theorem Wk.lay {n lz:Nat} {b:Bls} {x z c:List Int} (h:Wk n b x z lz) (hlz:lz<=1048000) (hc:c.length=128) (k:Nat):Wk n (b.set k c) x (pt z (k:Int)) (lz+1):=by
 have hz:=h.hz;obtain ⟨_,_,h3,h4,_⟩:=Mu (z:=z) O h.hr (k:Int);exact⟨h.hn,by rw [AlB];exact h.hb,λd hd=>by
  rcases AlC hd with hd | rfl
  .exact h.hk d hd
  .exact hc,h.hx,h.hu,h.hlow,h4,O⟩
structure Sh (b:Bls) (x y sh:List Int) (ps:List (List UInt8)):Prop where
 len:sh.length=ps.length
 m3:ps.length<=3
 pc:∀p∈ps,1<=p.length/\p.length<=40
 at_:∀j,j < ps.length->sh[j]?=some 0\/∃m:Nat,sh[j]?=some (m:Int)/\pcB b x y (m:Int)=true/\GD b (m:Int)=ps[j]?.getD []/\gb (blk b m) 1 < 250
 ne:∀(i j:Nat) (v:Int),i < j->sh[i]?=some v->sh[j]?=some v->v=0
structure Li (n:Nat) (b:Bls) (x z sh:List Int) (ps:List (List UInt8)) (k:Nat) (A:List Int) (b':Bls) (x' z':List Int) (q:Nat):Prop where
 wk:Wk n b' x' z' q
 bu:∀c∈b',U8s c
 len:A.length=k
 nd:A.Nodup
 at_:∀j,j < k->∃m:Nat,A[j]?=some (m:Int)/\(33<=m/\m < n)/\bit x' m=true/\
  ((sh[j]?=some 0/\bit x m=false/\blk b' m=Dv ([83,1,(((ps[j]?.getD []).length:Nat):Int)]++Ay (ps[j]?.getD [])))\/(sh[j]?=some (m:Int)/\blk b' m=(blk b m).set 1 (gb (blk b m) 1+1)))
 oth:∀i,i < 160->((i:Nat):Int)∉A->blk b' i=blk b i/\bit x' i=bit x i
 up:∀i,i < 160->bit x i=true->bit x' i=true
 zm:∀v∈z',v∈z\/v∈A
 ct:cnt x' n+zs (sh.take k)=cnt x n
theorem Li.mem {n k q:Nat} {b b':Bls} {x z sh x' z' A:List Int} {ps:List (List UInt8)} (h:Li n b x z sh ps k A b' x' z' q) {a:Int} (ha:a∈A):∃j m:Nat,j < k/\a=(m:Int)/\A[j]?=some (m:Int)/\(33<=m/\m < n)/\bit x' m=true/\
  ((sh[j]?=some 0/\bit x m=false)\/sh[j]?=some (m:Int)):=by
 obtain ⟨j,hj,he⟩:=Alh ha;have hl:=h.len;obtain ⟨m,h1,h2,h3,h4⟩:=h.at_ j O;rw [AkD hj]at h1;have:=AlR h1;refine⟨j,m,O,by rw [<- he,this],by rw [AkD hj,this],h2,h3,?_⟩;rcases h4 with⟨p1,p2,_⟩ | ⟨p1,_⟩
 .exact .inl ⟨p1,p2⟩
 .exact .inr p1
theorem AiA {d:List Int} (h:U8s d):U8s (Dv d):=λv hv=>by
 unfold Dv at hv;rcases AkK.1 hv with hv | hv
 .exact h v hv
 .rw [Amk hv];omega
def npc (p:List UInt8):List Int:=[83,1,(p.length:Int)]++Ay p
theorem w8d {m:Nat} (h:m < 160):IntKind.wrap .u8 (IntKind.wrap .i64 (Int.tdiv (m:Int) 256))=0:=by
 rw [Int.tdiv_eq_ediv_of_nonneg O,w64 O O,wub O O];omega
theorem AdE {m:Nat} (h:m < 160):LY (m:Int)=some [0,(m:Int)]:=by
 unfold LY cZ wB;rw [iy O,show(2:Int) ^ (min (Int.toNat 8) (IntKind.bits .i64))=256 from rfl,AmF _ O,wub (r:=(m:Int)) O O,wub O O];have:(m:Int) / 256=0:=O
 rw [this]
end Go.V.G
set_option maxRecDepth 100000
namespace Go.V.G
open Go.V
def ats (m:Nat) (A:List Int):List Int:=[84,(m:Int)]++A.flatMap λa=>[0,a]
structure Lt (n:Nat) (b:Bls) (x z sh:List Int) (ps:List (List UInt8)) (A:List Int) (r:Nat) (b':Bls) (x' z':List Int) (q:Nat):Prop where
 wk:Wk n b' x' z' q
 bu:∀c∈b',U8s c
 len:A.length=ps.length
 nd:A.Nodup
 rt:(33<=r/\r < n)/\bit x r=false/\bit x' r=true/\blk b' r=Dv (ats ps.length A)/\(r:Int)∉A
 at_:∀j,j < ps.length->∃m:Nat,A[j]?=some (m:Int)/\(33<=m/\m < n)/\bit x' m=true/\
  ((sh[j]?=some 0/\bit x m=false/\blk b' m=Dv (npc (ps[j]?.getD [])))\/(sh[j]?=some (m:Int)/\blk b' m=(blk b m).set 1 (gb (blk b m) 1+1)))
 oth:∀i,i < 160->((i:Nat):Int)∉A->i≠r->blk b' i=blk b i/\bit x' i=bit x i
 up:∀i,i < 160->bit x i=true->bit x' i=true
 zm:∀v∈z',v∈z\/v∈A\/v=(r:Int)
 ct:cnt x' n+zs sh+1=cnt x n
theorem GS.wk {b:Bls} {x y z:List Int} (g:GS b x y z) (hu:U8s x):Wk b.length b x z 127:=by
 obtain ⟨r1,r2⟩:=GB g.hz;have hb:=g.hb;exact⟨g.hb,rfl,g.hk,g.hx,hu,λk hk=>by
  have:=g.hbits k O;unfold bG at this;rw [decide_eq_true hk,decide_eq_false (O:¬ b.length<=k)]at this;simpa using this,r1,QF r1 (λi hi=>by have:=r2 i hi;omega)⟩
end Go.V.G
set_option maxRecDepth 100000
namespace Go.V.G
open Go.V
structure TkI (n:Nat) (b:Bls) (x z l:List Int) (b':Bls) (x' z':List Int):Prop where
 nd:l.Nodup
 fr:∀v∈l,∃k:Nat,v=(k:Int)/\(33<=k/\k < n)/\bit x k=false/\bit x' k=true
 oth:∀i,i < 160->((i:Nat):Int)∉l->blk b' i=blk b i/\bit x' i=bit x i
 up:∀i,i < 160->bit x i=true->bit x' i=true
 zm:∀v∈z',v∈z\/v∈l
 bu:∀c∈b',U8s c
theorem Rr:U8s CG:=λv hv=>by
 unfold CG at hv;rw [Amk hv];omega
def own (data:List Int) (i:Nat):List Int:=(data.drop (124 * i)).take 124
structure Lr (n:Nat) (b:Bls) (x z data l:List Int) (b':Bls) (x' z':List Int):Prop where
 wk:Wk n b' x' z' 200
 bu:∀c∈b',U8s c
 len:l.length=nd data.length
 nd:l.Nodup
 at_:∀j,j < l.length->∃k:Nat,l[j]?=some (k:Int)/\(33<=k/\k < n)/\bit x k=false/\bit x' k=true/\blk b' k=Aje data l j
 oth:∀i,i < 160->((i:Nat):Int)∉l->blk b' i=blk b i/\bit x' i=bit x i
 up:∀i,i < 160->bit x i=true->bit x' i=true
 zm:∀v∈z',v∈z\/v∈l
 ct:cnt x' n+l.length=cnt x n
theorem Acv {l:List Int} (hl:l.length<=1048576):As l=some (l.any λv=>decide (¬ v=0)):=by
 unfold As BJ;obtain ⟨r,hr,h⟩:=Jv AX (λv=>decide (¬ v=0)) l (λk hk=>by
  unfold AX Ig gX wI;dsimp only;rw [iy O,iy O,AkE,Ai hk,AkB,AkB,Ak O];by_cases hz:gb l k=0 <;> simp [hz]) (by
  unfold AX gX wI;dsimp only;rw [ino O])
 rw [hr,AkB];rcases h with⟨rfl,h⟩ | ⟨k,rfl,h⟩
 .rw [h];rfl
 .rw [h];dsimp only;rw [AkB,decide_eq_true O]
theorem AhQ {d:List Int} (n:Nat) (h:n=d.length):rz (Dv d) n=true:=by
 subst h;unfold rz Dv;rw [List.drop_left,Ak7];intro v hv;rw [Amk hv];rfl
end Go.V.G
set_option maxRecDepth 100000
namespace Go.V.G
open Go.V
def BU (c:List Int):List Int:=(List.range 32).map λk=>num c (1+2 * k)
theorem Fs (c:List Int):(BU c).length=32:=by simp [BU]
def pgB (b:Bls) (x y:List Int) (a kind:Int):Bool:=liv b x y a && (decide (gb (blk b a.toNat) 0=kind) && rz (blk b a.toNat) 65)
def pg (b:Bls) (x y:List Int) (a kind:Int):List Int×Bool:=if pgB b x y a kind=true then(BU (blk b a.toNat),true)else([],false)
theorem Wf {b:Bls} {x y:List Int} {a kind:Int} (h:pgB b x y a kind=false):pg b x y a kind=([],false):=by unfold pg;rw [h];rfl
theorem R5 {b:Bls} {x y:List Int} {a kind:Int} (h:pgB b x y a kind=true):pg b x y a kind=(BU (blk b a.toNat),true):=by unfold pg;rw [h];rfl
theorem Aic {k:Nat} (h:k<=1048576):IntKind.wrap .i64 (1+(IntKind.wrap .i64 (2 * (k:Int))))=((1+2 * k:Nat):Int):=by
 rw [w64 (n:=2 * (k:Int)) O O,w64 O O];omega
theorem XZ {α:Type} (f:Nat->α) (k:Nat):(List.range (k+1)).map f=(List.range k).map f++[f k]:=by rw [Aml,Alk];rfl
theorem KS {α:Type} (f:Nat->α) (k:Nat):((List.range k).map f).length=k:=by simp
theorem Zh {b:Bls} {x y z c:List Int} {m k:Nat} (hbm:b[m]?=some c) (hc:c.length=128) (hu:U8s c) (hk:k < 32) :
  D3 ((m:Int),(List.range k).map (λk=>num c (1+2 * k)),((k:Nat):Int),b,x,y,z)=some (.inl ((m:Int),(List.range (k+1)).map (λk=>num c (1+2 * k)),((k+1:Nat):Int),b,x,y,z)):=by
 have e1:=Aic (k:=k) O;have e2:=Xn (k:=k) O;have u1:=DV hu (1+2 * k);have u2:=DV hu (2+2 * k);have ea:=S7 u1 u2;have en:num c (1+2 * k)=gb c (1+2 * k) * 256+gb c (2+2 * k):=by unfold num;rw [(O:1+2 * k+1=2+2 * k)]
 have g1:c[1+2 * k]?=some (gb c (1+2 * k)):=Ai O;have g2:c[2+2 * k]?=some (gb c (2+2 * k)):=Ai O;have hroom:∀v:Int,Aa (((List.range k).map (λk=>num c (1+2 * k))).length+([v]:List Int).length) 8=true:=λv=>by simp only [Aa,decide_eq_true_eq,KS,AkO];omega
 unfold D3 cK gX wI;dsimp only;simp (disch:=omega) only [iy,e1,e2,AkE,hbm,AkB,g1,g2,ea,<- en,Ak,hroom,Ak4,XZ]
theorem AcL {c l:List Int} {k:Nat} (hl:l.length<=1048576) (hk:k < l.length):Dj (c,l,(l.length:Int),(k:Int))=some (if decide (gb l k=0)=true then .inl (c,l,(l.length:Int),((k+1:Nat):Int))else .inr (.inr false)):=by
 unfold Dj gX wI;dsimp only;rw [iy O,iy O,AkE,Ai hk,AkB,Ak O];by_cases h:gb l k=0 <;> simp [h]
theorem O1 (l:List Int) (p:Int->Bool):(∀j,j < l.length->p (gb l j)=true)↔l.all p=true:=by
 rw [Ak7];constructor
 .intro h v hv;obtain ⟨j,hj,rfl⟩:=Alh hv;have:=h j hj;unfold gb at this
  rwa [AkD hj,Aln]at this
 .intro h j hj;exact h _ (All (Ai hj))
theorem Pt {b:Bls} {x y z:List Int} (g:RS b x y) (a kind:Int):HA b x y z a kind=some (pg b x y a kind):=by
 unfold HA pg pgB gX sX;rw [Mf g,AkB];cases hl:liv b x y a with
 | false=>rfl
 | true=>
  obtain ⟨m,rfl,h33,hm,_,_⟩:=Cp hl;have hc:=g.len hm;have hu:=g.hu _ (BF hm);have hbm:=Bu hm;rw [AkE];generalize hcc:blk b m=c at *;rw [AkG Z,iy O,hbm,AkB,iy O,show Int.toNat 0=0 from rfl,Ai (O:0 < c.length),AkB,AkB];dsimp only;by_cases h0:gb c 0=kind
  .rw [ino (not_not_intro h0),decide_eq_true h0];have hloop:=Am D3 (λk=>((m:Int),(List.range k).map (λk=>num c (1+2 * k)),((k:Nat):Int),b,x,y,z)) 32 ((m:Int),BU c,b,x,y,z)
    (λk hk=>Zh hbm hc hu hk) (by
     unfold D3 cK gX wI;dsimp only;rw [ino O];rfl)
   rw [show Ab D3 ((m:Int),[],0,b,x,y,z)=_ from hloop,AkB];dsimp only;have hd:List.take (Int.toNat (c.length:Int) - Int.toNat 65) (List.drop (Int.toNat 65) c)=c.drop 65:=by
    rw [AkE,show Int.toNat 65=65 from rfl];exact Alr (by rw [Ak5];omega)
   rw [iy O,AkE,hbm,AkB,iy O,iy O,iy O,iy O,hd];have hdl:(c.drop 65).length=63:=by rw [Ak5,hc]
   rcases BW Dj (λk=>(BU c,c.drop 65,(((c.drop 65).length:Nat):Int),((k:Nat):Int))) (λk=>decide (gb (c.drop 65) k=0)) (λ_=>false) (BU c) (c.drop 65).length
    (λk hk=>AcL O hk) (by
     unfold Dj gX wI;dsimp only;rw [ino O])with⟨ha,hlp⟩ | ⟨k,hk,hp,_,hlp⟩
   .have hr:rz c 65=true:=(O1 (c.drop 65) λv=>decide (v=0)).1 ha;rw [show Ab Dj (BU c,c.drop 65,(((c.drop 65).length:Nat):Int),0)=_ from hlp,AkB,hr];rfl
   .have hr:rz c 65=false:=by
     cases h:rz c 65 with
     | false=>rfl
     | true=>
      have:=(O1 (c.drop 65) λv=>decide (v=0)).2 h k hk;rw [hp]at this;cases this
    rw [show Ab Dj (BU c,c.drop 65,(((c.drop 65).length:Nat):Int),0)=_ from hlp,AkB,hr];rfl
  .rw [iy h0,decide_eq_false h0];rfl
theorem AeR {l:List Int} (hl:l.length<=1048576):A6 l=some (l.any λv=>decide (¬ v=0)):=by
 unfold A6 BR;obtain ⟨r,hr,h⟩:=Jv A4 (λv=>decide (¬ v=0)) l (λk hk=>by
  unfold A4 JA gX wI;dsimp only;rw [iy O,iy O,AkE,Ai hk,AkB,AkB,Ak O];by_cases hz:gb l k=0 <;> simp [hz]) (by
  unfold A4 gX wI;dsimp only;rw [ino O])
 rw [hr,AkB];rcases h with⟨rfl,h⟩ | ⟨k,rfl,h⟩
 .rw [h];rfl
 .rw [h];dsimp only;rw [AkB,decide_eq_true O]
theorem Vk {b:Bls} {x y z:List Int} (g:RS b x y) (a kind:Int):GC (b,x,y,z) a kind=some (pg b x y a kind):=by
 unfold GC pg pgB gX sX;rw [Kk g,AkB];cases hl:liv b x y a with
 | false=>rfl
 | true=>
  obtain ⟨m,rfl,h33,hm,_,_⟩:=Cp hl;have hc:=g.len hm;have hu:=g.hu _ (BF hm);have hbm:=Bu hm;rw [AkE];generalize hcc:blk b m=c at *;rw [AkG Z];dsimp only;rw [iy O,hbm,AkB,iy O,show Int.toNat 0=0 from rfl,Ai (O:0 < c.length),AkB,AkB];dsimp only;by_cases h0:gb c 0=kind
  .rw [ino (not_not_intro h0),decide_eq_true h0];have hd:List.take (Int.toNat (c.length:Int) - Int.toNat 65) (List.drop (Int.toNat 65) c)=c.drop 65:=by
    rw [AkE,show Int.toNat 65=65 from rfl];exact Alr (by rw [Ak5];omega)
   rw [iy O,AkE,hbm,AkB,iy O,iy O,iy O,iy O,hd,AeR (by rw [Ak5];omega),M4,AkB];cases hr:rz c 65 with
   | false=>rfl
   | true=>
    have hloop:=Am EA (λk=>(c,(List.range k).map (λk=>num c (1+2 * k)),((k:Nat):Int))) 32 (BU c) (λk hk=>by
     have e1:=Aic (k:=k) O;have hn:=Gd hu (i:=1+2 * k) O O;have hroom:∀v:Int,Aa (((List.range k).map (λk=>num c (1+2 * k))).length+([v]:List Int).length) 8=true:=λv=>by simp only [Aa,decide_eq_true_eq,KS,AkO];omega
     unfold EA cK wI;dsimp only;simp (disch:=omega) only [iy,e1,hn,AkB,Ak,hroom,Ak4,XZ]) (by
     unfold EA cK wI;dsimp only;rw [ino O];rfl)
    rw [AkG Z,show Ab EA (c,[],0)=_ from hloop,AkB];rfl
  .rw [iy h0,decide_eq_false h0];rfl
def nz (l:List Int):Bool:=l.any λv=>decide (¬ v=0)
theorem Xw {l:List Int} (hl:l.length<=1048576):Ny l=some (nz l):=by
 unfold Ny nz;rcases BW G4 (λk=>(l,(l.length:Int),((k:Nat):Int))) (λk=>decide (gb l k=0)) (λ_=>true) () l.length (λk hk=>by
  unfold G4 gX wI;dsimp only;rw [iy O,iy O,AkE,Ai hk,AkB,Ak O];by_cases hz:gb l k=0 <;> simp [hz]) (by
  unfold G4 gX wI;dsimp only;rw [ino O])with⟨ha,hlp⟩ | ⟨k,hk,hp,_,hlp⟩
 .rw [show Ab G4 (l,(l.length:Int),0)=_ from hlp,AkB];have:=(O1 l λv=>decide (v=0)).1 ha;refine congrArg some (Eq.symm ?_);rw [AlK];intro v hv;have:=Ak7.1 this v hv;simpa using this
 .rw [show Ab G4 (l,(l.length:Int),0)=_ from hlp,AkB];refine congrArg some (Eq.symm ?_);rw [AmM];exact⟨_,All (Ai hk),by simpa using hp⟩
theorem Sv {l:List Int} (hl:l.length<=1048576):J9 l=some (!nz l):=by
 unfold J9 BX Ci nz;obtain ⟨r,hr,h⟩:=Jv Bq (λv=>decide (¬ v=0)) l (λk hk=>by
  unfold Bq MG gX wI;dsimp only;rw [iy O,iy O,AkE,Ai hk,AkB,AkB,Ak O];by_cases hz:gb l k=0 <;> simp [hz]) (by
  unfold Bq gX wI;dsimp only;rw [ino O])
 rw [hr,AkB];rcases h with⟨rfl,h⟩ | ⟨k,rfl,h⟩
 .rw [h];rfl
 .rw [h];dsimp only;rw [AkB,AkB,decide_eq_true O]
def isb (b:Bls) (x:List Int) (v:Int):Bool:=decide (33<=v/\v<=(b.length:Int) - 1) && bit x v.toNat
theorem Abx {b:Bls} {x y z:List Int} (g:RS b x y) (v:Int):LX b x y z v=some (isb b x v):=by
 have hn:=g.hn;have hx:=g.hx;unfold LX isb wI;rw [Cf,w64 O O,AkB];by_cases h1:33<=v/\v<=(b.length:Int) - 1
 .obtain ⟨m,rfl⟩:=Ak6 (O:0<=v);rw [decide_eq_true h1,AkH rfl,J0 O O,AkB,AkE];rfl
 .rw [decide_eq_false h1];rfl
def MA (b:Bls) (x:List Int) (l:List Int):Bool:=l.any λv=>decide (¬ v=0) && !isb b x v
theorem AcD {b:Bls} {x y z:List Int} (g:RS b x y) (v:Int):Hh v (some (b,x,y,z))=some (decide (¬ v=0) && !isb b x v,some (b,x,y,z)):=by
 unfold Hh;by_cases h:v=0
 .rw [ino (not_not_intro h),decide_eq_false (not_not_intro h)];rfl
 .rw [iy h,decide_eq_true h,AkB,OJ g,AkB];rfl
theorem Ae4 {b:Bls} {x y z l:List Int} (g:RS b x y) (hl:l.length<=1048576):A5 l (some (b,x,y,z))=some (l,MA b x l,some (b,x,y,z)):=by
 unfold A5 BQ MA;rcases BW AD (λk=>(l,(l.length:Int),((k:Nat):Int),some (b,x,y,z))) (λk=>!(decide (¬ gb l k=0) && !isb b x (gb l k))) (λk=>(l,((k:Nat):Int),some (b,x,y,z))) (l,some (b,x,y,z)) l.length (λk hk=>by
  unfold AD cK cZ wI;dsimp only;rw [iy O,iy O,iy O,AkE,AkZ,Ai hk,AkB,AcD g,AkB,Ak O];dsimp only;cases (decide (¬ gb l k=0) && !isb b x (gb l k)) <;> rfl) (by
  unfold AD cK cZ wI;dsimp only;rw [ino O])with⟨ha,hlp⟩ | ⟨k,hk,hp,_,hlp⟩
 .rw [show Ab AD (l,(l.length:Int),0,some (b,x,y,z))=_ from hlp,AkB];dsimp only;rw [AkB];have:=(O1 l λv=>!(decide (¬ v=0) && !isb b x v)).1 ha;have h2:(l.any λv=>decide (¬ v=0) && !isb b x v)=false:=by
   rw [AlK];intro v hv;have:=Ak7.1 this v hv;rw [AkP]at this;rw [this];simp
  rw [h2];rfl
 .rw [show Ab AD (l,(l.length:Int),0,some (b,x,y,z))=_ from hlp,AkB];dsimp only;rw [AkB];have h2:(l.any λv=>decide (¬ v=0) && !isb b x v)=true:=by
   rw [AmM];exact⟨_,All (Ai hk),by simpa using hp⟩
  rw [h2,decide_eq_true (show(0:Int)<=(k:Int) by omega)]
end Go.V.G
set_option maxRecDepth 100000
namespace Go.V.G
open Go.V
theorem RF {σ τ ρ:Type} (L:σ->Option (σ⊕(τ⊕ρ))) (st:Nat->σ) (l:List Int) (p:Int->Bool) (e:ρ) (z:τ)
  (step:∀k,k < l.length->L (st k)=some (if p (gb l k)=true then .inr (.inr e)else .inl (st (k+1)))) (last:L (st l.length)=some (.inr (.inl z))) :
  Ab L (st 0)=some (if l.any p=true then .inr e else .inl z):=by
 rcases BW L st (λk=>!p (gb l k)) (λ_=>e) z l.length (λk hk=>by rw [step k hk];cases p (gb l k) <;> rfl) last with⟨ha,hlp⟩ | ⟨k,hk,hp,_,hlp⟩
 .have:=(O1 l λv=>!p v).1 ha;have h2:l.any p=false:=by
   rw [AlK];intro v hv;have:=Ak7.1 this v hv;simpa using this
  rw [hlp,h2];rfl
 .have h2:l.any p=true:=by
   rw [AmM];exact⟨_,All (Ai hk),by simpa using hp⟩
  rw [hlp,h2];rfl
theorem Qz {α:Type} (n k:Nat) (g h:Nat->α):((List.range n).map (λj=>if j < k then g j else h j)).set k (g k)=(List.range n).map (λj=>if j < k+1 then g j else h j):=by
 apply Alz;intro i;rw [AmX,Ali,Ali,Ak8,List.length_range];by_cases hi:i < n
 .rw [Amz hi];by_cases hki:k=i
  .subst hki;simp [hi]
  .have:(i < k)=(i < k+1):=by apply propext;omega
   simp [hki,this]
 .rw [Ak2 (by simpa using hi)];by_cases hki:k=i
  .subst hki;simp [hi]
  .simp [hki]
theorem QK {α:Type} (n:Nat) (f:Nat->α) {k:Nat} (h:k < n):((List.range n).map f)[k]?=some (f k):=by rw [Ali,Amz h];rfl
theorem Qj {α:Type} (n:Nat) (g h:Nat->α):(List.range n).map (λj=>if j < n then g j else h j)=(List.range n).map g:=
 AlD λj hj=>AkH (Amd.1 hj)
theorem map_none {α:Type} (n:Nat) (g h:Nat->α):(List.range n).map (λj=>if j < 0 then g j else h j)=(List.range n).map h:=
 AlD λj _=>AkG O
theorem Kc {α:Type} (n:Nat) (v:α):(List.range n).map (λ_=>v)=List.replicate n v:=by
 apply Alz;intro i;rw [Ali,List.getElem?_replicate];by_cases hi:i < n
 .rw [Amz hi,AkH hi];rfl
 .rw [AkG hi,Ak2 (by simpa using hi)];rfl
theorem AcC {l:List Int} {n:Nat} (h:l.length=n):(List.range n).map (gb l)=l:=by
 apply Alz;intro i;rw [Ali];by_cases hi:i < n
 .rw [Amz hi,Ai O];rfl
 .rw [Ak2 (by simpa using hi),Ak2 O];rfl
def zer:List Int:=List.replicate 32 0
def lfs (b:Bls) (a:Int):List Int:=if a=0 then []else BU (blk b a.toNat)
def lfv (b:Bls) (a:Int):List Int:=if a=0 then zer else BU (blk b a.toNat)
theorem AaW (b:Bls) (a:Int):(lfv b a).length=32:=by unfold lfv zer;split <;> simp [Fs]
def stG (b:Bls) (x y top:List Int) (k:Nat):Bool:=
 decide (gb top k=0) || (pgB b x y (gb top k) 81 && (nz (BU (blk b (gb top k).toNat)) && (!(top.take k).any (λv=>decide (v=gb top k)) && !MA b x (BU (blk b (gb top k).toNat)))))
def I3 (b:Bls) (root:Int):List Int:=BU (blk b root.toNat)
def tre (b:Bls) (x y:List Int) (root:Int):Option (List Int):=
 if root=0 then some zer else if(pgB b x y root 80 && (nz (I3 b root) && (List.range 32).all (stG b x y (I3 b root))))=true then some (I3 b root)else none
theorem AiY {b:Bls} {x y z top:List Int} {lv:List (List Int)} {a n:Int} {k:Nat} (hk:k<=top.length) (ht:top.length<=1000) :
  Ab HC (lv,top,(k:Int),a,n,(k:Int),((0:Nat):Int),(k:Int),(k:Int),0,b,x,y,z) =
   some (if(top.take k).any (λv=>decide (v=a))=true then .inr false else .inl (lv,top,(k:Int),a,n,(k:Int),b,x,y,z)):=by
 have hl:(top.take k).length=k:=by rw [AkL];omega
 exact RF HC (λi=>(lv,top,(k:Int),a,n,(k:Int),((0:Nat):Int),(k:Int),(k:Int),((i:Nat):Int),b,x,y,z)) (top.take k) (λv=>decide (v=a)) false
  (lv,top,(k:Int),a,n,(k:Int),b,x,y,z) (λi hi=>by
   have hi':i < k:=O
   have hg:top[i]?=some (gb (top.take k) i):=by
    rw [<- Ai hi,AkW hi']
   unfold HC cK cZ wI;dsimp only;have hd:((List.drop (Int.toNat ((0:Nat):Int)) top).take (Int.toNat (k:Int))).length=k:=by
    rw [AkE,AkE,AlH,hl]
   rw [iy O,iy O,hd,iy O];simp only [AkE,AkZ];rw [hg,AkB,Ak O];by_cases h:gb (top.take k) i=a
   .rw [iy h,decide_eq_true h];rfl
   .rw [ino h,decide_eq_false h];rfl) (by
   rw [hl];unfold HC cK cZ wI;dsimp only;rw [ino O])
theorem AhN {b:Bls} {x y z top l:List Int} {lv:List (List Int)} {n:Int} {i j:Int} (g:RS b x y) (hl:l.length<=1000) :
  Ab Hy (lv,top,i,l,n,j,(l.length:Int),0,b,x,y,z)=some (if MA b x l=true then .inr false else .inl (lv,top,i,l,n,j,b,x,y,z)):=by
 exact RF Hy (λk=>(lv,top,i,l,n,j,(l.length:Int),((k:Nat):Int),b,x,y,z)) l (λv=>decide (¬ v=0) && !isb b x v) false
  (lv,top,i,l,n,j,b,x,y,z) (λk hk=>by
   unfold Hy cK cZ wI;dsimp only;rw [iy O,iy O,iy O,AkE,AkZ,Ai hk,AkB];by_cases h:gb l k=0
   .rw [ino (not_not_intro h),decide_eq_false (not_not_intro h),AkB];dsimp only;rw [Ak O];rfl
   .rw [iy h,decide_eq_true h,Abx g,AkB,AkB];dsimp only;rw [Ak O];cases isb b x (gb l k) <;> rfl) (by
   unfold Hy cK cZ wI;dsimp only;rw [ino O])
theorem Z4 {b:Bls} {x y z top:List Int} {k:Nat} (g:RS b x y) (ht:top.length=32) (hk:k < 32) :
  EE ((List.range 32).map (λj=>if j < k then lfs b (gb top j)else []),top,((32:Nat):Int),(k:Int),b,x,y,z) =
   some (if stG b x y top k=true then .inl ((List.range 32).map (λj=>if j < k+1 then lfs b (gb top j)else []),top,((32:Nat):Int),((k+1:Nat):Int),b,x,y,z)else .inr (.inr false)):=by
 have hs:=Qz 32 k (λj=>lfs b (gb top j)) (λ_=>[]);have hgt:=QK 32 (λj=>if j < k then lfs b (gb top j)else []) hk;have hln:((List.range 32).map (λj=>if j < k then lfs b (gb top j)else [])).length=32:=KS _ _;generalize (List.range 32).map (λj=>if j < k then lfs b (gb top j)else [])=lv at *;have hgk:top[k]?=some (gb top k):=Ai O;have hd:((List.drop (Int.toNat 0) top).take (Int.toNat (k:Int) - Int.toNat 0)).length=k:=by
  rw [AkE,show Int.toNat 0=0 from rfl,AlH,Amt,AkL];omega
 have hz0:(((Int.toNat 0:Nat)):Int)=((0:Nat):Int):=rfl;have hzk:(((Int.toNat (k:Int) - Int.toNat 0:Nat)):Int)=(k:Int):=by rw [AkE];rfl
 have hdup:=AiY (b:=b) (x:=x) (y:=y) (z:=z) (lv:=lv) (a:=gb top k) (n:=((32:Nat):Int)) (O:k<=top.length) O;unfold EE cK cZ sX wI;dsimp only;rw [iy O,iy O,iy O,AkE,AkZ,hgk,AkB];unfold stG;generalize hak:gb top k=a at *;by_cases h0:a=0
 .rw [iy h0,AkB];dsimp only;rw [Ak O,decide_eq_true h0,Bool.true_or,AkH rfl,<- hs];refine congrArg some (congrArg Sum.inl ?_);have:lfs b a=[]:=by unfold lfs;rw [AkH h0]
  rw [this];refine congrArg (λq=>(q,_)) ?_;apply Alz;intro i;rw [AmX];split
  .rename_i he;subst he;rw [AkH O,hgt,AkG O]
  .rfl
 rw [ino h0,decide_eq_false h0,AlT,iy O,iy O,iy O,iy O];rw [AkE]at hd hzk;rw [hd,hz0,hzk,hdup,AkB];cases hdp:(top.take k).any λv=>decide (v=a)with
 | true=>
  rw [AkH rfl];dsimp only;rw [AkB];dsimp only;rw [Alt,Al1,AmL,AmL,AkG Z]
 | false=>
  rw [AkG Z];dsimp only;rw [Pt g,Amw,AkS];cases hp:pgB b x y a 81 with
  | false=>
   rw [Wf hp,AkB];dsimp only;rw [AkH Z,AkB];dsimp only;rw [AkH rfl,AkB];dsimp only;rw [Al1,AkG Z]
  | true=>
   rw [R5 hp,AkB];dsimp only;have hpl:=Fs (blk b a.toNat);rw [AkG Z,Xw O,AkB,AkB];dsimp only;rw [AkS];cases hnz:nz (BU (blk b a.toNat))with
   | false=>
    rw [AkH Z,AkB];dsimp only;rw [Al1,AkG Z]
   | true=>
    rw [AkG Z,AhN g O,AkB,AkS];cases hbd:MA b x (BU (blk b a.toNat))with
    | true=>
     rw [AkH rfl];dsimp only;rw [AkB];rfl
    | false=>
     rw [AkG Z];dsimp only;have hg2:lv[0+k]?=some []:=by rw [AkZ,hgt,AkG O]
     rw [iy O,hln,iy O,AkE,hg2,AkB,AkB,AkB,AkZ];dsimp only;rw [Ak O,Amw,AkH rfl,<- hs];have:lfs b a=BU (blk b a.toNat):=by unfold lfs;rw [AkG h0]
     rw [this]
def trS (b:Bls) (o:Option (List Int)):List (List Int)×(List Int×Bool):=match o with
 | some top=>(top.map (lfs b),top,true)
 | none=>([],[],false)
def trI (b:Bls) (root:Int) (o:Option (List Int)):Bool×(Int×(List Int×List (List Int))):=match o with
 | some top=>(true,root,top,top.map (lfv b))
 | none=>(false,0,[],[])
theorem Adi {α:Type} (f:Int->α) {l:List Int} {n:Nat} (h:l.length=n):(List.range n).map (λj=>f (gb l j))=l.map f:=by
 have:=congrArg (List.map f) (AcC h);rw [AlA]at this;exact this
theorem AhT:Aa (Int.toNat 32) 24=true:=by simp [Aa]
theorem rm8:Aa (Int.toNat 32) 8=true:=by simp [Aa]
theorem PB {b:Bls} {x y z:List Int} (g:RS b x y) (root:Int):Ji b x y z root=some (trS b (tre b x y root)):=by
 unfold Ji tre cK cZ;rw [iy O,iy O,AkH AhT,iy O,iy O,AkH rm8];by_cases h0:root=0
 .rw [iy h0,AkH h0];unfold trS zer;dsimp only;rw [List.map_replicate];rfl
 rw [ino h0,AkG h0,Pt g];unfold I3;cases hp:pgB b x y root 80 with
 | false=>rw [Wf hp];rfl
 | true=>
  rw [R5 hp,AkB];dsimp only;have hpl:=Fs (blk b root.toNat);generalize BU (blk b root.toNat)=top at *;rw [AkG Z,Xw O,AkB,AkB];dsimp only;rw [AkS];cases hnz:nz top with
  | false=>rfl
  | true=>
   rw [AkG Z,hpl,AkS];have e0:List.replicate (Int.toNat 32) ([]:List Int)=(List.range 32).map (λj=>if j < 0 then lfs b (gb top j)else []):=by
    rw [map_none,Kc];rfl
   rw [e0];rcases BW EE (λk=>((List.range 32).map (λj=>if j < k then lfs b (gb top j)else []),top,((32:Nat):Int),((k:Nat):Int),b,x,y,z)) (λk=>stG b x y top k) (λ_=>false)
    ((List.range 32).map (λj=>if j < 32 then lfs b (gb top j)else []),top) 32 (λk hk=>Z4 g hpl hk) (by
     unfold EE cK cZ sX wI;dsimp only;rw [ino O])with⟨ha,hlp⟩ | ⟨k,hk,hq,_,hlp⟩
   .rw [show Ab EE ((List.range 32).map (λj=>if j < 0 then lfs b (gb top j)else []),top,((32:Nat):Int),0,b,x,y,z)=_ from hlp,AkB,AkH (all_range.2 ha),Qj,Adi _ hpl];rfl
   .have hn:((List.range 32).all (stG b x y top))=false:=by
     cases h:(List.range 32).all (stG b x y top)with
     | false=>rfl
     | true=>have:=all_range.1 h k hk;rw [hq]at this;cases this
    rw [show Ab EE ((List.range 32).map (λj=>if j < 0 then lfs b (gb top j)else []),top,((32:Nat):Int),0,b,x,y,z)=_ from hlp,AkB,hn];rfl
theorem Z3 {b:Bls} {x y z:List Int} (root:Int):Ab Ez (root,(List.length (List.replicate (Int.toNat 32) ([]:List Int)):Int),0,some (b,x,y,z),0,root,List.replicate (Int.toNat 32) (0:Int),List.replicate (Int.toNat 32) ([]:List Int)) =
  some (root,some (b,x,y,z),0,root,zer,List.replicate 32 zer):=by
 have hln:∀k,((List.range 32).map (λj=>if j < k then zer else([]:List Int))).length=32:=λk=>KS _ _
 have hl:=Am Ez (λk=>(root,((32:Nat):Int),((k:Nat):Int),some (b,x,y,z),0,root,zer,(List.range 32).map (λj=>if j < k then zer else []))) 32 (root,some (b,x,y,z),0,root,zer,(List.range 32).map (λj=>if j < 32 then zer else [])) (λk hk=>by
   have hs:=Qz 32 k (λ_=>zer) (λ_=>([]:List Int));have hgt:=QK 32 (λj=>if j < k then zer else([]:List Int)) hk;have h1:=hln k;generalize (List.range 32).map (λj=>if j < k then zer else([]:List Int))=lv at *;unfold Ez cK cZ wI;dsimp only;rw [iy O,iy O,iy O,AkH rm8,iy O,h1,iy O,AkE,AkZ,hgt,AkB,AkB,Ak O,<- hs];rfl) (by
   unfold Ez cK cZ wI;dsimp only;rw [ino O])
 rw [Qj,Kc]at hl;have e0:List.replicate (Int.toNat 32) ([]:List Int)=(List.range 32).map (λj=>if j < 0 then zer else []):=by
  rw [map_none,Kc];rfl
 rw [e0,hln 0];exact hl
theorem Z8 {b:Bls} {x y z top:List Int} {root:Int} {k:Nat} (g:RS b x y) (ht:top.length=32) (hk:k < 32) :
  C2 (top,((32:Nat):Int),(k:Int),some (b,x,y,z),0,root,(List.range 32).map (λj=>if j < k then gb top j else 0),(List.range 32).map (λj=>if j < k then lfv b (gb top j)else zer)) =
   some (if stG b x y top k=true then .inl (top,((32:Nat):Int),((k+1:Nat):Int),some (b,x,y,z),0,root,(List.range 32).map (λj=>if j < k+1 then gb top j else 0),(List.range 32).map (λj=>if j < k+1 then lfv b (gb top j)else zer))else .inr (.inr (false,0))):=by
 have hs1:=Qz 32 k (λj=>gb top j) (λ_=>(0:Int));have hs2:=Qz 32 k (λj=>lfv b (gb top j)) (λ_=>zer);have hg1:=QK 32 (λj=>if j < k then gb top j else 0) hk;have hg2:=QK 32 (λj=>if j < k then lfv b (gb top j)else zer) hk;have hl1:((List.range 32).map (λj=>if j < k then gb top j else 0)).length=32:=KS _ _;have hl2:((List.range 32).map (λj=>if j < k then lfv b (gb top j)else zer)).length=32:=KS _ _;generalize (List.range 32).map (λj=>if j < k then gb top j else 0)=lv at *;generalize (List.range 32).map (λj=>if j < k then lfv b (gb top j)else zer)=vs at *;have hgk:top[k]?=some (gb top k):=Ai O;have hd:(List.drop (Int.toNat 0) top).take (k - Int.toNat 0)=top.take k:=by
  rw [show Int.toNat 0=0 from rfl,AlH,Amt]
 rw [AkG O]at hg1 hg2;unfold C2 cK cZ sX wI;dsimp only;rw [iy O,iy O,iy O,AkE,AkZ,hgk,AkB];unfold stG;generalize hak:gb top k=a at *;by_cases h0:a=0
 .rw [iy h0,AkB];dsimp only;rw [Ak O,decide_eq_true h0,Bool.true_or,AkH rfl];have e1:lfv b a=zer:=by unfold lfv;rw [AkH h0]
  rw [e1]at hs2;rw [h0]at hs1;rw [<- hs1,<- hs2];have q1:lv.set k 0=lv:=by
   apply Alz;intro i;rw [AmX];split
   .rename_i he;subst he;rw [AkH O,hg1]
   .rfl
  have q2:vs.set k zer=vs:=by
   apply Alz;intro i;rw [AmX];split
   .rename_i he;subst he;rw [AkH O,hg2]
   .rfl
  rw [q1,q2]
 have hpl:=Fs (blk b a.toNat);have e1:lfv b a=BU (blk b a.toNat):=by unfold lfv;rw [AkG h0]
 rw [e1]at hs2;rw [ino h0,decide_eq_false h0,AlT,AkB,Vk g];cases hp:pgB b x y a 81 with
 | false=>
  rw [Wf hp,AkB];dsimp only;rw [AkH Z,AkB];dsimp only;rw [AkH rfl,AkB];dsimp only;rw [Al1,AkG Z]
 | true=>
  rw [R5 hp,AkB];dsimp only;rw [AkG Z,Sv O,AkB,AkS];cases hnz:nz (BU (blk b a.toNat))with
  | false=>
   rw [AkH Z,AkB];dsimp only;rw [AkH rfl,AkB];dsimp only;rw [Al1,AkG Z]
  | true=>
   rw [AkG Z,iy O,iy O,iy O,iy O,hd,Gj (by rw [AkL];omega),AkB,AkS];have hany:((top.take k).any λv=>decide (v=a))=decide (a∈top.take k):=by
    by_cases hm:a∈top.take k
    .rw [decide_eq_true hm,AmM];exact⟨a,hm,Z⟩
    .rw [decide_eq_false hm,AlK];intro v hv hva;have:v=a:=by simpa using hva
     exact hm (this ▸ hv)
   rw [hany];cases hdp:decide (a∈top.take k)with
   | true=>
    rw [AkH rfl,AkB];dsimp only;rw [AkH rfl,AkB];rfl
   | false=>
    rw [AkG Z,Ae4 g O,AkB,AkB];dsimp only;cases hbd:MA b x (BU (blk b a.toNat))with
    | true=>
     rw [AkH rfl,AkB];rfl
    | false=>
     rw [AkG Z,iy O,hl1,iy O,AkE,AkZ,hg1,AkB,AkB,iy O,hl2,iy O,hg2,AkB,AkB,AkB];dsimp only;rw [Ak O,AkH Z,hs1,hs2]
theorem US {b:Bls} {x y z:List Int} (g:RS b x y) (root:Int):GQ (b,x,y,z) root=some (trI b root (tre b x y root)):=by
 unfold GQ tre cK cZ;rw [iy O,iy O,AkH rm8,iy O,iy O,AkH AhT,Z3,AkB];dsimp only;by_cases h0:root=0
 .rw [iy h0,AkH h0];unfold trI;dsimp only;have:zer.map (lfv b)=List.replicate 32 zer:=by unfold zer;rw [List.map_replicate];rfl
  rw [this]
 rw [ino h0,AkG h0,AkB,Vk g];unfold I3;cases hp:pgB b x y root 80 with
 | false=>rw [Wf hp];rfl
 | true=>
  rw [R5 hp,AkB];dsimp only;have hpl:=Fs (blk b root.toNat);generalize BU (blk b root.toNat)=top at *;rw [AkG Z,Sv O,AkB,AkB];dsimp only;rw [AkS];cases hnz:nz top with
  | false=>rfl
  | true=>
   rw [AkG Z,hpl,AkS];have e0:zer=(List.range 32).map (λj=>if j < 0 then gb top j else 0):=by
    rw [map_none,Kc];rfl
   have e1:List.replicate 32 zer=(List.range 32).map (λj=>if j < 0 then lfv b (gb top j)else zer):=by
    rw [map_none,Kc]
   rw [e1];rcases BW C2 (λk=>(top,((32:Nat):Int),((k:Nat):Int),some (b,x,y,z),0,root,(List.range 32).map (λj=>if j < k then gb top j else 0),(List.range 32).map (λj=>if j < k then lfv b (gb top j)else zer))) (λk=>stG b x y top k) (λ_=>(false,0))
    (0,root,(List.range 32).map (λj=>if j < 32 then gb top j else 0),(List.range 32).map (λj=>if j < 32 then lfv b (gb top j)else zer)) 32 (λk hk=>Z8 g hpl hk) (by
     unfold C2 cK cZ sX wI;dsimp only;rw [ino O])with⟨ha,hlp⟩ | ⟨k,hk,hq,_,hlp⟩
   .have hlp':Ab C2 (top,((32:Nat):Int),0,some (b,x,y,z),0,root,zer,(List.range 32).map (λj=>if j < 0 then lfv b (gb top j)else zer))=_:=e0 ▸ hlp;rw [hlp',AkB,AkH (all_range.2 ha),Qj,Qj,Adi _ hpl,AcC hpl];rfl
   .have hn:((List.range 32).all (stG b x y top))=false:=by
     cases h:(List.range 32).all (stG b x y top)with
     | false=>rfl
     | true=>have:=all_range.1 h k hk;rw [hq]at this;cases this
    have hlp':Ab C2 (top,((32:Nat):Int),0,some (b,x,y,z),0,root,zer,(List.range 32).map (λj=>if j < 0 then lfv b (gb top j)else zer))=_:=e0 ▸ hlp;rw [hlp',AkB,hn];rfl
theorem HZ {b:Bls} {x y z:List Int} (h:SB b x y z) (hu:∀c∈b,U8s c) (root:Int):Hn b x y z root=some (gsp b x y z && (tre b x y root).isSome):=by
 unfold Hn;rw [Nl h,AkB];cases hg:gsp b x y z with
 | false=>rfl
 | true=>
  rw [AkG Z,PB ((Qx hg).rs h hu),AkB];unfold trS;cases tre b x y root <;> rfl
end Go.V.G
set_option maxRecDepth 100000
namespace Go.V.G
open Go.V
abbrev Kv:=Int×Int
def sg (l:List Kv) (i:Nat):Kv:=l[i]?.getD (0,0)
theorem Jj {l:List Kv} {i:Nat} (h:i < l.length):l[i]?=some (sg l i):=by unfold sg;rw [AkD h];rfl
def Ack (b:Bls) (x y:List Int) (l:List Kv) (i:Nat):Bool:=
 decide (0<=(sg l i).1/\(sg l i).1<=1023) && ((decide ((sg l i).2=0) || liv b x y (sg l i).2) && (decide (i=0) || decide ((sg l (i - 1)).1 < (sg l i).1)))
def AbZ (b:Bls) (x y:List Int) (l:List Kv):Bool:=decide (l.length<=64) && (List.range l.length).all (Ack b x y l)
theorem im1 {k:Nat} (h:k<=1048576) (h0:0 < k):IntKind.wrap .i64 ((k:Int) - 1)=((k - 1:Nat):Int):=by rw [w64 O O];omega
def Ks (l:List Kv):Prop:=∀s∈l,0<=s.1/\s.1<=1023
def upd (k:Nat) (l:List Int) (s:Kv):List Int:=if s.1.toNat / 32=k then l.set (s.1.toNat % 32) s.2 else l
def av (b:Bls) (top:List Int) (l:List Kv) (k:Nat):List Int:=l.foldl (upd k) (lfv b (gb top k))
def oth (l:List Kv) (k:Nat):Bool:=l.any λs=>decide (s.1.toNat / 32=k)
def aft (b:Bls) (top:List Int) (l:List Kv) (k:Nat):List Int:=if oth l k=true then av b top l k else lfs b (gb top k)
theorem CE {α:Type} {l:List α} {i:Nat} {s:α} (h:l[i]?=some s):l.take (i+1)=l.take i++[s]:=by
 obtain ⟨hi,rfl⟩:=Ald.1 h;exact Ak0 hi
theorem Aga {b:Bls} {top:List Int}:∀{l:List Kv} {k:Nat},oth l k=false->av b top l k=lfv b (gb top k):=by
 intro l k h;unfold av;unfold oth at h;rw [AlK]at h;generalize lfv b (gb top k)=v
 induction l generalizing v with
 | nil=>rfl
 | cons s l ih=>
  rw [Al9];have h1:=h s Z;have:upd k v s=v:=by unfold upd;rw [AkG (by simpa using h1)]
  rw [this];exact ih (λs hs=>h s (by simp [hs])) v
theorem OI (k:Nat):∀(l:List Kv) (v:List Int),(l.foldl (upd k) v).length=v.length
 | [],v=>rfl
 | s::l,v=>by
  rw [Al9,OI k l];unfold upd;split <;> simp
theorem SH (b:Bls) (top:List Int) (l:List Kv) (k:Nat):(av b top l k).length=32:=by unfold av;rw [OI,AaW]
theorem Ag6 {n:Int} (h:0<=n/\n<=1023):IntKind.wrap .i64 (Int.tdiv n 32)=((n.toNat / 32:Nat):Int)/\n.toNat / 32 < 32:=by
 obtain ⟨m,rfl⟩:=Ak6 h.1;have hm:m<=1023:=O
 rw [Int.tdiv_eq_ediv_of_nonneg O,AkE,w64 O O];omega
theorem Ahg {n:Int} (h:0<=n/\n<=1023):Int.tmod n 32=((n.toNat % 32:Nat):Int)/\n.toNat % 32 < 32:=by
 obtain ⟨m,rfl⟩:=Ak6 h.1;rw [Amc O,AkE];omega
def nwC (b:Bls) (top:List Int) (l:List Kv):Nat->Nat
 | 0=>0
 | k+1=>nwC b top l k+(if(oth l k && nz (av b top l k))=true then 1 else 0)
def anC (b:Bls) (top:List Int) (l:List Kv) (k:Nat):Bool:=(List.range k).any λj=>nz (av b top l j)
end Go.V.G
set_option maxRecDepth 100000
namespace Go.V.G
open Go.V
def Eh (n:Int):List Int:=[IntKind.wrap .u8 (n / 256),IntKind.wrap .u8 n]
def pgb (kind:Int) (l:List Int):List Int:=[kind]++l.flatMap Eh
theorem PW:∀l:List Int,(l.flatMap Eh).length=2 * l.length
 | []=>rfl
 | a::l=>by rw [AlY,AkJ,PW l];simp [Eh];omega
theorem AaG (kind:Int) {l:List Int} (h:l.length=32):(pgb kind l).length=65:=by unfold pgb;rw [AkJ,PW,h];rfl
def V2 (l:List Int):Prop:=∀v∈l,0<=v/\v<=65535
theorem AgS {n:Int} (h:0<=n/\n<=65535):LY n=some (Eh n):=by
 unfold LY Eh cZ wB;rw [iy O,show(2:Int) ^ (min (Int.toNat 8) (IntKind.bits .i64))=256 from rfl,AmF _ O]
theorem Akt {n:Int} (h:0<=n/\n<=65535):IntKind.wrap .i64 (Int.tdiv n 256)=n / 256:=by
 rw [Int.tdiv_eq_ediv_of_nonneg h.1,w64 O O]
theorem Aen {kind:Int} {l:List Int} (hk:0<=kind/\kind<=255):U8s (Dv (pgb kind l)):=AiA λv hv=>by
 unfold pgb at hv;rcases AkK.1 hv with hv | hv
 .rw [AkM.1 hv];exact hk
 .obtain ⟨a,_,ha⟩:=AmG.1 hv;unfold Eh at ha;simp only [AkU,AmO,or_false]at ha;rcases ha with rfl | rfl <;> exact TM _
theorem Aah:∀{a b:List Int},Ris a->Ris b->(∀v,v∈a↔v∈b)->a=b:=by
 intro a b ha hb;rw [ris_iff]at ha hb
 induction a generalizing b with
 | nil=>
  intro h;cases b with
  | nil=>rfl
  | cons v b=>exact absurd ((h v).2 Z) Z
 | cons v a ih=>
  intro h;cases b with
  | nil=>exact absurd ((h v).1 Z) Z
  | cons w b=>
   rw [List.pairwise_cons]at ha hb;have hvw:v=w:=by
    have h1:=(h v).1 Z;have h2:=(h w).2 Z;rcases AkU.1 h1 with h1 | h1
    .exact h1
    .rcases AkU.1 h2 with h2 | h2
     .exact h2.symm
     .have:=ha.1 w h2;have:=hb.1 v h1;omega
   subst hvw;refine congrArg (v :: ·) (ih ha.2 hb.2 λu=>?_);have hu:=h u;constructor
   .intro hm;rcases AkU.1 (hu.1 (by simp [hm]))with rfl | h3
    .have:=ha.1 u hm;omega
    .exact h3
   .intro hm;rcases AkU.1 (hu.2 (by simp [hm]))with rfl | h3
    .have:=hb.1 u hm;omega
    .exact h3
noncomputable def pts (z l:List Int):List Int:=l.foldl pt z
theorem Afo (z l:List Int) (v:Int):pts z (l++[v])=pt (pts z l) v:=by unfold pts;rw [Ami];rfl
theorem AcE {z:List Int} (hr:Ris z):∀{l:List Int},z.length+l.length<=1048576->Ris (pts z l)/\(pts z l).length<=z.length+l.length/\∀v,v∈pts z l↔v∈z\/v∈l:=by
 intro l
 induction l generalizing z with
 | nil=>intro h;exact⟨hr,by simp [pts],λv=>by simp [pts]⟩
 | cons a l ih=>
  intro h;rw [AkQ]at h;obtain ⟨_,_,h3,h4,h5⟩:=Mu (z:=z) O hr a;obtain ⟨i1,i2,i3⟩:=ih h4 O;refine⟨i1,?_,λv=>?_⟩
  .have:pts z (a::l)=pts (pt z a) l:=rfl;rw [this,AkQ];omega
  .have:pts z (a::l)=pts (pt z a) l:=rfl;rw [this,i3 v,h5 v,AkU];constructor
   .rintro ((h | h) | h)
    .exact .inl h
    .exact .inr (.inl h)
    .exact .inr (.inr h)
   .rintro (h | h | h)
    .exact .inl (.inl h)
    .exact .inl (.inr h)
    .exact .inr h
def tl (l:List Kv):Nat->Nat->List Int
 | _,0=>[]
 | k,d+1=>if oth l k=true then(k:Int)::tl l (k+1) d else tl l (k+1) d
def qk (s:Kv):Int:=((s.1.toNat / 32:Nat):Int)
noncomputable def Akx (l:List Kv):List Int:=pts [] (l.map qk)
def goS (nx go:List Int) (k:Nat):List Int:=if gb nx k=0 then go else go++[gb nx k]
theorem Aal {go:List Int} (h:go.length<=1000) (v:Int):Aa (go.length+([v]:List Int).length) 8=true:=by simp only [Aa,decide_eq_true_eq,AkO];omega
section
variable {b:Bls} {x y z nx go T top A:List Int} {vals vals0:List (List Int)} {root:Int} {j k:Nat}
variable {ots:List Bool} {lvs:List (List Int)}
end
end Go.V.G
set_option maxRecDepth 100000
namespace Go.V.G
open Go.V
theorem PZ {l:List Int} {k:Nat} {v:Int} (h:k < l.length):gb (l.set k v) k=v:=by unfold gb;rw [Al7 h];rfl
theorem Dz {l:List Int} {k j:Nat} {v:Int} (h:k≠j):gb (l.set k v) j=gb l j:=by unfold gb;rw [List.getElem?_set_ne h]
def MH (top:List Int) (l:List Kv):Nat->List Int
 | 0=>[]
 | k+1=>if oth l k=true then goS top (MH top l k) k else MH top l k
theorem Xz (top:List Int) (l:List Kv):∀k,(MH top l k).length<=k
 | 0=>Ak9 _
 | k+1=>by
  have:=Xz top l k;simp only [MH];split
  .unfold goS;split
   .omega
   .rw [AkJ,AkO];omega
  .omega
structure Tv (n:Nat) (b0:Bls) (x0 z0 top:List Int) (l:List Kv) (k:Nat) (nx:List Int) (b:Bls) (x z:List Int) (q:Nat):Prop where
 wk:Wk n b x z q
 bu:∀c∈b,U8s c
 nl:nx.length=32
 dn:∀j,j < k->oth l j=true->nz (av b0 top l j)=true->∃m:Nat,gb nx j=(m:Int)/\(33<=m/\m < n)/\bit x0 m=false/\bit x m=true/\blk b m=Dv (pgb 81 (av b0 top l j))
 dz:∀j,j < k->oth l j=true->nz (av b0 top l j)=false->gb nx j=0
 st:∀j,j < 32->(k<=j\/oth l j=false)->gb nx j=gb top j
 ds:∀i j,i < j->j < k->oth l i=true->oth l j=true->nz (av b0 top l i)=true->nz (av b0 top l j)=true->gb nx i≠gb nx j
 ot:∀i,i < 160->bit x0 i=true->blk b i=blk b0 i/\bit x i=true
 zm:∀v∈z,v∈z0\/∃m:Nat,v=(m:Int)/\(33<=m/\m < n)/\bit x m=true
 hi:∀i,n<=i->i < 160->bit x i=bit x0 i
section
variable {n:Nat} {b0 b:Bls} {x0 z0 top nx x z:List Int} {l:List Kv} {k q:Nat}
theorem Tv.skip (h:Tv n b0 x0 z0 top l k nx b x z q) (ho:oth l k=false):Tv n b0 x0 z0 top l (k+1) nx b x z q:=by
 refine⟨h.wk,h.bu,h.nl,λj hj h1 h2=>?_,λj hj h1 h2=>?_,λj hj h1=>?_,λi j hij hj h1 h2 h3 h4=>?_,h.ot,h.zm,h.hi⟩
 .by_cases hjk:j=k
  .subst hjk;rw [ho]at h1;cases h1
  .exact h.dn j O h1 h2
 .by_cases hjk:j=k
  .subst hjk;rw [ho]at h1;cases h1
  .exact h.dz j O h1 h2
 .rcases h1 with h1 | h1
  .exact h.st j hj (.inl O)
  .exact h.st j hj (.inr h1)
 .by_cases hjk:j=k
  .subst hjk;rw [ho]at h2;cases h2
  .exact h.ds i j hij O h1 h2 h3 h4
theorem Tv.no (h:Tv n b0 x0 z0 top l k nx b x z q) (hk:k < 32) (ho:oth l k=true) (hz:nz (av b0 top l k)=false):Tv n b0 x0 z0 top l (k+1) (nx.set k 0) b x z q:=by
 have hnl:=h.nl;refine⟨h.wk,h.bu,by rw [AlB];exact h.nl,λj hj h1 h2=>?_,λj hj h1 h2=>?_,λj hj h1=>?_,λi j hij hj h1 h2 h3 h4=>?_,h.ot,h.zm,h.hi⟩
 .by_cases hjk:k=j
  .subst hjk;rw [hz]at h2;cases h2
  .rw [Dz hjk];exact h.dn j O h1 h2
 .by_cases hjk:k=j
  .subst hjk;exact PZ O
  .rw [Dz hjk];exact h.dz j O h1 h2
 .have hne:k≠j:=by
   rintro rfl;rcases h1 with h1 | h1
   .omega
   .rw [ho]at h1;cases h1
  rw [Dz hne];rcases h1 with h1 | h1
  .exact h.st j hj (.inl O)
  .exact h.st j hj (.inr h1)
 .have hjk:k≠j:=by rintro rfl;rw [hz]at h4;cases h4
  have hik:k≠i:=by rintro rfl;rw [hz]at h3;cases h3
  rw [Dz hjk,Dz hik];exact h.ds i j hij O h1 h2 h3 h4
theorem Tv.yes (h:Tv n b0 x0 z0 top l k nx b x z q) (hq:q<=1000) (hk:k < 32) (ho:oth l k=true) (hnz:nz (av b0 top l k)=true) {m:Nat} (hm:33<=m/\m < n) (hbm:bit x m=false) (hw:Wk n (b.set m CG) (setB x m) (pt z (m:Int)) (q+1)) :
  Tv n b0 x0 z0 top l (k+1) (nx.set k (m:Int)) ((b.set m CG).set m (Dv (pgb 81 (av b0 top l k)))) (setB x m) (pt (pt z (m:Int)) (m:Int)) (q+2):=by
 have hnl:=h.nl;have hn:=h.wk.hn;have hbl:=h.wk.hb;have hx:=h.wk.hx;have hpl:=AaG 81 (SH b0 top l k);have hz1:=h.wk.hz;obtain ⟨_,_,z3,z4,z5⟩:=Mu (z:=z) O h.wk.hr (m:Int);obtain ⟨_,_,_,_,y5⟩:=Mu (z:=pt z (m:Int)) O z4 (m:Int);have hbit:∀i,i < 160->bit (setB x m) i=(decide (i=m) || bit x i):=λi hi=>Qy h.wk.hu O O
 have hblk:∀i,i≠m->blk ((b.set m CG).set m (Dv (pgb 81 (av b0 top l k)))) i=blk b i:=λi hi=>by rw [Ku (Ne.symm hi),Ku (Ne.symm hi)]
 refine⟨hw.lay O (Aeu O) m,λc hc=>?_,by rw [AlB];exact h.nl,λj hj h1 h2=>?_,λj hj h1 h2=>?_,λj hj h1=>?_,λi j hij hj h1 h2 h3 h4=>?_,λi hi h1=>?_,λv hv=>?_,λi h1 h2=>?_⟩
 .rcases AlC hc with hc | rfl
  .rcases AlC hc with hc | rfl
   .exact h.bu c hc
   .exact Rr
  .exact Aen O
 .by_cases hjk:k=j
  .subst hjk;refine⟨m,PZ O,hm,?_,by rw [hbit m O];simp,Sf (by rw [AlB];omega)⟩;cases hx0:bit x0 m with
   | false=>rfl
   | true=>
    have:=(h.ot m O hx0).2;rw [hbm]at this;cases this
  .obtain ⟨m',e1,e2,e3,e4,e5⟩:=h.dn j O h1 h2;have hmm:m'≠m:=by rintro rfl;rw [hbm]at e4;cases e4
   exact⟨m',by rw [Dz hjk];exact e1,e2,e3,by rw [hbit m' O,e4,AmY],by rw [hblk m' hmm];exact e5⟩
 .by_cases hjk:k=j
  .subst hjk;rw [hnz]at h2;cases h2
  .rw [Dz hjk];exact h.dz j O h1 h2
 .have hne:k≠j:=by
   rintro rfl;rcases h1 with h1 | h1
   .omega
   .rw [ho]at h1;cases h1
  rw [Dz hne];rcases h1 with h1 | h1
  .exact h.st j hj (.inl O)
  .exact h.st j hj (.inr h1)
 .by_cases hjk:k=j
  .subst hjk;rw [Dz O,PZ O];obtain ⟨m',e1,e2,e3,e4,e5⟩:=h.dn i O h1 h3;rw [e1];intro he;obtain rfl:m'=m:=O
   rw [hbm]at e4;cases e4
  .rw [Dz O,Dz hjk];exact h.ds i j hij O h1 h2 h3 h4
 .obtain ⟨e1,e2⟩:=h.ot i hi h1;have him:i≠m:=by rintro rfl;rw [hbm]at e2;cases e2
  exact⟨by rw [hblk i him];exact e1,by rw [hbit i hi,e2,AmY]⟩
 .have key:v∈z\/v=(m:Int):=by
   rcases (y5 v).1 hv with hv | hv
   .exact(z5 v).1 hv
   .exact .inr hv
  rcases key with hv | rfl
  .rcases h.zm v hv with hv | ⟨m',e1,e2,e3⟩
   .exact .inl hv
   .exact .inr ⟨m',e1,e2,by rw [hbit m' O,e3,AmY]⟩
  .exact .inr ⟨m,rfl,hm,by rw [hbit m O];simp⟩
 .rw [hbit i h2,decide_eq_false (O:¬ i=m),AlT];exact h.hi i h1 h2
structure Cx (n:Nat) (b0:Bls) (top:List Int) (l:List Kv):Prop where
 hn:n<=160
 ht:top.length=32
 hv:∀k,V2 (av b0 top l k)
abbrev ots (l:List Kv):List Bool:=(List.range 32).map (oth l)
abbrev lvs (b0:Bls) (top:List Int) (l:List Kv):List (List Int):=(List.range 32).map (aft b0 top l)
end
section
variable {b0:Bls} {top:List Int} {l:List Kv} {root:Int} {b:Bls} {x y z:List Int}
end
end Go.V.G
set_option maxRecDepth 100000
namespace Go.V.G
open Go.V
theorem In {b:Bls} {x y top:List Int} {root:Int} (h:tre b x y root=some top):top.length=32:=by
 unfold tre at h;split at h
 .obtain rfl:=AlR h;simp [zer]
 .split at h
  .obtain rfl:=AlR h;exact Fs _
  .cases h
theorem Ac1 (j:Nat):gb zer j=0:=by
 unfold gb zer;rw [List.getElem?_replicate];split <;> rfl
theorem AiN {b:Bls} {x y top:List Int} {root:Int} (h:tre b x y root=some top):∀j,j < 32->gb top j=0\/(pgB b x y (gb top j) 81=true/\nz (BU (blk b (gb top j).toNat))=true):=by
 intro j hj;unfold tre at h;split at h
 .obtain rfl:=AlR h;exact .inl (Ac1 j)
 .split at h
  .rename_i hc;obtain rfl:=AlR h;simp only [AkI]at hc;have:=all_range.1 hc.2.2 j hj;unfold stG at this;simp only [AlS,AkI,decide_eq_true_eq]at this;rcases this with h1 | h1
   .exact .inl h1
   .exact .inr ⟨h1.1,h1.2.1⟩
  .cases h
theorem Ael {b:Bls} (hu:∀c∈b,U8s c) (i:Nat):U8s (blk b i):=by
 by_cases h:i < b.length
 .exact hu _ (BF h)
 .unfold blk;rw [Ak2 O];intro v hv;cases hv
theorem W7 {c:List Int} (h:U8s c):V2 (BU c):=λv hv=>by
 unfold BU at hv;obtain ⟨k,_,rfl⟩:=AkY.1 hv;exact Aiy h _
theorem Adq:V2 zer:=λv hv=>by unfold zer at hv;rw [Amk hv];omega
theorem Aii {b:Bls} (hu:∀c∈b,U8s c) (a:Int):V2 (lfv b a):=by
 unfold lfv;split
 .exact Adq
 .exact W7 (Ael hu _)
theorem Ai6 {b:Bls} {top:List Int} {l:List Kv} (hu:∀c∈b,U8s c) (hv:∀s∈l,0<=s.2/\s.2<=65535) (k:Nat):V2 (av b top l k):=by
 unfold av;have key:∀(l:List Kv) (v:List Int),V2 v->(∀s∈l,0<=s.2/\s.2<=65535)->V2 (l.foldl (upd k) v):=by
  intro l
  induction l with
  | nil=>intro v h _;exact h
  | cons s l ih=>
   intro v h hs;rw [Al9];refine ih _ ?_ λs' h'=>hs s' (by simp [h'])
   unfold upd;split
   .intro w hw;rcases AlC hw with hw | rfl
    .exact h w hw
    .exact hs s Z
   .exact h
 exact key l _ (Aii hu _) hv
theorem AiG {b:Bls} {x y top:List Int} {root:Int} (hu:∀c∈b,U8s c) (h:tre b x y root=some top):V2 top:=by
 unfold tre at h;split at h
 .obtain rfl:=AlR h;exact Adq
 .split at h
  .obtain rfl:=AlR h;exact W7 (Ael hu _)
  .cases h
theorem AgP {b:Bls} {x y:List Int} {l:List Kv} (h:AbZ b x y l=true):l.length<=64/\Ks l/\(∀s∈l,s.2=0\/liv b x y s.2=true)/\∀i,i+1 < l.length->(sg l i).1 < (sg l (i+1)).1:=by
 unfold AbZ at h;simp only [AkI,decide_eq_true_eq]at h;obtain ⟨h1,h2⟩:=h;have key:=all_range.1 h2;have hg:∀s∈l,∃i,i < l.length/\sg l i=s:=λs hs=>by
  obtain ⟨i,hi,he⟩:=Alh hs;exact⟨i,hi,by unfold sg;rw [AkD hi,he];rfl⟩
 refine⟨h1,λs hs=>?_,λs hs=>?_,λi hi=>?_⟩
 .obtain ⟨i,hi,rfl⟩:=hg s hs;have:=key i hi;unfold Ack at this;simp only [AkI,decide_eq_true_eq]at this;exact this.1
 .obtain ⟨i,hi,rfl⟩:=hg s hs;have:=key i hi;unfold Ack at this;simp only [AkI,AlS,decide_eq_true_eq]at this;exact this.2.1
 .have:=key (i+1) hi;unfold Ack at this;simp only [AkI,AlS,decide_eq_true_eq]at this;rcases this.2.2 with h3 | h3
  .omega
  .exact h3
theorem AhI {b:Bls} {x y:List Int} {v:Int} (hb:b.length<=160) (h:v=0\/liv b x y v=true):0<=v/\v<=65535:=by
 rcases h with rfl | h
 .omega
 .obtain ⟨m,rfl,_,h2,_⟩:=Cp h;omega
section
variable {at_:Int} {b:Bls} {x y z go:List Int}
end
def rtL (root:Int):List Int:=if root=0 then []else [root]
structure Sk (b:Bls) (x y z top:List Int) (l:List Kv) (root at_:Int) (b':Bls) (x' y' z':List Int):Prop where
 ex:∃nx b1 x1 z1 q1,Tv b.length b x z top l 32 nx b1 x1 z1 q1/\q1<=191/\cnt x1 b.length+nwC b top l 32=cnt x b.length/\nz nx=anC b top l 32/\
  ((nz nx=false/\at_=0/\b'=b1/\x'=x1/\z'=z1)\/(nz nx=true/\∃m:Nat,at_=(m:Int)/\(33<=m/\m < b.length)/\bit x1 m=false/\b'=(b1.set m CG).set m (Dv (pgb 80 nx))/\x'=setB x1 m/\z'=pt (pt z1 (m:Int)) (m:Int)/\
   Wk b.length b' x' z' (q1+2)/\cnt x' b.length+1=cnt x1 b.length))
 yy:y'=pts y (MH top l 32++rtL root)
theorem Ajn {b b1:Bls} {x z top nx x1 z1:List Int} {l:List Kv} {n q:Nat} (hn:n<=160) (ht:V2 top) (htl:top.length=32) (h:Tv n b x z top l 32 nx b1 x1 z1 q):V2 nx:=by
 intro v hv;obtain ⟨j,hj,rfl⟩:=Alh hv;have hnl:=h.nl;have e:nx[j]=gb nx j:=by unfold gb;rw [AkD hj];rfl
 have hj':j < 32:=O
 rw [e];cases ho:oth l j with
 | false=>rw [h.st j hj' (.inr ho)];exact ht _ (All (Ai O))
 | true=>
  cases hz:nz (av b top l j)with
  | false=>rw [h.dz j hj' ho hz];omega
  | true=>obtain ⟨m,e,hm,_⟩:=h.dn j hj' ho hz;rw [e];omega
theorem Sk.wk {b b':Bls} {x y z top x' y' z':List Int} {l:List Kv} {root at_:Int} (s:Sk b x y z top l root at_ b' x' y' z'):Wk b.length b' x' z' 200:=by
 obtain ⟨nx,b1,x1,z1,q1,tv,hq,_,_,h⟩:=s.ex;rcases h with⟨_,_,rfl,rfl,rfl⟩ | ⟨_,m,_,_,_,_,_,_,hw,_⟩
 .have:=tv.wk;exact⟨this.hn,this.hb,this.hk,this.hx,this.hu,this.hlow,this.hr,by have:=this.hz;omega⟩
 .exact⟨hw.hn,hw.hb,hw.hk,hw.hx,hw.hu,hw.hlow,hw.hr,by have:=hw.hz;omega⟩
theorem Sk.yl {b b':Bls} {x y z top x' y' z':List Int} {l:List Kv} {root at_:Int} (s:Sk b x y z top l root at_ b' x' y' z') (hy:Ris y) (hyl:y.length<=1000):Ris y'/\y'.length<=1100/\∀v,v∈y'↔v∈y\/v∈MH top l 32++rtL root:=by
 have h1:=Xz top l 32;have h2:(rtL root).length<=1:=by unfold rtL;split <;> simp
 have h3:(MH top l 32++rtL root).length<=33:=by rw [AkJ];omega
 obtain ⟨p1,p2,p3⟩:=AcE hy (l:=MH top l 32++rtL root) O;rw [s.yy];exact⟨p1,O,p3⟩
theorem GS.ylen {b:Bls} {x y z:List Int} (g:GS b x y z):Ris y/\y.length<=127:=by
 have hb:=g.hb;have hyr:=(GB g.hy).1;exact⟨hyr,QF hyr λi hi=>by have:=(GB g.hy).2 i hi;omega⟩
end Go.V.G
set_option maxRecDepth 100000
namespace Go.V.G
open Go.V
theorem Aaj {n q:Nat} {b b2:Bls} {x x2 y z z2:List Int} (g:GS b x y z) (hn:b.length=n) (wk:Wk n b2 x2 z2 q) (up:∀i,i < 160->bit x i=true->bit x2 i=true)
  (hi:∀i,n<=i->i < 160->bit x2 i=bit x i) (zm:∀v∈z2,v∈z\/(33<=v/\v < (n:Int)/\bit x2 v.toNat=true)):GS b2 x2 y z2:=by
 have hb:=wk.hb;have hn2:=wk.hn;obtain ⟨r1,_⟩:=GB g.hy;have m1:=SI g.hy;have m2:=SI g.hz;refine⟨O,wk.hx,wk.hk,λi hi160=>?_,Nk r1 λv hv=>?_,Nk wk.hr λv hv=>?_⟩
 .unfold bG;by_cases h1:i < 33
  .rw [wk.hlow i h1,decide_eq_true h1,decide_eq_false (O:¬ b2.length<=i)];rfl
  .rw [decide_eq_false h1];by_cases h2:b2.length<=i
   .have:=g.hbits i hi160;unfold bG at this;rw [decide_eq_false h1,decide_eq_true (O:b.length<=i)]at this;rw [hi i O hi160,decide_eq_true h2];exact this
   .rw [decide_eq_false h2];rfl
 .obtain ⟨p1,p2,p3⟩:=m1 v hv;exact⟨p1,O,up _ O p3⟩
 .rcases zm v hv with hv | ⟨p1,p2,p3⟩
  .obtain ⟨p1,p2,p3⟩:=m2 v hv;exact⟨p1,O,up _ O p3⟩
  .exact⟨p1,O,p3⟩
theorem Lr.gs {b b2:Bls} {x y z data l x2 z2:List Int} (h:Lr b.length b x z data l b2 x2 z2) (g:GS b x y z):GS b2 x2 y z2:=by
 have hn:=h.wk.hn;refine Aaj g rfl h.wk h.up (λi hi hi2=>?_) λv hv=>?_
 .refine(h.oth i hi2 λhh=>?_).2;obtain ⟨j,hj,he⟩:=Alh hh;obtain ⟨k,e,hk,_⟩:=h.at_ j hj;rw [AkD hj]at e;have:=AlR e;omega
 .rcases h.zm v hv with hv | hv
  .exact .inl hv
  .right;obtain ⟨j,hj,he⟩:=Alh hv;obtain ⟨k,e,hk,_,p,_⟩:=h.at_ j hj;rw [AkD hj,he]at e;have e':=AlR e;subst e';exact⟨O,O,by rw [AkE];exact p⟩
theorem Lt.gs {b b2:Bls} {x y z sh A x2 z2:List Int} {ps:List (List UInt8)} {r q:Nat} (h:Lt b.length b x z sh ps A r b2 x2 z2 q) (g:GS b x y z):GS b2 x2 y z2:=by
 have hn:=h.wk.hn;have hlen:=h.len;obtain ⟨⟨r1,r2⟩,_,r4,_⟩:=h.rt;have hA:∀v∈A,∃k:Nat,v=(k:Int)/\(33<=k/\k < b.length)/\bit x2 k=true:=λv hv=>by
  obtain ⟨j,hj,he⟩:=Alh hv;obtain ⟨k,e,hk,p,_⟩:=h.at_ j O;rw [AkD hj,he]at e;exact⟨k,AlR e,hk,p⟩
 refine Aaj g rfl h.wk h.up (λi hi hi2=>?_) λv hv=>?_
 .refine(h.oth i hi2 (λhh=>?_) O).2;obtain ⟨k,e,hk,_⟩:=hA _ hh;omega
 .rcases h.zm v hv with hv | hv | rfl
  .exact .inl hv
  .right;obtain ⟨k,rfl,hk,p⟩:=hA v hv;exact⟨O,O,by rw [AkE];exact p⟩
  .exact .inr ⟨O,O,by rw [AkE];exact r4⟩
theorem Lt.mem {n q r:Nat} {b b2:Bls} {x z sh A x2 z2:List Int} {ps:List (List UInt8)} (h:Lt n b x z sh ps A r b2 x2 z2 q) {a:Int} (ha:a∈A):∃j,j < ps.length/\A[j]?=some a:=by
 obtain ⟨j,hj,he⟩:=Alh ha;have:=h.len;exact⟨j,O,by rw [AkD hj,he]⟩
end Go.V.G
set_option maxRecDepth 100000
namespace Go.V.G
open Go.V
inductive Atom where
 | ins (b:UInt8)
 | keep
 | drop
 deriving DecidableEq
def mk (f:Bool):Atom:=if f=true then .keep else .drop
def pa (p:Prt):List Atom:=p.2.2.map Atom.ins++List.replicate (p.1+p.2.1).toNat (mk (decide (0 < p.1)))
def Ac (c:List Prt):List Atom:=c.flatMap pa
def Ap:List Atom->List Bool
 | []=>[]
 | .ins _::l=>Ap l
 | .keep::l=>true::Ap l
 | .drop::l=>false::Ap l
def Bh (b:UInt8):List (List UInt8)->List (List UInt8)
 | p::ps=>(b::p)::ps
 | []=>[[b]]
def Aj:List Atom->List (List UInt8)
 | []=>[[]]
 | .ins b::l=>Bh b (Aj l)
 | .keep::l=>[]::Aj l
 | .drop::l=>[]::Aj l
def DA:List Atom->Nat
 | []=>0
 | .ins _::l=>DA l+1
 | _::l=>DA l
theorem IL (a b:List Prt):Ac (a++b)=Ac a++Ac b:=by simp [Ac]
theorem KA {c:List Prt} {i:Nat} (h:i < c.length):Ac (c.take (i+1))=Ac (c.take i)++pa c[i]:=by
 rw [Ak0 h,IL];simp [Ac]
theorem C5:∀a b:List Atom,Ap (a++b)=Ap a++Ap b
 | [],b=>rfl
 | .ins _::a,b=>C5 a b
 | .keep::a,b=>congrArg (true :: ·) (C5 a b)
 | .drop::a,b=>congrArg (false :: ·) (C5 a b)
theorem PC:∀s:List UInt8,Ap (s.map Atom.ins)=[]
 | []=>rfl
 | _::s=>PC s
theorem UJ (f:Bool):∀m:Nat,Ap (List.replicate m (mk f))=List.replicate m f
 | 0=>rfl
 | m+1=>by
  rw [AlG,AlG,<- UJ f m];cases f <;> rfl
theorem Zl (b:UInt8) (P:List (List UInt8)):Bh b P≠[]:=by cases P <;> simp [Bh]
theorem G6:∀l:List Atom,Aj l≠[]
 | []=>by simp [Aj]
 | .ins b::l=>Zl b _
 | .keep::l=>by simp [Aj]
 | .drop::l=>by simp [Aj]
theorem YS (b:UInt8) {P:List (List UInt8)} (h:P≠[]):(Bh b P).length=P.length:=by cases P with
 | nil=>exact absurd rfl h
 | cons=>rfl
theorem EC:∀l:List Atom,(Aj l).length=(Ap l).length+1
 | []=>rfl
 | .ins b::l=>by rw [Aj,YS b (G6 l),EC l];rfl
 | .keep::l=>by simp [Aj,Ap,EC l]
 | .drop::l=>by simp [Aj,Ap,EC l]
theorem Ti (b:UInt8) {P:List (List UInt8)} (h:P≠[]) (Q:List (List UInt8)):Bh b (P++Q)=Bh b P++Q:=by cases P with
 | nil=>exact absurd rfl h
 | cons=>rfl
theorem Ol (f:Bool):∀(l:List Atom) (m:Nat),Aj (l++List.replicate m (mk f))=Aj l++List.replicate m []
 | [],m=>by
  induction m with
  | zero=>rfl
  | succ m ih=>
   rw [Ala]at ih ⊢;rw [AlG,AlG];cases f <;> (show []::Aj _=_;rw [ih];rfl)
 | .ins b::l,m=>by
  show Bh b (Aj (l++_))=Bh b (Aj l)++_;rw [Ol f l m,Ti b (G6 l)]
 | .keep::l,m=>congrArg ([] :: ·) (Ol f l m)
 | .drop::l,m=>congrArg ([] :: ·) (Ol f l m)
theorem Xp:∀s:List UInt8,Aj (s.map Atom.ins)=[s]
 | []=>rfl
 | b::s=>by show Bh b (Aj (s.map Atom.ins))=_;rw [Xp s];rfl
theorem NI (s:List UInt8):∀l:List Atom,Aj (l++s.map Atom.ins)=(Aj l).dropLast++[((Aj l).getLast?).getD []++s]
 | []=>by rw [Ala,Xp];rfl
 | .ins b::l=>by
  show Bh b (Aj (l++_))=_;rw [NI s l];show _=(Bh b (Aj l)).dropLast++[((Bh b (Aj l)).getLast?).getD []++s];have:=G6 l
  match Aj l,this with
  | [p],_=>rfl
  | p::q::ps,_=>rfl
 | .keep::l=>by
  show []::Aj (l++_)=([]::Aj l).dropLast++[(([]::Aj l).getLast?).getD []++s];rw [NI s l];have:=G6 l
  match Aj l,this with
  | p::ps,_=>rfl
 | .drop::l=>by
  show []::Aj (l++_)=([]::Aj l).dropLast++[(([]::Aj l).getLast?).getD []++s];rw [NI s l];have:=G6 l
  match Aj l,this with
  | p::ps,_=>rfl
theorem EF:∀a b:List Atom,DA (a++b)=DA a+DA b
 | [],b=>by simp [DA]
 | .ins _::a,b=>by simp only [Alp,DA,EF a b];omega
 | .keep::a,b=>EF a b
 | .drop::a,b=>EF a b
theorem YH:∀s:List UInt8,DA (s.map Atom.ins)=s.length
 | []=>rfl
 | _::s=>by simp only [Alo,DA,YH s,AkQ]
theorem YM (f:Bool):∀m:Nat,DA (List.replicate m (mk f))=0
 | 0=>rfl
 | m+1=>by rw [AlG];cases f <;> exact YM _ m
theorem Aa1 (p:Prt):DA (pa p)=p.2.2.length:=by rw [pa,EF,YH,YM];rfl
theorem SK:∀c:List Prt,DA (Ac c)=B1 c
 | []=>rfl
 | p::c=>by
  show DA (pa p++Ac c)=_;rw [EF,Aa1,SK c];rfl
theorem Nc:∀(l:List Atom),∀p∈Aj l,p.length<=DA l
 | [],p,h=>by rw [AkM.1 h];simp
 | .ins b::l,p,h=>by
  have ih:=Nc l;simp only [Aj]at h;simp only [DA]
  match hp:Aj l,h with
  | q::qs,h=>
   rw [hp]at ih;rcases AkU.1 h with rfl | h
   .have:=ih q Z;simp only [AkQ];omega
   .have:=ih p (by simp [h]);omega
  | [],h=>exact absurd hp (G6 l)
 | .keep::l,p,h=>by
  rcases AkU.1 h with rfl | h
  .simp
  .exact Nc l p h
 | .drop::l,p,h=>by
  rcases AkU.1 h with rfl | h
  .simp
  .exact Nc l p h
theorem Oa (p:Prt):Ap (pa p)=List.replicate (p.1+p.2.1).toNat (decide (0 < p.1)):=by rw [pa,C5,PC,UJ];rfl
theorem Ij:∀{c:List Prt},(∀p∈c,Some1 p)->(((Ap (Ac c)).length:Nat):Int)=src c
 | [],_=>rfl
 | p::c,h=>by
  have ih:=Ij (c:=c) λq hq=>h q (by simp [hq])
  have h1:=h p Z;have:=h1.k;have:=h1.d;show(((Ap (pa p++Ac c)).length:Nat):Int)=p.1+p.2.1+src c;rw [C5,Oa,AkJ,AlN];omega
theorem NL {n b:Nat} (h:n<=1099511627776) (hb:b<=32):Aa (n+1) b=true:=by
 simp only [Aa,decide_eq_true_eq];have:(n+1) * b<=(1099511627776+1) * 32:=Nat.mul_le_mul O hb;omega
theorem Abq {c:List Prt} {n i:Int} {S:List Bool} {P:List (List UInt8)} {k d:Int} {s:List UInt8} {m:Nat} (hS:S.length+m<=1099511627776) (hP:P.length+m<=1099511627776) :
  Ab J2 (c,n,i,(m:Int),0,S,P,k,d,s)=some (c,n,i,S++List.replicate m (decide (0 < k)),P++List.replicate m []):=by
 have:=Am J2 (λq=>(c,n,i,(m:Int),((q:Nat):Int),S++List.replicate q (decide (0 < k)),P++List.replicate q [],k,d,s)) m (c,n,i,S++List.replicate m (decide (0 < k)),P++List.replicate m []) (by
  intro q hq;have h1:(q:Int) < (m:Int):=O
  have h2:Aa (List.length (S++List.replicate q (decide (0 < k)))+List.length ([decide ((0:Int) < k)]:List Bool)) 1=true:=NL Aky O;have h3:Aa (List.length (P++List.replicate q [])+List.length ([([]:List UInt8)]:List (List UInt8))) 16=true:=NL Aky O;unfold J2 cK wI;simp only [h1,h2,h3,decide_true,Ak4,Aw (O:m<=1099511627776) hq,List.replicate_succ',AkN]) (by simp [J2,cK,wI])
 simpa using this
theorem AbB {c:List Prt} {n i:Int} {S:List Bool} {P:List (List UInt8)} {k d:Int} {s:List UInt8} {m:Nat} (hkd:IntKind.wrap .i64 (k+d)=(m:Int)) (hS:S.length+m<=1099511627776) (hP:P.length+m<=1099511627776) :
  Ab HI (0,c,n,i,S,P,k,d,s)=some (c,n,i,S++List.replicate m (decide (0 < k)),P++List.replicate m []):=by
 have:=Am HI (λq=>(((q:Nat):Int),c,n,i,S++List.replicate q (decide (0 < k)),P++List.replicate q [],k,d,s)) m (c,n,i,S++List.replicate m (decide (0 < k)),P++List.replicate m []) (by
  intro q hq;have h1:(q:Int) < (m:Int):=O
  have h2:Aa (List.length (S++List.replicate q (decide (0 < k)))+List.length ([decide ((0:Int) < k)]:List Bool)) 1=true:=NL Aky O;have h3:Aa (List.length (P++List.replicate q [])+List.length ([([]:List UInt8)]:List (List UInt8))) 16=true:=NL Aky O;unfold HI cK wI;simp only [hkd,h1,h2,h3,decide_true,Ak4,Aw (O:m<=1099511627776) hq,List.replicate_succ',AkN]) (by simp [HI,cK,wI,hkd])
 simpa using this
theorem U5 {c:List Prt} {i:Nat} (hlt:i < c.length):∃q:List UInt8,(Aj (Ac (c.take i)))[(Ap (Ac (c.take i))).length]?=some q/\q.length<=B1 c/\
  Ap (Ac (c.take (i+1)))=Ap (Ac (c.take i))++List.replicate (c[i].1+c[i].2.1).toNat (decide (0 < c[i].1))/\
  Aj (Ac (c.take (i+1)))=((Aj (Ac (c.take i))).set (Ap (Ac (c.take i))).length (q++c[i].2.2))++List.replicate (c[i].1+c[i].2.1).toNat []:=by
 obtain ⟨n,hn,hq,hset⟩:=Rw (List.getLast?_eq_some_getLast (G6 (Ac (c.take i))));have e:n=(Ap (Ac (c.take i))).length:=by have:=EC (Ac (c.take i));omega
 subst e;refine⟨_,hq,?_,?_,?_⟩
 .have h1:=Nc _ _ (All hq);rw [SK]at h1;have h2:B1 c=B1 (c.take i)+B1 (c.drop i):=by rw [<- DZ,Als]
  omega
 .rw [KA hlt,C5,Oa]
 .rw [KA hlt,pa,<- AkN,Ol,NI,hset,List.getLast?_eq_some_getLast (G6 _)];rfl
theorem Vu {B:Nat} {c:List Prt} (h:Sm B c) (hB:B<=1099511627000) (hs:∀p∈c,Some1 p) (hle:src c<=1000000):O7 c=some (Ap (Ac c),Aj (Ac c)):=by
 have hlen:=Ale h.len hB;have hput:=Ale h.put hB;unfold O7;have:Ab JY (c,(List.length c:Int),0,[],[([]:List UInt8)])=some (Ap (Ac c),Aj (Ac c)):=by
  have:=Am JY (λk=>(c,(List.length c:Int),((k:Nat):Int),Ap (Ac (c.take k)),Aj (Ac (c.take k)))) c.length (Ap (Ac c),Aj (Ac c)) (by
   intro i hlt;obtain ⟨q,h1,h2,h3,h4⟩:=U5 hlt;have hp:=hs _ (Ak1 hlt);have hpp:=H4 (Ak1 hlt);have k0:=hp.k;have d0:=hp.d;have n1:=Bv (l:=c.take i) λp h=>hs p (Dm h)
   have n3:=Bv (l:=c.drop (i+1)) λp h=>hs p (C3 h)
   have a1:=Lj hlt;have sl:=Ij (c:=c.take i) λp h=>hs p (Dm h)
   have pl:=EC (Ac (c.take i));have hi:(i:Int) < (List.length c:Int):=O
   have e1:IntKind.wrap .i64 ((List.length (Aj (Ac (c.take i))):Int) - 1)=(((Ap (Ac (c.take i))).length:Nat):Int):=by rw [w64 O O];omega
   have g1:(((Ap (Ac (c.take i))).length:Nat):Int) < (List.length (Aj (Ac (c.take i))):Int):=O
   have g0:(0:Int)<=(((Ap (Ac (c.take i))).length:Nat):Int):=O
   have g2:List.length q+List.length c[i].2.2<=9223372036854775807:=O
   have g3:IntKind.wrap .i64 (c[i].1+c[i].2.1)=(((c[i].1+c[i].2.1).toNat:Nat):Int):=by rw [w64 O O];omega
   unfold JY cK cZ gX wI;simp only [hi,e1,g0,g1,g2,g3,decide_true,Ak4,AkE,AkD hlt,AkB,AkZ,h1,
    show(0:Int)<=(i:Int) from by omega]
   rw [Abq O (by rw [AlB];omega),AkB];simp only [Aw (Ale hlen O) hlt,h3,h4]) (by simp [JY,cK,cZ,gX,wI])
  simpa [Ac,Ap,Aj] using this
 rw [this];rfl
theorem Vb {B:Nat} {c:List Prt} (h:Sm B c) (hB:B<=1099511627000) (hs:∀p∈c,Some1 p) (hle:src c<=1000000):La c=some (Ap (Ac c),Aj (Ac c)):=by
 have hlen:=Ale h.len hB;have hput:=Ale h.put hB;unfold La;have:Ab HM (c,(List.length c:Int),0,[],[([]:List UInt8)])=some (Ap (Ac c),Aj (Ac c)):=by
  have:=Am HM (λk=>(c,(List.length c:Int),((k:Nat):Int),Ap (Ac (c.take k)),Aj (Ac (c.take k)))) c.length (Ap (Ac c),Aj (Ac c)) (by
   intro i hlt;obtain ⟨q,h1,h2,h3,h4⟩:=U5 hlt;have hp:=hs _ (Ak1 hlt);have hpp:=H4 (Ak1 hlt);have k0:=hp.k;have d0:=hp.d;have n1:=Bv (l:=c.take i) λp h=>hs p (Dm h)
   have n3:=Bv (l:=c.drop (i+1)) λp h=>hs p (C3 h)
   have a1:=Lj hlt;have sl:=Ij (c:=c.take i) λp h=>hs p (Dm h)
   have pl:=EC (Ac (c.take i));have hi:(i:Int) < (List.length c:Int):=O
   have e1:IntKind.wrap .i64 ((List.length (Aj (Ac (c.take i))):Int) - 1)=(((Ap (Ac (c.take i))).length:Nat):Int):=by rw [w64 O O];omega
   have g1:(((Ap (Ac (c.take i))).length:Nat):Int) < (List.length (Aj (Ac (c.take i))):Int):=O
   have g0:(0:Int)<=(((Ap (Ac (c.take i))).length:Nat):Int):=O
   have g2:List.length q+List.length c[i].2.2<=9223372036854775807:=O
   have g3:IntKind.wrap .i64 (c[i].1+c[i].2.1)=(((c[i].1+c[i].2.1).toNat:Nat):Int):=by rw [w64 O O];omega
   unfold HM cK cZ gX wI;simp only [hi,e1,g0,g1,g2,decide_true,Ak4,AkE,AkD hlt,AkB,AkZ,h1,
    show(0:Int)<=(i:Int) from by omega]
   rw [AbB g3 O (by rw [AlB];omega),AkB];simp only [Aw (Ale hlen O) hlt,h3,h4]) (by simp [HM,cK,cZ,gX,wI])
  simpa [Ac,Ap,Aj] using this
 rw [this];rfl
end Go.V.G
namespace Go.V
theorem A7 (g off n:Nat):(⟨g,off,none⟩:Addr).add n=⟨g,off+n,none⟩:=by
 unfold Addr.add;split
 .subst_vars;rfl
 .rfl
theorem add_add (a:Addr) (i j:Nat):(a.add i).add j=a.add (i+j):=by
 unfold Addr.add;by_cases hi:i=0
 .subst hi;simp
 .by_cases hj:j=0
  .subst hj;simp [hi]
  .have:¬ (i+j=0):=O
   simp only [hi,hj,this,Alg]
   congr 1;omega
theorem A8 {w:World} {g:Nat} {cs:Array Value} {e:TypeId} {fr:Nat×Nat} (h:w.heap[g]?=some (.cells cs e fr)) (i:Nat):w.cell? ⟨g,i,none⟩=cs[i]?:=by
 unfold World.cell?;rw [h];rfl
theorem Dq {w:World} {g:Nat} {cs:Array Value} {e:TypeId} {fr:Nat×Nat} (h:w.heap[g]?=some (.cells cs e fr)) (hf:∀i,i < cs.size->¬ (fr.1<=i/\i < fr.2)) {i:Nat} (hi:i < cs.size):w.frozen? ⟨g,i,none⟩=false:=by
 unfold World.frozen?;rw [h];have:=hf i hi;simp only [Bool.and_eq_false_iff,decide_eq_false_iff_not];omega
theorem Mx {w:World} {g:Nat} {cs:Array Value} {e:TypeId} {fr:Nat×Nat} (h:w.heap[g]?=some (.cells cs e fr)) (i:Nat) (v:Value) :
  (w.setCell ⟨g,i,none⟩ v).heap[g]?=some (.cells (cs.setIfInBounds i v) e fr):=by
 simp only [World.setCell,Array.getElem?_modify,Ak4,h,Aly];rfl
theorem BS {w:World} {g:Nat} {o:Obj} (h:w.heap[g]?=some o):g < w.heap.size:=(Al2.1 h).1
def RpL {α:Type} (p:α->List Value->List Nat->Prop):List α->List Value->List Nat->Prop
 | [],vs,F=>vs=[]/\F=[]
 | x::xs,vs,F=>∃v1 v2 F1 F2,vs=v1++v2/\F=F1++F2/\p x v1 F1/\RpL p xs v2 F2
def NF (fr:Nat×Nat) (n:Nat):Prop:=∀i,i < n->¬ (fr.1<=i/\i < fr.2)
structure NFt (r:Ty) (fr:Nat×Nat) (n:Nat):Prop where
 nf:NF fr n
 at':r≠.int .u8->¬ (fr.1<=n/\n < fr.2)
 le:r=.int .i64->n<=9223372036854775807
theorem NFt.zero (r:Ty) {n:Nat} (h:r=.int .i64->n<=9223372036854775807):NFt r (0,0) n:=⟨λi _ hx=>by simp at hx,λ_ hx=>by simp at hx,h⟩
def ErV:Bool->Value->Prop
 | false,v=>v=.nilIface
 | true,v=>∃te pe,v=.iface te pe
def Rp (w:World) (K:Nat->Prop):(t:Ty)->t.D->List Value->List Nat->Prop
 | .int k,n,vs,F=>vs=[.int k n]/\F=[]
 | .bool,b,vs,F=>vs=[.bool b]/\F=[]
 | .str,s,vs,F=>vs=[.string ⟨s.toArray⟩]/\F=[]
 | .er,b,vs,F=>∃v,vs=[v]/\F=[]/\ErV b v
 | .lp,_,_,_=>False
 | .mh,x,vs,F=>vs=[.map none]/\F=[]/\(x:Nat)=0
 | .mp,_,_,_=>False
 | .unit,_,vs,F=>vs=[]/\F=[]
 | .pair a b,x,vs,F=>∃v1 v2 F1 F2,vs=v1++v2/\F=F1++F2/\Rp w K a x.1 v1 F1/\Rp w K b x.2 v2 F2
 | .sl true e r,xs,vs,F=>(xs=[]/\F=[]/\vs=[.slice none 0 0])\/
   ∃g off c cs fr F',vs=[.slice (some ⟨g,off,none⟩) (List.length xs) c]/\F=g::F'/\w.heap[g]?=some (.cells cs e fr)/\NFt r fr cs.size/\
    off+c * r.size<=cs.size/\List.length xs<=c/\RpL (Rp w K r) xs ((cs.toList.drop off).take (List.length xs * r.size)) F'
 | .pt t,o,vs,F=>F=[]/\match o with
  | none=>vs=[.pointer none]
  | some x=>∃ad ws,vs=[.pointer (some ad)]/\Rp w K t x ws []/\K ad.block/\ad.block < w.heap.size/\∀j,j < ws.length->w.cell? (ad.add j)=ws[j]?
 | .sl false _ r,xs,vs,F=>F=[]/\∃A c ws,vs=[.slice A (List.length xs) c]/\List.length xs<=c/\RpL (Rp w K r) xs ws []/\
   (xs=[]\/∃ad,A=some ad/\K ad.block/\ad.block < w.heap.size/\∀j,j < ws.length->w.cell? (ad.add j)=ws[j]?)
section
variable {α:Type} {p q:α->List Value->List Nat->Prop}
theorem RpL.mono (h:∀x vs F,p x vs F->q x vs F):∀{xs:List α} {vs F},RpL p xs vs F->RpL q xs vs F
 | [],_,_,hx=>hx
 | _::_,_,_,⟨v1,v2,F1,F2,e1,e2,h1,h2⟩=>⟨v1,v2,F1,F2,e1,e2,h _ _ _ h1,RpL.mono h h2⟩
theorem RpL.len {n:Nat} (h:∀x vs F,p x vs F->vs.length=n):∀{xs:List α} {vs F},RpL p xs vs F->vs.length=xs.length * n
 | [],_,_,⟨e,_⟩=>by subst e;simp
 | x::xs,_,_,⟨v1,v2,F1,F2,e1,_,h1,h2⟩=>by
  have a:=h _ _ _ h1;have b:=RpL.len h h2;subst e1;simp only [AkJ,AkQ,a,b,AmC];omega
theorem RpL.append:∀{xs ys:List α} {vs ws F G},RpL p xs vs F->RpL p ys ws G->RpL p (xs++ys) (vs++ws) (F++G)
 | [],_,_,_,_,_,⟨e1,e2⟩,h=>by subst e1 e2;exact h
 | _::_,_,_,_,_,_,⟨v1,v2,F1,F2,e1,e2,h1,h2⟩,h=>by
  subst e1 e2;exact⟨v1,_,F1,_,AkN ..,AkN ..,h1,RpL.append h2 h⟩
theorem RpL.split:∀{xs ys:List α} {vs F},RpL p (xs++ys) vs F->∃v1 v2 F1 F2,vs=v1++v2/\F=F1++F2/\RpL p xs v1 F1/\RpL p ys v2 F2
 | [],_,vs,F,h=>⟨[],vs,[],F,rfl,rfl,⟨rfl,rfl⟩,h⟩
 | _::_,_,_,_,⟨v1,v2,F1,F2,e1,e2,h1,h2⟩=>by
  obtain ⟨a,b,c,d,e3,e4,h3,h4⟩:=RpL.split h2;subst e1 e2 e3 e4;exact⟨v1++a,b,F1++c,d,(AkN ..).symm,(AkN ..).symm,⟨v1,a,F1,c,rfl,rfl,h1,h3⟩,h4⟩
theorem RpL.get {n:Nat} (hn:∀x vs F,p x vs F->vs.length=n):∀{xs:List α} {vs F} {i:Nat} {x:α},RpL p xs vs F->xs[i]?=some x->
  ∃v1 v v2 F1 G F2,vs=v1++(v++v2)/\v1.length=i * n/\F=F1++(G++F2)/\p x v G/\
   RpL p (xs.take i) v1 F1/\RpL p (xs.drop (i+1)) v2 F2
 | [],_,_,i,_,_,hi=>by simp at hi
 | y::ys,_,_,0,x,⟨v1,v2,F1,F2,e1,e2,h1,h2⟩,hi=>by
  simp only [AlP,AkC]at hi;subst hi e1 e2;exact⟨[],v1,v2,[],F1,F2,rfl,Z,rfl,h1,⟨rfl,rfl⟩,h2⟩
 | y::ys,_,_,i+1,x,⟨v1,v2,F1,F2,e1,e2,h1,h2⟩,hi=>by
  simp only [AlJ]at hi;obtain ⟨a,v,b,G1,G,G2,e3,hl,e4,hp,ht,hd⟩:=RpL.get hn h2 hi;subst e1 e2 e3 e4;refine⟨v1++a,v,b,F1++G1,G,G2,Z,?_,Z,hp,⟨v1,a,F1,G1,rfl,rfl,h1,ht⟩,by simpa using hd⟩;rw [AkJ,hn _ _ _ h1,hl,AmC];omega
theorem RpL.set {xs:List α} {i:Nat} {x y:α} (hi:xs[i]?=some x) {v1 v2 v F1 F2 G} (ht:RpL p (xs.take i) v1 F1) (hd:RpL p (xs.drop (i+1)) v2 F2) (hy:p y v G) :
  RpL p (xs.set i y) (v1++(v++v2)) (F1++(G++F2)):=by
 have hlt:i < xs.length:=(Ald.1 hi).1;rw [List.set_eq_take_append_cons_drop,AkH hlt];exact RpL.append ht ⟨v,v2,G,F2,rfl,rfl,hy,hd⟩
end
theorem Rp.len {w:World} {K:Nat->Prop}:∀(t:Ty) (x:t.D) {vs F},Rp w K t x vs F->vs.length=t.size
 | .int _,_,_,_,h=>by simp only [Rp]at h;simp [h.1,Ty.size]
 | .bool,_,_,_,h=>by simp only [Rp]at h;simp [h.1,Ty.size]
 | .er,_,_,_,h=>by simp only [Rp]at h;obtain ⟨v,rfl,_⟩:=h;simp [Ty.size]
 | .lp,_,_,_,h=>by simp only [Rp]at h
 | .mh,_,_,_,h=>by simp only [Rp]at h;simp [h.1,Ty.size]
 | .mp,_,_,_,h=>by simp only [Rp]at h
 | .str,_,_,_,h=>by simp only [Rp]at h;simp [h.1,Ty.size]
 | .unit,_,_,_,h=>by simp only [Rp]at h;simp [h.1,Ty.size]
 | .pair a b,x,_,_,h=>by
  simp only [Rp]at h;obtain ⟨v1,v2,F1,F2,rfl,_,h1,h2⟩:=h;simp [Ty.size,Rp.len a _ h1,Rp.len b _ h2]
 | .sl true _ r,_,_,_,h=>by
  simp only [Rp]at h;rcases h with⟨_,_,rfl⟩ | ⟨g,off,c,cs,fr,F',rfl,_⟩ <;> simp [Ty.size]
 | .sl false _ r,_,_,_,h=>by
  simp only [Rp]at h;obtain ⟨_,A,c,ws,rfl,_⟩:=h;simp [Ty.size]
 | .pt t,o,_,_,h=>by
  simp only [Rp]at h;cases o with
  | none=>simp [h.2,Ty.size]
  | some x=>obtain ⟨_,ad,ws,rfl,_⟩:=h;simp [Ty.size]
def Df (w w':World) (F:List Nat):Prop:=∀g∈F,w'.heap[g]?=w.heap[g]?
def KSame (w w':World) (K K':Nat->Prop):Prop:=w.heap.size<=w'.heap.size/\∀g,K g->g < w.heap.size->w'.heap[g]?=w.heap[g]?/\K' g
theorem KSame.refl (w:World) (K:Nat->Prop):KSame w w K K:=⟨Ak9 _,λ_ h _=>⟨rfl,h⟩⟩
theorem Me {w w':World} {a:Addr} (h:w'.heap[a.block]?=w.heap[a.block]?):w'.cell? a=w.cell? a:=by
 unfold World.cell?;rw [h]
theorem Dy (a:Addr) (n:Nat):(a.add n).block=a.block:=by unfold Addr.add;split <;> rfl
theorem Rp.frame {w w':World} {K K':Nat->Prop} (hK:KSame w w' K K'):∀(t:Ty) (x:t.D) {vs F},Rp w K t x vs F->Df w w' F->Rp w' K' t x vs F
 | .int _,_,_,_,h,_=>by simp only [Rp]at h ⊢;exact h
 | .bool,_,_,_,h,_=>by simp only [Rp]at h ⊢;exact h
 | .er,_,_,_,h,_=>by simp only [Rp]at h ⊢;exact h
 | .lp,_,_,_,h,_=>by simp only [Rp]at h
 | .mh,_,_,_,h,_=>by simp only [Rp]at h ⊢;exact h
 | .mp,_,_,_,h,_=>by simp only [Rp]at h
 | .str,_,_,_,h,_=>by simp only [Rp]at h ⊢;exact h
 | .unit,_,_,_,h,_=>by simp only [Rp]at h ⊢;exact h
 | .pair a b,x,_,_,h,hF=>by
  simp only [Rp]at h ⊢;obtain ⟨v1,v2,F1,F2,rfl,rfl,h1,h2⟩:=h;exact⟨v1,v2,F1,F2,rfl,rfl,Rp.frame hK a _ h1 λg hg=>hF g (by simp [hg]),Rp.frame hK b _ h2 λg hg=>hF g (by simp [hg])⟩
 | .sl true _ r,xs,_,_,h,hF=>by
  simp only [Rp]at h ⊢;rcases h with h | ⟨g,off,c,cs,fr,F',rfl,rfl,hh,hn,hc,hl,hr⟩
  .exact .inl h
  .refine .inr ⟨g,off,c,cs,fr,F',rfl,rfl,by rw [hF g Z];exact hh,hn,hc,hl,?_⟩;have key:∀(ys:List r.D) (us:List Value) (G:List Nat),Df w w' G->RpL (Rp w K r) ys us G->RpL (Rp w' K' r) ys us G:=by
    intro ys
    induction ys with
    | nil=>intro us G _ h;exact h
    | cons y ys ih=>
     rintro us G hG ⟨v1,v2,F1,F2,rfl,rfl,h1,h2⟩;exact⟨v1,v2,F1,F2,rfl,rfl,Rp.frame hK r y h1 λg hg=>hG g (by simp [hg]),ih _ _ (λg hg=>hG g (by simp [hg])) h2⟩
   exact key _ _ _ (λg hg=>hF g (by simp [hg])) hr
 | .sl false _ r,xs,_,_,h,_=>by
  simp only [Rp]at h ⊢;obtain ⟨rfl,A,c,ws,rfl,hle,hr,hx⟩:=h;refine⟨rfl,A,c,ws,rfl,hle,?_,?_⟩
  .have key:∀(ys:List r.D) (us:List Value) (G:List Nat),Df w w' G->RpL (Rp w K r) ys us G->RpL (Rp w' K' r) ys us G:=by
    intro ys
    induction ys with
    | nil=>intro us G _ h;exact h
    | cons y ys ih=>
     rintro us G hG ⟨v1,v2,F1,F2,rfl,rfl,h1,h2⟩;exact⟨v1,v2,F1,F2,rfl,rfl,Rp.frame hK r y h1 λg hg=>hG g (by simp [hg]),ih _ _ (λg hg=>hG g (by simp [hg])) h2⟩
   exact key _ _ _ (λg hg=>by cases hg) hr
  .rcases hx with hx | ⟨ad,e,h1,h2,h3⟩
   .exact .inl hx
   .obtain ⟨h4,h5⟩:=hK.2 _ h1 h2;exact .inr ⟨ad,e,h5,Alx h2 hK.1,λj hj=>(Me (w:=w) (w':=w') (a:=ad.add j) (by rw [Dy];exact h4)).trans (h3 j hj)⟩
 | .pt t,o,_,_,h,_=>by
  simp only [Rp]at h ⊢;refine⟨h.1,?_⟩;cases o with
  | none=>exact h.2
  | some x=>
   obtain ⟨ad,ws,e,h0,h1,h2,h3⟩:=h.2;obtain ⟨h4,h5⟩:=hK.2 _ h1 h2;exact⟨ad,ws,e,Rp.frame hK t x h0 (λg hg=>by cases hg),h5,Alx h2 hK.1,λj hj=>(Me (w:=w) (w':=w') (a:=ad.add j) (by rw [Dy];exact h4)).trans (h3 j hj)⟩
theorem RpL.frame {w w':World} {K K':Nat->Prop} (hK:KSame w w' K K') (r:Ty):∀(ys:List r.D) (us:List Value) (G:List Nat),Df w w' G->RpL (Rp w K r) ys us G->RpL (Rp w' K' r) ys us G:=by
 intro ys
 induction ys with
 | nil=>intro us G _ h;exact h
 | cons y ys ih=>
  rintro us G hG ⟨v1,v2,F1,F2,rfl,rfl,h1,h2⟩;exact⟨v1,v2,F1,F2,rfl,rfl,Rp.frame hK r y h1 λg hg=>hG g (by simp [hg]),ih _ _ (λg hg=>hG g (by simp [hg])) h2⟩
theorem Aek {w:World} {K:Nat->Prop} {t:Ty} {x:t.D} {vs F} (hs:t.size=1) (h:Rp w K t x vs F):∃v,vs=[v]:=by
 have:=Rp.len t x h;rw [hs]at this
 match vs,this with
 | [v],_=>exact⟨v,rfl⟩
theorem W2 {t:Ty} {x z:t.D} (hp:∀a b,t≠.pair a b) (hu:t≠.unit) {u:Ty} {zz:u.D} {y:t.D} (h:setCell t x 0 u zz=some y):∃e:u=t,y=e ▸ zz:=by
 cases t with
 | pair a b=>exact absurd rfl (hp a b)
 | unit=>exact absurd rfl hu
 | lp=>simp [setCell]at h
 | mp=>simp [setCell]at h
 | _=>simp only [setCell]at h;split at h <;> simp_all
theorem Rp.cell {w:World} {K:Nat->Prop}:∀(t:Ty) (x:t.D) (j:Nat) {c:(u:Ty)×u.D} {vs F},Rp w K t x vs F->Av t x j=some c->
  ∃pre v post Fa G Fb,vs=pre++([v]++post)/\pre.length=j/\F=Fa++(G++Fb)/\Rp w K c.1 c.2 [v] G/\
   ∀(w':World) (K':Nat->Prop) (y:c.1.D) (v':Value) (G':List Nat) (x':t.D),setCell t x j c.1 y=some x'->Rp w' K' c.1 y [v'] G'->KSame w w' K K'->
    Df w w' Fa->Df w w' Fb->Rp w' K' t x' (pre++([v']++post)) (Fa++(G'++Fb))
 | .pair a b,(x,y),j,c,vs,F,h,hc=>by
  simp only [Rp]at h;obtain ⟨v1,v2,F1,F2,rfl,rfl,h1,h2⟩:=h;have l1:=Rp.len a _ h1;simp only [Av]at hc;split at hc
  .rename_i hj;obtain ⟨pre,v,post,Fa,G,Fb,rfl,hl,rfl,hv,hset⟩:=Rp.cell a x j h1 hc;refine⟨pre,v,post++v2,Fa,G,Fb++F2,Z,hl,Z,hv,?_⟩;intro w' K' z v' G' x' hs hz hK sa sb;simp only [setCell,AkH hj,AlF]at hs;obtain ⟨xa,hxa,rfl⟩:=hs;simp only [Rp];refine⟨pre++([v']++post),v2,Fa++(G'++Fb),F2,Z,Z,hset w' K' z v' G' xa hxa hz hK sa (λg hg=>sb g (by simp [hg])),?_⟩;exact Rp.frame hK b _ h2 λg hg=>sb g (by simp [hg])
  .rename_i hj;obtain ⟨pre,v,post,Fa,G,Fb,rfl,hl,rfl,hv,hset⟩:=Rp.cell b y _ h2 hc;refine⟨v1++pre,v,post,F1++Fa,G,Fb,Z,by rw [AkJ];omega,Z,hv,?_⟩;intro w' K' z v' G' x' hs hz hK sa sb;simp only [setCell,AkG hj,AlF]at hs;obtain ⟨xb,hxb,rfl⟩:=hs;simp only [Rp];refine⟨v1,pre++([v']++post),F1,Fa++(G'++Fb),Z,Z,?_,hset w' K' z v' G' xb hxb hz hK (λg hg=>sa g (by simp [hg])) sb⟩;exact Rp.frame hK a _ h1 λg hg=>sa g (by simp [hg])
 | .unit,_,_,_,_,_,_,hc=>by simp [Av]at hc
 | .int k,x,j,c,vs,F,h,hc=>leafCase (λ_ _=>by simp) Z rfl h hc (by cases j <;> simp [Av]at hc ⊢)
 | .bool,x,j,c,vs,F,h,hc=>leafCase (λ_ _=>by simp) Z rfl h hc (by cases j <;> simp [Av]at hc ⊢)
 | .lp,_,_,_,_,_,h,_=>by simp only [Rp]at h
 | .mh,x,j,c,vs,F,h,hc=>leafCase (λ_ _=>by simp) Z rfl h hc (by cases j <;> simp [Av]at hc ⊢)
 | .mp,_,_,_,_,_,h,_=>by simp only [Rp]at h
 | .er,x,j,c,vs,F,h,hc=>leafCase (λ_ _=>by simp) Z rfl h hc (by cases j <;> simp [Av]at hc ⊢)
 | .pt t,x,j,c,vs,F,h,hc=>leafCase (λ_ _=>by simp) Z rfl h hc (by cases j <;> simp [Av]at hc ⊢)
 | .str,x,j,c,vs,F,h,hc=>leafCase (λ_ _=>by simp) Z rfl h hc (by cases j <;> simp [Av]at hc ⊢)
 | .sl o e r,x,j,c,vs,F,h,hc=>leafCase (λ_ _=>by simp) Z rfl h hc (by cases j <;> simp [Av]at hc ⊢)
where
 leafCase {w:World} {K:Nat->Prop} {t:Ty} {x:t.D} {j:Nat} {c:(u:Ty)×u.D} {vs F} (hp:∀a b,t≠.pair a b) (hu:t≠.unit) (hs:t.size=1)
   (h:Rp w K t x vs F) (hc:Av t x j=some c) (hj:j=0) :
   ∃pre v post Fa G Fb,vs=pre++([v]++post)/\pre.length=j/\F=Fa++(G++Fb)/\Rp w K c.1 c.2 [v] G/\
    ∀(w':World) (K':Nat->Prop) (y:c.1.D) (v':Value) (G':List Nat) (x':t.D),setCell t x j c.1 y=some x'->Rp w' K' c.1 y [v'] G'->KSame w w' K K'->
     Df w w' Fa->Df w w' Fb->Rp w' K' t x' (pre++([v']++post)) (Fa++(G'++Fb)):=by
  subst hj;have hct:c=⟨t,x⟩:=by
   cases t with
   | pair a b=>exact absurd rfl (hp a b)
   | unit=>exact absurd rfl hu
   | lp=>simp [Ty.size]at hs
   | mp=>simp [Ty.size]at hs
   | _=>simp only [Av,AkC]at hc;exact hc.symm
  subst hct;obtain ⟨v,rfl⟩:=Aek hs h;refine⟨[],v,[],[],F,[],Z,rfl,Z,h,?_⟩;intro w' K' y v' G' x' hset hy _ _ _;obtain ⟨e,rfl⟩:=W2 (z:=x) hp hu hset;simpa using hy
def adr (w:World) (h:Value):Ty->AQ->Option Addr
 | .sl _ _ r,(i,j)::ps=>match h with
  | .slice (some a) _ _=>match ps with
   | []=>some (a.add (i * r.size+j))
   | p::ps=>match w.cell? (a.add (i * r.size+j)),cty r j with
    | some h',some t'=>adr w h' t' (p::ps)
    | _,_=>none
  | _=>none
 | _,_=>none
where
 cty:Ty->Nat->Option Ty
  | .pair a b,j=>if j < a.size then cty a j else cty b (j - a.size)
  | .unit,_=>none
  | t,0=>some t
  | _,_+1=>none
def hdr (w:World) (h:Value) (t:Ty):AQ->Option Value
 | []=>some h
 | st=>match adr w h t st with
  | some a=>w.cell? a
  | none=>none
theorem Dn:∀(t:Ty) (x:t.D) (j:Nat) {c},Av t x j=some c->adr.cty t j=some c.1
 | .pair a b,(x,y),j,c,h=>by
  simp only [Av]at h;simp only [adr.cty];split at h
  .rename_i hj;rw [AkH hj];exact Dn a x j h
  .rename_i hj;rw [AkG hj];exact Dn b y _ h
 | .unit,_,_,_,h=>by simp [Av]at h
 | .int _,_,0,_,h=>by simp only [Av,AkC]at h;subst h;rfl
 | .bool,_,0,_,h=>by simp only [Av,AkC]at h;subst h;rfl
 | .er,_,0,_,h=>by simp only [Av,AkC]at h;subst h;rfl
 | .lp,_,_,_,h=>by simp [Av]at h
 | .mh,_,0,_,h=>by simp only [Av,AkC]at h;subst h;rfl
 | .mh,_,_+1,_,h=>by simp [Av]at h
 | .mp,_,_,_,h=>by simp [Av]at h
 | .str,_,0,_,h=>by simp only [Av,AkC]at h;subst h;rfl
 | .pt _,_,0,_,h=>by simp only [Av,AkC]at h;subst h;rfl
 | .sl _ _ _,_,0,_,h=>by simp only [Av,AkC]at h;subst h;rfl
 | .int _,_,_+1,_,h=>by simp [Av]at h
 | .bool,_,_+1,_,h=>by simp [Av]at h
 | .er,_,_+1,_,h=>by simp [Av]at h
 | .str,_,_+1,_,h=>by simp [Av]at h
 | .pt _,_,_+1,_,h=>by simp [Av]at h
 | .sl _ _ _,_,_+1,_,h=>by simp [Av]at h
theorem Db {α β:Type} (o:Option β) (f:β->Tr α):(Tr.get β o f).run=o.bind λb=>(f b).run:=by cases o <;> rfl
theorem run_bind {α β:Type} (t:Tr α) (f:α->Tr β):(t.bind f).run=t.run.bind λx=>(f x).run:=by
 induction t with
 | ret a=>rfl
 | fail=>rfl
 | br c t e ih1 ih2=>simp only [Tr.bind,Tr.run];split <;> assumption
 | get γ o g ih=>cases o <;> simp [Tr.bind,Tr.run,ih]
 | alt γ δ s g h ih1 ih2=>cases s <;> simp [Tr.bind,Tr.run,ih1,ih2]
 | rdO k g ih=>rfl
 | rdC k off g ih=>rfl
 | rdM k g ih=>rfl
theorem VQ {α:Type} (cs:List α) (off n:Nat) (a v b:List α) (h:(cs.drop off).take n=a++(v++b)) (j:Nat) (hj:j < v.length):cs[off+a.length+j]?=v[j]?:=by
 have h1:((cs.drop off).take n)[a.length+j]?=v[j]?:=by
  rw [h,Alm O,Alw O]
  congr 1;omega
 rw [<- h1,List.getElem?_take,Alj];have:a.length+j < n:=by
  have:=congrArg List.length h;simp only [AkL,AkJ]at this;have h3:(cs.drop off).length=cs.length - off:=Ak5 ..;rcases Nat.lt_or_ge (a.length+j) n with h4 | h4
  .exact h4
  .omega
 rw [AkH this];congr 1;omega
theorem Rp.elem {w:World} {K:Nat->Prop} {e:TypeId} {r:Ty} {xs:List r.D} {h:Value} {F:List Nat} (hp:Rp w K (.sl true e r) xs [h] F) {i j:Nat} {row:r.D} {c:(u:Ty)×u.D}
  (hi:xs[i]?=some row) (hc:Av r row j=some c) :
  ∃(g off cap:Nat) (cs:Array Value) (fr:Nat×Nat) (v:Value) (F1 Fa G Fb F2:List Nat),h=.slice (some ⟨g,off,none⟩) xs.length cap/\F=g::(F1++((Fa++(G++Fb))++F2))/\w.heap[g]?=some (.cells cs e fr)/\NFt r fr cs.size/\
   off+cap * r.size<=cs.size/\xs.length<=cap/\
   cs[off+(i * r.size+j)]?=some v/\off+(i * r.size+j) < cs.size/\Rp w K c.1 c.2 [v] G/\
   ∀(w':World) (K':Nat->Prop) (y:c.1.D) (v':Value) (G':List Nat) (row':r.D) (cs':Array Value),setCell r row j c.1 y=some row'->Rp w' K' c.1 y [v'] G'->KSame w w' K K'->
    w'.heap[g]?=some (.cells cs' e fr)->cs'=cs.setIfInBounds (off+(i * r.size+j)) v'->Df w w' F1->Df w w' Fa->Df w w' Fb->Df w w' F2->
    Rp w' K' (.sl true e r) (xs.set i row') [h] (g::(F1++((Fa++(G'++Fb))++F2))):=by
 simp only [Rp]at hp;rcases hp with⟨rfl,_⟩ | ⟨g,off,cap,cs,fr,F',hh,rfl,hg,hn,hoff,hlen,hr⟩
 .simp at hi
 obtain ⟨v1,v,v2,F1,G0,F2,hw,hl,rfl,hrow,ht,hd⟩:=RpL.get (λx vs F h=>Rp.len r x h) hr hi;obtain ⟨pre,u,post,Fa,G,Fb,rfl,hpl,rfl,hu,hset⟩:=Rp.cell r row j hrow hc;have hcell:cs[off+(i * r.size+j)]?=some u:=by
  have:=VQ cs.toList off _ v1 (pre++([u]++post)) v2 hw pre.length Z;rw [Alm O]at this;simp only [Amj,Alp,Ala,AlP]at this;rw [hl,hpl]at this;rw [<- AkV,<- this];congr 1;omega
 have hlt:off+(i * r.size+j) < cs.size:=(Al2.1 hcell).1;have hil:i < xs.length:=(Ald.1 hi).1;injection hh with hh _
 refine⟨g,off,cap,cs,fr,u,F1,Fa,G,Fb,F2,hh,rfl,hg,hn,hoff,hlen,hcell,hlt,hu,?_⟩;intro w' K' y v' G' row' cs' hs hy hK hg' hcs s1 sa sb s2;subst hcs;simp only [Rp];refine .inr ⟨g,off,cap,_,fr,_,by rw [AlB,hh],rfl,hg',by simpa using hn,by simpa using hoff,by simpa using hlen,?_⟩;have hnew:=RpL.set hi (RpL.frame hK r _ _ _ s1 ht) (RpL.frame hK r _ _ _ s2 hd) (hset w' K' y v' G' row' hs hy hK sa sb);rw [AlB];have:((cs.setIfInBounds (off+(i * r.size+j)) v').toList.drop off).take (xs.length * r.size)=v1++((pre++([v']++post))++v2):=by
  rw [Array.toList_setIfInBounds,List.drop_set,AkG O,List.take_set,hw];have h1:v1++((pre++([u]++post))++v2)=(v1++pre)++u::(post++v2):=by simp
  have h2:v1++((pre++([v']++post))++v2)=(v1++pre)++v'::(post++v2):=by simp
  rw [h1,h2,AmT _ _ (by rw [AkJ];omega)];have h3:off+(i * r.size+j) - off - (v1++pre).length=0:=by rw [AkJ];omega
  rw [h3];rfl
 rw [this];exact hnew
theorem DE {e:TypeId} {r:Ty} {xs:List r.D} {i j:Nat} {ps:AQ} {c:(u:Ty)×u.D} (h:(Ao (.sl true e r) xs ((i,j)::ps)).run=some c) :
  ∃row d,xs[i]?=some row/\Av r row j=some d/\(Ao d.1 d.2 ps).run=some c:=by
 simp only [Ao,Db,AkF]at h;obtain ⟨row,hrow,h⟩:=h;split at h
 .rename_i d hd;exact⟨row,d,hrow,hd,h⟩
 .simp [Tr.run]at h
theorem UI {g:Nat} {F1 Fa G Fb F2:List Nat} (hnd:(g::(F1++((Fa++(G++Fb))++F2))).Nodup):G.Nodup:=by
 rw [Alv]at hnd;have h1:=hnd.2;rw [AkX]at h1;have h2:=h1.2.1;rw [AkX]at h2;have h3:=h2.1;rw [AkX]at h3;have h4:=h3.2.1;rw [AkX]at h4;exact h4.1
theorem Rp.reach {w:World} {K:Nat->Prop}:∀(st:AQ) (t:Ty) (x:t.D) {h:Value} {F:List Nat} {c:(u:Ty)×u.D},Rp w K t x [h] F->(Ao t x st).run=some c->
  ∃h' F',hdr w h t st=some h'/\Rp w K c.1 c.2 [h'] F'/\(∀g∈F',g∈F)/\(F.Nodup->F'.Nodup)/\(st≠[]->∃a,adr w h t st=some a/\w.cell? a=some h'/\a.block∈F/\a.spot=none/\w.frozen? a=false)
 | [],t,x,h,F,c,hp,hg=>by
  simp only [Ao,Tr.run,AkC]at hg;subst hg;exact⟨h,F,rfl,hp,λ_ hg=>hg,λh=>h,λhne=>absurd rfl hne⟩
 | (i,j)::ps,t,x,h,F,c,hp,hg=>by
  match t,x,hp,hg with
  | .sl true e r,xs,hp,hg=>
   obtain ⟨row,d,hrow,hd,hrest⟩:=DE hg;obtain ⟨g,off,cap,cs,fr,v,F1,Fa,G,Fb,F2,rfl,rfl,hh,hn,_,_,hcell,hlt,hv,_⟩:=Rp.elem hp hrow hd;have hc?:w.cell? ⟨g,off+(i * r.size+j),none⟩=some v:=by rw [A8 hh];exact hcell
   obtain ⟨h',F',hhd,hp',hsub,hnod,hne⟩:=Rp.reach ps d.1 d.2 hv hrest;refine⟨h',F',?_,hp',?_,λhx=>hnod (UI hx),?_⟩
   .cases ps with
    | nil=>
     simp only [hdr,AkC]at hhd;subst hhd;simp only [hdr,adr,A7];exact hc?
    | cons p ps=>
     simp only [hdr,adr,A7,hc?,Dn r row j hd];simpa only [hdr] using hhd
   .intro b hb;have:=hsub b hb;simp [*]
   .intro _;cases ps with
    | nil=>
     simp only [hdr,AkC]at hhd;subst hhd;exact⟨⟨g,off+(i * r.size+j),none⟩,by simp only [adr,A7],hc?,Z,rfl,Dq hh hn.nf hlt⟩
    | cons p ps=>
     obtain ⟨a,ha,h1,h2,h3,h4⟩:=hne Z;refine⟨a,by simp only [adr,A7,hc?,Dn r row j hd];exact ha,h1,?_,h3,h4⟩;simp [*]
  | .sl false _ _,_,_,hg=>simp [Ao,Tr.run]at hg
  | .int _,_,_,hg=>simp [Ao,Tr.run]at hg
  | .bool,_,_,hg=>simp [Ao,Tr.run]at hg
  | .er,_,_,hg=>simp [Ao,Tr.run]at hg
  | .lp,_,_,hg=>simp [Ao,Tr.run]at hg
  | .mh,_,_,hg=>simp [Ao,Tr.run]at hg
  | .mp,_,_,hg=>simp [Ao,Tr.run]at hg
  | .str,_,_,hg=>simp [Ao,Tr.run]at hg
  | .unit,_,_,hg=>simp [Ao,Tr.run]at hg
  | .pair _ _,_,_,hg=>simp [Ao,Tr.run]at hg
theorem Tt {w w':World} {h:Value} {t:Ty} {p:Nat×Nat}:adr w' h t [p]=adr w h t [p]:=by
 cases t with
 | sl o e r=>
  cases h with
  | slice A _ _=>cases A <;> rfl
  | _=>rfl
 | _=>rfl
theorem Rp.put {w:World} {K:Nat->Prop}:∀(st:AQ) (t:Ty) (x:t.D) {h:Value} {F:List Nat} {c:(u:Ty)×u.D} {z:c.1.D} {y:t.D},st≠[]->Rp w K t x [h] F->F.Nodup->(Ao t x st).run=some c->(Fw t x st c.1 z).run=some y->
  ∃a h' Fa G Fb,adr w h t st=some a/\w.cell? a=some h'/\a.spot=none/\F=Fa++(G++Fb)/\a.block∈Fa/\Rp w K c.1 c.2 [h'] G/\w.frozen? a=false/\
   ∀(w':World) (K':Nat->Prop) (v':Value) (G':List Nat),Rp w' K' c.1 z [v'] G'->KSame w w' K K'->w'.heap[a.block]?=(w.setCell a v').heap[a.block]?->
    (∀g∈Fa++Fb,g≠a.block->w'.heap[g]?=w.heap[g]?)->Rp w' K' t y [h] (Fa++(G'++Fb))/\∀n,adr w' h t (Cj st n)=adr w h t (Cj st n)
 | [],_,_,_,_,_,_,_,hne,_,_,_,_=>absurd rfl hne
 | (i,j)::ps,t,x,h,F,c,z,y,_,hp,hnd,hg,hs=>by
  match t,x,y,hp,hg,hs with
  | .sl true e r,xs,y,hp,hg,hs=>
   obtain ⟨row,d,hrow,hd,hrest⟩:=DE hg;have hs':∃yy row',(Fw d.1 d.2 ps c.1 z).run=some yy/\setCell r row j d.1 yy=some row'/\y=(xs:List r.D).set i row':=by
    simp only [Fw,Db,AkF]at hs;obtain ⟨row2,hrow2,hs⟩:=hs;obtain rfl:row=row2:=by rw [hrow]at hrow2;injection hrow2
    rw [hd]at hs;simp only [run_bind,AkF]at hs;obtain ⟨yy,h1,hs⟩:=hs;split at hs
    .rename_i row' hr;simp only [Tr.run,AkC]at hs;exact⟨yy,row',h1,hr,hs.symm⟩
    .simp [Tr.run]at hs
   obtain ⟨yy,row',hsy,hset,rfl⟩:=hs';obtain ⟨g,off,cap,cs,fr,v,F1,Fa,G,Fb,F2,rfl,rfl,hh,hn,hcap,hlen,hcell,hlt,hv,hput⟩:=Rp.elem hp hrow hd;have hc?:w.cell? ⟨g,off+(i * r.size+j),none⟩=some v:=by rw [A8 hh];exact hcell
   cases ps with
   | nil=>
    simp only [Ao,Tr.run,AkC]at hrest;subst hrest;simp only [Fw]at hsy;split at hsy
    .simp only [Tr.run,AkC]at hsy;subst hsy;refine⟨⟨g,off+(i * r.size+j),none⟩,v,g::(F1++Fa),G,Fb++F2,by simp only [adr,A7],hc?,rfl,Z,Z,hv,Dq hh hn.nf hlt,?_⟩;intro w' K' v' G' hz hK hblk hrest;have hnd':∀b,b∈F1\/b∈Fa\/b∈Fb\/b∈F2->b≠g:=by
      rintro b hb rfl;rw [Alv]at hnd;apply hnd.1;simp only [AkK];rcases hb with hb | hb | hb | hb <;> simp [hb]
     have hnew:w'.heap[g]?=some (.cells (cs.setIfInBounds (off+(i * r.size+j)) v') e fr):=by
      rw [hblk];exact Mx hh _ _
     have:=hput w' K' z v' G' row' _ hset hz hK hnew rfl (λb hb=>hrest b (by simp [hb]) (hnd' b (by simp [hb]))) (λb hb=>hrest b (by simp [hb]) (hnd' b (by simp [hb])))
      (λb hb=>hrest b (by simp [hb]) (hnd' b (by simp [hb]))) (λb hb=>hrest b (by simp [hb]) (hnd' b (by simp [hb])))
     exact⟨by simpa using this,λn=>Tt⟩
    .simp [Tr.run]at hsy
   | cons p ps=>
    have hndG:G.Nodup:=UI hnd;obtain ⟨a,h',Ga,G0,Gb,ha,h1,h2,rfl,hain,hG0,h4,hset2⟩:=Rp.put (p::ps) d.1 d.2 Z hv hndG hrest hsy;have hag:a.block≠g:=by
     rintro rfl;rw [Alv]at hnd;apply hnd.1;simp [hain]
    have hout:∀b,b∈F1\/b∈Fa\/b∈Fb\/b∈F2->b≠a.block:=by
     rintro b hb rfl;rw [Alv]at hnd;have hn2:=hnd.2;have hA:∀(X Y:List Nat),(X++Y).Nodup->∀q,q∈X->q∈Y->False:=λX Y hXY q hX hY=>(AkX.1 hXY).2.2 q hX q hY rfl
     rcases hb with hb | hb | hb | hb
     .exact hA F1 _ hn2 a.block hb (by simp [hain])
     .have h5:=(AkX.1 hn2).2.1;have h6:=(AkX.1 h5).1;exact hA Fa _ h6 a.block hb (by simp [hain])
     .have h5:=(AkX.1 hn2).2.1;have h6:=(AkX.1 h5).1;have h7:=(AkX.1 h6).2.1;exact hA _ Fb h7 a.block (by simp [hain]) hb
     .have h5:=(AkX.1 hn2).2.1;exact hA _ F2 h5 a.block (by simp [hain]) hb
    refine⟨a,h',g::(F1++(Fa++Ga)),G0,Gb++(Fb++F2),by simp only [adr,A7,hc?,Dn r row j hd];exact ha,h1,h2,Z,by simp [hain],hG0,h4,?_⟩;intro w' K' v' G' hz hK hblk hrest2;obtain ⟨hinner,hadr⟩:=hset2 w' K' v' G' hz hK hblk (λb hb hne=>hrest2 b (by simp only [AkK,AkU]at hb ⊢;rcases hb with hb | hb <;> simp [hb]) hne);have hgs:w'.heap[g]?=some (.cells cs e fr):=by rw [hrest2 g Z (Ne.symm hag)];exact hh
    have hsame:cs=cs.setIfInBounds (off+(i * r.size+j)) v:=by
     apply Array.ext_getElem?;intro m;rw [Array.getElem?_setIfInBounds];split
     .subst_vars;first | exact hcell | (rw [AkH hlt];exact hcell)
     .rfl
    have:=hput w' K' yy v (Ga++(G'++Gb)) row' cs hset hinner hK hgs hsame (λb hb=>hrest2 b (by simp [hb]) (hout b (by simp [hb]))) (λb hb=>hrest2 b (by simp [hb]) (hout b (by simp [hb])))
      (λb hb=>hrest2 b (by simp [hb]) (hout b (by simp [hb]))) (λb hb=>hrest2 b (by simp [hb]) (hout b (by simp [hb])))
    refine⟨by simpa using this,λn=>?_⟩;have hc2:w'.cell? ⟨g,off+(i * r.size+j),none⟩=some v:=by rw [A8 hgs];exact hcell
    have hb:Cj ((i,j)::p::ps) n=(i,j)::Cj (p::ps) n:=rfl;obtain ⟨q',ps',hq⟩:∃q' ps',Cj (p::ps) n=q'::ps':=by
     cases ps with
     | nil=>obtain ⟨x,y⟩:=p;exact⟨_,_,rfl⟩
     | cons q2 ps=>exact⟨_,_,rfl⟩
    have:=hadr n;rw [hb];rw [hq]at this ⊢;simp only [adr,A7,hc?,hc2,Dn r row j hd];exact this
  | .sl false _ _,_,_,_,hg,_=>simp [Ao,Tr.run]at hg
  | .int _,_,_,_,hg,_=>simp [Ao,Tr.run]at hg
  | .bool,_,_,_,hg,_=>simp [Ao,Tr.run]at hg
  | .er,_,_,_,hg,_=>simp [Ao,Tr.run]at hg
  | .lp,_,_,_,hg,_=>simp [Ao,Tr.run]at hg
  | .mh,_,_,_,hg,_=>simp [Ao,Tr.run]at hg
  | .mp,_,_,_,hg,_=>simp [Ao,Tr.run]at hg
  | .str,_,_,_,hg,_=>simp [Ao,Tr.run]at hg
  | .unit,_,_,_,hg,_=>simp [Ao,Tr.run]at hg
  | .pair _ _,_,_,_,hg,_=>simp [Ao,Tr.run]at hg
end Go.V
namespace Go.V
def glo:Nat->Prop:=λ_=>False
def GlF:World->Prop:=λ_=>True
theorem WX {w:World} (_:GlF w) {g:Nat} (hg:glo g):g < w.heap.size:=hg.elim
theorem Vg {w w':World} (_:GlF w) (_:∀g,glo g->w'.heap[g]?=w.heap[g]?):GlF w':=trivial
theorem W5 (w:World):GlF w:=trivial
end Go.V