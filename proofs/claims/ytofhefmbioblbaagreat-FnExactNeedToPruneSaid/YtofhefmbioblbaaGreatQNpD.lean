import Derived.Test.YtofhefmbioblbaaGreatQNpA
import Derived.Below
import Derived.Laws.Cells
import Derived.Laws.Concat
import Derived.Deep.AppendSrc
import Derived.Laws.Tables
import Derived.Laws.Strings
import Derived.Laws.StructEq
import Derived.Laws.IdiomCopy
import Derived.Great.BuildSlice
import Derived.Laws.MakeOwn
import Derived.Laws.AppendOwn
import Derived.Deep.Upon
import Derived.Lib.AppendZerosOnto
import Derived.Laws.IdiomStrings
import Derived.Laws.BytesArg
import Derived.Laws.Small
set_option linter.unusedVariables false
set_option linter.unusedSimpArgs false
namespace Go.V
theorem Be (g off n:Nat):(⟨g,off,none⟩:Addr).add n=⟨g,off+n,none⟩:=by
 unfold Addr.add;simp
theorem add_add (a:Addr) (i j:Nat):(a.add i).add j=a.add (i+j):=by
 unfold Addr.add
 grind
theorem Bf {w:World} {g:Nat} {cs:Array Value} {e:TypeId} {fr:Nat×Nat} (h:w.heap[g]?=some (.cells cs e fr)) (i:Nat):w.cell? ⟨g,i,none⟩=cs[i]?:=by
 unfold World.cell?;rw [h];rfl
theorem DC {w:World} {g:Nat} {cs:Array Value} {e:TypeId} {fr:Nat×Nat} (h:w.heap[g]?=some (.cells cs e fr)) (hf:∀i,i < cs.size->¬ (fr.1<=i/\i < fr.2)) {i:Nat} (hi:i < cs.size):w.frozen? ⟨g,i,none⟩=false:=by
 unfold World.frozen?;grind
theorem Oh {w:World} {g:Nat} {cs:Array Value} {e:TypeId} {fr:Nat×Nat} (h:w.heap[g]?=some (.cells cs e fr)) (i:Nat) (v:Value) :
  (w.setCell ⟨g,i,none⟩ v).heap[g]?=some (.cells (cs.setIfInBounds i v) e fr):=by
 simp only [World.setCell,Array.getElem?_modify,AoU,h,Apz];rfl
theorem B5 {w:World} {g:Nat} {o:Obj} (h:w.heap[g]?=some o):g < w.heap.size:=(ApS.1 h).1
def RpL {α:Type} (p:α->List Value->List Nat->Prop):List α->List Value->List Nat->Prop
 | [],vs,F=>vs=[]/\F=[]
 | x::xs,vs,F=>∃v1 v2 F1 F2,vs=v1++v2/\F=F1++F2/\p x v1 F1/\RpL p xs v2 F2
def NF (fr:Nat×Nat) (n:Nat):Prop:=∀i,i < n->¬ (fr.1<=i/\i < fr.2)
structure NFt (r:Ty) (fr:Nat×Nat) (n:Nat):Prop where
 nf:NF fr n
 at':r≠.int .u8->¬ (fr.1<=n/\n < fr.2)
 le:r=.int .i64->n<=9223372036854775807
theorem NFt.zero (r:Ty) {n:Nat} (h:r=.int .i64->n<=9223372036854775807):NFt r (0,0) n:=⟨λi _ hx=>by simp at hx,λ_ hx=>by simp at hx,h⟩
def ErV:Bool->Value->Prop
 | false,v=>v=.nilIface
 | true,v=>∃te pe,v=.iface te pe
def Rp (w:World) (K:Nat->Prop):(t:Ty)->t.D->List Value->List Nat->Prop
 | .int k,n,vs,F=>vs=[.int k n]/\F=[]
 | .bool,b,vs,F=>vs=[.bool b]/\F=[]
 | .str,s,vs,F=>vs=[.string ⟨s.toArray⟩]/\F=[]
 | .er,b,vs,F=>∃v,vs=[v]/\F=[]/\ErV b v
 | .lp,_,_,_=>False
 | .mh,x,vs,F=>vs=[.map none]/\F=[]/\(x:Nat)=0
 | .mp,_,_,_=>False
 | .unit,_,vs,F=>vs=[]/\F=[]
 | .pair a b,x,vs,F=>∃v1 v2 F1 F2,vs=v1++v2/\F=F1++F2/\Rp w K a x.1 v1 F1/\Rp w K b x.2 v2 F2
 | .sl true e r,xs,vs,F=>(xs=[]/\F=[]/\vs=[.slice none 0 0])\/
   ∃g off c cs fr F',vs=[.slice (some ⟨g,off,none⟩) (List.length xs) c]/\F=g::F'/\w.heap[g]?=some (.cells cs e fr)/\NFt r fr cs.size/\
    off+c * r.size<=cs.size/\List.length xs<=c/\RpL (Rp w K r) xs ((cs.toList.drop off).take (List.length xs * r.size)) F'
 | .pt t,o,vs,F=>F=[]/\match o with
  | none=>vs=[.pointer none]
  | some x=>∃ad ws,vs=[.pointer (some ad)]/\Rp w K t x ws []/\K ad.block/\ad.block < w.heap.size/\∀j,j < ws.length->w.cell? (ad.add j)=ws[j]?
 | .sl false _ r,xs,vs,F=>F=[]/\∃A c ws,vs=[.slice A (List.length xs) c]/\List.length xs<=c/\RpL (Rp w K r) xs ws []/\
   (xs=[]\/∃ad,A=some ad/\K ad.block/\ad.block < w.heap.size/\∀j,j < ws.length->w.cell? (ad.add j)=ws[j]?)
section
variable {α:Type} {p q:α->List Value->List Nat->Prop}
theorem RpL.mono (h:∀x vs F,p x vs F->q x vs F):∀{xs:List α} {vs F},RpL p xs vs F->RpL q xs vs F
 | [],_,_,hx=>hx
 | _::_,_,_,⟨v1,v2,F1,F2,e1,e2,h1,h2⟩=>⟨v1,v2,F1,F2,e1,e2,h _ _ _ h1,RpL.mono h h2⟩
theorem RpL.len {n:Nat} (h:∀x vs F,p x vs F->vs.length=n):∀{xs:List α} {vs F},RpL p xs vs F->vs.length=xs.length * n
 | [],_,_,⟨e,_⟩=>by subst e;simp
 | x::xs,_,_,⟨v1,v2,F1,F2,e1,_,h1,h2⟩=>by
  have a:=h _ _ _ h1;have b:=RpL.len h h2
  grind
theorem RpL.append:∀{xs ys:List α} {vs ws F G},RpL p xs vs F->RpL p ys ws G->RpL p (xs++ys) (vs++ws) (F++G)
 | [],_,_,_,_,_,⟨e1,e2⟩,h=>by grind
 | _::_,_,_,_,_,_,⟨v1,v2,F1,F2,e1,e2,h1,h2⟩,h=>by
  subst e1 e2;exact⟨v1,_,F1,_,AoN ..,AoN ..,h1,RpL.append h2 h⟩
theorem RpL.split:∀{xs ys:List α} {vs F},RpL p (xs++ys) vs F->∃v1 v2 F1 F2,vs=v1++v2/\F=F1++F2/\RpL p xs v1 F1/\RpL p ys v2 F2
 | [],_,vs,F,h=>⟨[],vs,[],F,rfl,rfl,⟨rfl,rfl⟩,h⟩
 | _::_,_,_,_,⟨v1,v2,F1,F2,e1,e2,h1,h2⟩=>by
  obtain ⟨a,b,c,d,e3,e4,h3,h4⟩:=RpL.split h2;subst e1 e2 e3 e4;exact⟨v1++a,b,F1++c,d,(AoN ..).symm,(AoN ..).symm,⟨v1,a,F1,c,rfl,rfl,h1,h3⟩,h4⟩
theorem RpL.get {n:Nat} (hn:∀x vs F,p x vs F->vs.length=n):∀{xs:List α} {vs F} {i:Nat} {x:α},RpL p xs vs F->xs[i]?=some x->
  ∃v1 v v2 F1 G F2,vs=v1++(v++v2)/\v1.length=i * n/\F=F1++(G++F2)/\p x v G/\
   RpL p (xs.take i) v1 F1/\RpL p (xs.drop (i+1)) v2 F2
 | [],_,_,i,_,_,hi=>by simp at hi
 | y::ys,_,_,0,x,⟨v1,v2,F1,F2,e1,e2,h1,h2⟩,hi=>by
  simp only [Aqr,AoD]at hi;subst hi e1 e2;exact⟨[],v1,v2,[],F1,F2,rfl,Z,rfl,h1,⟨rfl,rfl⟩,h2⟩
 | y::ys,_,_,i+1,x,⟨v1,v2,F1,F2,e1,e2,h1,h2⟩,hi=>by
  obtain ⟨a,v,b,G1,G,G2,e3,hl,e4,hp,ht,hd⟩:=RpL.get hn h2 hi;subst e1 e2 e3 e4;refine⟨v1++a,v,b,F1++G1,G,G2,Z,?_,Z,hp,⟨v1,a,F1,G1,rfl,rfl,h1,ht⟩,by grind⟩
  grind
theorem RpL.set {xs:List α} {i:Nat} {x y:α} (hi:xs[i]?=some x) {v1 v2 v F1 F2 G} (ht:RpL p (xs.take i) v1 F1) (hd:RpL p (xs.drop (i+1)) v2 F2) (hy:p y v G) :
  RpL p (xs.set i y) (v1++(v++v2)) (F1++(G++F2)):=by
 have hlt:i < xs.length:=(Apt.1 hi).1;rw [List.set_eq_take_append_cons_drop,AoJ hlt];exact RpL.append ht ⟨v,v2,G,F2,rfl,rfl,hy,hd⟩
end
theorem Rp.len {w:World} {K:Nat->Prop}:∀(t:Ty) (x:t.D) {vs F},Rp w K t x vs F->vs.length=t.size
 | .int _,_,_,_,h=>by simp only [Rp]at h;simp [h.1,Ty.size]
 | .bool,_,_,_,h=>by simp only [Rp]at h;simp [h.1,Ty.size]
 | .er,_,_,_,h=>by simp only [Rp]at h;obtain ⟨v,rfl,_⟩:=h;rfl
 | .lp,_,_,_,h=>by simp only [Rp]at h
 | .mh,_,_,_,h=>by simp only [Rp]at h;simp [h.1,Ty.size]
 | .mp,_,_,_,h=>by simp only [Rp]at h
 | .str,_,_,_,h=>by simp only [Rp]at h;simp [h.1,Ty.size]
 | .unit,_,_,_,h=>by simp only [Rp]at h;simp [h.1,Ty.size]
 | .pair a b,x,_,_,h=>by
  simp only [Rp]at h;obtain ⟨v1,v2,F1,F2,rfl,_,h1,h2⟩:=h;simp [Ty.size,Rp.len a _ h1,Rp.len b _ h2]
 | .sl true _ r,_,_,_,h=>by
  simp only [Rp]at h;rcases h with⟨_,_,rfl⟩ | ⟨g,off,c,cs,fr,F',rfl,_⟩ <;> simp [Ty.size]
 | .sl false _ r,_,_,_,h=>by
  simp only [Rp]at h;obtain ⟨_,A,c,ws,rfl,_⟩:=h;rfl
 | .pt t,o,_,_,h=>by
  simp only [Rp]at h;cases o with
  | none=>simp [h.2,Ty.size]
  | some x=>obtain ⟨_,ad,ws,rfl,_⟩:=h;rfl
def Do (w w':World) (F:List Nat):Prop:=∀g∈F,w'.heap[g]?=w.heap[g]?
def KSame (w w':World) (K K':Nat->Prop):Prop:=w.heap.size<=w'.heap.size/\∀g,K g->g < w.heap.size->w'.heap[g]?=w.heap[g]?/\K' g
theorem KSame.refl (w:World) (K:Nat->Prop):KSame w w K K:=⟨Ao4 _,λ_ h _=>⟨rfl,h⟩⟩
theorem N6 {w w':World} {a:Addr} (h:w'.heap[a.block]?=w.heap[a.block]?):w'.cell? a=w.cell? a:=by
 unfold World.cell?;rw [h]
theorem DG (a:Addr) (n:Nat):(a.add n).block=a.block:=by unfold Addr.add;split <;> rfl
theorem Rp.frame {w w':World} {K K':Nat->Prop} (hK:KSame w w' K K'):∀(t:Ty) (x:t.D) {vs F},Rp w K t x vs F->Do w w' F->Rp w' K' t x vs F
 | .int _,_,_,_,h,_=>by assumption
 | .bool,_,_,_,h,_=>by assumption
 | .er,_,_,_,h,_=>by assumption
 | .lp,_,_,_,h,_=>by assumption
 | .mh,_,_,_,h,_=>by assumption
 | .mp,_,_,_,h,_=>by assumption
 | .str,_,_,_,h,_=>by assumption
 | .unit,_,_,_,h,_=>by assumption
 | .pair a b,x,_,_,h,hF=>by
  obtain ⟨v1,v2,F1,F2,rfl,rfl,h1,h2⟩:=h;exact⟨v1,v2,F1,F2,rfl,rfl,Rp.frame hK a _ h1 λg hg=>hF g (by simp [hg]),Rp.frame hK b _ h2 λg hg=>hF g (by simp [hg])⟩
 | .sl true _ r,xs,_,_,h,hF=>by
  rcases h with h | ⟨g,off,c,cs,fr,F',rfl,rfl,hh,hn,hc,hl,hr⟩
  .exact .inl h
  .refine .inr ⟨g,off,c,cs,fr,F',rfl,rfl,by rw [hF g Z];exact hh,hn,hc,hl,?_⟩;have key:∀(ys:List r.D) (us:List Value) (G:List Nat),Do w w' G->RpL (Rp w K r) ys us G->RpL (Rp w' K' r) ys us G:=by
    intro ys
    induction ys with
    | nil=>intro us G _ h;exact h
    | cons y ys ih=>
     rintro us G hG ⟨v1,v2,F1,F2,rfl,rfl,h1,h2⟩;exact⟨v1,v2,F1,F2,rfl,rfl,Rp.frame hK r y h1 λg hg=>hG g (by simp [hg]),ih _ _ (λg hg=>hG g (by simp [hg])) h2⟩
   exact key _ _ _ (λg hg=>hF g (by simp [hg])) hr
 | .sl false _ r,xs,_,_,h,_=>by
  obtain ⟨rfl,A,c,ws,rfl,hle,hr,hx⟩:=h;refine⟨rfl,A,c,ws,rfl,hle,?_,?_⟩
  .have key:∀(ys:List r.D) (us:List Value) (G:List Nat),Do w w' G->RpL (Rp w K r) ys us G->RpL (Rp w' K' r) ys us G:=by
    intro ys
    induction ys with
    | nil=>intro us G _ h;exact h
    | cons y ys ih=>
     rintro us G hG ⟨v1,v2,F1,F2,rfl,rfl,h1,h2⟩;exact⟨v1,v2,F1,F2,rfl,rfl,Rp.frame hK r y h1 λg hg=>hG g (by simp [hg]),ih _ _ (λg hg=>hG g (by simp [hg])) h2⟩
   grind
  .rcases hx with hx | ⟨ad,e,h1,h2,h3⟩
   .exact .inl hx
   .obtain ⟨h4,h5⟩:=hK.2 _ h1 h2;exact .inr ⟨ad,e,h5,ApD h2 hK.1,λj hj=>(N6 (w:=w) (w':=w') (a:=ad.add j) (by rw [DG];exact h4)).trans (h3 j hj)⟩
 | .pt t,o,_,_,h,_=>by
  refine⟨h.1,?_⟩;cases o with
  | none=>exact h.2
  | some x=>
   obtain ⟨ad,ws,e,h0,h1,h2,h3⟩:=h.2;obtain ⟨h4,h5⟩:=hK.2 _ h1 h2;exact⟨ad,ws,e,Rp.frame hK t x h0 (λg hg=>by cases hg),h5,ApD h2 hK.1,λj hj=>(N6 (w:=w) (w':=w') (a:=ad.add j) (by rw [DG];exact h4)).trans (h3 j hj)⟩
theorem RpL.frame {w w':World} {K K':Nat->Prop} (hK:KSame w w' K K') (r:Ty):∀(ys:List r.D) (us:List Value) (G:List Nat),Do w w' G->RpL (Rp w K r) ys us G->RpL (Rp w' K' r) ys us G:=by
 intro ys
 induction ys with
 | nil=>intro us G _ h;exact h
 | cons y ys ih=>
  rintro us G hG ⟨v1,v2,F1,F2,rfl,rfl,h1,h2⟩;exact⟨v1,v2,F1,F2,rfl,rfl,Rp.frame hK r y h1 λg hg=>hG g (by simp [hg]),ih _ _ (λg hg=>hG g (by simp [hg])) h2⟩
theorem AgC {w:World} {K:Nat->Prop} {t:Ty} {x:t.D} {vs F} (hs:t.size=1) (h:Rp w K t x vs F):∃v,vs=[v]:=by
 have:=Rp.len t x h;rw [hs]at this
 match vs,this with
 | [v],_=>simp
theorem Aa1 {t:Ty} {x z:t.D} (hp:∀a b,t≠.pair a b) (hu:t≠.unit) {u:Ty} {zz:u.D} {y:t.D} (h:setCell t x 0 u zz=some y):∃e:u=t,y=e ▸ zz:=by
 cases t with
 | pair a b=>grind
 | unit=>grind
 | lp=>simp [setCell]at h
 | mp=>simp [setCell]at h
 | _=>simp only [setCell]at h;split at h <;> simp_all
theorem Rp.cell {w:World} {K:Nat->Prop}:∀(t:Ty) (x:t.D) (j:Nat) {c:(u:Ty)×u.D} {vs F},Rp w K t x vs F->Ax t x j=some c->
  ∃pre v post Fa G Fb,vs=pre++([v]++post)/\pre.length=j/\F=Fa++(G++Fb)/\Rp w K c.1 c.2 [v] G/\
   ∀(w':World) (K':Nat->Prop) (y:c.1.D) (v':Value) (G':List Nat) (x':t.D),setCell t x j c.1 y=some x'->Rp w' K' c.1 y [v'] G'->KSame w w' K K'->
    Do w w' Fa->Do w w' Fb->Rp w' K' t x' (pre++([v']++post)) (Fa++(G'++Fb))
 | .pair a b,(x,y),j,c,vs,F,h,hc=>by
  simp only [Rp]at h;obtain ⟨v1,v2,F1,F2,rfl,rfl,h1,h2⟩:=h;have l1:=Rp.len a _ h1;simp only [Ax]at hc;split at hc
  .rename_i hj;obtain ⟨pre,v,post,Fa,G,Fb,rfl,hl,rfl,hv,hset⟩:=Rp.cell a x j h1 hc;refine⟨pre,v,post++v2,Fa,G,Fb++F2,Z,hl,Z,hv,?_⟩;intro w' K' z v' G' x' hs hz hK sa sb;simp only [setCell,AoJ hj,Apx]at hs;obtain ⟨xa,hxa,rfl⟩:=hs;simp only [Rp];refine⟨pre++([v']++post),v2,Fa++(G'++Fb),F2,Z,Z,hset w' K' z v' G' xa hxa hz hK sa (λg hg=>sb g (by simp [hg])),?_⟩;exact Rp.frame hK b _ h2 λg hg=>sb g (by simp [hg])
  .rename_i hj;obtain ⟨pre,v,post,Fa,G,Fb,rfl,hl,rfl,hv,hset⟩:=Rp.cell b y _ h2 hc;refine⟨v1++pre,v,post,F1++Fa,G,Fb,Z,by grind,Z,hv,?_⟩;intro w' K' z v' G' x' hs hz hK sa sb;simp only [setCell,AoH hj,Apx]at hs;obtain ⟨xb,hxb,rfl⟩:=hs;simp only [Rp];refine⟨v1,pre++([v']++post),F1,Fa++(G'++Fb),Z,Z,?_,hset w' K' z v' G' xb hxb hz hK (λg hg=>sa g (by simp [hg])) sb⟩;exact Rp.frame hK a _ h1 λg hg=>sa g (by simp [hg])
 | .unit,_,_,_,_,_,_,hc=>by simp [Ax]at hc
 | .int k,x,j,c,vs,F,h,hc=>leafCase (λ_ _=>by simp) Z rfl h hc (by cases j <;> simp [Ax]at hc ⊢)
 | .bool,x,j,c,vs,F,h,hc=>leafCase (λ_ _=>by simp) Z rfl h hc (by cases j <;> simp [Ax]at hc ⊢)
 | .lp,_,_,_,_,_,h,_=>by simp only [Rp]at h
 | .mh,x,j,c,vs,F,h,hc=>leafCase (λ_ _=>by simp) Z rfl h hc (by cases j <;> simp [Ax]at hc ⊢)
 | .mp,_,_,_,_,_,h,_=>by simp only [Rp]at h
 | .er,x,j,c,vs,F,h,hc=>leafCase (λ_ _=>by simp) Z rfl h hc (by cases j <;> simp [Ax]at hc ⊢)
 | .pt t,x,j,c,vs,F,h,hc=>leafCase (λ_ _=>by simp) Z rfl h hc (by cases j <;> simp [Ax]at hc ⊢)
 | .str,x,j,c,vs,F,h,hc=>leafCase (λ_ _=>by simp) Z rfl h hc (by cases j <;> simp [Ax]at hc ⊢)
 | .sl o e r,x,j,c,vs,F,h,hc=>leafCase (λ_ _=>by simp) Z rfl h hc (by cases j <;> simp [Ax]at hc ⊢)
where
 leafCase {w:World} {K:Nat->Prop} {t:Ty} {x:t.D} {j:Nat} {c:(u:Ty)×u.D} {vs F} (hp:∀a b,t≠.pair a b) (hu:t≠.unit) (hs:t.size=1)
   (h:Rp w K t x vs F) (hc:Ax t x j=some c) (hj:j=0) :
   ∃pre v post Fa G Fb,vs=pre++([v]++post)/\pre.length=j/\F=Fa++(G++Fb)/\Rp w K c.1 c.2 [v] G/\
    ∀(w':World) (K':Nat->Prop) (y:c.1.D) (v':Value) (G':List Nat) (x':t.D),setCell t x j c.1 y=some x'->Rp w' K' c.1 y [v'] G'->KSame w w' K K'->
     Do w w' Fa->Do w w' Fb->Rp w' K' t x' (pre++([v']++post)) (Fa++(G'++Fb)):=by
  subst hj;have hct:c=⟨t,x⟩:=by
   cases t with
   | pair a b=>grind
   | unit=>grind
   | lp=>simp [Ty.size]at hs
   | mp=>simp [Ty.size]at hs
   | _=>simp only [Ax,AoD]at hc;exact hc.symm
  subst hct;obtain ⟨v,rfl⟩:=AgC hs h;refine⟨[],v,[],[],F,[],Z,rfl,Z,h,?_⟩;intro w' K' y v' G' x' hset hy _ _ _;obtain ⟨e,rfl⟩:=Aa1 (z:=x) hp hu hset
  grind
def adr (w:World) (h:Value):Ty->AT->Option Addr
 | .sl _ _ r,(i,j)::ps=>match h with
  | .slice (some a) _ _=>match ps with
   | []=>some (a.add (i * r.size+j))
   | p::ps=>match w.cell? (a.add (i * r.size+j)),cty r j with
    | some h',some t'=>adr w h' t' (p::ps)
    | _,_=>none
  | _=>none
 | _,_=>none
where
 cty:Ty->Nat->Option Ty
  | .pair a b,j=>if j < a.size then cty a j else cty b (j - a.size)
  | .unit,_=>none
  | t,0=>some t
  | _,_+1=>none
def hdr (w:World) (h:Value) (t:Ty):AT->Option Value
 | []=>some h
 | st=>match adr w h t st with
  | some a=>w.cell? a
  | none=>none
theorem Dw:∀(t:Ty) (x:t.D) (j:Nat) {c},Ax t x j=some c->adr.cty t j=some c.1
 | .pair a b,(x,y),j,c,h=>by
  simp only [Ax]at h;simp only [adr.cty];split at h
  .rename_i hj;rw [AoJ hj];exact Dw a x j h
  .rename_i hj;rw [AoH hj];exact Dw b y _ h
 | .unit,_,_,_,h=>by simp [Ax]at h
 | .int _,_,0,_,h=>by simp only [Ax,AoD]at h;subst h;rfl
 | .bool,_,0,_,h=>by simp only [Ax,AoD]at h;subst h;rfl
 | .er,_,0,_,h=>by simp only [Ax,AoD]at h;subst h;rfl
 | .lp,_,_,_,h=>by simp [Ax]at h
 | .mh,_,0,_,h=>by simp only [Ax,AoD]at h;subst h;rfl
 | .mh,_,_+1,_,h=>by simp [Ax]at h
 | .mp,_,_,_,h=>by simp [Ax]at h
 | .str,_,0,_,h=>by simp only [Ax,AoD]at h;subst h;rfl
 | .pt _,_,0,_,h=>by simp only [Ax,AoD]at h;subst h;rfl
 | .sl _ _ _,_,0,_,h=>by simp only [Ax,AoD]at h;subst h;rfl
 | .int _,_,_+1,_,h=>by simp [Ax]at h
 | .bool,_,_+1,_,h=>by simp [Ax]at h
 | .er,_,_+1,_,h=>by simp [Ax]at h
 | .str,_,_+1,_,h=>by simp [Ax]at h
 | .pt _,_,_+1,_,h=>by simp [Ax]at h
 | .sl _ _ _,_,_+1,_,h=>by simp [Ax]at h
theorem Dl {α β:Type} (o:Option β) (f:β->Tr α):(Tr.get β o f).run=o.bind λb=>(f b).run:=by cases o <;> rfl
theorem run_bind {α β:Type} (t:Tr α) (f:α->Tr β):(t.bind f).run=t.run.bind λx=>(f x).run:=by
 induction t with
 | ret a=>rfl
 | fail=>rfl
 | br c t e ih1 ih2=>simp only [Tr.bind,Tr.run];grind
 | get γ o g ih=>cases o <;> simp [Tr.bind,Tr.run,ih]
 | alt γ δ s g h ih1 ih2=>cases s <;> simp [Tr.bind,Tr.run,ih1,ih2]
 | rdO k g ih=>rfl
 | rdC k off g ih=>rfl
 | rdM k g ih=>rfl
theorem Ys {α:Type} (cs:List α) (off n:Nat) (a v b:List α) (h:(cs.drop off).take n=a++(v++b)) (j:Nat) (hj:j < v.length):cs[off+a.length+j]?=v[j]?:=by
 have h1:((cs.drop off).take n)[a.length+j]?=v[j]?:=by
  rw [h,Apw O,ApH O];simp
 grind
theorem Rp.elem {w:World} {K:Nat->Prop} {e:TypeId} {r:Ty} {xs:List r.D} {h:Value} {F:List Nat} (hp:Rp w K (.sl true e r) xs [h] F) {i j:Nat} {row:r.D} {c:(u:Ty)×u.D}
  (hi:xs[i]?=some row) (hc:Ax r row j=some c) :
  ∃(g off cap:Nat) (cs:Array Value) (fr:Nat×Nat) (v:Value) (F1 Fa G Fb F2:List Nat),h=.slice (some ⟨g,off,none⟩) xs.length cap/\F=g::(F1++((Fa++(G++Fb))++F2))/\w.heap[g]?=some (.cells cs e fr)/\NFt r fr cs.size/\
   off+cap * r.size<=cs.size/\xs.length<=cap/\
   cs[off+(i * r.size+j)]?=some v/\off+(i * r.size+j) < cs.size/\Rp w K c.1 c.2 [v] G/\
   ∀(w':World) (K':Nat->Prop) (y:c.1.D) (v':Value) (G':List Nat) (row':r.D) (cs':Array Value),setCell r row j c.1 y=some row'->Rp w' K' c.1 y [v'] G'->KSame w w' K K'->
    w'.heap[g]?=some (.cells cs' e fr)->cs'=cs.setIfInBounds (off+(i * r.size+j)) v'->Do w w' F1->Do w w' Fa->Do w w' Fb->Do w w' F2->
    Rp w' K' (.sl true e r) (xs.set i row') [h] (g::(F1++((Fa++(G'++Fb))++F2))):=by
 simp only [Rp]at hp;rcases hp with⟨rfl,_⟩ | ⟨g,off,cap,cs,fr,F',hh,rfl,hg,hn,hoff,hlen,hr⟩
 .simp at hi
 obtain ⟨v1,v,v2,F1,G0,F2,hw,hl,rfl,hrow,ht,hd⟩:=RpL.get (λx vs F h=>Rp.len r x h) hr hi;obtain ⟨pre,u,post,Fa,G,Fb,rfl,hpl,rfl,hu,hset⟩:=Rp.cell r row j hrow hc;have hcell:cs[off+(i * r.size+j)]?=some u:=by
  have:=Ys cs.toList off _ v1 (pre++([u]++post)) v2 hw pre.length Z
  grind
 have hlt:off+(i * r.size+j) < cs.size:=(ApS.1 hcell).1;have hil:i < xs.length:=(Apt.1 hi).1;injection hh with hh _
 refine⟨g,off,cap,cs,fr,u,F1,Fa,G,Fb,F2,hh,rfl,hg,hn,hoff,hlen,hcell,hlt,hu,?_⟩;intro w' K' y v' G' row' cs' hs hy hK hg' hcs s1 sa sb s2;subst hcs;simp only [Rp];refine .inr ⟨g,off,cap,_,fr,_,by grind,rfl,hg',by grind,by grind,by grind,?_⟩;have hnew:=RpL.set hi (RpL.frame hK r _ _ _ s1 ht) (RpL.frame hK r _ _ _ s2 hd) (hset w' K' y v' G' row' hs hy hK sa sb);rw [List.length_set];have:((cs.setIfInBounds (off+(i * r.size+j)) v').toList.drop off).take (xs.length * r.size)=v1++((pre++([v']++post))++v2):=by
  rw [Array.toList_setIfInBounds,List.drop_set,AoH O,List.take_set,hw]
  simp_all
 grind
theorem DT {e:TypeId} {r:Ty} {xs:List r.D} {i j:Nat} {ps:AT} {c:(u:Ty)×u.D} (h:(Aw (.sl true e r) xs ((i,j)::ps)).run=some c) :
  ∃row d,xs[i]?=some row/\Ax r row j=some d/\(Aw d.1 d.2 ps).run=some c:=by
 simp only [Aw,Dl,AoG]at h;obtain ⟨row,hrow,h⟩:=h;split at h
 .grind
 .simp [Tr.run]at h
theorem W7 {g:Nat} {F1 Fa G Fb F2:List Nat} (hnd:(g::(F1++((Fa++(G++Fb))++F2))).Nodup):G.Nodup:=by
 grind
theorem Rp.reach {w:World} {K:Nat->Prop}:∀(st:AT) (t:Ty) (x:t.D) {h:Value} {F:List Nat} {c:(u:Ty)×u.D},Rp w K t x [h] F->(Aw t x st).run=some c->
  ∃h' F',hdr w h t st=some h'/\Rp w K c.1 c.2 [h'] F'/\(∀g∈F',g∈F)/\(F.Nodup->F'.Nodup)/\(st≠[]->∃a,adr w h t st=some a/\w.cell? a=some h'/\a.block∈F/\a.spot=none/\w.frozen? a=false)
 | [],t,x,h,F,c,hp,hg=>by
  simp only [Aw,Tr.run,AoD]at hg;subst hg;exact⟨h,F,rfl,hp,λ_ hg=>hg,λh=>h,λhne=>absurd rfl hne⟩
 | (i,j)::ps,t,x,h,F,c,hp,hg=>by
  match t,x,hp,hg with
  | .sl true e r,xs,hp,hg=>
   obtain ⟨row,d,hrow,hd,hrest⟩:=DT hg;obtain ⟨g,off,cap,cs,fr,v,F1,Fa,G,Fb,F2,rfl,rfl,hh,hn,_,_,hcell,hlt,hv,_⟩:=Rp.elem hp hrow hd;have hc?:w.cell? ⟨g,off+(i * r.size+j),none⟩=some v:=by rw [Bf hh];exact hcell
   obtain ⟨h',F',hhd,hp',hsub,hnod,hne⟩:=Rp.reach ps d.1 d.2 hv hrest;refine⟨h',F',?_,hp',?_,λhx=>hnod (W7 hx),?_⟩
   .cases ps with
    | nil=>
     simp only [hdr,AoD]at hhd;subst hhd;simp only [hdr,adr,Be];exact hc?
    | cons p ps=>
     simp only [hdr,adr,Be,hc?,Dw r row j hd]
     grind
   .grind
   .intro _;cases ps with
    | nil=>
     simp only [hdr,AoD]at hhd;subst hhd;exact⟨⟨g,off+(i * r.size+j),none⟩,by simp only [adr,Be],hc?,Z,rfl,DC hh hn.nf hlt⟩
    | cons p ps=>
     obtain ⟨a,ha,h1,h2,h3,h4⟩:=hne Z;refine⟨a,by simp only [adr,Be,hc?,Dw r row j hd];exact ha,h1,?_,h3,h4⟩;simp [*]
  | .sl false _ _,_,_,hg=>simp [Aw,Tr.run]at hg
  | .int _,_,_,hg=>simp [Aw,Tr.run]at hg
  | .bool,_,_,hg=>simp [Aw,Tr.run]at hg
  | .er,_,_,hg=>simp [Aw,Tr.run]at hg
  | .lp,_,_,hg=>simp [Aw,Tr.run]at hg
  | .mh,_,_,hg=>simp [Aw,Tr.run]at hg
  | .mp,_,_,hg=>simp [Aw,Tr.run]at hg
  | .str,_,_,hg=>simp [Aw,Tr.run]at hg
  | .unit,_,_,hg=>simp [Aw,Tr.run]at hg
  | .pair _ _,_,_,hg=>simp [Aw,Tr.run]at hg
theorem V4 {w w':World} {h:Value} {t:Ty} {p:Nat×Nat}:adr w' h t [p]=adr w h t [p]:=by
 cases t with
 | sl o e r=>
  cases h with
  | slice A _ _=>cases A <;> rfl
  | _=>rfl
 | _=>rfl
theorem Rp.put {w:World} {K:Nat->Prop}:∀(st:AT) (t:Ty) (x:t.D) {h:Value} {F:List Nat} {c:(u:Ty)×u.D} {z:c.1.D} {y:t.D},st≠[]->Rp w K t x [h] F->F.Nodup->(Aw t x st).run=some c->(Gc t x st c.1 z).run=some y->
  ∃a h' Fa G Fb,adr w h t st=some a/\w.cell? a=some h'/\a.spot=none/\F=Fa++(G++Fb)/\a.block∈Fa/\Rp w K c.1 c.2 [h'] G/\w.frozen? a=false/\
   ∀(w':World) (K':Nat->Prop) (v':Value) (G':List Nat),Rp w' K' c.1 z [v'] G'->KSame w w' K K'->w'.heap[a.block]?=(w.setCell a v').heap[a.block]?->
    (∀g∈Fa++Fb,g≠a.block->w'.heap[g]?=w.heap[g]?)->Rp w' K' t y [h] (Fa++(G'++Fb))/\∀n,adr w' h t (Cn st n)=adr w h t (Cn st n)
 | [],_,_,_,_,_,_,_,hne,_,_,_,_=>absurd rfl hne
 | (i,j)::ps,t,x,h,F,c,z,y,_,hp,hnd,hg,hs=>by
  match t,x,y,hp,hg,hs with
  | .sl true e r,xs,y,hp,hg,hs=>
   obtain ⟨row,d,hrow,hd,hrest⟩:=DT hg;have hs':∃yy row',(Gc d.1 d.2 ps c.1 z).run=some yy/\setCell r row j d.1 yy=some row'/\y=(xs:List r.D).set i row':=by
    simp only [Gc,Dl,AoG]at hs;obtain ⟨row2,hrow2,hs⟩:=hs;obtain rfl:row=row2:=by grind
    rw [hd]at hs;simp only [run_bind,AoG]at hs;obtain ⟨yy,h1,hs⟩:=hs;split at hs
    .rename_i row' hr;simp only [Tr.run,AoD]at hs;grind
    .simp [Tr.run]at hs
   obtain ⟨yy,row',hsy,hset,rfl⟩:=hs';obtain ⟨g,off,cap,cs,fr,v,F1,Fa,G,Fb,F2,rfl,rfl,hh,hn,hcap,hlen,hcell,hlt,hv,hput⟩:=Rp.elem hp hrow hd;have hc?:w.cell? ⟨g,off+(i * r.size+j),none⟩=some v:=by rw [Bf hh];exact hcell
   cases ps with
   | nil=>
    simp only [Aw,Tr.run,AoD]at hrest;subst hrest;simp only [Gc]at hsy;split at hsy
    .simp only [Tr.run,AoD]at hsy;subst hsy;refine⟨⟨g,off+(i * r.size+j),none⟩,v,g::(F1++Fa),G,Fb++F2,by simp only [adr,Be],hc?,rfl,Z,Z,hv,DC hh hn.nf hlt,?_⟩;intro w' K' v' G' hz hK hblk hrest;have hnd':∀b,b∈F1\/b∈Fa\/b∈Fb\/b∈F2->b≠g:=by
      grind
     have hnew:w'.heap[g]?=some (.cells (cs.setIfInBounds (off+(i * r.size+j)) v') e fr):=by
      rw [hblk];exact Oh hh _ _
     have:=hput w' K' z v' G' row' _ hset hz hK hnew rfl (λb hb=>hrest b (by simp [hb]) (hnd' b (by simp [hb]))) (λb hb=>hrest b (by simp [hb]) (hnd' b (by simp [hb])))
      (λb hb=>hrest b (by simp [hb]) (hnd' b (by simp [hb]))) (λb hb=>hrest b (by simp [hb]) (hnd' b (by simp [hb])))
     exact⟨by grind,λn=>V4⟩
    grind
   | cons p ps=>
    have hndG:G.Nodup:=W7 hnd;obtain ⟨a,h',Ga,G0,Gb,ha,h1,h2,rfl,hain,hG0,h4,hset2⟩:=Rp.put (p::ps) d.1 d.2 Z hv hndG hrest hsy;have hag:a.block≠g:=by
     rintro rfl
     simp_all
    have hout:∀b,b∈F1\/b∈Fa\/b∈Fb\/b∈F2->b≠a.block:=by
     rintro b hb rfl;rw [ApB]at hnd;have hn2:=hnd.2;have hA:∀(X Y:List Nat),(X++Y).Nodup->∀q,q∈X->q∈Y->False:=λX Y hXY q hX hY=>(Apc.1 hXY).2.2 q hX q hY rfl
     grind
    refine⟨a,h',g::(F1++(Fa++Ga)),G0,Gb++(Fb++F2),by simp only [adr,Be,hc?,Dw r row j hd];exact ha,h1,h2,Z,by simp [hain],hG0,h4,?_⟩;intro w' K' v' G' hz hK hblk hrest2;obtain ⟨hinner,hadr⟩:=hset2 w' K' v' G' hz hK hblk (λb hb hne=>hrest2 b (by grind) hne);have hgs:w'.heap[g]?=some (.cells cs e fr):=by grind
    have hsame:cs=cs.setIfInBounds (off+(i * r.size+j)) v:=by
     apply Array.ext_getElem?;intro m;rw [Array.getElem?_setIfInBounds];split
     .grind
     .rfl
    have:=hput w' K' yy v (Ga++(G'++Gb)) row' cs hset hinner hK hgs hsame (λb hb=>hrest2 b (by simp [hb]) (hout b (by simp [hb]))) (λb hb=>hrest2 b (by simp [hb]) (hout b (by simp [hb])))
      (λb hb=>hrest2 b (by simp [hb]) (hout b (by simp [hb]))) (λb hb=>hrest2 b (by simp [hb]) (hout b (by simp [hb])))
    refine⟨by grind,λn=>?_⟩;have hc2:w'.cell? ⟨g,off+(i * r.size+j),none⟩=some v:=by rw [Bf hgs];exact hcell
    have hb:Cn ((i,j)::p::ps) n=(i,j)::Cn (p::ps) n:=rfl;obtain ⟨q',ps',hq⟩:∃q' ps',Cn (p::ps) n=q'::ps':=by
     cases ps with
     | nil=>obtain ⟨x,y⟩:=p;exact⟨_,_,rfl⟩
     | cons q2 ps=>exact⟨_,_,rfl⟩
    have:=hadr n;rw [hb];rw [hq]at this ⊢;simp only [adr,Be,hc?,hc2,Dw r row j hd];exact this
  | .sl false _ _,_,_,_,hg,_=>simp [Aw,Tr.run]at hg
  | .int _,_,_,_,hg,_=>simp [Aw,Tr.run]at hg
  | .bool,_,_,_,hg,_=>simp [Aw,Tr.run]at hg
  | .er,_,_,_,hg,_=>simp [Aw,Tr.run]at hg
  | .lp,_,_,_,hg,_=>simp [Aw,Tr.run]at hg
  | .mh,_,_,_,hg,_=>simp [Aw,Tr.run]at hg
  | .mp,_,_,_,hg,_=>simp [Aw,Tr.run]at hg
  | .str,_,_,_,hg,_=>simp [Aw,Tr.run]at hg
  | .unit,_,_,_,hg,_=>simp [Aw,Tr.run]at hg
  | .pair _ _,_,_,_,hg,_=>simp [Aw,Tr.run]at hg
end Go.V
namespace Go.V
def glo:Nat->Prop:=λ_=>False
def GlF:World->Prop:=λ_=>True
theorem Z6 {w:World} (_:GlF w) {g:Nat} (hg:glo g):g < w.heap.size:=hg.elim
theorem X3 {w w':World} (_:GlF w) (_:∀g,glo g->w'.heap[g]?=w.heap[g]?):GlF w':=trivial
theorem AaF (w:World):GlF w:=trivial
end Go.V
namespace Go.V
open Go.RowKit
structure Base where
 w0:World
 Ro:Nat->Prop
 O0:Nat->Prop
 n1:Nat
 ms:List (Nat×Nat)
 fx:List (Nat×Value)
 gl:GlF w0/\∀g,glo g->Ro g/\¬ O0 g
structure Cc where
 mb:Nat->Nat
 mo:Nat->Nat
 hv:Nat->Value
 F:Nat->List Nat
def A5 (S:St) (c:Cc) (g:Nat):Prop:=(∃k,S.ms k≠none/\c.mb k=g)\/(∃k,S.ow k≠none/\g∈c.F k)
def Kok (b:Base) (S:St) (c:Cc) (g:Nat):Prop:=(b.Ro g\/b.w0.heap.size<=g\/b.O0 g)/\¬ A5 S c g
def SM (size len:Nat) (win:Option (Nat×Nat)) (h v:Value):Prop:=
 match win with
 | none=>v=h
 | some (lo,m)=>∃A n cap A' cap' q,h=.slice A n cap/\v=.slice A' (min m (len - lo)) cap'/\min m (len - lo)<=cap'/\q+cap'<=cap/\(0 < min m (len - lo)->q=lo)/\
  (A=none->A'=none/\cap'=0)/\∀a,A=some a->A'=some (a.add (q * size))
def Wh (S:St) (c:Cc) (p:Nat×Nat) (v:Value):Prop:=∃n,S.ms p.1=some n/\v=.pointer (some ⟨c.mb p.1,c.mo p.1+p.2,none⟩)
def LeafOk (S:St) (c:Cc) (w:World) (K:Nat->Prop):Leaf->Value->Prop
 | .v t x,v=>Rp w K t x [v] []
 | .vw k st win,v=>∃(o:Own) (e:TypeId) (r:Ty) (ys:List r.D) (h:Value),S.ow k=some o/\(Aw (.sl true o.e o.r) o.xs st).run=some ⟨.sl true e r,ys⟩/\
  hdr w (c.hv k) (.sl true o.e o.r) st=some h/\SM r.size ys.length win h v
 | .qn e,v=>∃q:Bool,v=.bool q/\(q=true->e=true)
 | .nil,v=>v=.slice none 0 0
 | .p k off,v=>Wh S c (k,off) v
 | .mh k,v=>S.ms k=some 0/\v=.map (some (c.mb k))
 | .md _,_=>False
 | .np,v=>v=.pointer none
 | .no,_=>True
inductive All2 {α β:Type} (p:α->β->Prop):List α->List β->Prop
 | nil:All2 p [] []
 | cons {a b as bs}:p a b->All2 p as bs->All2 p (a::as) (b::bs)
def S1Ok (S:St) (c:Cc) (w:World) (K:Nat->Prop):S1->Value->Prop
 | .one l,v=>LeafOk S c w K l v
 | .ag ls,v=>∃vs:List Value,v=.agg vs.toArray/\All2 (LeafOk S c w K) ls vs
 | .pl k off,v=>∃n,S.ms k=some n/\v=.pointer (some ⟨c.mb k,c.mo k+off,none⟩)
 | .el k st,v=>∃(o:Own) (a:Addr),S.ow k=some o/\adr w (c.hv k) (.sl true o.e o.r) st=some a/\v=.pointer (some a)/\
  ∃(pre:AT) (p:Nat×Nat) (d:(u:Ty)×u.D),st=pre++[p]/\(Aw (.sl true o.e o.r) o.xs pre).run=some d
 | .rp t x off,v=>∃(a:Addr) (vs:List Value),v=.pointer (some (a.add off))/\Rp w K t x vs []/\K a.block/\a.block < w.heap.size/\∀j,j < vs.length->w.cell? (a.add j)=vs[j]?
 | .fv f cs,v=>∃vs:List Value,v=.func (.func f) #[] vs.toArray/\All2 (Wh S c) cs vs
def AX (S:St) (c:Cc) (w:World) (K:Nat->Prop):SV->Value->Prop
 | .s x,v=>S1Ok S c w K x v
 | .tu xs,v=>∃vs:List Value,v=.tuple vs.toArray/\All2 (S1Ok S c w K) xs vs
 | .un,v=>v=undef
 | .no,_=>True
def AlY (w0:World) (g o n:Nat) (cs:Array Value) (e:TypeId) (fr:Nat×Nat):Prop:=
 ∀cs0 e0 fr0,w0.heap[g]?=some (.cells cs0 e0 fr0)->e0=e/\fr0=fr/\cs0.size=cs.size/\∀i,(i < o\/o+n<=i)->cs[i]?=cs0[i]?
def MapAt (w:World) (g:Nat) (xs:List (Int×Int)):Prop:=
 ∃es:Array MapEntry,w.heap[g]?=some (.map es es.size)/\es.size=xs.length/\∀i p,xs[i]?=some p->es[i]?=some ({ key:=.int .i64 p.1,val:=.int .i64 p.2,born:=i }:MapEntry)
theorem MapAt.same {w w':World} {g:Nat} {xs:List (Int×Int)} (h:MapAt w g xs) (hg:w'.heap[g]?=w.heap[g]?):MapAt w' g xs:=by
 obtain ⟨es,h1,h2⟩:=h;exact⟨es,by grind,h2⟩
structure Inv (b:Base) (S:St) (w:World) (c:Cc):Prop where
 ms:∀k n,S.ms k=some n->0 < n->∃cs e fr,w.heap[c.mb k]?=some (.cells cs e fr)/\c.mo k+n<=cs.size/\NF fr cs.size/\(∀i v,i < n->cs[c.mo k+i]?=some v->LeafOk S c w (Kok b S c) (S.mc k i) v)/\AlY b.w0 (c.mb k) (c.mo k) n cs e fr
 ow:∀k o,S.ow k=some o->Rp w (Kok b S c) (.sl true o.e o.r) o.xs [c.hv k] (c.F k)
 nd:∀k,S.ow k≠none->(c.F k).Nodup
 oo:∀k k',k≠k'->S.ow k≠none->S.ow k'≠none->∀g,g∈c.F k->g∉c.F k'
 mm:∀k k',k≠k'->S.ms k≠none->S.ms k'≠none->c.mb k≠c.mb k'
 mo:∀k k',S.ms k≠none->S.ow k'≠none->c.mb k∉c.F k'
 fr:∀g,A5 S c g->g < w.heap.size/\(b.w0.heap.size<=g\/b.O0 g)
 fix:∀g,g < b.w0.heap.size->¬ b.O0 g->w.heap[g]?=b.w0.heap[g]?
 os:w.os=b.w0.os
 tape:w.tape=b.w0.tape
 output:w.output=b.w0.output
 size:b.w0.heap.size<=w.heap.size
 an:∀m g,b.ms[m]?=some g->c.mb (b.n1+m)=g.1/\c.mo (b.n1+m)=g.2
 mp:∀k,S.ms k=some 0->∃xs,S.mc k 0=.md xs/\MapAt w (c.mb k) xs
theorem Aad {b:Base} {S:St} {w:World} {c:Cc} (hi:Inv b S w c):GlF w/\∀g,glo g->Kok b S c g:=by
 have hb:=b.gl;have hlt:∀g,glo g->g < b.w0.heap.size:=λg hg=>Z6 hb.1 hg
 refine⟨X3 hb.1 λg hg=>hi.fix g (hlt g hg) (hb.2 g hg).2,λg hg=>⟨.inl (hb.2 g hg).1,λho=>?_⟩⟩
 assumption
structure Slots (N:Nat) (S:St) (c:Cc) (w:World) (K:Nat->Prop) (a:Act):Prop where
 ok:∀i,AX S c w K (S.sl i) (a.tmps.getD i undef)
 n:a.tmps.size=N
 d:a.defers=[]
def Sim (b:Base) (N:Nat) (S:St) (a:Act) (w:World):Prop:=∃c,Inv b S w c/\Slots N S c w (Kok b S c) a/\∀p,p∈b.fx->a.tmps.getD p.1 undef=p.2
theorem Agh {b:Base} {a:Act} (h:∀p,p∈b.fx->a.tmps.getD p.1 undef=p.2) {d:Option Nat} {v:Value} (hd:∀k,d=some k->∀p,p∈b.fx->p.1≠k):∀p,p∈b.fx->(a.put d v).tmps.getD p.1 undef=p.2:=by
 intro p hp;cases d with
 | none=>exact h p hp
 | some k=>
  have hne:=hd k rfl p hp;have:(a.put (some k) v).tmps.getD p.1 undef=a.tmps.getD p.1 undef:=by
   simp [Act.put,Ap6 (Ne.symm hne)]
  grind
section
variable {α β γ:Type} {p:α->β->Prop}
theorem All2.mono {q:α->β->Prop} {as bs} (h:∀a b,p a b->q a b) (hx:All2 p as bs):All2 q as bs:=by
 induction hx with
 | nil=>exact .nil
 | cons h1 _ ih=>exact .cons (h _ _ h1) ih
theorem All2.map {f:α->γ} {q:γ->β->Prop} {as bs} (h:∀a b,p a b->q (f a) b) (hx:All2 p as bs):All2 q (as.map f) bs:=by
 induction hx with
 | nil=>exact .nil
 | cons h1 _ ih=>exact .cons (h _ _ h1) ih
theorem All2.len {as bs} (hx:All2 p as bs):as.length=bs.length:=by
 induction hx with
 | nil=>rfl
 | cons _ _ ih=>simp [ih]
theorem All2.get {as bs} (hx:All2 p as bs):∀{i:Nat} {a},as[i]?=some a->∃b,bs[i]?=some b/\p a b:=by
 induction hx with
 | nil=>simp
 | cons h1 _ ih=>
  grind
theorem All2.append {as bs as' bs'} (hx:All2 p as bs) (hy:All2 p as' bs'):All2 p (as++as') (bs++bs'):=by
 induction hx with
 | nil=>exact hy
 | cons h1 _ ih=>exact .cons h1 ih
theorem All2.take {as bs} (hx:All2 p as bs):∀n,All2 p (as.take n) (bs.take n):=by
 induction hx with
 | nil=>intro n;simp;exact .nil
 | cons h1 _ ih=>
  intro n;cases n with
  | zero=>exact .nil
  | succ n=>exact .cons h1 (ih n)
theorem All2.drop {as bs} (hx:All2 p as bs):∀n,All2 p (as.drop n) (bs.drop n):=by
 induction hx with
 | nil=>intro n;simp;exact .nil
 | cons h1 h2 ih=>
  intro n;cases n with
  | zero=>exact .cons h1 h2
  | succ n=>exact ih n
theorem All2.set {as bs} (hx:All2 p as bs):∀(n:Nat) {a b},p a b->All2 p (as.set n a) (bs.set n b):=by
 induction hx with
 | nil=>intro n _ _ _;exact .nil
 | cons h1 h2 ih=>
  intro n _ _ h;cases n with
  | zero=>exact .cons h h2
  | succ n=>exact .cons h1 (ih n h)
end
structure Step (w w':World) (T:Nat->Prop):Prop where
 os:w'.os=w.os
 tape:w'.tape=w.tape
 output:w'.output=w.output
 size:w.heap.size<=w'.heap.size
 same:∀g,g < w.heap.size->¬ T g->w'.heap[g]?=w.heap[g]?
theorem Step.refl (w:World) (T:Nat->Prop):Step w w T:=⟨rfl,rfl,rfl,Ao4 _,λ_ _ _=>rfl⟩
theorem Step.mono {w w':World} {T T':Nat->Prop} (h:Step w w' T) (ht:∀g,T g->T' g):Step w w' T':=⟨h.os,h.tape,h.output,h.size,λg hg hn=>h.same g hg λx=>hn (ht g x)⟩
theorem Step.trans {w w1 w2:World} {T:Nat->Prop} (h:Step w w1 T) (k:Step w1 w2 T):Step w w2 T:=
 ⟨k.os.trans h.os,k.tape.trans h.tape,k.output.trans h.output,Ao2 h.size k.size,λg hg hn=>(k.same g (ApD hg h.size) hn).trans (h.same g hg hn)⟩
theorem Aaj {w w':World} {K:Nat->Prop}:∀(st:AT) (t:Ty) (x:t.D) {h:Value} {F:List Nat} {c:(u:Ty)×u.D},Rp w K t x [h] F->Do w w' F->(Aw t x st).run=some c->adr w' h t st=adr w h t st
 | [],t,x,h,F,c,_,_,_=>by cases t <;> rfl
 | (i,j)::ps,t,x,h,F,c,hp,hs,hg=>by
  match t,x,hp,hg with
  | .sl true e r,xs,hp,hg=>
   obtain ⟨row,d,hrow,hd,hrest⟩:=DT hg;obtain ⟨g,off,cap,cs,fr,v,F1,Fa,G,Fb,F2,rfl,rfl,hh,hn,_,_,hcell,hlt,hv,_⟩:=Rp.elem hp hrow hd;have hh':w'.heap[g]?=some (.cells cs e fr):=by rw [hs g Z];exact hh
   have h1:w.cell? ⟨g,off+(i * r.size+j),none⟩=some v:=by rw [Bf hh];exact hcell
   have h2:w'.cell? ⟨g,off+(i * r.size+j),none⟩=some v:=by rw [Bf hh'];exact hcell
   cases ps with
   | nil=>rfl
   | cons p ps=>
    simp only [adr,Be,h1,h2,Dw r row j hd];exact Aaj (p::ps) d.1 d.2 hv (λg hg=>hs g (by simp [hg])) hrest
  | .sl false _ _,_,_,hg=>simp [Aw,Tr.run]at hg
  | .int _,_,_,hg=>rfl
  | .bool,_,_,hg=>rfl
  | .er,_,_,hg=>rfl
  | .lp,_,_,hg=>rfl
  | .mh,_,_,hg=>rfl
  | .mp,_,_,hg=>rfl
  | .str,_,_,hg=>rfl
  | .pt _,_,_,hg=>rfl
  | .unit,_,_,hg=>rfl
  | .pair _ _,_,_,hg=>rfl
theorem AiS {w w':World} {K:Nat->Prop} {st:AT} {t:Ty} {x:t.D} {h:Value} {F:List Nat} {c:(u:Ty)×u.D} (hp:Rp w K t x [h] F) (hs:Do w w' F) (hg:(Aw t x st).run=some c):hdr w' h t st=hdr w h t st:=by
 cases st with
 | nil=>rfl
 | cons p ps=>
  obtain ⟨h',F',_,_,_,_,hne⟩:=Rp.reach (p::ps) t x hp hg;obtain ⟨a,ha,hc,hb,_,_⟩:=hne Z;simp only [hdr,Aaj (p::ps) t x hp hs hg,ha];exact N6 (hs _ hb)
theorem X1 {w w':World} {K:Nat->Prop}:∀(st:AT) (t:Ty) (x:t.D) {h:Value} {F:List Nat} {c:(u:Ty)×u.D} (p:Nat×Nat),Rp w K t x [h] F->Do w w' F->(Aw t x st).run=some c->adr w' h t (st++[p])=adr w h t (st++[p])
 | [],t,x,h,F,c,p,_,_,_=>V4
 | (i,j)::ps,t,x,h,F,c,p,hp,hs,hg=>by
  match t,x,hp,hg with
  | .sl true e r,xs,hp,hg=>
   obtain ⟨row,d,hrow,hd,hrest⟩:=DT hg;obtain ⟨g,off,cap,cs,fr,v,F1,Fa,G,Fb,F2,rfl,rfl,hh,hn,_,_,hcell,hlt,hv,_⟩:=Rp.elem hp hrow hd;have hh':w'.heap[g]?=some (.cells cs e fr):=by rw [hs g Z];exact hh
   have h1:w.cell? ⟨g,off+(i * r.size+j),none⟩=some v:=by rw [Bf hh];exact hcell
   have h2:w'.cell? ⟨g,off+(i * r.size+j),none⟩=some v:=by rw [Bf hh'];exact hcell
   have ih:=X1 ps d.1 d.2 p hv (λg hg=>hs g (by simp [hg])) hrest;cases ps with
   | nil=>
    simp only [Ao6]at ih;simp only [Apj,Ao6,adr,Be,h1,h2,Dw r row j hd];exact ih
   | cons q ps=>
    simp only [Apj]at ih;simp only [Apj,adr,Be,h1,h2,Dw r row j hd];exact ih
  | .sl false _ _,_,_,hg=>simp [Aw,Tr.run]at hg
  | .int _,_,_,hg=>rfl
  | .bool,_,_,hg=>rfl
  | .er,_,_,hg=>rfl
  | .lp,_,_,hg=>rfl
  | .mh,_,_,hg=>rfl
  | .mp,_,_,hg=>rfl
  | .str,_,_,hg=>rfl
  | .pt _,_,_,hg=>rfl
  | .unit,_,_,hg=>rfl
  | .pair _ _,_,_,hg=>rfl
theorem N7:∀(pre:AT) (i j n:Nat),Cn (pre++[(i,j)]) n=pre++[(i,j+n)]
 | [],_,_,_=>rfl
 | [p],i,j,n=>rfl
 | p::q::ps,i,j,n=>by
  show p::Cn (q::ps++[(i,j)]) n=_;rw [N7 (q::ps) i j n];rfl
theorem Aac {w:World}:∀(st:AT) {h:Value} {t:Ty} {e:TypeId} {r:Ty} {o:Bool} {a:Addr} {n cap:Nat} {x:t.D} {ys:List r.D} {K:Nat->Prop} {F:List Nat} (i:Nat),Rp w K t x [h] F->(Aw t x st).run=some ⟨.sl o e r,ys⟩->hdr w h t st=some (.slice (some a) n cap)->
  adr w h t (st++[(i,0)])=some (a.add (i * r.size))
 | [],h,t,e,r,o,a,n,cap,x,ys,K,F,i,hp,hg,hh=>by
  simp only [hdr,AoD]at hh;subst hh;simp only [Aw,Tr.run,AoD]at hg;injection hg with hg _
  subst hg;rfl
 | (i0,j)::ps,h,t,e,r,o,a,n,cap,x,ys,K,F,i,hp,hg,hh=>by
  match t,x,hp,hg,hh with
  | .sl true e0 r0,xs,hp,hg,hh=>
   obtain ⟨row,d,hrow,hd,hrest⟩:=DT hg;obtain ⟨g,off,cap',cs,fr,v,F1,Fa,G,Fb,F2,rfl,rfl,hb,hn,_,_,hcell,hlt,hv,_⟩:=Rp.elem hp hrow hd;have h1:w.cell? ⟨g,off+(i0 * r0.size+j),none⟩=some v:=by rw [Bf hb];exact hcell
   have hh':hdr w v d.1 ps=some (.slice (some a) n cap):=by
    cases ps with
    | nil=>simp only [hdr,adr,Be,h1,AoD]at hh;simp only [hdr,hh]
    | cons p ps=>simp only [hdr,adr,Be,h1,Dw r0 row j hd]at hh;assumption
   have ih:=Aac ps i hv hrest hh';cases ps with
   | nil=>
    simp only [Ao6]at ih;simp only [Apj,Ao6,adr,Be,h1,Dw r0 row j hd];exact ih
   | cons q ps=>
    simp only [Apj]at ih;simp only [Apj,adr,Be,h1,Dw r0 row j hd];exact ih
  | .sl false _ _,_,_,hg,_=>simp [Aw,Tr.run]at hg
  | .int _,_,_,hg,_=>simp [Aw,Tr.run]at hg
  | .bool,_,_,hg,_=>simp [Aw,Tr.run]at hg
  | .er,_,_,hg,_=>simp [Aw,Tr.run]at hg
  | .lp,_,_,hg,_=>simp [Aw,Tr.run]at hg
  | .mh,_,_,hg,_=>simp [Aw,Tr.run]at hg
  | .mp,_,_,hg,_=>simp [Aw,Tr.run]at hg
  | .str,_,_,hg,_=>simp [Aw,Tr.run]at hg
  | .pt _,_,_,hg,_=>simp [Aw,Tr.run]at hg
  | .unit,_,_,hg,_=>simp [Aw,Tr.run]at hg
  | .pair _ _,_,_,hg,_=>simp [Aw,Tr.run]at hg
theorem PG {w:World}:∀(st:AT) {h:Value} {t:Ty} {a:Addr} (n:Nat),adr w h t st=some a->adr w h t (Cn st n)=some (a.add n)
 | [],h,t,a,n,ha=>by cases t <;> simp [adr]at ha
 | [(i,j)],h,t,a,n,ha=>by
  cases t with
  | sl o e r=>
   cases h with
   | slice A m cp=>
    cases A with
    | none=>simp [adr]at ha
    | some A=>
     simp only [adr,AoD]at ha;subst ha;simp only [Cn,adr,add_add,AoD]
     grind
   | _=>simp [adr]at ha
  | _=>simp [adr]at ha
 | (i,j)::q::ps,h,t,a,n,ha=>by
  cases t with
  | sl o e r=>
   cases h with
   | slice A m cp=>
    cases A with
    | none=>simp [adr]at ha
    | some A=>
     have hb:Cn ((i,j)::q::ps) n=(i,j)::Cn (q::ps) n:=rfl;have hq:∃q' ps',Cn (q::ps) n=q'::ps':=by
      cases ps with
      | nil=>obtain ⟨x,y⟩:=q;exact⟨_,_,rfl⟩
      | cons q2 ps=>exact⟨_,_,rfl⟩
     obtain ⟨q',ps',hq⟩:=hq;rw [hb,hq];simp only [adr]at ha ⊢;split at ha
     .rename_i h' t' h1 h2;have:=PG (q::ps) n ha
      grind
     .cases ha
   | _=>simp [adr]at ha
  | _=>simp [adr]at ha
structure Stay (S S':St) (c c':Cc) (w w':World) (K K':Nat->Prop) (ks:List Kl):Prop where
 vw:∀k st win v,ks.all (λx=>x.okV k st)=true->LeafOk S c w K (.vw k st win) v->LeafOk S' c' w' K' (.vw k st win) v
 el:∀k st v,ks.all (λx=>x.okE k st)=true->S1Ok S c w K (.el k st) v->S1Ok S' c' w' K' (.el k st) v
 pl:∀k off v,ks.all (λx=>x.okM k)=true->S1Ok S c w K (.pl k off) v->S1Ok S' c' w' K' (.pl k off) v
 mh:∀k v,ks.all (λx=>x.okM k)=true->LeafOk S c w K (.mh k) v->LeafOk S' c' w' K' (.mh k) v
 kk:KSame w w' K K'
section
variable {S S':St} {c c':Cc} {w w':World} {K K':Nat->Prop} {ks:List Kl}
theorem Stay.leaf (h:Stay S S' c c' w w' K K' ks) {l:Leaf} {v:Value} (hl:LeafOk S c w K l v):LeafOk S' c' w' K' (l.kp ks) v:=by
 cases l with
 | v t x=>exact Rp.frame h.kk t x hl λg hg=>by cases hg
 | vw k st win=>
  simp only [Leaf.kp];split
  .rename_i hk;exact h.vw k st win v hk hl
  .trivial
 | qn e=>exact hl
 | nil=>exact hl
 | p k off=>
  simp only [Leaf.kp];split
  .rename_i hk;exact h.pl k off v hk hl
  .trivial
 | np=>exact hl
 | mh k=>
  simp only [Leaf.kp];split
  .rename_i hk;exact h.mh k v hk hl
  .trivial
 | md xs=>exact hl
 | no=>trivial
theorem Stay.s1 (h:Stay S S' c c' w w' K K' ks) {x:S1} {v:Value} (hx:S1Ok S c w K x v):S1Ok S' c' w' K' (x.kp ks) v:=by
 cases x with
 | one l=>exact h.leaf hx
 | ag ls=>
  obtain ⟨vs,e,hv⟩:=hx;exact⟨vs,e,hv.map λ_ _=>h.leaf⟩
 | pl k off=>
  simp only [S1.kp];split
  .rename_i hk;exact h.pl k off v hk hx
  .trivial
 | el k st=>
  simp only [S1.kp];split
  .rename_i hk;exact h.el k st v hk hx
  .trivial
 | rp t x off=>
  obtain ⟨a,vs,e,hr,hk,hs,hc⟩:=hx;obtain ⟨h1,h2⟩:=h.kk.2 _ hk hs;exact⟨a,vs,e,Rp.frame h.kk t x hr (λg hg=>by cases hg),h2,ApD hs h.kk.1,
   λj hj=>(N6 (w:=w) (w':=w') (a:=a.add j) (by rw [DG];exact h1)).trans (hc j hj)⟩
 | fv f cs=>
  simp only [S1.kp];split
  .rename_i hk;obtain ⟨vs,e,hv⟩:=hx;refine⟨vs,e,?_⟩;clear e
   induction hv with
   | nil=>exact .nil
   | cons h1 _ ih=>
    refine .cons ?_ (ih ?_)
    .exact h.pl _ _ _ (Apb.2 λx hx=>by grind) h1
    grind
  .trivial
theorem Stay.sv (h:Stay S S' c c' w w' K K' ks) {x:SV} {v:Value} (hx:AX S c w K x v):AX S' c' w' K' (x.kp ks) v:=by
 cases x with
 | s x=>exact h.s1 hx
 | tu xs=>
  obtain ⟨vs,e,hv⟩:=hx;exact⟨vs,e,hv.map λ_ _=>h.s1⟩
 | un=>exact hx
 | no=>trivial
theorem Stay.slots {N:Nat} {a:Act} (h:Stay S S' c c' w w' K K' ks) (hs:Slots N S c w K a) (hsl:∀i,S'.sl i=(S.sl i).kp ks) (d:Option Nat) (x:SV) (v:Value) (hd:∀k,d=some k->k < N)
  (hx:AX S' c' w' K' x v) (hrest:∀l v,LeafOk (S'.putO d x) c' w' K' l v↔LeafOk S' c' w' K' l v) (hrest1:∀l v,S1Ok (S'.putO d x) c' w' K' l v↔S1Ok S' c' w' K' l v) :
  Slots N (S'.putO d x) c' w' K' (a.put d v):=by
 cases d with
 | none=>
  refine⟨λi=>?_,hs.n,hs.d⟩;show AX S' c' w' K' (S'.sl i) _;rw [hsl];exact h.sv (hs.ok i)
 | some d=>
  refine⟨λi=>?_,by simp [Act.put,hs.n],hs.d⟩;show AX S' c' w' K' (if i=d then x else S'.sl i) _;split
  .rename_i e;subst e;have:(a.put (some i) v).tmps.getD i undef=v:=by
    have:=hd i rfl;simp [Act.put,hs.n,this]
   grind
  .rename_i e;have:(a.put (some d) v).tmps.getD i undef=a.tmps.getD i undef:=by
    simp [Act.put,Ap6 (Ne.symm e)]
   rw [this,hsl];exact h.sv (hs.ok i)
end
theorem Hs {S S':St} {c:Cc} {w:World} {K:Nat->Prop} (ho:S'.ow=S.ow) (hm:S'.ms=S.ms) (l:Leaf) (v:Value):LeafOk S' c w K l v↔LeafOk S c w K l v:=by
 cases l <;> simp only [LeafOk,Wh,ho,hm]
theorem Ac1 {S S':St} {c:Cc} {w:World} {K:Nat->Prop} (ho:S'.ow=S.ow) (hm:S'.ms=S.ms) (x:S1) (v:Value):S1Ok S' c w K x v↔S1Ok S c w K x v:=by
 cases x with
 | one l=>exact Hs ho hm l v
 | ag ls=>
  constructor
  .rintro ⟨vs,e,hv⟩;exact⟨vs,e,hv.mono λl v=>(Hs ho hm l v).1⟩
  .rintro ⟨vs,e,hv⟩;exact⟨vs,e,hv.mono λl v=>(Hs ho hm l v).2⟩
 | pl k off=>simp only [S1Ok,hm]
 | el k st=>simp only [S1Ok,ho]
 | rp t x off=>exact Iff.rfl
 | fv f cs=>
  constructor
  .rintro ⟨vs,e,hv⟩;exact⟨vs,e,hv.mono λp v ⟨n,h,h'⟩=>⟨n,by grind,h'⟩⟩
  .rintro ⟨vs,e,hv⟩;exact⟨vs,e,hv.mono λp v ⟨n,h,h'⟩=>⟨n,by grind,h'⟩⟩
theorem Ge {S S':St} {c:Cc} (ho:S'.ow=S.ow) (hm:S'.ms=S.ms) (g:Nat):A5 S' c g↔A5 S c g:=by
 simp only [A5,ho,hm]
theorem EZ {b:Base} {S S':St} {c:Cc} (ho:S'.ow=S.ow) (hm:S'.ms=S.ms):Kok b S' c=Kok b S c:=by
 funext g;simp only [Kok,Ge ho hm]
theorem Sa (S:St) (d:Option Nat) (x:SV):(S.putO d x).ow=S.ow:=by cases d <;> rfl
theorem Se (S:St) (d:Option Nat) (x:SV):(S.putO d x).ms=S.ms:=by cases d <;> rfl
theorem AjG (S:St) (d:Option Nat) (x:SV):(S.putO d x).mc=S.mc:=by cases d <;> rfl
theorem Leaf.kp_nil (l:Leaf):l.kp []=l:=by cases l <;> simp [Leaf.kp]
theorem S1.kp_nil (x:S1):x.kp []=x:=by
 cases x with
 | one l=>simp [S1.kp,Leaf.kp_nil]
 | ag ls=>simp only [S1.kp];congr 1;exact(Aps λl _=>Leaf.kp_nil l).trans (List.map_id ls)
 | _=>simp [S1.kp]
theorem SV.kp_nil (x:SV):x.kp []=x:=by
 cases x with
 | s x=>simp [SV.kp,S1.kp_nil]
 | tu xs=>simp only [SV.kp];congr 1;exact(Aps λx _=>S1.kp_nil x).trans (List.map_id xs)
 | un=>rfl
 | no=>rfl
theorem PO (S:St) (ks:List Kl) (i:Nat):(S.kp ks).sl i=(S.sl i).kp ks:=by
 cases ks with
 | nil=>exact(SV.kp_nil _).symm
 | cons k ks=>rfl
theorem E8 (S:St) (ks:List Kl) (k i:Nat):(S.kp ks).mc k i=(S.mc k i).kp ks:=by
 cases ks with
 | nil=>exact(Leaf.kp_nil _).symm
 | cons k ks=>rfl
theorem Gr (S:St) (ks:List Kl):(S.kp ks).ow=S.ow:=by cases ks <;> rfl
theorem GX (S:St) (ks:List Kl):(S.kp ks).ms=S.ms:=by cases ks <;> rfl
theorem Agl (us:List U):∀S:St,(S.ups us).sl=S.sl:=by
 induction us with
 | nil=>intro S;rfl
 | cons u us ih=>intro S;rw [St.ups,ih];cases u <;> rfl
theorem Inv.put {b:Base} {S S':St} {w:World} {c:Cc} (ho:S'.ow=S.ow) (hm:S'.ms=S.ms) (hc:S'.mc=S.mc) (h:Inv b S w c):Inv b S' w c:=by
 have hk:Kok b S' c=Kok b S c:=EZ ho hm;refine⟨?_,?_,?_,?_,?_,?_,?_,h.fix,h.os,h.tape,h.output,h.size,h.an,λk hk=>by rw [hm]at hk;rw [hc];exact h.mp k hk⟩
 .intro k n hn h0;rw [hm]at hn;obtain ⟨cs,e,fr,h1,h2,h3,h4,h5⟩:=h.ms k n hn h0;exact⟨cs,e,fr,h1,h2,h3,λi v hlt hv=>by rw [hk,hc];exact(Hs ho hm _ _).2 (h4 i v hlt hv),h5⟩
 .intro k o hk';rw [hk];rw [ho]at hk';exact h.ow k o hk'
 .intro k hk';rw [ho]at hk';exact h.nd k hk'
 .intro k k' hne h1 h2;rw [ho]at h1 h2;exact h.oo k k' hne h1 h2
 .intro k k' hne h1 h2;rw [hm]at h1 h2;exact h.mm k k' hne h1 h2
 .intro k k' h1 h2;rw [hm]at h1;rw [ho]at h2;exact h.mo k k' h1 h2
 .intro g hg;exact h.fr g ((Ge ho hm g).1 hg)
theorem St.ext' {S S':St} (h1:∀i,S.sl i=S'.sl i) (h2:∀k,S.ms k=S'.ms k) (h3:∀k i,S.mc k i=S'.mc k i) (h4:∀k,S.ow k=S'.ow k):S=S':=by
 obtain ⟨a,b,c,d⟩:=S;obtain ⟨a',b',c',d'⟩:=S';simp only at h1 h2 h3 h4;rw [funext h1,funext h2,funext h4,show c=c' from funext λk=>funext λi=>h3 k i]
end Go.V
namespace Go.V
open Go.RowKit
theorem O2 {ks:List Kl} {p:Kl->Bool} (h:ks.all p=true) {k:Kl} (hk:k∈ks):p k=true:=Apb.1 h k hk
theorem Stay.of {b:Base} {S S':St} {c c':Cc} {w w':World} {K':Nat->Prop} {ks:List Kl} (hi:Inv b S w c)
  (h1:∀k o,S.ow k=some o->.all k∈ks\/(S'.ow k=some o/\c'.hv k=c.hv k/\Do w w' (c.F k))\/
   (.deep k∈ks/\c'.hv k=c.hv k/\∃xs',S'.ow k=some ⟨o.e,o.r,xs'⟩/\xs'.length=o.xs.length))
  (h2:∀k n,S.ms k=some n->.m k∈ks\/(S'.ms k=some n/\c'.mb k=c.mb k/\c'.mo k=c.mo k))
  (kk:KSame w w' (Kok b S c) K'):Stay S S' c c' w w' (Kok b S c) K' ks:=by
 refine⟨?_,?_,?_,?_,kk⟩
 .rintro k st win v hk ⟨o,e,r,ys,h,ho,hg,hh,hw⟩;rcases h1 k o ho with hx | ⟨h3,h4,h5⟩ | ⟨hx,h4,xs',h5,h6⟩
  .have:=O2 hk hx;simp [Kl.okV]at this
  .exact⟨o,e,r,ys,h,h3,hg,by rw [h4,AiS (hi.ow k o ho) h5 hg];exact hh,hw⟩
  .have:=O2 hk hx;simp only [Kl.okV,beq_self_eq_true,Apv,ApR,List.isEmpty_iff]at this;subst this;simp only [Aw,Tr.run,AoD]at hg;injection hg with ha hb
   injection ha with _ he hr
   obtain ⟨oe,or,oxs⟩:=o;simp only at he hr h5 h6 hb;subst he hr;obtain rfl:=eq_of_heq hb;exact⟨_,oe,or,xs',h,h5,rfl,by rw [h4];exact hh,by grind⟩
 .rintro k st v hk ⟨o,a,ho,ha,rfl,pre,p,d,rfl,hd⟩;rcases h1 k o ho with hx | ⟨h3,h4,h5⟩ | ⟨hx,h4,xs',h5,h6⟩
  .have:=O2 hk hx;simp [Kl.okE]at this
  .exact⟨o,a,h3,by rw [h4,X1 pre _ _ p (hi.ow k o ho) h5 hd];exact ha,rfl,pre,p,d,rfl,hd⟩
  .have:=O2 hk hx;simp only [Kl.okE,beq_self_eq_true,Apv,ApR,decide_eq_true_eq,AoM,AoV,Apd]at this;obtain rfl:pre=[]:=Ao1 O;exact⟨_,a,h5,by rw [h4];rw [Ao6]at ha ⊢;rw [V4 (w:=w)];exact ha,rfl,[],p,_,rfl,rfl⟩
 .rintro k off v hk ⟨n,hn,rfl⟩;rcases h2 k n hn with hx | ⟨h3,h4,h5⟩
  .have:=O2 hk hx;simp [Kl.okM]at this
  .exact⟨n,h3,by rw [h4,h5]⟩
 .rintro k v hk ⟨hn,rfl⟩;rcases h2 k 0 hn with hx | ⟨h3,h4,h5⟩
  .have:=O2 hk hx;simp [Kl.okM]at this
  .exact⟨h3,by rw [h4]⟩
theorem P7 {b:Base} {S S':St} {c c':Cc} {w w':World} {T:Nat->Prop} (hst:Step w w' T) (hT:∀g,T g->A5 S c g) (ho:∀g,A5 S' c' g->A5 S c g\/w.heap.size<=g) :
  KSame w w' (Kok b S c) (Kok b S' c'):=
 ⟨hst.size,λg ⟨h1,h2⟩ hg=>⟨hst.same g hg λht=>h2 (hT g ht),h1,λhx=>(ho g hx).elim h2 λh3=>by omega⟩⟩
theorem Inv.fix' {b:Base} {S:St} {c:Cc} {w w':World} {T:Nat->Prop} (hi:Inv b S w c) (hst:Step w w' T) (hT:∀g,T g->A5 S c g):∀g,g < b.w0.heap.size->¬ b.O0 g->w'.heap[g]?=b.w0.heap[g]?:=by
 intro g hg hn;have hl:=hi.size;rw [hst.same g O λht=>?_]
 .exact hi.fix g hg hn
 .rcases (hi.fr g (hT g ht)).2 with h | h
  .omega
  .exact hn h
theorem Ac8 {S:St} {c:Cc} {w:World} {K:Nat->Prop} {row:List Leaf} {vs:List Value} (h:All2 (LeafOk S c w K) row vs):Lz row=row.length:=by
 unfold Lz;split
 .cases h with
  | cons h1 _=>exact h1.elim
 .rfl
theorem Kg {b:Base} {S:St} {w w':World} {c:Cc} (hi:Inv b S w c) {k:Nat} {l:Leaf} {g:Nat} {ks:List Kl} (hk:S.ms k=some 0) (hl:l=(S.mc k 0).kp ks) (hg:g=c.mb k) (hw:w'.heap[c.mb k]?=w.heap[c.mb k]?):∃xs,l=.md xs/\MapAt w' g xs:=by
 obtain ⟨xs,h1,h2⟩:=hi.mp k hk;subst hl hg;exact⟨xs,by rw [h1];rfl,h2.same hw⟩
theorem Inv.newMem {b:Base} {S:St} {c:Cc} {w w':World} (hi:Inv b S w c) (d:Nat) (hdn:d < b.n1) (row:List Leaf) (vs:List Value) (e:TypeId) (hw:w' = { w with heap:=w.heap.push (.cells vs.toArray e) })
  (hrow:All2 (LeafOk S c w (Kok b S c)) row vs) (hkp:row.map (Leaf.kp [.m d])=row) (hne:row≠[]) :
  ∃c',(c'.mb d=w.heap.size/\c'.mo d=0)/\Inv b ((S.kp [.m d]).up (.ms d row)) w' c'/\Stay S ((S.kp [.m d]).up (.ms d row)) c c' w w' (Kok b S c) (Kok b ((S.kp [.m d]).up (.ms d row)) c') [.m d]:=by
 let c':Cc:=⟨λk=>if k=d then w.heap.size else c.mb k,λk=>if k=d then 0 else c.mo k,c.hv,c.F⟩
 generalize hS:(S.kp [.m d]).up (.ms d row)=S';have how:S'.ow=S.ow:=by subst hS;rfl
 have hms:∀k,S'.ms k=if k=d then some row.length else S.ms k:=by subst hS;intro k;rw [<- Ac8 hrow];rfl
 have hmc:∀k i,S'.mc k i=if k=d then row.getD i .no else(S.mc k i).kp [.m d]:=by subst hS;intro k i;rfl
 have hst:Step w w' λ_=>False:=by
  subst hw;exact⟨rfl,rfl,rfl,Z,λg hg _=>by grind⟩
 have hown:∀g,A5 S' c' g->A5 S c g\/w.heap.size<=g:=by
  rintro g (⟨k,hk,rfl⟩ | ⟨k,hk,hg⟩)
  .by_cases hkd:k=d
   .grind
   .left;left;grind
  .left;right;grind
 have kk:=P7 (b:=b) hst (λ_ h=>h.elim) hown;have stay:Stay S S' c c' w w' (Kok b S c) (Kok b S' c') [.m d]:=by
  refine Stay.of hi ?_ ?_ kk
  .intro k o ho;exact .inr (.inl ⟨by grind,rfl,λg hg=>hst.same g (hi.fr g (.inr ⟨k,by rw [ho];simp,hg⟩)).1 (λh=>h)⟩)
  grind
 refine⟨c',by simp [c'],?_,stay⟩;refine⟨?_,?_,?_,?_,?_,?_,?_,hi.fix' hst (λ_ h=>h.elim),hst.os.trans hi.os,hst.tape.trans hi.tape,hst.output.trans hi.output,Ao2 hi.size hst.size,λm g hg=>by have:=hi.an m g hg;grind,λk hk=>?_⟩
 rotate_left 7
 .rw [hms]at hk;by_cases hkd:k=d
  .grind
  .rw [AoH hkd]at hk;refine Kg (ks:=[.m d]) hi hk (by grind) (by grind) (hst.same _ (hi.fr _ (.inl ⟨k,by rw [hk];simp,rfl⟩)).1 λh=>h)
 .intro k n hn h0n;rw [hms]at hn;by_cases hkd:k=d
  .subst hkd;rw [AoJ rfl]at hn;injection hn with hn
   have hmo:c'.mo k=0:=by simp [c']
   refine⟨vs.toArray,e,(0,0),?_,?_,?_,?_,?_⟩
   .grind
   .rw [Apn,<- hrow.len,hn,hmo];omega
   .intro i _ h;simp at h
   rotate_left
   .intro cs0 e0 fr0 h0;have h7:=B5 h0;have h8:=hi.size
    grind
   .intro i v _ hv;rw [hmo,AoS,List.getElem?_toArray]at hv;have hi':i < row.length:=O
    obtain ⟨v',h1,h2⟩:=hrow.get (AoF hi');rw [hv]at h1;injection h1 with h1
    subst h1;rw [hmc,AoJ rfl,ApG,AoF hi',Apo];have h3:=stay.leaf h2
    grind
  .rw [AoH hkd]at hn;obtain ⟨cs,e',fr,h1,h2,h3,h4,h5⟩:=hi.ms k n hn h0n;have hb1:c'.mb k=c.mb k:=by grind
   have hb2:c'.mo k=c.mo k:=by grind
   rw [hb1,hb2];refine⟨cs,e',fr,?_,h2,h3,?_,h5⟩
   .grind
   .intro i v hlt hv;rw [hmc,AoH hkd];exact stay.leaf (h4 i v hlt hv)
 .intro k o ho;rw [how]at ho;exact Rp.frame kk _ _ (hi.ow k o ho) λg hg=>hst.same g (hi.fr g (.inr ⟨k,by rw [ho];simp,hg⟩)).1 (λh=>h)
 .intro k hk;rw [how]at hk;exact hi.nd k hk
 .intro k k' hne h1 h2;rw [how]at h1 h2;exact hi.oo k k' hne h1 h2
 .intro k k' hne h1 h2;rw [hms]at h1 h2;by_cases hkd:k=d
  .have hkd':¬ k'=d:=λh=>hne (hkd.trans h.symm)
   rw [AoH hkd']at h2;have:=(hi.fr (c.mb k') (.inl ⟨k',h2,rfl⟩)).1
   grind
  .rw [AoH hkd]at h1;have h5:=(hi.fr (c.mb k) (.inl ⟨k,h1,rfl⟩)).1;by_cases hkd':k'=d
   .grind
   .rw [AoH hkd']at h2;simp only [c',hkd,hkd',Apa];exact hi.mm k k' hne h1 h2
 .intro k k' h1 h2;rw [hms]at h1;rw [how]at h2;by_cases hkd:k=d
  .simp only [c',hkd,AoU];intro hg;have:=(hi.fr _ (.inr ⟨k',h2,hg⟩)).1;omega
  .rw [AoH hkd]at h1;simp only [c',hkd,Apa];exact hi.mo k k' h1 h2
 .intro g hg;rcases hown g hg with h | h
  .have:=hi.fr g h
   grind
  .refine⟨?_,.inl (Ao2 hi.size h)⟩;rcases hg with⟨k,hk,rfl⟩ | ⟨k,hk,hg⟩
   .by_cases hkd:k=d
    .grind
    .rw [hms,AoH hkd]at hk;have:=(hi.fr (c.mb k) (.inl ⟨k,hk,rfl⟩)).1
     grind
   .rw [how]at hk;exact ApD (hi.fr g (.inr ⟨k,hk,hg⟩)).1 hst.size
theorem Inv.newMap {b:Base} {S:St} {c:Cc} {w w':World} (hi:Inv b S w c) (d:Nat) (hdn:d < b.n1) (hw:w' = { w with heap:=w.heap.push (.map #[] 0) }) :
  ∃c',(c'.mb d=w.heap.size/\c'.mo d=0)/\Inv b ((S.kp [.m d]).up (.ms d [.md []])) w' c'/\Stay S ((S.kp [.m d]).up (.ms d [.md []])) c c' w w' (Kok b S c) (Kok b ((S.kp [.m d]).up (.ms d [.md []])) c') [.m d]:=by
 let c':Cc:=⟨λk=>if k=d then w.heap.size else c.mb k,λk=>if k=d then 0 else c.mo k,c.hv,c.F⟩
 generalize hS:(S.kp [.m d]).up (.ms d [.md []])=S';have how:S'.ow=S.ow:=by subst hS;rfl
 have hms:∀k,S'.ms k=if k=d then some 0 else S.ms k:=by subst hS;intro k;rfl
 have hmc:∀k i,S'.mc k i=if k=d then [Leaf.md []].getD i .no else(S.mc k i).kp [.m d]:=by subst hS;intro k i;rfl
 have hst:Step w w' λ_=>False:=by
  subst hw;exact⟨rfl,rfl,rfl,Z,λg hg _=>by grind⟩
 have hown:∀g,A5 S' c' g->A5 S c g\/w.heap.size<=g:=by
  rintro g (⟨k,hk,rfl⟩ | ⟨k,hk,hg⟩)
  .by_cases hkd:k=d
   .grind
   .left;left;grind
  .left;right;grind
 have kk:=P7 (b:=b) hst (λ_ h=>h.elim) hown;have stay:Stay S S' c c' w w' (Kok b S c) (Kok b S' c') [.m d]:=by
  refine Stay.of hi ?_ ?_ kk
  .intro k o ho;exact .inr (.inl ⟨by grind,rfl,λg hg=>hst.same g (hi.fr g (.inr ⟨k,by rw [ho];simp,hg⟩)).1 (λh=>h)⟩)
  grind
 refine⟨c',by simp [c'],?_,stay⟩;refine⟨?_,?_,?_,?_,?_,?_,?_,hi.fix' hst (λ_ h=>h.elim),hst.os.trans hi.os,hst.tape.trans hi.tape,hst.output.trans hi.output,Ao2 hi.size hst.size,λm g hg=>by have:=hi.an m g hg;grind,λk hk=>?_⟩
 rotate_left 7
 .rw [hms]at hk;by_cases hkd:k=d
  .subst hkd;refine⟨[],by grind,#[],?_,rfl,λi p h=>by simp at h⟩
   grind
  .rw [AoH hkd]at hk;refine Kg (ks:=[.m d]) hi hk (by grind) (by grind) (hst.same _ (hi.fr _ (.inl ⟨k,by rw [hk];simp,rfl⟩)).1 λh=>h)
 .intro k n hn h0n;rw [hms]at hn;by_cases hkd:k=d
  .grind
  .rw [AoH hkd]at hn;obtain ⟨cs,e',fr,h1,h2,h3,h4,h5⟩:=hi.ms k n hn h0n;have hb1:c'.mb k=c.mb k:=by grind
   have hb2:c'.mo k=c.mo k:=by grind
   rw [hb1,hb2];refine⟨cs,e',fr,?_,h2,h3,?_,h5⟩
   .grind
   .intro i v hlt hv;rw [hmc,AoH hkd];exact stay.leaf (h4 i v hlt hv)
 .intro k o ho;rw [how]at ho;exact Rp.frame kk _ _ (hi.ow k o ho) λg hg=>hst.same g (hi.fr g (.inr ⟨k,by rw [ho];simp,hg⟩)).1 (λh=>h)
 .intro k hk;rw [how]at hk;exact hi.nd k hk
 .intro k k' hne h1 h2;rw [how]at h1 h2;exact hi.oo k k' hne h1 h2
 .intro k k' hne h1 h2;rw [hms]at h1 h2;by_cases hkd:k=d
  .have hkd':¬ k'=d:=λh=>hne (hkd.trans h.symm)
   rw [AoH hkd']at h2;have:=(hi.fr (c.mb k') (.inl ⟨k',h2,rfl⟩)).1
   grind
  .rw [AoH hkd]at h1;have h5:=(hi.fr (c.mb k) (.inl ⟨k,h1,rfl⟩)).1;by_cases hkd':k'=d
   .grind
   .rw [AoH hkd']at h2;simp only [c',hkd,hkd',Apa];exact hi.mm k k' hne h1 h2
 .intro k k' h1 h2;rw [hms]at h1;rw [how]at h2;by_cases hkd:k=d
  .simp only [c',hkd,AoU];intro hg;have:=(hi.fr _ (.inr ⟨k',h2,hg⟩)).1;omega
  .rw [AoH hkd]at h1;simp only [c',hkd,Apa];exact hi.mo k k' h1 h2
 .intro g hg;rcases hown g hg with h | h
  .have:=hi.fr g h
   grind
  .refine⟨?_,.inl (Ao2 hi.size h)⟩;rcases hg with⟨k,hk,rfl⟩ | ⟨k,hk,hg⟩
   .by_cases hkd:k=d
    .grind
    .rw [hms,AoH hkd]at hk;have:=(hi.fr (c.mb k) (.inl ⟨k,hk,rfl⟩)).1
     grind
   .rw [how]at hk;exact ApD (hi.fr g (.inr ⟨k,hk,hg⟩)).1 hst.size
theorem Inv.setMem {b:Base} {S S':St} {c:Cc} {w w':World} (hi:Inv b S w c) (k off n:Nat) (l:Leaf) (v:Value) (hk:S.ms k=some n) (ho:off < n) (hl:LeafOk S c w (Kok b S c) l v)
  (hS:S'=S.up (.mc k off l)) (hw:w'=w.setCell ⟨c.mb k,c.mo k+off,none⟩ v) :
  Inv b S' w' c/\Stay S S' c c w w' (Kok b S c) (Kok b S' c) []:=by
 have how:S'.ow=S.ow:=by subst hS;rfl
 have hms:S'.ms=S.ms:=by subst hS;rfl
 have hmc:∀i j,S'.mc i j=if i=k then(if j=off then l else S.mc i j)else S.mc i j:=by subst hS;intro i j;rfl
 have hKok:Kok b S' c=Kok b S c:=EZ how hms;have hst:Step w w' λg=>g=c.mb k:=by
  subst hw;exact⟨rfl,rfl,rfl,Z,λg _ hg=>Below.heap_setCell _ _ _ _ hg⟩
 have hT:∀g,g=c.mb k->A5 S c g:=λg hg=>.inl ⟨k,by rw [hk];simp,hg.symm⟩
 have hF:∀k',S.ow k'≠none->Do w w' (c.F k'):=λk' hk' g hg=>hst.same g (hi.fr g (.inr ⟨k',hk',hg⟩)).1 λe=>hi.mo k k' (by rw [hk];simp) hk' (e ▸ hg)
 have kk:KSame w w' (Kok b S c) (Kok b S' c):=P7 hst hT (λg hg=>.inl ((Ge how hms g).1 hg));have stay:Stay S S' c c w w' (Kok b S c) (Kok b S' c) []:=by
  refine Stay.of hi ?_ ?_ kk
  .grind
  grind
 refine⟨?_,stay⟩;have hleaf:∀{l v},LeafOk S c w (Kok b S c) l v->LeafOk S' c w' (Kok b S' c) l v:=λ{l v} h=>by
  have:=stay.leaf h
  rwa [Leaf.kp_nil]at this
 refine⟨?_,?_,?_,?_,?_,?_,?_,hi.fix' hst hT,hst.os.trans hi.os,hst.tape.trans hi.tape,hst.output.trans hi.output,Ao2 hi.size hst.size,hi.an,λk' hk'=>?_⟩
 rotate_left 7
 .rw [hms]at hk';have hne:k'≠k:=by
   grind
  exact Kg (ks:=[]) hi hk' (by rw [hmc,AoH hne,Leaf.kp_nil]) rfl (hst.same _ (hi.fr _ (.inl ⟨k',by grind,rfl⟩)).1 (hi.mm k' k hne (by grind) (by rw [hk];simp)))
 .intro k' n' hn' h0n;rw [hms]at hn';obtain ⟨cs,e,fr,h1,h2,h3,h4,h5⟩:=hi.ms k' n' hn' h0n;by_cases hkk:k'=k
  .subst hkk;rw [hk]at hn';injection hn' with hn'
   refine⟨cs.setIfInBounds (c.mo k' + off) v,e,fr,by subst hw;exact Oh h1 _ _,by grind,by grind,?_,?_⟩
   rotate_left
   .intro cs0 e0 fr0 h0;obtain ⟨g1,g2,g3,g4⟩:=h5 cs0 e0 fr0 h0
    grind
   grind
  .refine⟨cs,e,fr,?_,h2,h3,λi u hlt hu=>?_,h5⟩
   .rw [hst.same _ (B5 h1) (hi.mm k' k hkk (by grind) (by rw [hk];simp))];exact h1
   grind
 .intro k' o ho';rw [how]at ho';exact Rp.frame kk _ _ (hi.ow k' o ho') (hF k' (by grind))
 .intro k' hk';rw [how]at hk';exact hi.nd k' hk'
 .intro k1 k2 hne h1 h2;rw [how]at h1 h2;exact hi.oo k1 k2 hne h1 h2
 .intro k1 k2 hne h1 h2;rw [hms]at h1 h2;exact hi.mm k1 k2 hne h1 h2
 .intro k1 k2 h1 h2;rw [hms]at h1;rw [how]at h2;exact hi.mo k1 k2 h1 h2
 .intro g hg;have:=hi.fr g ((Ge how hms g).1 hg)
  simp_all
theorem Inv.setMap {b:Base} {S S':St} {c:Cc} {w w':World} (hi:Inv b S w c) (k:Nat) (xs:List (Int×Int)) (hk:S.ms k=some 0) (hS:S'=S.up (.mc k 0 (.md xs))) (hst:Step w w' λg=>g=c.mb k) (hmap:MapAt w' (c.mb k) xs) :
  Inv b S' w' c/\Stay S S' c c w w' (Kok b S c) (Kok b S' c) []:=by
 have how:S'.ow=S.ow:=by subst hS;rfl
 have hms:S'.ms=S.ms:=by subst hS;rfl
 have hmc:∀i j,S'.mc i j=if i=k then(if j=0 then .md xs else S.mc i j)else S.mc i j:=by subst hS;intro i j;rfl
 have hKok:Kok b S' c=Kok b S c:=EZ how hms;have hT:∀g,g=c.mb k->A5 S c g:=λg hg=>.inl ⟨k,by rw [hk];simp,hg.symm⟩
 have hF:∀k',S.ow k'≠none->Do w w' (c.F k'):=λk' hk' g hg=>hst.same g (hi.fr g (.inr ⟨k',hk',hg⟩)).1 λe=>hi.mo k k' (by rw [hk];simp) hk' (e ▸ hg)
 have kk:KSame w w' (Kok b S c) (Kok b S' c):=P7 hst hT (λg hg=>.inl ((Ge how hms g).1 hg));have stay:Stay S S' c c w w' (Kok b S c) (Kok b S' c) []:=by
  refine Stay.of hi ?_ ?_ kk
  .grind
  grind
 refine⟨?_,stay⟩;have hleaf:∀{l v},LeafOk S c w (Kok b S c) l v->LeafOk S' c w' (Kok b S' c) l v:=λ{l v} h=>by
  have:=stay.leaf h
  rwa [Leaf.kp_nil]at this
 refine⟨?_,?_,?_,?_,?_,?_,?_,hi.fix' hst hT,hst.os.trans hi.os,hst.tape.trans hi.tape,hst.output.trans hi.output,Ao2 hi.size hst.size,hi.an,λk' hk'=>?_⟩
 rotate_left 7
 .rw [hms]at hk';by_cases hne:k'=k
  .grind
  .exact Kg (ks:=[]) hi hk' (by rw [hmc,AoH hne,Leaf.kp_nil]) rfl (hst.same _ (hi.fr _ (.inl ⟨k',by grind,rfl⟩)).1 (hi.mm k' k hne (by grind) (by rw [hk];simp)))
 .intro k' n' hn' h0n;rw [hms]at hn';obtain ⟨cs,e,fr,h1,h2,h3,h4,h5⟩:=hi.ms k' n' hn' h0n;by_cases hkk:k'=k
  .grind
  .refine⟨cs,e,fr,?_,h2,h3,λi u hlt hu=>?_,h5⟩
   .rw [hst.same _ (B5 h1) (hi.mm k' k hkk (by grind) (by rw [hk];simp))];exact h1
   grind
 .intro k' o ho';rw [how]at ho';exact Rp.frame kk _ _ (hi.ow k' o ho') (hF k' (by grind))
 .intro k' hk';rw [how]at hk';exact hi.nd k' hk'
 .intro k1 k2 hne h1 h2;rw [how]at h1 h2;exact hi.oo k1 k2 hne h1 h2
 .intro k1 k2 hne h1 h2;rw [hms]at h1 h2;exact hi.mm k1 k2 hne h1 h2
 .intro k1 k2 h1 h2;rw [hms]at h1;rw [how]at h2;exact hi.mo k1 k2 h1 h2
 .intro g hg;have:=hi.fr g ((Ge how hms g).1 hg);exact⟨ApD this.1 hst.size,this.2⟩
theorem Inv.setOwn {b:Base} {S S':St} {c:Cc} {w w':World} (hi:Inv b S w c) (κ:Nat) (o':Own) (gs:List Nat) (ks:List Kl) (h':Value) (F':List Nat)
  (how:∀k,S'.ow k=if k=κ then some o' else if k∈gs then none else S.ow k) (hms:S'.ms=S.ms) (hmc:∀k i,S'.mc k i=(S.mc k i).kp ks)
  (hgs:∀k,k∈gs->.all k∈ks) (hκ:∀o,S.ow κ=some o->.all κ∈ks\/(.deep κ∈ks/\h'=c.hv κ/\∃xs',o'=⟨o.e,o.r,xs'⟩/\xs'.length=o.xs.length))
  (hst:Step w w' λg=>∃k,(k=κ\/k∈gs)/\S.ow k≠none/\g∈c.F k)
  (hF:∀g,g∈F'->g < w'.heap.size/\((∃k,(k=κ\/k∈gs)/\S.ow k≠none/\g∈c.F k)\/w.heap.size<=g)) (hnd:F'.Nodup)
  (hR:∀K',KSame w w' (Kok b S c) K'->(∀g,w.heap.size<=g->g∉F'->K' g)->Rp w' K' (.sl true o'.e o'.r) o'.xs [h'] F') :
  ∃c',(c'.mb=c.mb/\c'.mo=c.mo)/\c'.hv κ=h'/\c'.F κ=F'/\Inv b S' w' c'/\Stay S S' c c' w w' (Kok b S c) (Kok b S' c') ks/\∀k,k≠κ->c'.hv k=c.hv k/\c'.F k=c.F k:=by
 let c':Cc:=⟨c.mb,c.mo,λk=>if k=κ then h' else c.hv k,λk=>if k=κ then F' else c.F k⟩
 have hcF:∀k,k≠κ->c'.F k=c.F k:=λk hk=>by simp [c',hk]
 have hch:∀k,k≠κ->c'.hv k=c.hv k:=λk hk=>by simp [c',hk]
 have hcκ:c'.F κ=F':=by simp [c']
 have hT:∀g,(∃k,(k=κ\/k∈gs)/\S.ow k≠none/\g∈c.F k)->A5 S c g:=λg ⟨k,_,h1,h2⟩=>.inr ⟨k,h1,h2⟩
 have hkept:∀k,k≠κ->S'.ow k≠none->k∉gs/\S.ow k≠none:=by
  grind
 have hown:∀g,A5 S' c' g->A5 S c g\/w.heap.size<=g:=by
  rintro g (⟨k,hk,rfl⟩ | ⟨k,hk,hg⟩)
  .exact .inl (.inl ⟨k,by grind,rfl⟩)
  .by_cases hkκ:k=κ
   .grind
   .rw [hcF k hkκ]at hg;exact .inl (.inr ⟨k,(hkept k hkκ hk).2,hg⟩)
 have kk:KSame w w' (Kok b S c) (Kok b S' c'):=P7 hst hT hown;have hsame:∀k,k≠κ->k∉gs->S.ow k≠none->Do w w' (c.F k):=λk hk hg ho g hgF=>hst.same g (hi.fr g (.inr ⟨k,ho,hgF⟩)).1 (by
  rintro ⟨k2,h1,h2,h3⟩;have hne:k≠k2:=by grind
  exact hi.oo k k2 hne ho h2 g hgF h3)
 have stay:Stay S S' c c' w w' (Kok b S c) (Kok b S' c') ks:=by
  refine Stay.of hi ?_ ?_ kk
  .grind
  grind
 refine⟨c',⟨rfl,rfl⟩,by simp [c'],hcκ,?_,stay,λk hk=>⟨hch k hk,hcF k hk⟩⟩;refine⟨?_,?_,?_,?_,?_,?_,?_,hi.fix' hst hT,hst.os.trans hi.os,hst.tape.trans hi.tape,hst.output.trans hi.output,Ao2 hi.size hst.size,hi.an,λk hk=>?_⟩
 rotate_left 7
 .rw [hms]at hk;exact Kg (ks:=ks) hi hk (hmc k 0) rfl (hst.same _ (hi.fr _ (.inl ⟨k,by rw [hk];simp,rfl⟩)).1 (by rintro ⟨k2,_,h5,h6⟩;exact hi.mo k k2 (by rw [hk];simp) h5 h6))
 .intro k n hn h0n;rw [hms]at hn;obtain ⟨cs,e,fr,h1,h2,h3,h4,h5⟩:=hi.ms k n hn h0n;refine⟨cs,e,fr,?_,h2,h3,λi u hlt hu=>by rw [hmc];exact stay.leaf (h4 i u hlt hu),h5⟩;show w'.heap[c.mb k]?=_;rw [hst.same _ (B5 h1) (by rintro ⟨k2,_,h5,h6⟩;exact hi.mo k k2 (by rw [hn];simp) h5 h6)];exact h1
 .intro k o ho;by_cases hkκ:k=κ
  .subst hkκ;rw [how,AoJ rfl]at ho;injection ho with ho
   subst ho;have:c'.hv k=h':=by simp [c']
   rw [this,hcκ];refine hR _ kk λg hg hgF=>⟨.inr (.inl (Ao2 hi.size hg)),?_⟩
   rintro (⟨k2,h1,rfl⟩ | ⟨k2,h1,h2⟩)
   .rw [hms]at h1;have:=(hi.fr (c.mb k2) (.inl ⟨k2,h1,rfl⟩)).1
    grind
   .by_cases hk2:k2=k
    .grind
    .rw [hcF k2 hk2]at h2;have:=(hi.fr g (.inr ⟨k2,(hkept k2 hk2 h1).2,h2⟩)).1;omega
  .have h1:=hkept k hkκ (by rw [ho];simp);rw [how,AoH hkκ,AoH h1.1]at ho;rw [hch k hkκ,hcF k hkκ];exact Rp.frame kk _ _ (hi.ow k o ho) (hsame k hkκ h1.1 h1.2)
 .intro k hk;by_cases hkκ:k=κ
  .grind
  .rw [hcF k hkκ];exact hi.nd k (hkept k hkκ hk).2
 .intro k1 k2 hne h1 h2 g hg;by_cases hk1:k1=κ
  .have hk2:k2≠κ:=λh=>hne (hk1.trans h.symm)
   have h4:=hkept k2 hk2 h2;rw [hcF k2 hk2];subst hk1;rw [hcκ]at hg;rcases (hF g hg).2 with⟨k3,h5,h6,h7⟩ | h5
   .have hne3:k3≠k2:=by grind
    exact hi.oo k3 k2 hne3 h6 h4.2 g h7
   .intro hx;have:=(hi.fr g (.inr ⟨k2,h4.2,hx⟩)).1;omega
  .have h3:=hkept k1 hk1 h1;rw [hcF k1 hk1]at hg;by_cases hk2:k2=κ
   .subst hk2;rw [hcκ];intro hx;rcases (hF g hx).2 with⟨k3,h5,h6,h7⟩ | h5
    .have hne3:k1≠k3:=by grind
     exact hi.oo k1 k3 hne3 h3.2 h6 g hg h7
    .have:=(hi.fr g (.inr ⟨k1,h3.2,hg⟩)).1;omega
   .rw [hcF k2 hk2];exact hi.oo k1 k2 hne h3.2 (hkept k2 hk2 h2).2 g hg
 .intro k1 k2 hne h1 h2;rw [hms]at h1 h2;exact hi.mm k1 k2 hne h1 h2
 .intro k1 k2 h1 h2;rw [hms]at h1;by_cases hk2:k2=κ
  .subst hk2;rw [hcκ];intro hx;rcases (hF _ hx).2 with⟨k3,_,h6,h7⟩ | h5
   .exact hi.mo k1 k3 h1 h6 h7
   .have:=(hi.fr (c.mb k1) (.inl ⟨k1,h1,rfl⟩)).1
    grind
  .rw [hcF k2 hk2];exact hi.mo k1 k2 h1 (hkept k2 hk2 h2).2
 .intro g hg;refine⟨?_,?_⟩
  .rcases hg with⟨k,hk,rfl⟩ | ⟨k,hk,hg⟩
   .rw [hms]at hk;exact ApD (hi.fr (c.mb k) (.inl ⟨k,hk,rfl⟩)).1 hst.size
   .by_cases hkκ:k=κ
    .grind
    .rw [hcF k hkκ]at hg;exact ApD (hi.fr g (.inr ⟨k,(hkept k hkκ hk).2,hg⟩)).1 hst.size
  .rcases hown g hg with h | h
   .exact(hi.fr g h).2
   .exact .inl (Ao2 hi.size h)
end Go.V
namespace Go.V
open Go.RowKit
def By:Ty->Value
 | .int k=>.int k 0
 | .bool=>.bool false
 | .str=>.string ⟨#[]⟩
 | .pt _=>.pointer none
 | .er=>.nilIface
 | .mh=>.map none
 | _=>.slice none 0 0
def RF:Ty->Value->Bool
 | .int k,.int k' n=>k == k' && n == 0
 | .bool,.bool b=>!b
 | .str,.string s=>s.data.isEmpty
 | .sl _ _ _,.slice none 0 0=>true
 | .pt _,.pointer none=>true
 | .mh,.map none=>true
 | _,_=>false
theorem NW {t:Ty} {v:Value} (h:RF t v=true):v=By t/\t.size=1/\∀a b,t≠.pair a b:=by
 unfold RF at h;split at h
 .simp only [AoI,beq_iff_eq]at h;obtain ⟨rfl,rfl⟩:=h;exact⟨rfl,rfl,Z⟩
 .rename_i b;cases b
  .exact⟨rfl,rfl,Z⟩
  .cases h
 .rename_i s;obtain ⟨d⟩:=s;simp only [Array.isEmpty_iff]at h;subst h;exact⟨rfl,rfl,Z⟩
 .exact⟨rfl,rfl,Z⟩
 .exact⟨rfl,rfl,Z⟩
 .exact⟨rfl,rfl,Z⟩
 .cases h
def IS:List Ty->List Value->Bool
 | [],[]=>true
 | t::ts,v::vs=>RF t v && IS ts vs
 | _,_=>false
theorem Or:∀{ts:List Ty} {vs:List Value},IS ts vs=true->vs=ts.map By/\∀t∈ts,t.size=1/\∀a b,t≠.pair a b
 | [],[],_=>⟨rfl,Z⟩
 | t::ts,v::vs,h=>by
  simp only [IS,AoI]at h;obtain ⟨h1,h2⟩:=NW h.1;obtain ⟨h3,h4⟩:=Or h.2;refine⟨by rw [h1,h3];rfl,?_⟩;intro u hu;rcases AoY.1 hu with rfl | hu
  .exact h2
  .exact h4 u hu
 | [],_::_,h=>by simp [IS]at h
 | _::_,[],h=>by simp [IS]at h
def BY:Ty->TypeDesc->Bool
 | .int k,.int k'=>k == k'
 | .bool,.bool=>true
 | .str,.string=>true
 | _,_=>false
def IB:TypeDesc->Bool
 | .struct _ | .array _ _=>true
 | _=>false
def CW (P:Program):List (Nat×Nat×Bool)->List Field->Bool
 | [],[]=>true
 | (o,n,ag)::fs,f::gs=>f.offset == o && !(n == 0) && (match P.info? f.type with | some i=>i.size == n | none=>false) &&
  (match P.underlying f.type with | some d=>IB d == ag | none=>false) && CW P fs gs
 | _,_=>false
def Qj (P:Program):List Ty->List Field->Bool
 | [],[]=>true
 | t :: ts, f :: gs => !(f.name == "_") && (match P.underlying f.type with | some d => BY t d | none => false) && Qj P ts gs
 | _,_=>false
def OK:List (Nat×Nat×Bool)->Nat->Bool
 | [],_=>true
 | (o,n,ag)::fs,i=>o == i && n == 1 && !ag && OK fs (i+1)
def OF (P:Program) (t:TypeId):TI->Bool
 | .cell u=>(match P.underlying t with | some d=>BY u d | none=>false) &&
  (match P.info? t with | some i=>i.size == 1 && (match i.zero with | some z=>RF u z | none=>false) | none=>false)
 | .slice e ts bytes=>(match P.underlying t with | some (.slice e')=>e == e' | _=>false) &&
  (match P.info? t with | some i=>i.size == 1 && (match i.zero with | some z=>RF (.sl true 0 .unit) z | none=>false) | none=>false) &&
  (match P.info? e with | some i=>i.size == ts.length && i.bytes == bytes && !(bytes == 0) && !(ts.isEmpty) && (match i.zero with | some z=>IS ts z.cells.toList && !(ts.length == 1 && IB ((P.underlying e).getD .invalid) && false) | none=>false) | none=>false)
 | .struct fs row eq=>(match P.underlying t with
  | some (.struct fields)=>CW P fs fields.toList && (!eq || (Qj P row fields.toList && OK fs 0 && !P.stoodInHeld t && !P.eqGuardType P.depth t))
  | _=>false) &&
  (match P.info? t with | some i=>i.size == row.length && (match i.zero with | some (.agg cs)=>IS row cs.toList | _=>false) | none=>false)
 | .ptr e=>(match P.underlying t with | some (.pointer e')=>e == e' | _=>false) && (match P.info? t with | some i=>i.size == 1 && (match i.zero with | some (.pointer none)=>true | _=>false) | none=>false)
 | .err=>(match P.underlying t with | some (.interface _)=>true | _=>false)
 | .map=>(match P.underlying t with
  | some (.map k e)=>(match P.underlying k with | some (.int .i64)=>true | _=>false) && (match P.info? e with | some i=>(match i.zero with | some (.int .i64 0)=>true | _=>false) | none=>false)
  | _=>false) && (match P.info? t with | some i=>i.size == 1 && (match i.zero with | some (.map none)=>true | _=>false) | none=>false)
 | .other=>true
def TabOk (P:Program) (ti:TypeId->TI):Prop:=∀t,OF P t (ti t)=true
section
variable {P:Program} {ti:TypeId->TI} (h:TabOk P ti) {t:TypeId}
include h
theorem TabOk.cell {u:Ty} (ht:ti t=.cell u):(∃d,P.underlying t=some d/\BY u d=true)/\∃i,P.info? t=some i/\i.size=1/\i.zero=some (By u)/\u.size=1:=by
 have:=h t;rw [ht]at this;simp only [OF,AoI]at this;obtain ⟨h1,h2⟩:=this;split at h1
 .rename_i d hd;refine⟨⟨d,hd,h1⟩,?_⟩;split at h2
  .rename_i i hi;simp only [AoI,beq_iff_eq]at h2;obtain ⟨h3,h4⟩:=h2;split at h4
   .rename_i z hz;exact⟨i,hi,h3,by rw [hz,(NW h4).1],(NW h4).2.1⟩
   .cases h4
  .cases h2
 .cases h1
theorem TabOk.map (ht:ti t=.map):(∃k e,P.underlying t=some (.map k e)/\P.underlying k=some (.int .i64)/\∃i,P.info? e=some i/\i.zero=some (.int .i64 0))/\∃i,P.info? t=some i/\i.size=1/\i.zero=some (.map none):=by
 have:=h t;rw [ht]at this;simp only [OF,AoI]at this;obtain ⟨h1,h9⟩:=this;refine⟨?_,?_⟩
 rotate_left
 .split at h9
  .rename_i i hi;simp only [AoI,beq_iff_eq]at h9;obtain ⟨h2,h3⟩:=h9;split at h3
   .rename_i hz;exact⟨i,hi,h2,hz⟩
   .cases h3
  .cases h9
 split at h1
 .rename_i k e hu;simp only [AoI]at h1;obtain ⟨h2,h3⟩:=h1;refine⟨k,e,hu,?_,?_⟩
  .split at h2
   .assumption
   .cases h2
  .split at h3
   .rename_i i hi;split at h3
    .rename_i hz;exact⟨i,hi,hz⟩
    .cases h3
   .cases h3
 .cases h1
theorem TabOk.slice {e:TypeId} {ts:List Ty} {bytes:Nat} (ht:ti t=.slice e ts bytes):P.underlying t=some (.slice e)/\(∃i,P.info? t=some i/\i.size=1/\i.zero=some (.slice none 0 0))/\
  0 < bytes/\0 < ts.length/\∃i z,P.info? e=some i/\i.size=ts.length/\i.bytes=bytes/\i.zero=some z/\z.cells.toList=ts.map By/\∀t∈ts,t.size=1/\∀a b,t≠.pair a b:=by
 have:=h t;rw [ht]at this;simp only [OF,AoI]at this;obtain ⟨⟨h1,h2⟩,h3⟩:=this;refine⟨?_,?_,?_⟩
 .split at h1
  .rename_i e' he;simp only [beq_iff_eq]at h1;rw [he,h1]
  .cases h1
 .split at h2
  .rename_i i hi;simp only [AoI,beq_iff_eq]at h2;obtain ⟨h4,h5⟩:=h2;split at h5
   .rename_i z hz;exact⟨i,hi,h4,by rw [hz,(NW h5).1];rfl⟩
   .cases h5
  .cases h2
 .split at h3
  .rename_i i hi;simp only [AoI,beq_iff_eq,Ao7,beq_eq_false_iff_ne]at h3;obtain ⟨⟨⟨⟨h4,h5⟩,h6⟩,h7⟩,h8⟩:=h3;split at h8
   .rename_i z hz;simp only [AoI]at h8;obtain ⟨h9,h10⟩:=Or h8.1;refine⟨O,?_,i,z,hi,h4,h5,hz,h9,h10⟩;cases ts with
    | nil=>simp at h7
    | cons a b=>simp
   .cases h8
  .cases h3
theorem TabOk.struct {fs:List (Nat×Nat×Bool)} {row:List Ty} {eq:Bool} (ht:ti t=.struct fs row eq):∃fields,P.underlying t=some (.struct fields)/\CW P fs fields.toList=true/\
  (eq=true->Qj P row fields.toList=true/\OK fs 0=true/\P.stoodInHeld t=false/\P.eqGuardType P.depth t=false)/\
  ∃i,P.info? t=some i/\i.size=row.length/\i.zero=some (.agg (row.map By).toArray)/\∀t∈row,t.size=1/\∀a b,t≠.pair a b:=by
 have:=h t;rw [ht]at this;simp only [OF,AoI]at this;obtain ⟨h1,h2⟩:=this;split at h1
 .rename_i fields hf;simp only [AoI,Aqc,Ao7]at h1;refine⟨fields,hf,h1.1,?_,?_⟩
  .intro he;rcases h1.2 with h3 | h3
   .rw [he]at h3;cases h3
   .exact⟨h3.1.1.1,h3.1.1.2,h3.1.2,h3.2⟩
  .split at h2
   .rename_i i hi;simp only [AoI,beq_iff_eq]at h2;obtain ⟨h4,h5⟩:=h2;split at h5
    .rename_i cs hz;obtain ⟨h6,h7⟩:=Or h5;refine⟨i,hi,h4,?_,h7⟩;rw [hz,<- h6]
    .cases h5
   .cases h2
 .cases h1
theorem TabOk.ptr {e:TypeId} (ht:ti t=.ptr e):P.underlying t=some (.pointer e)/\∃i,P.info? t=some i/\i.size=1/\i.zero=some (.pointer none):=by
 have:=h t;rw [ht]at this;simp only [OF,AoI]at this;obtain ⟨h1,h2⟩:=this;refine⟨?_,?_⟩
 .split at h1
  .rename_i e' he;simp only [beq_iff_eq]at h1;rw [he,h1]
  .cases h1
 .split at h2
  .rename_i i hi;simp only [AoI,beq_iff_eq]at h2;obtain ⟨h3,h4⟩:=h2;split at h4
   .rename_i hz;exact⟨i,hi,h3,hz⟩
   .cases h4
  .cases h2
end
def Tr.ev {α:Type} (S:St):Tr α->Option α
 | .ret a=>some a
 | .fail=>none
 | .br c t e=>if c=true then t.ev S else e.ev S
 | .get _ o f=>o.bind λb=>(f b).ev S
 | .alt _ _ s f g=>match s with
  | .inl b=>(f b).ev S
  | .inr b=>(g b).ev S
 | .rdO k f=>(f (S.ow k)).ev S
 | .rdC k off f=>(f (S.mc k off)).ev S
 | .rdM k f=>(f (S.ms k)).ev S
theorem Ak {α β:Type} (S:St) (t:Tr α) (f:α->Tr β):(t.bind f).ev S=(t.ev S).bind λx=>(f x).ev S:=by
 induction t with
 | ret a=>rfl
 | fail=>rfl
 | br c t e ih1 ih2=>simp only [Tr.bind,Tr.ev];split <;> assumption
 | get γ o g ih=>cases o <;> simp [Tr.bind,Tr.ev,ih]
 | alt γ δ s g h ih1 ih2=>cases s <;> simp [Tr.bind,Tr.ev,ih1,ih2]
 | rdO k g ih=>simp [Tr.bind,Tr.ev,ih]
 | rdC k off g ih=>simp [Tr.bind,Tr.ev,ih]
 | rdM k g ih=>simp [Tr.bind,Tr.ev,ih]
theorem Ajt {α:Type} (S:St) (t:Tr α):∀(g:List Lg) {x:α} {l:List Lg},(t.at S g).run=some (x,l)->t.ev S=some x:=by
 induction t with
 | ret a=>intro g x l h;simp only [Tr.at,Tr.run,AoD,Prod.mk.injEq]at h;simp [Tr.ev,h.1]
 | fail=>intro g x l h;simp [Tr.at,Tr.run]at h
 | br c t e ih1 ih2=>
  intro g x l h;simp only [Tr.at,Tr.run]at h;simp only [Tr.ev];split at h
  .rename_i hc;rw [AoJ hc];exact ih1 g h
  .rename_i hc;rw [AoH hc];exact ih2 g h
 | get γ o f ih=>
  intro g x l h;simp only [Tr.at,Dl,AoG]at h;obtain ⟨b,hb,h⟩:=h;simp only [Tr.ev,hb,AoC];exact ih b g h
 | alt γ δ s f f' ih1 ih2=>
  intro g x l h;cases s with
  | inl b=>exact ih1 b g h
  | inr b=>exact ih2 b g h
 | rdO k f ih=>intro g x l h;exact ih _ _ h
 | rdC k off f ih=>intro g x l h;exact ih _ _ h
 | rdM k f ih=>intro g x l h;exact ih _ _ h
theorem BN {α:Type} {S:St} {c:Bool} {t:Tr α} {a:α} (h:(Tr.iff c t).ev S=some a):c=true/\t.ev S=some a:=by
 simp only [Tr.ev]at h;split at h
 .exact⟨by assumption,h⟩
 .cases h
theorem Lm {S:St}:∀(st:AT) (t:Ty) (x:t.D),(Aw t x st).ev S=(Aw t x st).run
 | [],_,_=>rfl
 | (i,j)::ps,t,x=>by
  match t,x with
  | .sl true e r,xs=>
   simp only [Aw,Tr.ev,Dl]
   congr 1;funext row
   split
   .rename_i d _;exact Lm ps d.1 d.2
   .rfl
  | .sl false _ _,_=>rfl
  | .int _,_=>rfl
  | .bool,_=>rfl
  | .er,_=>rfl
  | .lp,_=>rfl
  | .mh,_=>rfl
  | .mp,_=>rfl
  | .str,_=>rfl
  | .pt _,_=>rfl
  | .unit,_=>rfl
  | .pair _ _,_=>rfl
theorem Uo {S:St}:∀(st:AT) (t:Ty) (x:t.D) (u:Ty) (z:u.D),(Gc t x st u z).ev S=(Gc t x st u z).run
 | [],t,x,u,z=>by simp only [Gc];split <;> rfl
 | (i,j)::ps,t,x,u,z=>by
  match t,x with
  | .sl true e r,xs=>
   simp only [Gc,Tr.ev,Dl]
   congr 1;funext row
   split
   .rename_i d _;rw [Ak,run_bind,Uo ps d.1 d.2 u z]
    congr 1;funext y
    split <;> rfl
   .rfl
  | .sl false _ _,_=>rfl
  | .int _,_=>rfl
  | .bool,_=>rfl
  | .er,_=>rfl
  | .lp,_=>rfl
  | .mh,_=>rfl
  | .mp,_=>rfl
  | .str,_=>rfl
  | .pt _,_=>rfl
  | .unit,_=>rfl
  | .pair _ _,_=>rfl
theorem Ah4 {S:St} {c:Cc} {w:World} {K:Nat->Prop} (v:Value):AX S c w K (We v) v:=by
 unfold We;split
 .simp [AX,S1Ok,LeafOk,Rp]
 .simp [AX,S1Ok,LeafOk,Rp]
 .rename_i s;simp [AX,S1Ok,LeafOk,Rp]
 .simp [AX,S1Ok,LeafOk]
 .simp [AX,S1Ok,LeafOk,Rp,ErV]
 .simp [AX,S1Ok,LeafOk]
 .trivial
theorem AI {N:Nat} {S:St} {c:Cc} {w:World} {K:Nat->Prop} {a:Act} (hs:Slots N S c w K a) (x:Operand):AX S c w K (Cu S x) (a.eval x):=by
 cases x with
 | tmp t=>exact hs.ok t
 | const v=>exact Ah4 v
 | global g=>trivial
 | func f=>exact⟨[],rfl,.nil⟩
theorem Rp.one {w:World} {K:Nat->Prop}:∀(t:Ty) (x:t.D) {vs F},Rp w K t x vs F->∀v∈vs,v.oneCell'=true
 | .int _,_,_,_,h=>by simp only [Rp]at h;simp [h.1,Value.oneCell']
 | .bool,_,_,_,h=>by simp only [Rp]at h;simp [h.1,Value.oneCell']
 | .lp,_,_,_,h=>by simp only [Rp]at h
 | .mh,_,_,_,h=>by simp only [Rp]at h;simp [h.1,Value.oneCell']
 | .mp,_,_,_,h=>by simp only [Rp]at h
 | .er,b,_,_,h=>by
  simp only [Rp]at h;obtain ⟨v,rfl,_,hv⟩:=h;cases b with
  | false=>simp only [ErV]at hv;subst hv;simp [Value.oneCell']
  | true=>obtain ⟨te,pe,rfl⟩:=hv;simp [Value.oneCell']
 | .str,_,_,_,h=>by simp only [Rp]at h;simp [h.1,Value.oneCell']
 | .unit,_,_,_,h=>by simp only [Rp]at h;simp [h.1]
 | .pair a b,x,_,_,h=>by
  simp only [Rp]at h;obtain ⟨v1,v2,F1,F2,rfl,_,h1,h2⟩:=h;intro v hv;rcases AoK.1 hv with hv | hv
  .exact Rp.one a _ h1 v hv
  .exact Rp.one b _ h2 v hv
 | .sl true _ r,_,_,_,h=>by
  simp only [Rp]at h;rcases h with⟨_,_,rfl⟩ | ⟨g,off,c,cs,fr,F',rfl,_⟩ <;> simp [Value.oneCell']
 | .sl false _ r,_,_,_,h=>by
  simp only [Rp]at h;obtain ⟨_,A,c,ws,rfl,_⟩:=h;simp [Value.oneCell']
 | .pt t,o,_,_,h=>by
  simp only [Rp]at h;cases o with
  | none=>simp [h.2,Value.oneCell']
  | some x=>obtain ⟨_,ad,ws,rfl,_⟩:=h;simp [Value.oneCell']
theorem N0 {w:World} {K:Nat->Prop} {e:TypeId} {r:Ty} {xs:List r.D} {h:Value} {F:List Nat} (hp:Rp w K (.sl true e r) xs [h] F):∃A cap,h=.slice A xs.length cap/\(A=none->xs=[]/\cap=0/\F=[]):=by
 simp only [Rp]at hp;rcases hp with⟨rfl,rfl,h1⟩ | ⟨g,off,cap,cs,fr,F',h1,_⟩
 .injection h1 with h1;exact⟨none,0,h1,λ_=>⟨rfl,rfl,rfl⟩⟩
 .injection h1 with h1;exact⟨_,cap,h1,λh=>by cases h⟩
theorem Ahh {size len:Nat} {win:Option (Nat×Nat)} {A:Option Addr} {cap:Nat} {v:Value} (h:SM size len win (.slice A len cap) v):∃A' n cap',v=.slice A' n cap':=by
 cases win with
 | none=>exact⟨A,len,cap,h⟩
 | some p=>
  obtain ⟨lo,m⟩:=p;obtain ⟨A0,n0,cap0,A',cap',q,_,h2,_⟩:=h;exact⟨A',_,cap',h2⟩
theorem Ui {b:Base} {S:St} {c:Cc} {w:World} {K:Nat->Prop} (hi:Inv b S w c) {k:Nat} {st:AT} {win:Option (Nat×Nat)} {v:Value} (h:LeafOk S c w K (.vw k st win) v):∃A n cap,v=.slice A n cap:=by
 obtain ⟨o,e,r,ys,hd,ho,hg,hh,hw⟩:=h;obtain ⟨h',F',h1,h2,_⟩:=Rp.reach st _ _ (hi.ow k o ho) hg;rw [hh]at h1;injection h1 with h1
 subst h1;obtain ⟨A,cap,rfl,_⟩:=N0 h2;exact Ahh hw
theorem Aba {b:Base} {S:St} {c:Cc} {w:World} {K:Nat->Prop} (hi:Inv b S w c) {l:Leaf} {v:Value} (h:LeafOk S c w K l v) (hl:l.is=true):v.oneCell'=true:=by
 cases l with
 | v t x=>exact Rp.one t x h v Z
 | vw k st win=>obtain ⟨A,n,cap,rfl⟩:=Ui hi h;rfl
 | qn e=>obtain ⟨q,rfl,_⟩:=h;rfl
 | nil=>rw [show v=.slice none 0 0 from h];rfl
 | p k off=>obtain ⟨n,_,rfl⟩:=h;rfl
 | np=>rw [show v=.pointer none from h];rfl
 | mh k=>obtain ⟨_,rfl⟩:=h;rfl
 | md xs=>exact h.elim
 | no=>cases hl
theorem Ag9 {v:Value} (h:v.oneCell'=true):v.cells = #[v]:=by cases v <;> first | rfl | (simp [Value.oneCell']at h)
theorem Jj {b:Base} {S:St} {c:Cc} {w:World} {K:Nat->Prop} (hi:Inv b S w c) {x:SV} {v:Value} {ls:List Leaf} (hx:AX S c w K x v) (hl:CX x=some ls) :
  ∃vs:List Value,v.cells=vs.toArray/\All2 (LeafOk S c w K) ls vs/\(∀u∈vs,u.oneCell'=true):=by
 match x,hx,hl with
 | .s (.one l),hx,hl=>
  simp only [CX]at hl;split at hl
  .rename_i hl';injection hl with hl
   subst hl;have:=Aba hi hx hl';exact⟨[v],Ag9 this,.cons hx .nil,by simpa using this⟩
  .cases hl
 | .s (.ag ls'),hx,hl=>
  simp only [CX]at hl;split at hl
  .rename_i hl';injection hl with hl
   subst hl;obtain ⟨vs,rfl,hv⟩:=hx;refine⟨vs,rfl,hv,?_⟩;intro u hu;have key:∀(ls:List Leaf) (vs:List Value),All2 (LeafOk S c w K) ls vs->ls.all Leaf.is=true->∀u∈vs,u.oneCell'=true:=by
    intro ls vs h
    induction h with
    | nil=>intro _ u hu;cases hu
    | cons h1 _ ih=>
     intro hall u hu;simp only [ApZ,AoI]at hall;rcases AoY.1 hu with rfl | hu
     .exact Aba hi h1 hall.1
     .exact ih hall.2 u hu
   exact key _ _ hv hl' u hu
  .cases hl
 | .s (.pl k off),hx,hl=>
  simp only [CX,AoD]at hl;subst hl;obtain ⟨n,hn,rfl⟩:=hx;exact⟨[_],rfl,.cons ⟨n,hn,rfl⟩ .nil,by simp [Value.oneCell']⟩
 | .s (.el ..),_,hl=>simp [CX]at hl
 | .s (.rp t x 0),hx,hl=>
  simp only [CX,AoD]at hl;subst hl;obtain ⟨a,vs,rfl,h1,h2,h3,h4⟩:=hx;refine⟨[_],rfl,.cons ?_ .nil,by simp [Value.oneCell']⟩;simp only [LeafOk,Rp];exact⟨trivial,a,vs,by simp [Addr.add],h1,h2,h3,h4⟩
 | .s (.rp _ _ (_+1)),_,hl=>simp [CX]at hl
 | .s (.fv ..),_,hl=>simp [CX]at hl
 | .tu _,_,hl=>simp [CX]at hl
 | .un,_,hl=>simp [CX]at hl
 | .no,_,hl=>simp [CX]at hl
end Go.V
namespace Go.V
open Go.RowKit
def Did (b:Base) (S:St) (c:Cc) (w:World) (out:Out) (v:Value) (w':World):Prop:=
 ∃c',Inv b ((S.kp out.ks).ups out.us) w' c'/\Stay S ((S.kp out.ks).ups out.us) c c' w w' (Kok b S c) (Kok b ((S.kp out.ks).ups out.us) c') out.ks/\
  AX ((S.kp out.ks).ups out.us) c' w' (Kok b ((S.kp out.ks).ups out.us) c') out.x v
theorem Did.same {b:Base} {S:St} {c:Cc} {w:World} (hi:Inv b S w c) {x:SV} {v:Value} (hx:AX S c w (Kok b S c) x v):Did b S c w ⟨x,[],[]⟩ v w:=
 ⟨c,hi,⟨λ_ _ _ _ _ h=>h,λ_ _ _ _ h=>h,λ_ _ _ _ h=>h,λ_ _ _ h=>h,KSame.refl _ _⟩,hx⟩
theorem Did.sim {b:Base} {N:Nat} {S:St} {c:Cc} {w w':World} {a:Act} {out:Out} {v:Value} (hs:Slots N S c w (Kok b S c) a) (h:Did b S c w out v w') (d:Option Nat) (hd:∀k,d=some k->k < N)
  (hfx:∀p,p∈b.fx->a.tmps.getD p.1 undef=p.2) (hdx:∀k,d=some k->∀p,p∈b.fx->p.1≠k) :
  Sim b N (S.app d out) (a.put d v) w':=by
 obtain ⟨c',h1,h2,h3⟩:=h;refine⟨c',h1.put (Sa ..) (Se ..) (AjG ..),?_,Agh hfx hdx⟩;show Slots N (((S.kp out.ks).ups out.us).putO d out.x) c' w' (Kok b (((S.kp out.ks).ups out.us).putO d out.x) c') _;rw [EZ (Sa _ d out.x) (Se _ d out.x)];exact h2.slots hs (λi=>by rw [Agl,PO]) d out.x v hd h3 (λl v=>Hs (Sa ..) (Se ..) l v) (λx v=>Ac1 (Sa ..) (Se ..) x v)
section
variable {P:Program} {w:World} {K:Nat->Prop} {S:St} {c:Cc}
theorem X0 (l:List UInt8):(⟨l.toArray⟩:ByteArray).toList=l:=by
 simp
theorem B7 {k:IntKind} {n:Int} {v:Value} (h:LeafOk S c w K (.v (.int k) n) v):v=.int k n:=by
 have:=h;simp only [LeafOk,Rp]at this;simpa using this.1
theorem EK {n:Bool} {v:Value} (h:LeafOk S c w K (.v .bool n) v):v=.bool n:=by
 have:=h;simp only [LeafOk,Rp]at this;simpa using this.1
theorem Aj7 {n:Bool} {v:Value} (h:LeafOk S c w K (.v .er n) v):ErV n v:=by
 have:=h;simp only [LeafOk,Rp]at this;obtain ⟨u,h1,_,h2⟩:=this;simp only [Aqm,and_true]at h1;subst h1;exact h2
theorem Es {n:List UInt8} {v:Value} (h:LeafOk S c w K (.v .str n) v):v=.string ⟨n.toArray⟩:=by
 have:=h;simp only [LeafOk,Rp]at this;simpa using this.1
theorem Db {k:IntKind} {n:Int}:LeafOk S c w K (.v (.int k) n) (.int k n):=by simp [LeafOk,Rp]
theorem Cv {n:Bool}:LeafOk S c w K (.v .bool n) (.bool n):=by simp [LeafOk,Rp]
theorem Rc {n:List UInt8}:LeafOk S c w K (.v .str n) (.string ⟨n.toArray⟩):=by simp [LeafOk,Rp]
theorem CZ {l:Leaf} {v:Value} (h:LeafOk S c w K l v):AX S c w K (.s (.one l)) v:=h
theorem AY {l:Leaf} {v:Value} (h:AX S c w K (.s (.one l)) v):LeafOk S c w K l v:=h
theorem XN (op:BinOp) (t:TypeId) (x y:Operand) {u v:Value} (hu:u.oneCell'=true) (hn:u≠.nilIface):eqGuard op t x y u v=pure ():=by
 cases u <;> first | (simp [Value.oneCell']at hu;done) | (exact absurd rfl hn) | (cases op <;> rfl)
theorem My (d:Nat) (t:TypeId) (a b:Bool) (ht:P.underlying t=some .bool):(Op.equalIn (d+1) t (.bool a) (.bool b)).run P w=.ok (a == b) w:=by
 simp only [Op.equalIn,Sem.run_bind,run_underlying ht,Result.andThen_ok,Sem.run_pure]
theorem Abu (d:Nat) (t:TypeId) (k k':IntKind) (a b:Int) (ht:P.underlying t=some (.int k')):(Op.equalIn (d+1) t (.int k a) (.int k b)).run P w=.ok (a == b) w:=by
 simp only [Op.equalIn,Sem.run_bind,run_underlying ht,Result.andThen_ok,AoU,Sem.run_pure]
theorem AiJ (t:TypeId) (a b:Bool) (ht:P.underlying t=some .bool):(binOp .eql t (.bool a) (.bool b)).run P w=.ok (.bool (a == b)) w:=by
 simp only [binOp,Op.equal,Sem.run_bind,show Op.maxDepth=9999+1 from rfl,My _ _ _ _ ht,Result.andThen_ok,Sem.run_pure]
theorem AiN (t:TypeId) (a b:Bool) (ht:P.underlying t=some .bool):(binOp .neq t (.bool a) (.bool b)).run P w=.ok (.bool (a != b)) w:=by
 simp only [binOp,Op.equal,Sem.run_bind,show Op.maxDepth=9999+1 from rfl,My _ _ _ _ ht,Result.andThen_ok,Sem.run_pure];rfl
theorem AgA {ti:TypeId->TI} (hT:TabOk P ti) {t:TypeId} (ht:ti t=.err):∃ms,P.underlying t=some (.interface ms):=by
 have:=hT t;rw [ht]at this;simp only [OF]at this;split at this
 .rename_i ms hms;exact⟨ms,hms⟩
 .cases this
theorem AaB (d:Nat) (t:TypeId) {ms:Array (String×TypeId)} (hu:P.underlying t=some (.interface ms)) (u:TypeId) (x:Value):(Op.equalIn (d+1) t (.iface u x) .nilIface).run P w=.ok false w:=by
 rw [Op.equalIn];simp [run_underlying hu]
theorem ZL (d:Nat) (t:TypeId) {ms:Array (String×TypeId)} (hu:P.underlying t=some (.interface ms)):(Op.equalIn (d+1) t .nilIface .nilIface).run P w=.ok true w:=by
 rw [Op.equalIn];simp [run_underlying hu]
theorem Ak2 (t:TypeId) (x:Operand) {n:Bool} {v:Value} (hv:ErV n v) {ms:Array (String×TypeId)} (hu:P.underlying t=some (.interface ms)):(do eqGuard .neq t x (.const .nilIface) v .nilIface;binOp .neq t v .nilIface).run P w=.ok (.bool n) w:=by
 cases n with
 | false=>
  simp only [ErV]at hv;subst hv;rw [show eqGuard .neq t x (.const .nilIface) .nilIface .nilIface=pure () by cases x <;> rfl];simp only [Sem.run_bind,Sem.run_pure,Result.andThen_ok,binOp,Op.equal,show Op.maxDepth=9999+1 from rfl,ZL _ _ hu];rfl
 | true=>
  obtain ⟨te,pe,rfl⟩:=hv;rw [show eqGuard .neq t x (.const .nilIface) (.iface te pe) .nilIface=pure () from rfl];simp only [Sem.run_bind,Sem.run_pure,Result.andThen_ok,binOp,Op.equal,show Op.maxDepth=9999+1 from rfl,AaB _ _ hu];rfl
theorem AjR (op:BinOp) (t:TypeId) (x y:Leaf) (u v:Value) (l:Leaf) (hx:LeafOk S c w K x u) (hy:LeafOk S c w K y v) (h:(AaT op x y).ev S=some l)
  (ht:∀a,x=.v .bool a->P.underlying t=some .bool):∃r,(binOp op t u v).run P w=.ok r w/\LeafOk S c w K l r:=by
 unfold AaT at h;split at h
 .rename_i k a k' b';obtain rfl:=B7 hx;obtain rfl:=B7 hy;split at h
  .obtain ⟨h1,h2⟩:=BN h;simp only [decide_eq_true_eq]at h1;simp only [Tr.ev,AoD]at h2;subst h2;have:¬ ((b':Int) < 0):=Int.not_lt.2 h1;exact⟨_,by simp [binOp,Op.shift,this],Db⟩
  .obtain ⟨h1,h2⟩:=BN h;simp only [decide_eq_true_eq]at h1;simp only [Tr.ev,AoD]at h2;subst h2;have:¬ ((b':Int) < 0):=Int.not_lt.2 h1;exact⟨_,by simp [binOp,Op.shift,this],Db⟩
  .rename_i hs1 hs2;split at h
   .rename_i hk;subst hk;split at h
    case h_4 | h_5=>
     obtain ⟨h1,h2⟩:=BN h;simp only [decide_eq_true_eq]at h1;simp only [Tr.ev,AoD]at h2;subst h2;exact⟨_,by simp [binOp,Op.intDiv,h1],Db⟩
    case h_16=>simp [Tr.ev]at h
    all_goals
     simp only [Tr.ev,AoD]at h;subst h
    .exact⟨_,by simp [binOp,Op.intArith] <;> rfl,Db⟩
    .exact⟨_,by simp [binOp,Op.intArith] <;> rfl,Db⟩
    .exact⟨_,by simp [binOp,Op.intArith] <;> rfl,Db⟩
    .exact⟨_,by simp [binOp,Op.intBits] <;> rfl,Db⟩
    .exact⟨_,by simp [binOp,Op.intBits] <;> rfl,Db⟩
    .exact⟨_,by simp [binOp,Op.intBits] <;> rfl,Db⟩
    .exact⟨_,by simp [binOp,Op.intBits] <;> rfl,Db⟩
    .exact⟨_,by simp [binOp,Op.intCmp] <;> rfl,Cv⟩
    .exact⟨_,by simp [binOp,Op.intCmp] <;> rfl,Cv⟩
    .exact⟨_,by simp [binOp,Op.intCmp] <;> rfl,Cv⟩
    .exact⟨_,by simp [binOp,Op.intCmp] <;> rfl,Cv⟩
    .exact⟨_,by simp [binOp,Op.intCmp] <;> rfl,Cv⟩
    .exact⟨_,by simp [binOp,Op.intCmp] <;> rfl,Cv⟩
   .simp [Tr.ev]at h
 .rename_i a b';obtain rfl:=EK hx;obtain rfl:=EK hy;have htt:=ht a rfl;split at h
  .simp only [Tr.ev,AoD]at h;subst h;exact⟨_,AiJ t a b' htt,Cv⟩
  .simp only [Tr.ev,AoD]at h;subst h;exact⟨_,AiN t a b' htt,Cv⟩
  .simp [Tr.ev]at h
 .rename_i a b';obtain rfl:=Es hx;obtain rfl:=Es hy;have e1:=X0 a;have e2:=X0 b';split at h
  .obtain ⟨h1,h2⟩:=BN h;simp only [decide_eq_true_eq]at h1;simp only [Tr.ev,AoD]at h2;subst h2;refine⟨.string (⟨(List.toArray a)⟩++⟨List.toArray b'⟩),?_,?_⟩
   .have:¬ ((9223372036854775807:Int) < (List.length a:Int)+(List.length b':Int)):=O
    simp [binOp,Op.stringOp,ByteArray.size,this]
   .have:(⟨(List.toArray a)⟩++⟨List.toArray b'⟩:ByteArray)=⟨((a:List UInt8)++b').toArray⟩:=by
     apply ByteArray.ext;simp
    rw [this];exact Rc
  .simp only [Tr.ev,AoD]at h;subst h;exact⟨_,by simp [binOp,Op.stringOp,e1,e2] <;> rfl,Cv⟩
  .simp only [Tr.ev,AoD]at h;subst h;exact⟨_,by simp [binOp,Op.stringOp,e1,e2] <;> rfl,Cv⟩
  .simp only [Tr.ev,AoD]at h;subst h;exact⟨_,by simp [binOp,Op.stringOp,e1,e2] <;> rfl,Cv⟩
  .simp only [Tr.ev,AoD]at h;subst h;exact⟨_,by simp [binOp,Op.stringOp,e1,e2] <;> rfl,Cv⟩
  .simp only [Tr.ev,AoD]at h;subst h;exact⟨_,by simp [binOp,Op.stringOp,e1,e2] <;> rfl,Cv⟩
  .simp only [Tr.ev,AoD]at h;subst h;exact⟨_,by simp [binOp,Op.stringOp,e1,e2] <;> rfl,Cv⟩
  .simp [Tr.ev]at h
 .simp [Tr.ev]at h
theorem Ams (op:UnOp) (x:Leaf) (u:Value) (l:Leaf) (hx:LeafOk S c w K x u) (h:(vun op x).ev S=some l):∃r,(Op.unary op u).run P w=.ok r w/\LeafOk S c w K l r:=by
 unfold vun at h;split at h
 .obtain rfl:=B7 hx;split at h
  .simp only [Tr.ev,AoD]at h;subst h;exact⟨_,by simp [Op.unary,Op.intArith] <;> rfl,Db⟩
  .simp only [Tr.ev,AoD]at h;subst h;exact⟨_,by simp [Op.unary,Op.intBits] <;> rfl,Db⟩
  .simp [Tr.ev]at h
 .obtain rfl:=EK hx;split at h
  .simp only [Tr.ev,AoD]at h;subst h;exact⟨_,by simp [Op.unary] <;> rfl,Cv⟩
  .simp [Tr.ev]at h
 .simp [Tr.ev]at h
end
end Go.V
namespace Go.V
open Go.RowKit
theorem V7 {α:Type} (l:List α) (a b n k:Nat) (h:a+b<=n):(((l.drop k).take n).drop a).take b=(l.drop (k+a)).take b:=by
 rw [List.drop_take,Aqz,List.take_take]
 congr 1;omega
theorem VQ {w:World} {K:Nat->Prop} {e:TypeId} {r:Ty} {ys:List r.D} {h v:Value} {F:List Nat} {lo m:Nat} (hp:Rp w K (.sl true e r) ys [h] F) (hnd:F.Nodup) (hw:SM r.size ys.length (some (lo,m)) h v) :
  ∃F',Rp w K (.sl true e r) ((ys.drop lo).take m) [v] F'/\(∀g,g∈F'->g∈F)/\F'.Nodup:=by
 obtain ⟨A,n,cap,A',cap',q,hh,hv,hle,hq,hlo,hnone,hsome⟩:=hw;have hlen:((ys.drop lo).take m).length=min m (ys.length - lo):=by rw [AoQ,Apr]
 simp only [Rp]at hp ⊢;rcases hp with⟨rfl,rfl,h1⟩ | ⟨g,off,c,cs,fr,F0,h1,rfl,hg,hn,hoff,hc,hr⟩
 .injection h1 with h1
  rw [hh]at h1;injection h1 with h2 h3 h4
  obtain ⟨h5,h6⟩:=hnone h2;subst h5 h6;refine⟨[],.inl ⟨Z,rfl,?_⟩,Z,Z⟩;rw [hv];simp
 .injection h1 with h1 _
  rw [hh]at h1;injection h1 with h2 h3 h4
  subst h2 h3 h4;have hA:=hsome _ rfl;subst hA;have hsplit:ys=ys.take lo++((ys.drop lo).take m++(ys.drop lo).drop m):=by rw [Apm,Apm]
  rw [hsplit]at hr;obtain ⟨v1,v23,F1,F23,e1,rfl,r1,r23⟩:=RpL.split hr;obtain ⟨v2,v3,F2,F3,rfl,rfl,r2,r3⟩:=RpL.split r23;have l1:=RpL.len (λx vs F h=>Rp.len r x h) r1;have l2:=RpL.len (λx vs F h=>Rp.len r x h) r2;have l3:=RpL.len (λx vs F h=>Rp.len r x h) r3;refine⟨g::F2,.inr ⟨g,off+q * r.size,cap',cs,fr,F2,?_,rfl,hg,hn,?_,?_,?_⟩,?_,?_⟩
  .rw [hv,hlen,Be]
  .have:(q+cap') * r.size<=cap * r.size:=ApJ _ hq;rw [ApQ]at this;omega
  .rw [hlen];exact hle
  .rw [hlen];rcases Nat.eq_zero_or_pos (min m (ys.length - lo))with hz | hz
   .rw [hz];have hnil:(ys.drop lo).take m=[]:=Ao1 (by rw [hlen,hz]);rw [hnil]at r2 ⊢;simp only [Nat.zero_mul,AqA];exact⟨rfl,r2.2⟩
   .have hqlo:=hlo hz;subst hqlo;rw [Apm,Apm]at e1;have hlo':q < ys.length:=O
    have hl1:v1.length=q * r.size:=by rw [l1,AoQ];congr 1;omega
    have hl2:v2.length=min m (ys.length - q) * r.size:=by rw [l2,hlen]
    have:(cs.toList.drop (off+q * r.size)).take (min m (ys.length - q) * r.size)=v2:=by
     have hb:q * r.size+min m (ys.length - q) * r.size<=ys.length * r.size:=by rw [<- ApQ];exact ApJ _ O
     have:=V7 cs.toList (q * r.size) (min m (ys.length - q) * r.size) (ys.length * r.size) off hb;rw [<- this,e1,<- hl1,List.drop_left,<- hl2,List.take_left]
    rw [this];exact r2
  .intro b hb;rcases AoY.1 hb with rfl | hb
   .simp
   .simp [hb]
  .rw [ApB]at hnd ⊢;refine⟨λhb=>hnd.1 (by simp [hb]),?_⟩;exact(Apc.1 (Apc.1 hnd.2).2.1).1
theorem IT {b:Base} {S:St} {c:Cc} {w:World} (hi:Inv b S w c) {k:Nat} {st:AT} {win:Option (Nat×Nat)} {v:Value} {o:Own} (h:LeafOk S c w (Kok b S c) (.vw k st win) v) (hv:(E6 k st win).ev S=some o) :
  S.ow k≠none/\∃F',Rp w (Kok b S c) (.sl true o.e o.r) o.xs [v] F'/\(∀g,g∈F'->g∈c.F k)/\F'.Nodup:=by
 obtain ⟨o0,e,r,ys,hd,ho,hg,hh,hw⟩:=h;refine⟨by rw [ho];simp,?_⟩;simp only [E6,Tr.ev,ho,Ak,AoG]at hv;obtain ⟨c0,hc0,hv⟩:=hv;rw [Lm]at hc0;rw [hg]at hc0;injection hc0 with hc0
 subst hc0;have hown:=hi.ow k o0 ho;have hndk:=hi.nd k (by rw [ho];simp);obtain ⟨h',F',h1,h2,h3,h9,_⟩:=Rp.reach st _ _ hown hg;rw [hh]at h1;injection h1 with h1
 subst h1;have hnd':F'.Nodup:=h9 hndk;cases win with
 | none=>
  simp only [Tr.ev,AoD]at hv;subst hv;have hw':v=hd:=hw;subst hw';exact⟨F',h2,h3,hnd'⟩
 | some p=>
  obtain ⟨lo,m⟩:=p;simp only [Tr.ev,AoD]at hv;subst hv;obtain ⟨F2,h4,h5,h6⟩:=VQ h2 hnd' hw;exact⟨F2,h4,λg hg=>h3 g (h5 g hg),h6⟩
def OS (win:Option (Nat×Nat)) (n:Nat):Nat:=match win with | none=>n | some (lo,m)=>min m (n - lo)
theorem W0 {b:Base} {S:St} {c:Cc} {w:World} (hi:Inv b S w c) {k:Nat} {st:AT} {win:Option (Nat×Nat)} {v:Value} {o:Own} (h:LeafOk S c w (Kok b S c) (.vw k st win) v) (hv:(E6 k st win).ev S=some o) :
  ∃(o0:Own) (ys:List o.r.D) (A:Option Addr) (cap:Nat),S.ow k=some o0/\(Aw (.sl true o0.e o0.r) o0.xs st).run=some ⟨.sl true o.e o.r,ys⟩/\hdr w (c.hv k) (.sl true o0.e o0.r) st=some (.slice A ys.length cap)/\
   (A=none->ys.length=0/\cap=0)/\SM o.r.size ys.length win (.slice A ys.length cap) v/\o.xs.length=OS win ys.length/\
   Rp w (Kok b S c) (.sl true o0.e o0.r) o0.xs [c.hv k] (c.F k):=by
 obtain ⟨o0,e,r,ys,hd,hk,hg,hh,hw⟩:=h;simp only [E6,Tr.ev,hk,Ak,AoG]at hv;obtain ⟨c0,hc0,hv⟩:=hv;rw [Lm,hg]at hc0;injection hc0 with hc0
 subst hc0;have hown:=hi.ow k o0 hk;obtain ⟨hd',Fd,g1,g2,_⟩:=Rp.reach st _ _ hown hg;rw [hh]at g1;injection g1 with g1
 subst g1;obtain ⟨Ad,capd,rfl,hnd'⟩:=N0 g2;have hz:Ad=none->ys.length=0/\capd=0:=λhA=>⟨by have h8:ys=[]:=(hnd' hA).1;rw [h8];rfl,(hnd' hA).2.1⟩
 cases win with
 | none=>simp only [Tr.ev,AoD]at hv;subst hv;exact⟨o0,ys,Ad,capd,hk,hg,hh,hz,hw,rfl,hown⟩
 | some p=>
  obtain ⟨lo,m⟩:=p;simp only [Tr.ev,AoD]at hv;subst hv;exact⟨o0,ys,Ad,capd,hk,hg,hh,hz,hw,by simp [AoQ,Apr,OS],hown⟩
theorem PA {w:World} {K:Nat->Prop} {e:TypeId} {r:Ty} {xs:List r.D} {v:Value} {F:List Nat} (hp:Rp w K (.sl true e r) xs [v] F) :
  ∃A cap ws F',v=.slice A xs.length cap/\RpL (Rp w K r) xs ws F'/\(∀g,g∈F'->g∈F)/\(A=none->xs=[]/\cap=0)/\
   (xs=[]\/∃ad,A=some ad/\ad.block < w.heap.size/\∀j,j < ws.length->w.cell? (ad.add j)=ws[j]?):=by
 simp only [Rp]at hp;rcases hp with⟨rfl,rfl,h1⟩ | ⟨g,off,cap,cs,fr,F',h1,rfl,hg,hn,hoff,hc,hr⟩
 .injection h1 with h1
  exact⟨none,0,[],[],h1,⟨rfl,rfl⟩,Z,λ_=>⟨rfl,rfl⟩,.inl rfl⟩
 .injection h1 with h1
  refine⟨_,cap,_,F',h1,hr,λb hb=>by simp [hb],λh=>(by cases h),.inr ⟨_,rfl,B5 hg,λj hj=>?_⟩⟩;rw [Be,Bf hg,List.getElem?_take,Apu,<- Ao8];rw [AoQ]at hj;rw [AoJ O]
theorem HG {b:Base} {S:St} {c:Cc} {w:World} (hi:Inv b S w c) {l:Leaf} {v:Value} {o:Own} (h:LeafOk S c w (Kok b S c) l v) (hv:(LU l).ev S=some o) :
  ∃A cap ws F',v=.slice A o.xs.length cap/\RpL (Rp w (Kok b S c) o.r) o.xs ws F'/\
   (o.xs=[]\/∃ad,A=some ad/\ad.block < w.heap.size/\∀j,j < ws.length->w.cell? (ad.add j)=ws[j]?):=by
 unfold LU at hv;split at hv
 .rename_i o' e r xs;simp only [Tr.ev,AoD]at hv;subst hv;cases o' with
  | true=>
   obtain ⟨A,cap,ws,F',h1,h2,_,_,h3⟩:=PA h;exact⟨A,cap,ws,F',h1,h2,h3⟩
  | false=>
   simp only [LeafOk,Rp]at h;obtain ⟨_,A,cap,ws,h1,_,h2,h3⟩:=h;injection h1 with h1
   refine⟨A,cap,ws,[],h1,h2,?_⟩;rcases h3 with h3 | ⟨ad,h4,_,h5,h6⟩
   .exact .inl h3
   .exact .inr ⟨ad,h4,h5,h6⟩
 .obtain ⟨_,F',h1,_,_⟩:=IT hi h hv;obtain ⟨A,cap,ws,F2,h2,h3,_,_,h4⟩:=PA h1;exact⟨A,cap,ws,F2,h2,h3,h4⟩
 .simp [Tr.ev]at hv
theorem AmA {b:Base} {S:St} {c:Cc} {w:World} (hi:Inv b S w c) {t:TI} {l:Leaf} {v:Value} {n:Nat} (h:LeafOk S c w (Kok b S c) l v) (hv:(AiX t l).ev S=some n) :
  (∃s:ByteArray,v=.string s/\s.size=n/\t.isStr=true)\/(t.isSl=true/\∃A cap,v=.slice A n cap):=by
 unfold AiX at hv;split at hv
 .split at hv
  .simp only [Tr.ev,AoD]at hv;subst hv;rw [Es h];exact .inl ⟨_,rfl,by simp [ByteArray.size],by assumption⟩
  .simp [Tr.ev]at hv
 .rename_i o e r xs;split at hv
  .simp only [Tr.ev,AoD]at hv;subst hv;obtain ⟨A,cap,ws,F',h1,_⟩:=HG (o:=⟨e,r,xs⟩) hi h (by simp [LU,Tr.ev]);exact .inr ⟨by assumption,A,cap,h1⟩
  .simp [Tr.ev]at hv
 .split at hv
  .simp only [Ak,AoG,Tr.ev,AoD]at hv;obtain ⟨o,ho,rfl⟩:=hv;obtain ⟨A,cap,ws,F',h1,_⟩:=HG hi h (by simpa [LU] using ho);exact .inr ⟨by assumption,A,cap,h1⟩
  .simp [Tr.ev]at hv
 .split at hv
  .simp only [Tr.ev,AoD]at hv;subst hv;rw [show v=.slice none 0 0 from h];exact .inr ⟨by assumption,none,0,rfl⟩
  .simp [Tr.ev]at hv
 .simp [Tr.ev]at hv
theorem AjJ {size len:Nat} {win:Option (Nat×Nat)} {h v:Value} {A:Option Addr} {n cap:Nat} (hl:h=.slice A len cap/\(A=none->len=0/\cap=0)) (hv:SM size len win h v) {A1:Option Addr} {cap1:Nat}
  (hv1:v=.slice A1 n cap1) {lo m mx:Nat} (hle:lo+m<=n) (hmx:lo+m<=mx) (hcap:mx<=cap1) (A2:Option Addr) (hA:A2=if mx=lo then A1 else A1.map (·.add (lo * size)))
  (hlen:∀p,win=some p->n=min p.2 (len - p.1)) (hlen0:win=none->n=len):SM size len (Aft win lo m) h (.slice A2 m (mx - lo)):=by
 subst hA;obtain ⟨rfl,hnone⟩:=hl;cases win with
 | none=>
  have hv':v=.slice A len cap:=hv;rw [hv']at hv1;injection hv1 with e1 e2 e3
  subst e1 e2 e3;refine⟨A,len,cap,(if mx=lo then A else A.map (·.add (lo * size))),mx - lo,if mx=lo then 0 else lo,rfl,?_,?_,?_,?_,?_,?_⟩
  .congr 1;omega
  .have:min m (len - lo)=m:=O
   omega
  .split <;> omega
  .intro hz;rw [AoH O]
  .intro hn;obtain ⟨h1,h2⟩:=hnone hn;subst hn;refine⟨?_,O⟩;split <;> rfl
  .intro a ha;subst ha;split
   .simp [Addr.add]
   .rfl
 | some p=>
  obtain ⟨l0,m0⟩:=p;obtain ⟨A0,n0,cap0,A',cap',q,e0,e1,h1,h2,h3,h4,h5⟩:=hv;injection e0 with f1 f2 f3
  subst f1 f2 f3;rw [e1]at hv1;injection hv1 with f1 f2 f3
  subst f1 f3;have hn:=hlen _ rfl;simp only at hn;refine⟨A,len,cap,(if mx=lo then A' else A'.map (·.add (lo * size))),mx - lo,if mx=lo then q else q+lo,rfl,?_,?_,?_,?_,?_,?_⟩
  .congr 1;omega
  .have:min m (len - (l0+lo))=m:=O
   omega
  .split <;> omega
  .intro hz;rw [AoH O];have:=h3 O;omega
  .intro hA;obtain ⟨g1,g2⟩:=h4 hA;refine⟨?_,O⟩;subst g1;split <;> rfl
  .intro a ha;have:=h5 a ha;subst this;split
   .rfl
   .simp only [Apz,add_add,AoD]
    congr 1;rw [ApQ]
end Go.V
namespace Go.V
open Go.RowKit
section
variable {P:Program} {ti:TypeId->TI} {w:World}
theorem AhL {t:TI} (h:t.isStr=true):t=.cell .str:=by
 unfold TI.isStr at h;split at h
 .rfl
 .cases h
theorem AfD {t:TI} {n:Nat} (h:t.isSlOf n=true):∃e ts bytes,t=.slice e ts bytes/\ts.length=n:=by
 unfold TI.isSlOf at h;split at h
 .exact⟨_,_,_,rfl,by simpa using h⟩
 .cases h
theorem Akc {t:TI} (h:t.isSl=true):∃e ts bytes,t=.slice e ts bytes:=by
 unfold TI.isSl at h;split at h
 .exact⟨_,_,_,rfl⟩
 .cases h
theorem NJ (hT:TabOk P ti) {t:TypeId} (h:(ti t).isStr=true):P.underlying t=some .string:=by
 obtain ⟨⟨d,hd,he⟩,_⟩:=hT.cell (AhL h);rw [hd];cases d <;> first | rfl | (simp [BY]at he;done)
theorem PE:∀(ts:List Ty),(∀t∈ts,t.size=1)->(AW ts).size=ts.length
 | [],_=>rfl
 | [t],h=>by simpa [AW] using h t Z
 | t::u::ts,h=>by
  have:=PE (u::ts) λx hx=>h x (by simp [hx])
  simp only [AW,Ty.size,h t Z,this,AoV];omega
theorem MB (hT:TabOk P ti) {t:TypeId} {n:Nat} (h:(ti t).isSlOf n=true):∃e i,P.underlying t=some (.slice e)/\P.info? e=some i/\i.size=n:=by
 obtain ⟨e,ts,bytes,he,hn⟩:=AfD h;obtain ⟨h1,_,_,_,i,z,h2,h3,_⟩:=hT.slice he;exact⟨e,i,h1,h2,by rw [h3,hn]⟩
theorem K9 (hT:TabOk P ti) {t:TypeId} (h:(ti t).isSl=true):∃e i,P.underlying t=some (.slice e)/\P.info? e=some i:=by
 obtain ⟨e,ts,bytes,he⟩:=Akc h;obtain ⟨h1,_,_,_,i,z,h2,_⟩:=hT.slice he;exact⟨e,i,h1,h2⟩
theorem TY {N:Nat} {S:St} {c:Cc} {a:Act} {K:Nat->Prop} (hs:Slots N S c w K a) {x:Option Operand} {d:Nat} {n:Int} (h:(SI (x.map (Cu S)) d).ev S=some n) :
  (x=none/\n=d)\/∃y k,x=some y/\a.eval y=.int k n:=by
 cases x with
 | none=>simp only [Option.map_none,SI,Tr.ev,AoD]at h;exact .inl ⟨rfl,h.symm⟩
 | some y=>
  simp only [Apz]at h;have hy:=AI hs y;unfold SI at h;split at h
  .simp at *
  .rename_i k n' he;injection he with he
   rw [he]at hy;simp only [Tr.ev,AoD]at h;subst h;have hy':LeafOk S c w K (.v (.int k) n') (a.eval y):=hy;exact .inr ⟨y,k,rfl,B7 hy'⟩
  .simp [Tr.ev]at h
theorem Nr {N:Nat} {S:St} {c:Cc} {a:Act} {K:Nat->Prop} (hs:Slots N S c w K a) {len:Nat} {lo hi mx:Option Operand} {f:Nat->Nat->Tr SV} {r:SV}
  (h:(Mf len (lo.map (Cu S)) (hi.map (Cu S)) (mx.map (Cu S)) f).ev S=some r) (isS:Bool) (cap:Nat) (hcap:len<=cap) (hmx:isS=false->mx=none) :
  ∃l n m,(f l n).ev S=some r/\l+n<=len/\l+n<=m/\m<=cap/\(mx=none->m=cap)/\(Instr.sliceBounds isS len cap (lo.map a.eval) (hi.map a.eval) (mx.map a.eval)).run P w=.ok (l,l+n,m) w:=by
 simp only [Mf,Ak,AoG]at h;obtain ⟨l,hl,hh,hhh,m,hm,g0⟩:=h;obtain ⟨c1,g1⟩:=BN g0;obtain ⟨c2,g2⟩:=BN g1;obtain ⟨c3,g3⟩:=BN g2;obtain ⟨c4,g4⟩:=BN g3;obtain ⟨c5,g5⟩:=BN g4;simp only [decide_eq_true_eq]at c2 c3 c4 c5;have hlo:=TY hs hl;have hhi:=TY hs hhh;have hmm:=TY hs hm;obtain ⟨l',rfl⟩:=AoX c2;obtain ⟨h',rfl⟩:=AoX (show(0:Int)<=hh by omega);obtain ⟨m',rfl⟩:=AoX (show(0:Int)<=m by omega);simp only [AoE]at g5;have c3':l'<=h':=O
 have c4':h'<=m':=O
 have c5':m'<=len:=O
 have e:l' + (h' - l')=h':=O
 have s1:∀(x:Operand) (k:IntKind) (i y:Nat) (code:BoundsCode),a.eval x=.int k (i:Int)->i<=y->(Instr.sliceBound (a.eval x) y code).run P w=.ok i w:=by
  intro x k i y code hx hiy;rw [hx];simp only [Instr.sliceBound,asIntOf,Sem.run_bind,Sem.run_pure,Result.andThen_ok,Sem.run_ite];rw [AoJ ⟨O,O⟩];simp
 rcases hmm with⟨rfl,hm0⟩ | ⟨my,mk,rfl,hme⟩
 .refine⟨l',h' - l',cap,g5,O,O,Ao4 _,λ_=>rfl,?_⟩;rw [e];rcases hhi with⟨rfl,hh0⟩ | ⟨hy,hk,rfl,hhe⟩
  .obtain rfl:h'=len:=O
   rcases hlo with⟨rfl,hl0⟩ | ⟨ly,lk,rfl,hle⟩
   .obtain rfl:l'=0:=O
    simp [Instr.sliceBounds]
   .simp [Instr.sliceBounds,s1 ly lk l' _ _ hle c3']
  .rcases hlo with⟨rfl,hl0⟩ | ⟨ly,lk,rfl,hle⟩
   .obtain rfl:l'=0:=O
    cases isS <;> simp [Instr.sliceBounds,s1 hy hk h' _ _ hhe (O:h'<=cap)]
   .cases isS <;> simp [Instr.sliceBounds,s1 hy hk h' _ _ hhe (O:h'<=cap),s1 ly lk l' _ _ hle c3']
 .rcases hhi with⟨rfl,hh0⟩ | ⟨hy,hk,rfl,hhe⟩
  .simp at c1
  .refine⟨l',h' - l',m',g5,O,O,O,λhx=>(by cases hx),?_⟩;rw [e];cases isS with
   | false=>cases hmx rfl
   | true=>
    rcases hlo with⟨rfl,hl0⟩ | ⟨ly,lk,rfl,hle⟩
    .obtain rfl:l'=0:=O
     simp [Instr.sliceBounds,s1 my mk m' _ _ hme (O:m'<=cap),s1 hy hk h' _ _ hhe c4']
    .simp [Instr.sliceBounds,s1 my mk m' _ _ hme (O:m'<=cap),s1 hy hk h' _ _ hhe c4',s1 ly lk l' _ _ hle c3']
theorem Abz (s:List UInt8) (l n:Nat) (_h:l+n<=s.length):(⟨s.toArray⟩:ByteArray).extract l (l+n)=⟨((s.drop l).take n).toArray⟩:=by
 apply ByteArray.ext;simp only [ByteArray.data_extract];apply Array.ext';simp [List.extract_eq_take_drop]
theorem Ajh {b:Base} {N:Nat} {S:St} {c:Cc} {a:Act} (hT:TabOk P ti) (hi:Inv b S w c) (hs:Slots N S c w (Kok b S c) a) {t:TypeId} {x:Leaf} {v:Value} {lo hi' mx:Option Operand} {r:SV}
  (hx:LeafOk S c w (Kok b S c) x v) (h:(Aab (ti t) x (lo.map (Cu S)) (hi'.map (Cu S)) (mx.map (Cu S))).ev S=some r) :
  ∃u,(Instr.sliceAt t v (lo.map a.eval) (hi'.map a.eval) (mx.map a.eval)).run P w=.ok u w/\AX S c w (Kok b S c) r u:=by
 unfold Aab at h;split at h
 .rename_i s;split at h
  .rename_i hc;simp only [AoI,Option.isNone_iff_eq_none,Option.map_eq_none_iff]at hc;obtain ⟨hc,rfl⟩:=hc;obtain rfl:=Es hx;have hu:=NJ hT hc;obtain ⟨l,n,m,h1,h2,h3,h4,h5,h6⟩:=Nr (P:=P) hs h false s.length (Ao4 _) (λ_=>rfl);simp only [Tr.ev,AoD]at h1;subst h1;simp only [Option.map_none]at h6;refine⟨.string ⟨((s.drop l).take n).toArray⟩,?_,CZ Rc⟩;simp only [Instr.sliceAt,Instr.slice,Sem.run_bind,run_underlying hu,Result.andThen_ok,Option.map_none,Option.isSome_none,AoO,Apa];have hsz:(ByteArray.mk s.toArray).size=s.length:=by simp [ByteArray.size]
   simp [hsz,h6,Abz s l n h2]
  .simp [Tr.ev]at h
 .rename_i e r' xs;split at h
  .rename_i hc;obtain ⟨e',i,hu,hie,hsz⟩:=MB hT hc;simp only [LeafOk,Rp]at hx;obtain ⟨_,A,cap,ws,hv,hcap,hr,hxs⟩:=hx;injection hv with hv
   subst hv;obtain ⟨l,n,m,h1,h2,h3,h4,h5,h6⟩:=Nr (P:=P) hs h true cap hcap (λhx=>(by cases hx));simp only [Tr.ev,AoD]at h1;subst h1;refine⟨.slice (if m=l then A else A.map (·.add (l * r'.size))) n (m - l),?_,?_⟩
   .simp only [Instr.sliceAt,Instr.slice,Sem.run_bind,run_underlying hu,Result.andThen_ok,h6,sizeOf,typeInfo,Sem.run_pure];simp [hie,hsz,Nat.add_sub_cancel_left]
   .have hlen:((xs.drop l).take n).length=n:=by rw [AoQ,Apr];omega
    have hsplit:xs=xs.take l++((xs.drop l).take n++(xs.drop l).drop n):=by rw [Apm,Apm]
    rw [hsplit]at hr;obtain ⟨v1,v23,F1,F23,e1,eF,r1,r23⟩:=RpL.split hr;obtain ⟨v2,v3,F2,F3,rfl,rfl,r2,r3⟩:=RpL.split r23;have l1:=RpL.len (λx vs F h=>Rp.len r' x h) r1;have hF2:F2=[]:=by
     have:=congrArg List.length eF;simp only [Apd,AoM]at this;exact Ao1 O
    subst hF2;simp only [AX,S1Ok,LeafOk,Rp];refine⟨trivial,_,_,v2,by rw [hlen],by rw [hlen];omega,r2,?_⟩;rcases Nat.eq_zero_or_pos n with hz | hz
    .left;exact Ao1 (by rw [hlen,hz])
    .right;rcases hxs with rfl | ⟨ad,rfl,k1,k2,k3⟩
     .simp at h2;omega
     .refine⟨ad.add (l * r'.size),by rw [AoH O];rfl,by rw [DG];exact k1,by rw [DG];exact k2,λj hj=>?_⟩;rw [add_add,k3 _ (by rw [e1];simp only [AoM];rw [l1,AoQ,AqD O];omega),e1];have:l * r'.size=v1.length:=by rw [l1,AoQ,AqD O]
      rw [this,Apw O,ApH O]
      congr 1;omega
  .simp [Tr.ev]at h
 .rename_i k st win;simp only [Ak,AoG]at h;obtain ⟨o,ho,h⟩:=h;split at h
  .rename_i hc;obtain ⟨e',i,hu,hie,hsz⟩:=MB hT hc;obtain ⟨hne,F',hp,hsub,hnd⟩:=IT hi hx ho;obtain ⟨A,cap,ws,F2,rfl,hr,_,hnone,hxs⟩:=PA hp;have hcap:o.xs.length<=cap:=by
    simp only [Rp]at hp;rcases hp with⟨h1,_⟩ | ⟨g,off,c1,cs,fr,F0,h1,_,_,_,_,h2,_⟩
    .rw [h1];simp
    .injection h1 with h1 _;injection h1 with _ _ h1;omega
   obtain ⟨l,n,m,h1,h2,h3,h4,h5,h6⟩:=Nr (P:=P) hs h true cap hcap (λhx=>(by cases hx));simp only [Tr.ev,AoD]at h1;subst h1;refine⟨.slice (if m=l then A else A.map (·.add (l * o.r.size))) n (m - l),?_,?_⟩
   .simp only [Instr.sliceAt,Instr.slice,Sem.run_bind,run_underlying hu,Result.andThen_ok,h6,sizeOf,typeInfo,Sem.run_pure];simp [hie,hsz,Nat.add_sub_cancel_left]
   .obtain ⟨o0,ys,Ad,capd,hk,hg,hh,hz,hw,hl,_⟩:=W0 hi hx ho;refine⟨o0,_,o.r,ys,_,hk,hg,hh,?_⟩;refine AjJ (n:=o.xs.length) ⟨rfl,hz⟩ hw rfl h2 h3 h4 _ rfl ?_ ?_
    .intro p hp';subst hp';exact hl
    .intro hp';subst hp';exact hl
  .simp [Tr.ev]at h
 .split at h
  .rename_i hc;obtain ⟨e',i,hu,hie⟩:=K9 hT hc;obtain rfl:v=.slice none 0 0:=hx;obtain ⟨l,n,m,h1,h2,h3,h4,h5,h6⟩:=Nr (P:=P) hs h true 0 (Ao4 _) (λhx=>(by cases hx));simp only [Tr.ev,AoD]at h1;subst h1;obtain rfl:l=0:=O
   obtain rfl:n=0:=O
   obtain rfl:m=0:=O
   refine⟨.slice none 0 0,?_,rfl⟩;simp only [Instr.sliceAt,Instr.slice,Sem.run_bind,run_underlying hu,Result.andThen_ok,h6,sizeOf,typeInfo,Sem.run_pure];simp [hie]
  .simp [Tr.ev]at h
 .simp [Tr.ev]at h
theorem T9 {b:Base} {S:St} {c:Cc} (hT:TabOk P ti) (hi:Inv b S w c) {t:TypeId} {x:Leaf} {v:Value} {k:IntKind} {i:Int} {r:SV}
  (hx:LeafOk S c w (Kok b S c) x v) (h:(Abg (ti t) x i).ev S=some r) :
  ∃u,(Instr.indexAt t v (.int k i)).run P w=.ok u w/\AX S c w (Kok b S c) r u:=by
 unfold Abg at h
 replace h:=BN h
 obtain ⟨c1,h⟩:=h;simp only [decide_eq_true_eq]at c1;obtain ⟨j,rfl⟩:=AoX c1;simp only [AoE]at h;split at h
 .rename_i e r' xs;split at h
  .rename_i hc;obtain ⟨e',ie,hu,hie,hsz⟩:=MB hT hc;simp only [Tr.ev,AoG,AoD]at h;obtain ⟨row,hrow,rfl⟩:=h;have hj:j < xs.length:=(Apt.1 hrow).1;simp only [LeafOk,Rp]at hx;obtain ⟨_,A,cap,ws,hv,hcap,hr,hxs⟩:=hx;injection hv with hv
   subst hv;rcases hxs with rfl | ⟨ad,rfl,k1,k2,k3⟩
   .simp at hj
   obtain ⟨v1,u,v2,F1,G,F2,rfl,l1,hF,hp,_,_⟩:=RpL.get (λx vs F h=>Rp.len r' x h) hr hrow;have hG:G=[]:=by
    have:=congrArg List.length hF;simp only [Apd,AoM]at this;exact Ao1 O
   subst hG;refine⟨.pointer (some (ad.add (j * r'.size))),?_,⟨ad.add (j * r'.size),u,by simp [Addr.add],hp,by rw [DG];exact k1,by rw [DG];exact k2,λm hm=>?_⟩⟩
   .have hlt:(j:Int) < (List.length xs:Int):=O
    simp only [Instr.indexAt,run_underlying hu,asIntOf,sizeOf,typeInfo,hie,Sem.run_bind,Result.andThen_ok,Sem.run_pure,Sem.run_ite,run_program];rw [AoJ ⟨c1,hlt⟩];simp [hsz]
   .rw [add_add,k3 _ (by simp only [AoM];omega)];rw [Apw O,ApH O]
    congr 1;omega
  .simp [Tr.ev]at h
 .rename_i k' st win;simp only [Ak,AoG]at h;obtain ⟨o,ho,h⟩:=h;split at h
  .rename_i hc;obtain ⟨e',ie,hu,hie,hsz⟩:=MB hT hc
   replace h:=BN h
   obtain ⟨c2,h⟩:=h;simp only [decide_eq_true_eq]at c2;have hj:j < o.xs.length:=O
   simp only [Tr.ev,AoD]at h;subst h;obtain ⟨o0,ys,Ad,capd,hk,hg,hh,hz,hw,hl,hown⟩:=W0 hi hx ho;have hval:∃a0 cap',v=.slice (some (a0.add (YI win * o.r.size))) o.xs.length cap'/\Ad=some a0:=by
    cases Ad with
    | none=>
     have h8:=(hz rfl).1;rw [h8]at hl;cases win with
     | none=>simp only [OS]at hl;omega
     | some p=>obtain ⟨lo,m'⟩:=p;simp only [OS]at hl;omega
    | some a0=>
     cases win with
     | none=>
      have hw':v=.slice (some a0) ys.length capd:=hw;exact⟨a0,capd,by rw [hw',hl];simp [Addr.add,YI,OS],rfl⟩
     | some p=>
      obtain ⟨lo,m'⟩:=p;obtain ⟨A0,n0,cap0,A',cap',q,e0,e1,h1,h2,h3,h4,h5⟩:=hw;injection e0 with f1 f2 f3
      subst f1;have:=h5 a0 rfl;subst this;simp only [OS]at hl;have hq:q=lo:=h3 O;subst hq;exact⟨a0,cap',by rw [e1,hl];rfl,rfl⟩
   obtain ⟨a0,cap',rfl,rfl⟩:=hval;refine⟨.pointer (some ((a0.add (YI win * o.r.size)).add (j * o.r.size))),?_,?_⟩
   .have hlt:(j:Int) < (List.length o.xs:Int):=O
    simp only [Instr.indexAt,run_underlying hu,asIntOf,sizeOf,typeInfo,hie,Sem.run_bind,Result.andThen_ok,Sem.run_pure,Sem.run_ite,run_program];rw [AoJ ⟨c1,hlt⟩];simp [hsz]
   .refine⟨o0,_,hk,?_,rfl,st,_,_,rfl,hg⟩;rw [add_add,<- ApQ];exact Aac st _ hown hg hh
  .simp [Tr.ev]at h
 .simp [Tr.ev]at h
end
end Go.V
namespace Go.V
open Go.RowKit
section
variable {P:Program} {ti:TypeId->TI}
theorem XJ {x:TI} {ts:List Ty} (h:x.cells=some ts):x.vcells=some ts:=by
 cases x with
 | struct fs row eq=>
  simp only [TI.cells]at h;split at h
  .cases h
  .exact h
 | ptr e=>cases h
 | map=>cases h
 | _=>exact h
theorem Kz (hT:TabOk P ti) {t:TypeId} {ts:List Ty} (h:(ti t).vcells=some ts):∃i,P.info? t=some i/\i.size=ts.length/\(∃d,P.underlying t=some d/\IB d=(ti t).isAgg)/\
  ((ti t).isAgg=false->∃u,ts=[u])/\∃z,i.zero=some z/\z.cells.toList=ts.map By/\∀u∈ts,u.size=1/\∀a b,u≠.pair a b:=by
 cases ht:ti t with
 | cell u=>
  rw [ht]at h;simp only [TI.vcells,TI.cells,AoD]at h;subst h;obtain ⟨⟨d,hd,hdd⟩,i,hi,h1,h2,h3⟩:=hT.cell ht;refine⟨i,hi,h1,⟨d,hd,?_⟩,λ_=>⟨u,rfl⟩,_,h2,?_,?_⟩
  .cases u <;> cases d <;> first | rfl | (simp [BY]at hdd;done)
  .cases u <;> first | rfl | (simp [Ty.size]at h3;done) | (cases d <;> simp [BY]at hdd)
  .intro v hv;simp only [AoZ]at hv;subst hv;refine⟨h3,?_⟩;cases v <;> cases d <;> first | (simp [BY]at hdd;done) | simp
 | slice e ts' bytes=>
  rw [ht]at h;simp only [TI.vcells,TI.cells,AoD]at h;subst h;obtain ⟨h1,⟨i,hi,h2,h3⟩,_⟩:=hT.slice ht;exact⟨i,hi,h2,⟨_,h1,rfl⟩,λ_=>⟨_,rfl⟩,_,h3,rfl,by simp [Ty.size]⟩
 | struct fs row eq=>
  rw [ht]at h;simp only [TI.vcells,AoD]at h;subst h;obtain ⟨fields,h1,_,_,i,hi,h2,h3,h4⟩:=hT.struct ht;exact⟨i,hi,h2,⟨_,h1,rfl⟩,λh=>(by cases h),_,h3,by rfl,h4⟩
 | ptr e=>
  rw [ht]at h;simp only [TI.vcells,AoD]at h;subst h;obtain ⟨h1,i,hi,h2,h3⟩:=hT.ptr ht;exact⟨i,hi,h2,⟨_,h1,rfl⟩,λ_=>⟨_,rfl⟩,_,h3,rfl,by simp [Ty.size]⟩
 | map=>
  rw [ht]at h;simp only [TI.vcells,AoD]at h;subst h;obtain ⟨⟨k,e,h1,_⟩,i,hi,h2,h3⟩:=hT.map ht;exact⟨i,hi,h2,⟨_,h1,rfl⟩,λ_=>⟨_,rfl⟩,_,h3,rfl,by simp [Ty.size]⟩
 | err=>rw [ht]at h;cases h
 | other=>rw [ht]at h;cases h
theorem MZ {t:TypeId} {i:TypeInfo} (h:P.info? t=some i) (w:World):(sizeOf t).run P w=.ok i.size w:=by simp [sizeOf,typeInfo,h]
theorem Ub {t:TypeId} {i:TypeInfo} {z:Value} (h:P.info? t=some i) (hz:i.zero=some z) (w:World):(zeroValue t).run P w=.ok z w:=by simp [zeroValue,typeInfo,h,hz]
theorem Lo {t:TypeId} {d:TypeDesc} (h:P.underlying t=some d) (w:World):(isAgg t).run P w=.ok (IB d) w:=by
 unfold isAgg;simp only [Sem.run_bind,run_underlying h,Result.andThen_ok];cases d <;> rfl
theorem Ob {S:St} {c:Cc} {w:World} {K:Nat->Prop}:∀(ts:List Ty),(∀u∈ts,u.size=1/\∀a b,u≠.pair a b)->All2 (LeafOk S c w K) (ts.map Eo) (ts.map By)
 | [],_=>.nil
 | t::ts,h=>by
  refine .cons ?_ (Ob ts λu hu=>h u (by simp [hu]));have:=h t Z;cases t with
  | pair a b=>grind
  | unit=>simp [Ty.size]at this
  | int k=>simp [Eo,By,LeafOk,Rp,Ty.zero]
  | bool=>simp [Eo,By,LeafOk,Rp,Ty.zero]
  | er=>simp [Eo,By,LeafOk,Rp,Ty.zero,ErV]
  | lp=>simp [Ty.size]at this
  | mh=>simp [Eo,By,LeafOk,Rp,Ty.zero]
  | mp=>simp [Ty.size]at this
  | str=>simp [Eo,By,LeafOk,Rp,Ty.zero]
  | sl o e r=>rfl
  | pt t=>rfl
theorem Vq {b:Base} {S:St} {c:Cc} {w:World} (hi:Inv b S w c) (d:Nat) (hdn:d < b.n1) (row:List Leaf) (vs:List Value) (e:TypeId) (hrow:All2 (LeafOk S c w (Kok b S c)) row vs) (hkp:row.map (Leaf.kp [.m d])=row) (hne:row≠[]) :
  Did b S c w ⟨.s (.pl d 0),[.m d],[.ms d row]⟩ (.pointer (some ⟨w.heap.size,0,none⟩)) { w with heap:=w.heap.push (.cells vs.toArray e) }:=by
 obtain ⟨c',h1,h2,h3⟩:=hi.newMem d hdn row vs e rfl hrow hkp hne;exact⟨c',h2,h3,row.length,by simp [St.ups,St.up,Ac8 hrow],by grind⟩
theorem Uw (t:TypeId) (v:Value) (w:World):(newVar t v).run P w=.ok ⟨w.heap.size,0,none⟩ { w with heap:=w.heap.push (.cells v.cells t) }:=by
 rfl
theorem Aiq {b:Base} {S:St} {c:Cc} {w:World} (hT:TabOk P ti) (hi:Inv b S w c) {t:TypeId} {ts:List Ty} (h:(ti t).vcells=some ts) (hne:ts≠[]) (d:Nat) (hdn:d < b.n1) :
  ∃v w',(Instr.alloc t true (.tuple #[])).run P w=.ok v w'/\Did b S c w ⟨.s (.pl d 0),[.m d],[.ms d (ts.map Eo)]⟩ v w':=by
 obtain ⟨i,h1,_,_,_,z,h2,h3,h4⟩:=Kz hT h;refine⟨_,_,?_,Vq hi d hdn _ (ts.map By) t (Ob ts h4) (by rw [ApF];exact Aps λu _=>by cases u <;> rfl) (by simp_all)⟩;simp only [Instr.alloc,Sem.run_bind,Ub h1 h2,Result.andThen_ok,Uw,Sem.run_pure];rw [<- h3]
theorem AkJ {S:St} {c:Cc} {w:World} {K:Nat->Prop} (ks:List Kl) {l:Leaf} {v:Value} (h:LeafOk S c w K l v):LeafOk S c w K (l.kp ks) v:=by
 cases l with
 | vw k st win=>
  simp only [Leaf.kp];split
  .exact h
  .trivial
 | p k off=>
  simp only [Leaf.kp];split
  .exact h
  .trivial
 | mh k=>
  simp only [Leaf.kp];split
  .exact h
  .trivial
 | _=>exact h
theorem Aij (ks:List Kl) (l:Leaf):(l.kp ks).kp ks=l.kp ks:=by
 cases l with
 | vw k st win=>
  by_cases h:ks.all (λx=>x.okV k st)=true
  .simp only [Leaf.kp,h,AoU]
  .simp only [Leaf.kp,h];rfl
 | p k off=>
  by_cases h:ks.all (λx=>x.okM k)=true
  .simp only [Leaf.kp,h,AoU]
  .simp only [Leaf.kp,h];rfl
 | mh k=>
  by_cases h:ks.all (λx=>x.okM k)=true
  .simp only [Leaf.kp,h,AoU]
  .simp only [Leaf.kp,h];rfl
 | _=>rfl
theorem Amc {b:Base} {S:St} {c:Cc} {w:World} (hi:Inv b S w c) {t:TypeId} {x:SV} {v:Value} {ls:List Leaf} (hx:AX S c w (Kok b S c) x v) (hl:CX x=some ls) (hne:ls≠[]) (d:Nat) (hdn:d < b.n1) :
  ∃u w',(Instr.box t v).run P w=.ok u w'/\Did b S c w ⟨.s (.pl d 0),[.m d],[.ms d (ls.map (Leaf.kp [.m d]))]⟩ u w':=by
 obtain ⟨vs,h1,h2,h3⟩:=Jj hi hx hl;refine⟨_,_,?_,Vq hi d hdn _ vs t (h2.map λl v h=>AkJ [.m d] h) (by rw [ApF];exact Aps λl _=>Aij _ l) (by simp_all)⟩;simp only [Instr.box,Sem.run_bind,Uw,Result.andThen_ok,Sem.run_pure,h1]
theorem Oo:∀(t:Ty) (x:t.D) (j:Nat) {c},Ax t x j=some c->(∀a b,c.1≠.pair a b)/\c.1≠.unit
 | .pair a b,(x,y),j,c,h=>by
  simp only [Ax]at h;split at h
  .exact Oo a x j h
  .exact Oo b y _ h
 | .unit,_,_,_,h=>by simp [Ax]at h
 | .int _,_,0,_,h=>by simp only [Ax,AoD]at h;subst h;simp
 | .bool,_,0,_,h=>by simp only [Ax,AoD]at h;subst h;simp
 | .er,_,0,_,h=>by simp only [Ax,AoD]at h;subst h;simp
 | .lp,_,_,_,h=>by simp [Ax]at h
 | .mh,_,0,_,h=>by simp only [Ax,AoD]at h;subst h;simp
 | .mh,_,_+1,_,h=>by simp [Ax]at h
 | .mp,_,_,_,h=>by simp [Ax]at h
 | .str,_,0,_,h=>by simp only [Ax,AoD]at h;subst h;simp
 | .pt _,_,0,_,h=>by simp only [Ax,AoD]at h;subst h;simp
 | .sl _ _ _,_,0,_,h=>by simp only [Ax,AoD]at h;subst h;simp
 | .int _,_,_+1,_,h=>by simp [Ax]at h
 | .bool,_,_+1,_,h=>by simp [Ax]at h
 | .er,_,_+1,_,h=>by simp [Ax]at h
 | .str,_,_+1,_,h=>by simp [Ax]at h
 | .pt _,_,_+1,_,h=>by simp [Ax]at h
 | .sl _ _ _,_,_+1,_,h=>by simp [Ax]at h
theorem XR:∀(st:AT) (t:Ty) (x:t.D) {c:(u:Ty)×u.D},st≠[]->(Aw t x st).run=some c->(∀a b,c.1≠.pair a b)/\c.1≠.unit
 | [],_,_,_,hne,_=>absurd rfl hne
 | (i,j)::ps,t,x,c,_,h=>by
  match t,x,h with
  | .sl true e r,xs,h=>
   obtain ⟨row,d,hrow,hd,hrest⟩:=DT h;cases ps with
   | nil=>simp only [Aw,Tr.run,AoD]at hrest;subst hrest;exact Oo r row j hd
   | cons p ps=>exact XR (p::ps) d.1 d.2 Z hrest
  | .sl false _ _,_,hg=>simp [Aw,Tr.run]at hg
  | .int _,_,hg=>simp [Aw,Tr.run]at hg
  | .bool,_,hg=>simp [Aw,Tr.run]at hg
  | .er,_,hg=>simp [Aw,Tr.run]at hg
  | .lp,_,hg=>simp [Aw,Tr.run]at hg
  | .mh,_,hg=>simp [Aw,Tr.run]at hg
  | .mp,_,hg=>simp [Aw,Tr.run]at hg
  | .str,_,hg=>simp [Aw,Tr.run]at hg
  | .pt _,_,hg=>simp [Aw,Tr.run]at hg
  | .unit,_,hg=>simp [Aw,Tr.run]at hg
  | .pair _ _,_,hg=>simp [Aw,Tr.run]at hg
theorem Xl {b:Base} {S:St} {c:Cc} {w:World} (hi:Inv b S w c) {a:S1} {v:Value} {n:Nat} {l:Leaf} (ha:S1Ok S c w (Kok b S c) a v) (h:(Hj a n).ev S=some l) :
  ∃ad u,v=.pointer (some ad)/\w.cell? (ad.add n)=some u/\LeafOk S c w (Kok b S c) l u:=by
 cases a with
 | one l'=>simp [Hj,Tr.ev]at h
 | ag ls=>simp [Hj,Tr.ev]at h
 | fv f cs=>simp [Hj,Tr.ev]at h
 | pl k off=>
  obtain ⟨m,hm,rfl⟩:=ha;simp only [Hj,Tr.ev,hm]at h;split at h
  .rename_i hlt;simp only [Tr.ev]at h;obtain ⟨cs,e,fr,h1,h2,h3,h4,_⟩:=hi.ms k m hm O;have hlt':c.mo k+(off+n) < cs.size:=O
   have hcell:cs[c.mo k+(off+n)]?=some cs[c.mo k+(off+n)]:=Apg hlt';refine⟨_,_,rfl,by rw [Be,Bf h1,Nat.add_assoc];exact hcell,?_⟩;have:=h4 _ _ hlt hcell;split at h
   .simp [Tr.ev]at h
   .simp only [Tr.ev,AoD]at h;grind
  .simp [Tr.ev]at h
 | el k st=>
  obtain ⟨o,ad,ho,had,rfl,pre,⟨i,j⟩,d,rfl,hd⟩:=ha;simp only [Hj,Tr.ev,ho,Ak,AoG]at h;obtain ⟨c0,hc0,h⟩:=h;rw [Lm]at hc0;simp only [AoD]at h;subst h;have hne:Cn (pre++[(i,j)]) n≠[]:=by rw [N7];simp
  obtain ⟨h',F',h1,h2,h3,_,h4⟩:=Rp.reach _ _ _ (hi.ow k o ho) hc0;obtain ⟨a',h5,h6,_⟩:=h4 hne;have:=PG _ n had;rw [this]at h5;injection h5 with h5
  subst h5;refine⟨ad,h',rfl,h6,?_⟩;have hleaf:=XR _ _ _ hne hc0;obtain ⟨t0,x0⟩:=c0;cases t0 with
  | pair a b=>grind
  | unit=>grind
  | int k=>simp only [Lb,LeafOk,Rp]at h2 ⊢;grind
  | bool=>simp only [Lb,LeafOk,Rp]at h2 ⊢;grind
  | lp=>assumption
  | mh=>simp only [Lb,LeafOk,Rp]at h2 ⊢;grind
  | mp=>assumption
  | er=>simp only [Lb,LeafOk,Rp]at h2 ⊢;grind
  | str=>simp only [Lb,LeafOk,Rp]at h2 ⊢;grind
  | sl o' e r=>
   cases o' with
   | true=>exact⟨o,e,r,x0,h',ho,hc0,h1,rfl⟩
   | false=>
    simp only [Lb,LeafOk];have:F'=[]:=by simp only [Rp]at h2;exact h2.1
    grind
  | pt t=>
   simp only [Lb,LeafOk];have:F'=[]:=by simp only [Rp]at h2;exact h2.1
   grind
 | rp t x off=>
  obtain ⟨ad,vs,rfl,h1,h2,h3,h4⟩:=ha;simp only [Hj]at h;split at h
  .rename_i c0 hc0;simp only [Tr.ev,AoD]at h;subst h;obtain ⟨pre,u,post,Fa,G,Fb,rfl,hl,hF,hu,_⟩:=Rp.cell t x _ h1 hc0;have hG:G=[]:=by
    simp_all
   subst hG;refine⟨_,u,rfl,?_,hu⟩;rw [add_add,h4 _ (by grind)];simp [*]
  .simp [Tr.ev]at h
theorem Vx {b:Base} {S:St} {c:Cc} {w:World} (hi:Inv b S w c) {a:S1} {v:Value} (ha:S1Ok S c w (Kok b S c) a v):∀(n i:Nat) {ls:List Leaf},(KK a n i).ev S=some ls->
  (0 < n->∃ad,v=.pointer (some ad))/\∃us:List Value,us.length=n/\All2 (LeafOk S c w (Kok b S c)) ls us/\∀ad,v=.pointer (some ad)->∀j u,us[j]?=some u->w.cell? (ad.add (i+j))=some u
 | 0,i,ls,h=>by
  simp only [KK,Tr.ev,AoD]at h;subst h;exact⟨O,[],rfl,.nil,Z⟩
 | n+1,i,ls,h=>by
  simp only [KK,Ak,AoG,Tr.ev,AoD]at h;obtain ⟨l,hl,ls',hls,rfl⟩:=h;obtain ⟨ad,u,rfl,h1,h2⟩:=Xl hi ha hl;obtain ⟨_,us,h3,h4,h5⟩:=Vx hi ha n (i+1) hls;refine⟨λ_=>⟨ad,rfl⟩,u::us,by simp [h3],.cons h2 h4,?_⟩
  grind
theorem AdC {S:St} {c:Cc} {w:World} {K:Nat->Prop} {l:Leaf} {v:Value} (h:LeafOk S c w K l v):S1Ok S c w K (GR l) v:=by
 cases l with
 | p k off=>exact h
 | _=>exact h
theorem Ajy {S:St} {c:Cc} {w:World} {K:Nat->Prop} {u:Ty} {y:u.D} {v:Value} (h:LeafOk S c w K (.v (.pt u) (some y)) v):S1Ok S c w K (.rp u y 0) v:=by
 obtain ⟨_,ad,ws,e,k1,k2,k3,k4⟩:=h;injection e with e
 subst e;exact⟨ad,ws,by rfl,k1,k2,k3,k4⟩
theorem AhE {S:St} {c:Cc} {w:World} {K:Nat->Prop} {l:Leaf} {v:Value} {x:SV} (h:LeafOk S c w K l v) (hx:(VK l).ev S=some x):AX S c w K x v:=by
 unfold VK at hx;split at hx
 .rename_i u o;cases o with
  | none=>simp [Tr.ev]at hx
  | some y=>
   simp only [Tr.ev,AoC,AoD]at hx;subst hx;exact Ajy h
 .simp only [Tr.ev,AoD]at hx;subst hx;exact AdC h
theorem AdO {b:Base} {S:St} {c:Cc} {w:World} (hT:TabOk P ti) (hi:Inv b S w c) {t:TypeId} {a:S1} {v:Value} {ts:List Ty} (ha:S1Ok S c w (Kok b S c) a v) (ht:(ti t).vcells=some ts) {x:SV}
  (h:(if(ti t).isAgg then(KK a ts.length 0).bind λls=>Tr.ret (SV.s (.ag ls))else(Hj a 0).bind VK).ev S=some x) (hpos:0 < ts.length) :
  ∃u,(Instr.loadAt t v).run P w=.ok u w/\AX S c w (Kok b S c) x u:=by
 obtain ⟨i,h1,h2,⟨d,h3,h4⟩,h5,_⟩:=Kz hT ht;split at h
 .rename_i hag;simp only [Ak,AoG,Tr.ev,AoD]at h;obtain ⟨ls,hls,rfl⟩:=h;obtain ⟨h6,us,h7,h8,h9⟩:=Vx hi ha _ _ hls;obtain ⟨ad,rfl⟩:=h6 hpos;refine⟨.agg us.toArray,?_,us,rfl,h8⟩;have hl:=run_loadCells_list (P:=P) w ad us (λj u hu=>by grind);simp only [Instr.loadAt,Instr.sureAddr,Sem.run_bind,Sem.run_pure,Result.andThen_ok,loadVar,Lo h3,h4,hag,AoU,MZ h1,h2,Sem.run_ite]
  simp_all
 .rename_i hag;simp only [Ak,AoG]at h;obtain ⟨l,hl,h⟩:=h;obtain ⟨ad,u,rfl,h6,h7⟩:=Xl hi ha hl;refine⟨u,?_,AhE h7 h⟩;have h6':w.cell? ad=some u:=by assumption
  have hag':(ti t).isAgg=false:=by grind
  simp only [Instr.loadAt,Instr.sureAddr,Sem.run_bind,Sem.run_pure,Result.andThen_ok,loadVar,Lo h3,h4,hag',Sem.run_ite];simp [h6']
theorem AaD {t:TypeId} {d:TypeDesc} (hd:P.underlying t=some d) (hag:IB d=false) (cs:Array Value) (off:Nat) {v:Value} (hv:cs[off]?=some v) (w:World):(part t cs off).run P w=.ok v w:=by
 simp only [part,Sem.run_bind,Lo hd,Result.andThen_ok,hag,AoO,Apa,hv,Sem.run_pure]
theorem Lw {w : World} {d : TypeDesc} {f : Field} {fs : List Field} {cs ds : Array Value} {u v : Value} {b r : Bool} (hn : (!(f.name == "_")) = true) (hd : P.underlying f.type = some d) (hag : IB d = false) (hu : cs[f.offset]? = some u) (hv : ds[f.offset]? = some v)
  (h1:(Op.equalIn 9999 f.type u v).run P w=.ok b w) (h2:(Op.eqFields 9999 cs ds fs).run P w=.ok r w):(Op.eqFields 9999 cs ds (f::fs)).run P w=.ok (b && r) w:=by
 have hn' : f.name ≠ "_" := by grind
 simp only [Op.eqFields,hn',ne_eq,not_false_eq_true,AoU,Sem.run_bind,AaD hd hag _ _ hu,AaD hd hag _ _ hv,Result.andThen_ok,h1];cases b
 .simp
 .simp [h2]
theorem Uk {w:World} {S:St} {c:Cc} {K:Nat->Prop}:∀(row:List Ty) (fields:List Field) (fs:List (Nat×Nat×Bool)) (i:Nat) (xs ys:List Leaf) (us vs pre pre':List Value) {r:Bool},Qj P row fields=true->CW P fs fields=true->OK fs i=true->
  pre.length=i->pre'.length=i->All2 (LeafOk S c w K) xs us->All2 (LeafOk S c w K) ys vs->LY row xs ys=some r->(Op.eqFields 9999 (pre++us).toArray (pre'++vs).toArray fields).run P w=.ok r w
 | [],fields,fs,i,xs,ys,us,vs,pre,pre',r,h1,h2,h3,hp,hp',k1,k2,hr=>by
  cases fields with
  | cons f fields=>simp [Qj]at h1
  | nil=>
   cases k1 <;> cases k2 <;> simp [LY]at hr;subst hr;rfl
 | t::row,[],fs,i,xs,ys,us,vs,pre,pre',r,h1,h2,h3,hp,hp',k1,k2,hr=>by simp [Qj]at h1
 | t::row,f::fields,[],i,xs,ys,us,vs,pre,pre',r,h1,h2,h3,hp,hp',k1,k2,hr=>by simp [CW]at h2
 | t::row,f::fields,(o,n,ag)::fs,i,xs,ys,us,vs,pre,pre',r,h1,h2,h3,hp,hp',k1,k2,hr=>by
  simp only [Qj,AoI]at h1;obtain ⟨⟨hn,hd⟩,h1⟩:=h1;split at hd
  .rename_i d hd';simp only [CW,AoI,beq_iff_eq]at h2;obtain ⟨⟨⟨⟨ho,_⟩,_⟩,_⟩,h2⟩:=h2;simp only [OK,AoI,beq_iff_eq]at h3;obtain ⟨⟨⟨hoi,_⟩,_⟩,h3⟩:=h3;cases k1 with
   | nil=>cases t <;> simp [LY]at hr
   | cons a1 a2=>
    rename_i x u xs us;cases k2 with
    | nil=>cases t <;> cases x <;> simp [LY]at hr
    | cons b1 b2=>
     rename_i y v ys vs;have rec_:=λ{r'} hr'=>Uk row fields fs (i+1) xs ys us vs (pre++[u]) (pre'++[v]) (r:=r') h1 h2 h3 (by simp [hp]) (by simp [hp']) a2 b2 hr'
     simp only [AoN,List.singleton_append]at rec_;have hu:(pre++u::us).toArray[f.offset]?=some u:=by grind
     have hv:(pre'++v::vs).toArray[f.offset]?=some v:=by grind
     unfold LY at hr;split at hr
     .grind
     .rename_i e1 e2 e3;injection e1 with e1 e1';injection e2 with e2 e2';injection e3 with e3 e3'
      subst e1 e2 e3 e1' e2' e3';split at hr
      .rename_i hk;subst hk;rw [Apx]at hr;obtain ⟨r',hr',rfl⟩:=hr;obtain rfl:=B7 a1;obtain rfl:=B7 b1;cases d <;> simp [BY]at hd;exact Lw hn hd' rfl hu hv (Abu 9998 f.type _ _ _ _ hd') (rec_ hr')
      .cases hr
     .rename_i e1 e2 e3;injection e1 with e1 e1';injection e2 with e2 e2';injection e3 with e3 e3'
      subst e1 e2 e3 e1' e2' e3';rw [Apx]at hr;obtain ⟨r',hr',rfl⟩:=hr;obtain rfl:=EK a1;obtain rfl:=EK b1;cases d <;> simp [BY]at hd;exact Lw hn hd' rfl hu hv (My 9998 f.type _ _ hd') (rec_ hr')
     .rename_i e1 e2 e3;injection e1 with e1 e1';injection e2 with e2 e2';injection e3 with e3 e3'
      subst e1 e2 e3 e1' e2' e3';rw [Apx]at hr;obtain ⟨r',hr',rfl⟩:=hr;have q1:=Es a1;have q2:=Es b1;cases d <;> simp [BY]at hd;subst q1 q2;refine Lw hn hd' rfl hu hv ?_ (rec_ hr');rw [run_equalIn_string _ _ _ _ _ hd',ByteArray.toList_eq,ByteArray.toList_eq]
     .cases hr
  .cases hd
theorem Adi {w:World} (t:TypeId) (us vs:List Value) (fields:Array Field) (ht:P.underlying t=some (.struct fields)) (hp:P.stoodInHeld t=false) {r:Bool} (h:(Op.eqFields 9999 us.toArray vs.toArray fields.toList).run P w=.ok r w) :
  (binOp .eql t (.agg us.toArray) (.agg vs.toArray)).run P w=.ok (.bool r) w/\(binOp .neq t (.agg us.toArray) (.agg vs.toArray)).run P w=.ok (.bool (!r)) w:=by
 have hf:P.fieldsOf t=fields:=by simp [Program.fieldsOf,ht]
 have he:(Op.equalIn 10000 t (.agg us.toArray) (.agg vs.toArray)).run P w=.ok r w:=by
  rw [run_equalIn_agg w 9999 t _ _ (by grind) hp,hf];exact h
 rw [run_eql_struct,run_neq_struct,he];simp
end
end Go.V
namespace Go.V
open Go.RowKit
theorem Stay.trans0 {S S1 S2:St} {c c1 c2:Cc} {w w1 w2:World} {K K1 K2:Nat->Prop} {ks:List Kl} (h:Stay S S1 c c1 w w1 K K1 []) (k:Stay S1 S2 c1 c2 w1 w2 K1 K2 ks):Stay S S2 c c2 w w2 K K2 ks:=by
 refine⟨λk' st win v hk hl=>k.vw k' st win v hk (h.vw k' st win v rfl hl),λk' st v hk hl=>k.el k' st v hk (h.el k' st v rfl hl),λk' off v hk hl=>k.pl k' off v hk (h.pl k' off v rfl hl),λk' v hk hl=>k.mh k' v hk (h.mh k' v rfl hl),?_⟩;refine⟨Ao2 h.kk.1 k.kk.1,λg hg hlt=>?_⟩;obtain ⟨h1,h2⟩:=h.kk.2 g hg hlt;obtain ⟨h3,h4⟩:=k.kk.2 g h2 (ApD hlt h.kk.1)
 grind
theorem Stay.leaf0 {S S1:St} {c c1:Cc} {w w1:World} {K K1:Nat->Prop} (h:Stay S S1 c c1 w w1 K K1 []) {l:Leaf} {v:Value} (hl:LeafOk S c w K l v):LeafOk S1 c1 w1 K1 l v:=by
 have:=h.leaf hl
 rwa [Leaf.kp_nil]at this
theorem Stay.refl (S:St) (c:Cc) (w:World) (K:Nat->Prop):Stay S S c c w w K K []:=⟨λ_ _ _ _ _ h=>h,λ_ _ _ _ h=>h,λ_ _ _ _ h=>h,λ_ _ _ h=>h,KSame.refl _ _⟩
theorem ZA {b:Base} {c:Cc} (k n:Nat):∀(ls:List Leaf) (vs:List Value) (off:Nat) (S:St) (w:World),Inv b S w c->S.ms k=some n->off+ls.length<=n->All2 (LeafOk S c w (Kok b S c)) ls vs->
  Inv b (S.ups (H9 k ls off)) (w.setCells (c.mb k) (c.mo k+off) vs) c/\Stay S (S.ups (H9 k ls off)) c c w (w.setCells (c.mb k) (c.mo k+off) vs) (Kok b S c) (Kok b (S.ups (H9 k ls off)) c) []
 | [],_,off,S,w,hi,_,_,.nil=>⟨hi,Stay.refl _ _ _ _⟩
 | l::ls,_,off,S,w,hi,hk,hle,.cons (b:=v) (bs:=vs) h1 h2=>by
  simp only [AoV]at hle;obtain ⟨h3,h4⟩:=hi.setMem k off n l v hk O h1 rfl rfl;have ih:=ZA k n ls vs (off+1) (S.up (.mc k off l)) (w.setCell ⟨c.mb k,c.mo k+off,none⟩ v) h3 hk O (h2.mono λl v h=>h4.leaf0 h);exact⟨ih.1,h4.trans0 ih.2⟩
theorem Tf {b:Base} {S:St} {c:Cc} {w:World} (hi:Inv b S w c) {k n:Nat} (hk:S.ms k=some n) {j:Nat} (hj:j < n):(w.cell? ⟨c.mb k,c.mo k+j,none⟩).isSome=true/\w.frozen? ⟨c.mb k,c.mo k+j,none⟩=false:=by
 obtain ⟨cs,e,fr,h1,h2,h3,_⟩:=hi.ms k n hk O;refine⟨?_,DC h1 h3 O⟩;rw [Bf h1,Apg O];rfl
section
variable {P:Program} {ti:TypeId->TI}
theorem Ow {t:TypeId} {i:TypeInfo} (hi:P.info? t=some i) {v:Value} {vs:List Value} (hv:v.cells=vs.toArray) (hn:i.size=vs.length) (ad:Addr) (w w':World) (h:(storeCells ad vs).run P w=.ok () w') :
  (Instr.storeAt t (.pointer (some ad)) v).run P w=.ok () w':=by
 simp only [Instr.storeAt,Instr.sureAddr,Sem.run_bind,Sem.run_pure,Result.andThen_ok,storeVar,MZ hi,Sem.run_ite]
 grind
theorem AjS {b:Base} {S:St} {c:Cc} {w:World} (hT:TabOk P ti) (hi:Inv b S w c) {t:TypeId} {k off:Nat} {v u:Value} {ts:List Ty} {x:SV} {ls:List Leaf} {r:List Kl×List U}
  (ha:S1Ok S c w (Kok b S c) (.pl k off) v) (ht:(ti t).vcells=some ts) (hx:AX S c w (Kok b S c) x u) (hl:CX x=some ls) (hn:ls.length=ts.length) (h:(HJ (.pl k off) ls).ev S=some r) :
  ∃w',(Instr.storeAt t v u).run P w=.ok () w'/\Did b S c w ⟨.no,r.1,r.2⟩ undef w':=by
 obtain ⟨n,hk,rfl⟩:=ha;simp only [HJ,Tr.ev,hk]at h;split at h
 .rename_i hle;simp only [Tr.ev,AoD]at h;subst h;obtain ⟨i,h1,h2,_⟩:=Kz hT ht;obtain ⟨vs,h3,h4,h5⟩:=Jj hi hx hl;obtain ⟨h6,h7⟩:=ZA k n ls vs off S w hi hk hle h4;have hlen:=h4.len;have hrun:=run_storeCells_cells (P:=P) (c.mb k) (c.mo k+off) vs 0 w (λj hj=>by have:=(Tf hi hk (j:=off+j) O).1;grind) (λj hj=>by have:=(Tf hi hk (j:=off+j) O).2;grind) h5;exact⟨_,Ow h1 h3 O _ w _ hrun,c,h6,h7,trivial⟩
 .simp [Tr.ev]at h
end
theorem Xz:∀(st:AT) (a b:Nat),Cn (Cn st a) b=Cn st (a+b)
 | [],_,_=>rfl
 | [(i,j)],a,b=>by simp only [Cn];grind
 | p::q::ps,a,b=>by
  have hb:Cn (p::q::ps) a=p::Cn (q::ps) a:=rfl;obtain ⟨q',ps',hq⟩:∃q' ps',Cn (q::ps) a=q'::ps':=by
   cases ps with
   | nil=>obtain ⟨x,y⟩:=q;exact⟨_,_,rfl⟩
   | cons q2 ps=>exact⟨_,_,rfl⟩
  rw [hb,hq];show p::Cn (q'::ps') b=p::Cn (q::ps) (a+b);rw [<- hq,Xz (q::ps) a b]
theorem Lc {b:Base} {S:St} {c:Cc} {w:World} (hi:Inv b S w c) {t:Ty} {l:Leaf} {v:Value} {z:t.D×List Nat} (hl:LeafOk S c w (Kok b S c) l v) (h:(JD t l).ev S=some z) :
  (∀k,k∈z.2->S.ow k≠none)/\AO z.2=true/\∃G,Rp w (Kok b S c) t z.1 [v] G/\G.Nodup/\∀g,g∈G->∃k,k∈z.2/\g∈c.F k:=by
 unfold JD at h;split at h
 .rename_i u x;split at h
  .rename_i hu;subst hu;simp only [Tr.ev,AoD]at h;subst h;exact⟨Z,rfl,[],hl,Z,Z⟩
  .simp [Tr.ev]at h
 .split at h
  .rename_i o e r;simp only [Tr.ev,AoD]at h;subst h;obtain rfl:v=.slice none 0 0:=hl;refine⟨Z,rfl,[],?_,Z,Z⟩;cases o with
   | true=>simp only [Rp];simp
   | false=>simp only [Rp];exact⟨trivial,none,0,[],rfl,Ao4 _,⟨rfl,rfl⟩,.inl trivial⟩
  .simp [Tr.ev]at h
 .rename_i k win;simp only [Ak,AoG]at h;obtain ⟨o,ho,h⟩:=h;split at h
  .rename_i hu;subst hu;simp only [Tr.ev,AoD]at h;subst h;obtain ⟨h1,F',h2,h3,h4⟩:=IT hi hl ho;exact⟨by grind,by simp [AO],F',h2,h4,λg hg=>⟨k,Z,h3 g hg⟩⟩
  .simp [Tr.ev]at h
 .simp [Tr.ev]at h
theorem Th {k:Nat} {ks:List Nat} (h:AO (k::ks)=true):k∉ks/\AO ks=true:=by
 simp only [AO,AoI,Ao7]at h
 grind
theorem AU:∀{a b:List Nat},AO (a++b)=true->AO a=true/\AO b=true/\∀k,k∈a->k∉b
 | [],b,h=>⟨rfl,h,Z⟩
 | k::a,b,h=>by
  obtain ⟨h1,h2⟩:=Th (ks:=a++b) h;obtain ⟨h3,h4,h5⟩:=AU h2;refine⟨?_,h4,?_⟩
  .simp only [AO,AoI,Ao7,h3,and_true]
   grind
  grind
theorem Step.setCell (w:World) (a:Addr) (v:Value):Step w (w.setCell a v) (λg=>g=a.block):=
 ⟨rfl,rfl,rfl,Z,λg _ hg=>Below.heap_setCell _ _ _ _ hg⟩
section
variable {P:Program} {ti:TypeId->TI}
abbrev MY (c:Cc) (κ:Nat) (ks:List Nat) (g:Nat):Prop:=g∈c.F κ\/∃k,k∈ks/\g∈c.F k
theorem AcM {b:Base} {S:St} {c:Cc} {w:World} (hi:Inv b S w c) (κ:Nat) (o0:Own) (hκ:S.ow κ=some o0) (st:AT) (hst:st≠[]) (hst':∀n,Cn st n≠[]) (ad:Addr) :
  ∀(ls:List Leaf) (vs:List Value) (n:Nat) (xs:List o0.r.D) (done:List Nat) (w1:World) (F1:List Nat) (r:Own×List Nat),
   xs.length=o0.xs.length->Rp w1 (Kok b S c) (.sl true o0.e o0.r) xs [c.hv κ] F1->F1.Nodup->(∀g,g∈F1->MY c κ done g)->(∀k,k∈done->S.ow k≠none)->
   Step w w1 (MY c κ done)->w1.heap.size=w.heap.size->(∀m,n<=m->adr w1 (c.hv κ) (.sl true o0.e o0.r) (Cn st m)=some (ad.add m))->
   All2 (LeafOk S c w (Kok b S c)) ls vs->(∀v,v∈vs->v.oneCell'=true)->(VB ⟨o0.e,o0.r,xs⟩ st ls n).ev S=some r->κ∉done++r.2->AO (done++r.2)=true->
   ∃(xs':List o0.r.D) (w':World) (F':List Nat),(storeCells ad vs n).run P w1=.ok () w'/\r.1=⟨o0.e,o0.r,xs'⟩/\xs'.length=o0.xs.length/\Rp w' (Kok b S c) (.sl true o0.e o0.r) xs' [c.hv κ] F'/\F'.Nodup/\
    (∀g,g∈F'->MY c κ (done++r.2) g)/\(∀k,k∈done++r.2->S.ow k≠none)/\Step w w' (MY c κ (done++r.2))/\w'.heap.size=w.heap.size
 | [],_,n,xs,done,w1,F1,r,hlen,hp,hnd,hF,hd,hs,hsz,_,.nil,_,h,_,_=>by
  simp only [VB,Tr.ev,AoD]at h;subst h;simp only [AoW];exact⟨xs,w1,F1,rfl,rfl,hlen,hp,hnd,hF,hd,hs,hsz⟩
 | l::ls,_,n,xs,done,w1,F1,r,hlen,hp,hnd,hF,hd,hs,hsz,hadr,.cons (b:=v) (bs:=vs) h1 h2,hone,h,hκd,hun=>by
  simp only [VB,Ak,AoG,Tr.ev,AoD]at h;obtain ⟨c0,hc0,z,hz,ys,hys,r2,hr2,rfl⟩:=h;rw [Lm]at hc0;rw [Uo]at hys;obtain ⟨k1,k2,G,k3,k4,k5⟩:=Lc hi h1 hz;simp only [<- AoN]at hun hκd;obtain ⟨hu1,_,_⟩:=AU hun;obtain ⟨_,_,hu2⟩:=AU hu1;obtain ⟨a,h',Fa,G0,Fb,p1,p2,p3,rfl,p5,p6,p7,hput⟩:=Rp.put (Cn st n) _ _ (hst' n) hp hnd hc0 hys;rw [hadr n (Ao4 _)]at p1;injection p1 with p1
  subst p1;have hblk:(ad.add n).block=ad.block:=DG _ _;have hone1:v.oneCell'=true:=hone v Z;have hrun:(store (ad.add n) v).run P w1=.ok () (w1.setCell (ad.add n) v):=by
   rw [run_store P w1 _ v _ hone1,p2];simp [p7]
  have hstep:=Step.setCell w1 (ad.add n) v;have hin:∀g,g=(ad.add n).block->MY c κ done g:=λg hg=>hF g (by grind)
  have hGapart:∀g,g∈G->¬ MY c κ done g:=by
   intro g hg hx;obtain ⟨k,hk,hgk⟩:=k5 g hg;have hko:S.ow k≠none:=k1 k hk;have hkκ:k≠κ:=by grind
   rcases hx with hx | ⟨k',hk',hx⟩
   .exact hi.oo k κ hkκ hko (by grind) g hgk hx
   .have hkk:k≠k':=by grind
    exact hi.oo k k' hkk hko (hd k' hk') g hgk hx
  have hGsame:Do w w1 G:=λg hg=>by
   obtain ⟨k,hk,hgk⟩:=k5 g hg;exact hs.same g (hi.fr g (.inr ⟨k,k1 k hk,hgk⟩)).1 (hGapart g hg)
  have hT:∀g,MY c κ done g->A5 S c g:=by
   rintro g (hg | ⟨k,hk,hg⟩)
   .exact .inr ⟨κ,by grind,hg⟩
   .exact .inr ⟨k,hd k hk,hg⟩
  have kk1:KSame w w1 (Kok b S c) (Kok b S c):=P7 hs hT (λg hg=>.inl hg);have kk2:KSame w1 (w1.setCell (ad.add n) v) (Kok b S c) (Kok b S c):=⟨hstep.size,λg hg hlt=>⟨hstep.same g hlt λe=>hg.2 (hT g (hin g e)),hg⟩⟩
  have hz1:Rp w1 (Kok b S c) c0.1 z.1 [v] G:=Rp.frame kk1 _ _ k3 hGsame;have hz2:Rp (w1.setCell (ad.add n) v) (Kok b S c) c0.1 z.1 [v] G:=Rp.frame kk2 _ _ hz1 λg hg=>Below.heap_setCell _ _ _ _ λe=>hGapart g hg (hin g e)
  obtain ⟨hnew,hadr2⟩:=hput _ _ v G hz2 kk2 rfl (λg _ hg=>Below.heap_setCell _ _ _ _ hg);have hset:ys.length=xs.length:=by
   obtain ⟨⟨i,j⟩,ps,hb⟩:∃p ps,Cn st n=p::ps:=by
    cases hbb:Cn st n with
    | nil=>grind
    | cons p ps=>simp
   rw [hb]at hys;simp only [Gc,Dl,AoG]at hys;obtain ⟨row,_,hys⟩:=hys;split at hys
   .simp only [run_bind,AoG]at hys;obtain ⟨yy,_,hys⟩:=hys;split at hys
    .simp only [Tr.run,AoD]at hys;grind
    .simp [Tr.run]at hys
   .simp [Tr.run]at hys
  have hFnd:(Fa++(G++Fb)).Nodup:=by
   rw [Apc]at hnd ⊢
   grind
  have ih:=AcM hi κ o0 hκ st hst hst' ad ls vs (n+1) ys (done++z.2) (w1.setCell (ad.add n) v) (Fa++(G++Fb)) r2 (hset.trans hlen) hnew hFnd
   (by
    grind)
   (by grind)
   ((hs.trans (hstep.mono hin)).mono (by grind))
   (by simp_all)
   (by
    intro m hm;have:=hadr2 (m - n);rw [Xz,(O:n+(m - n)=m)]at this
    grind)
   h2 (λv hv=>hone v (by simp [hv])) hr2 hκd hun
  obtain ⟨xs',w',F',q1,q2,q3,q4,q5,q6,q7,q8,q9⟩:=ih;refine⟨xs',w',F',?_,q2,q3,q4,q5,by grind,by grind,by grind,q9⟩;simp only [storeCells,Sem.run_bind,hrun,Result.andThen_ok];exact q1
theorem P3 (ks:List Nat):∀(S:St),(S.ups (Cw ks)).ms=S.ms/\(S.ups (Cw ks)).mc=S.mc/\∀k,(S.ups (Cw ks)).ow k=if k∈ks then none else S.ow k:=by
 induction ks with
 | nil=>intro S;exact⟨rfl,rfl,λk=>by rfl⟩
 | cons k0 ks ih=>
  intro S;obtain ⟨h1,h2,h3⟩:=ih (S.up (.ow k0 none));refine⟨h1,h2,λk=>?_⟩;show((S.up (.ow k0 none)).ups (Cw ks)).ow k=_;rw [h3];by_cases hk:k∈ks
  .simp [hk]
  .rw [AoH hk];show(if k=k0 then none else S.ow k)=_
   grind
theorem EH (us vs:List U):∀S:St,S.ups (us++vs)=(S.ups us).ups vs:=by
 induction us with
 | nil=>intro S;rfl
 | cons u us ih=>intro S;exact ih _
theorem Tx {k:Nat} {st:AT} {ls:List Leaf} {w:Nat×Nat} (h:Zw k st ls=some w):ls=[.vw k st (some (w.1,w.2))]:=by
 unfold Zw at h
 grind
theorem Ahb {b:Base} {S:St} {c:Cc} {w:World} (hT:TabOk P ti) (hi:Inv b S w c) {t:TypeId} {κ:Nat} {st:AT} {v u:Value} {ts:List Ty} {x:SV} {lo n:Nat} {r:List Kl×List U}
  (ha:S1Ok S c w (Kok b S c) (.el κ st) v) (ht:(ti t).vcells=some ts) (hx:AX S c w (Kok b S c) x u) (hl:CX x=some [.vw κ st (some (lo,n))]) (hn:ts.length=1) (h:(Zz κ st lo n).ev S=some r) :
  ∃w',(Instr.storeAt t v u).run P w=.ok () w'/\Did b S c w ⟨.no,r.1,r.2⟩ undef w':=by
 obtain ⟨o0,ad,hκ,had,rfl,pre,⟨i,j⟩,d,rfl,hd⟩:=ha;generalize hst:pre++[(i,j)]=st at *;have hne:st≠[]:=by rw [<- hst];simp
 simp only [Zz,Tr.ev,hκ,Ak,AoG]at h;obtain ⟨c0,hc0,h⟩:=h;split at h
 .rename_i e r' ys;simp only [Ak,AoG,Tr.ev,AoD]at h;obtain ⟨zs,hzs,h⟩:=h;subst h;rw [Lm]at hc0;rw [Uo]at hzs;obtain ⟨ie,i1,i2,_⟩:=Kz hT ht;obtain ⟨vs,h3,h4,h5⟩:=Jj hi hx hl
  match vs,h4 with
  | [v1],.cons h4 .nil=>
   obtain ⟨o1,e1,r1,ys1,hd1,ho1,hg1,hh1,hw1⟩:=h4;obtain rfl:o0=o1:=by grind
   rw [hc0]at hg1;injection hg1 with hg1
   injection hg1 with ha1 hb1
   injection ha1 with _ he1 hr1
   subst he1 hr1;obtain rfl:=eq_of_heq hb1;have hown:=hi.ow κ o0 hκ;have hnd:=hi.nd κ (by grind);obtain ⟨a,h',Fa,G0,Fb,p1,p2,p3,p4,p5,p6,p7,hput⟩:=Rp.put st _ _ hne hown hnd hc0 hzs;rw [had]at p1;injection p1 with p1
   subst p1;have hhd:hd1=h':=by
    obtain ⟨p,ps,rfl⟩:=List.exists_cons_of_ne_nil hne;simp only [hdr,had]at hh1
    grind
   subst hhd;rw [p4]at hnd;have hndG:G0.Nodup:=(Apc.1 (Apc.1 hnd).2.1).1;obtain ⟨F2,q1,q2,q3⟩:=VQ p6 hndG hw1;have hone1:v1.oneCell'=true:=h5 v1 Z;have hrun:(storeCells ad [v1] 0).run P w=.ok () (w.setCell ad v1):=by
    have h0:ad.add 0=ad:=rfl;simp only [storeCells,Sem.run_bind,h0];rw [run_store P w _ v1 _ hone1,p2];simp [p7]
   have hstep:=Step.setCell w ad v1;have hin:∀g,g=ad.block->g∈c.F κ:=λg hg=>by grind
   have kk:KSame w (w.setCell ad v1) (Kok b S c) (Kok b S c):=⟨hstep.size,λg hg hlt=>⟨hstep.same g hlt λe=>hg.2 (.inr ⟨κ,by grind,hin g e⟩),hg⟩⟩
   have hG2:∀g,g∈F2->g≠ad.block:=by
    grind
   have hz:Rp (w.setCell ad v1) (Kok b S c) (.sl true e r') ((List.drop lo ys).take n) [v1] F2:=Rp.frame kk _ _ q1 λg hg=>Below.heap_setCell _ _ _ _ (hG2 g hg)
   obtain ⟨hnew,_⟩:=hput _ _ v1 F2 hz kk rfl (λg _ hg=>Below.heap_setCell _ _ _ _ hg);have hlen:zs.length=o0.xs.length:=by
    obtain ⟨⟨i',j'⟩,ps,rfl⟩:=List.exists_cons_of_ne_nil hne;simp only [Gc,Dl,AoG]at hzs;obtain ⟨row,_,hzs⟩:=hzs;split at hzs
    .simp only [run_bind,AoG]at hzs;obtain ⟨yy,_,hzs⟩:=hzs;split at hzs
     .simp only [Tr.run,AoD]at hzs;grind
     .simp [Tr.run]at hzs
    .simp [Tr.run]at hzs
   have hsub:∀g,g∈Fa++(F2++Fb)->g∈c.F κ:=by
    grind
   have hFnd:(Fa++(F2++Fb)).Nodup:=by
    grind
   refine⟨_,Ow i1 h3 (by grind) ad w _ hrun,?_⟩;generalize hS:(S.kp [.deep κ]).ups [.ow κ (some ⟨o0.e,o0.r,zs⟩)]=S';obtain ⟨c',_,_,_,e4,e5,_⟩:=hi.setOwn (S':=S') (w':=w.setCell ad v1) κ ⟨o0.e,o0.r,zs⟩ [] [.deep κ] (c.hv κ) (Fa++(F2++Fb))
    (by intro k;rw [<- hS];rfl)
    (by rw [<- hS];rfl) (by intro k i;rw [<- hS];rfl) (λk hk=>by cases hk)
    (λo ho=>by
     grind)
    (hstep.mono λg hg=>⟨κ,.inl rfl,by grind,hin g hg⟩)
    (λg hg=>⟨by
     have:=(hi.fr g (.inr ⟨κ,by grind,hsub g hg⟩)).1
     simp_all,.inl ⟨κ,.inl rfl,by grind,hsub g hg⟩⟩) hFnd
    (λK' hK _=>Rp.frame ⟨Ao4 _,λg hg hlt=>⟨rfl,(hK.2 g hg (by simp_all)).2⟩⟩ _ _ hnew λg _=>rfl)
   subst hS;exact⟨c',e4,e5,trivial⟩
 .simp [Tr.ev]at h
theorem Aj6 {b:Base} {S:St} {c:Cc} {w:World} (hT:TabOk P ti) (hi:Inv b S w c) {t:TypeId} {κ:Nat} {st:AT} {v u:Value} {ts:List Ty} {x:SV} {ls:List Leaf} {r:List Kl×List U}
  (ha:S1Ok S c w (Kok b S c) (.el κ st) v) (ht:(ti t).vcells=some ts) (hx:AX S c w (Kok b S c) x u) (hl:CX x=some ls) (hn:ls.length=ts.length) (h:(HJ (.el κ st) ls).ev S=some r) :
  ∃w',(Instr.storeAt t v u).run P w=.ok () w'/\Did b S c w ⟨.no,r.1,r.2⟩ undef w':=by
 simp only [HJ]at h;split at h
 .rename_i ww hself;obtain ⟨lo,n⟩:=ww;exact Ahb hT hi ha ht hx (Tx hself ▸ hl) (by rw [Tx hself]at hn;exact hn.symm) h
 obtain ⟨o0,ad,hκ,had,rfl,pre,⟨i,j⟩,d,rfl,hd⟩:=ha;simp only [Tr.ev,hκ,Ak,AoG]at h;obtain ⟨r0,hr0,h⟩:=h;split at h
 .simp [Tr.ev]at h
 .rename_i hc;simp only [Aqc,Ao7,not_or,Bool.not_eq_false]at hc;have hκr:κ∉r0.2:=by grind
  simp only [Tr.ev,AoD]at h;subst h;obtain ⟨ie,i1,i2,_⟩:=Kz hT ht;obtain ⟨vs,h3,h4,h5⟩:=Jj hi hx hl;have hbump:∀n,Cn (pre++[(i,j)]) n≠[]:=λn=>by rw [N7];simp
  obtain ⟨xs',w',F',q1,q2,q3,q4,q5,q6,q7,q8,q9⟩:=AcM (P:=P) hi κ o0 hκ (pre++[(i,j)]) Z hbump ad ls vs 0 o0.xs [] w (c.F κ) r0 rfl (hi.ow κ o0 hκ) (hi.nd κ (by grind))
   (λg hg=>.inl hg) Z (Step.refl _ _) rfl (λm _=>PG _ m had) h4 h5 hr0 (by grind) (by grind)
  refine⟨w',Ow i1 h3 (by rw [i2,<- hn,h4.len]) ad w w' q1,?_⟩;generalize hS:(S.kp (.deep κ::Ct r0.2)).ups (.ow κ (some r0.1)::Cw r0.2)=S';have hg:=P3 r0.2 ((S.kp (.deep κ::Ct r0.2)).up (.ow κ (some r0.1)));have how:∀k,S'.ow k=if k=κ then some r0.1 else if k∈r0.2 then none else S.ow k:=by
   intro k;rw [<- hS];show(((S.kp (.deep κ::Ct r0.2)).up (.ow κ (some r0.1))).ups (Cw r0.2)).ow k=_;rw [hg.2.2];by_cases hk:k=κ
   .subst hk;rw [AoH hκr,AoJ rfl];show(if k=k then some r0.1 else _)=_;simp
   .rw [AoH hk];by_cases hk2:k∈r0.2
    .grind
    .rw [AoH hk2,AoH hk2];show(if k=κ then some r0.1 else(S.kp _).ow k)=_;rw [AoH hk,Gr]
  have hms:S'.ms=S.ms:=by
   rw [<- hS];exact hg.1.trans (GX S _)
  have hmc:∀k i,S'.mc k i=(S.mc k i).kp (.deep κ::Ct r0.2):=by
   intro k i;rw [<- hS];have:((S.kp (.deep κ::Ct r0.2)).ups (.ow κ (some r0.1)::Cw r0.2)).mc=(S.kp (.deep κ::Ct r0.2)).mc:=hg.2.1;rw [this,E8]
  obtain ⟨c',_,_,_,e4,e5,_⟩:=hi.setOwn (S':=S') (w':=w') κ r0.1 r0.2 (.deep κ::Ct r0.2) (c.hv κ) F' how hms hmc (λk hk=>by simp [Ct,hk])
   (λo ho=>by
    grind)
   (q8.mono (by grind))
   (λg hg=>by
    have:∃k,(k=κ\/k∈r0.2)/\S.ow k≠none/\g∈c.F k:=by
     grind
    obtain ⟨k,k1,k2,k3⟩:=this;exact⟨by rw [q9];exact(hi.fr g (.inr ⟨k,k2,k3⟩)).1,.inl ⟨k,k1,k2,k3⟩⟩) q5
   (λK' hK _=>by
    rw [q2];have hKin:∀g,Kok b S c g->g < w'.heap.size->K' g:=λg hg hlt=>(hK.2 g hg O).2
    exact Rp.frame ⟨Ao4 _,λg hg hlt=>⟨rfl,hKin g hg hlt⟩⟩ _ _ q4 λg _=>rfl)
  subst hS;exact⟨c',e4,e5,trivial⟩
end
end Go.V
namespace Go.V
open Go.RowKit
def CK (c:Cc) (ks:List Nat) (G:List Nat):Prop:=∀g,g∈G->∃k,k∈ks/\g∈c.F k
def Ows (S:St) (ks:List Nat):Prop:=∀k,k∈ks->S.ow k≠none
section
variable {b:Base} {S:St} {c:Cc} {w:World}
theorem C5 {ks ls:List Nat} {G H:List Nat} (hi:Inv b S w c) (hg:CK c ks G) (hh:CK c ls H) (ho:Ows S ks) (ho':Ows S ls) (hu:AO (ks++ls)=true) (n1:G.Nodup) (n2:H.Nodup) :
  CK c (ks++ls) (G++H)/\(G++H).Nodup:=by
 obtain ⟨_,_,h3⟩:=AU hu;refine⟨?_,Apc.2 ⟨n1,n2,?_⟩⟩
 .intro g hx;rcases AoK.1 hx with hx | hx
  .obtain ⟨k,h,h'⟩:=hg g hx;exact⟨k,by simp [h],h'⟩
  .obtain ⟨k,h,h'⟩:=hh g hx;exact⟨k,by simp [h],h'⟩
 .rintro g hx g' hx' rfl;obtain ⟨k,h,h'⟩:=hg g hx;obtain ⟨l,q,q'⟩:=hh g hx';have hne:k≠l:=by rintro rfl;exact h3 k h q
  exact hi.oo k l hne (ho k h) (ho' l q) g h' q'
theorem CM {ks ls:List Nat} (h:Ows S ks) (h':Ows S ls):Ows S (ks++ls):=λk hk=>(AoK.1 hk).elim (h k) (h' k)
theorem Ed (hi:Inv b S w c) (key:Nat) (o:Own) (gs:List Nat) (hgs:Ows S gs) {w':World} {h':Value} {F':List Nat} (hst:Step w w' (λg=>∃k,k∈gs/\g∈c.F k))
  (hF:∀g,g∈F'->g < w'.heap.size/\((∃k,k∈gs/\g∈c.F k)\/w.heap.size<=g)) (hnd:F'.Nodup)
  (hR:∀K',KSame w w' (Kok b S c) K'->(∀g,w.heap.size<=g->g∉F'->K' g)->Rp w' K' (.sl true o.e o.r) o.xs [h'] F'):Did b S c w (BZ key o gs) h' w':=by
 unfold Did;show ∃c',Inv b ((S.kp (.all key::Ct gs)).ups (Cw gs++[.ow key (some o)])) w' c'/\Stay S ((S.kp (.all key::Ct gs)).ups (Cw gs++[.ow key (some o)])) c c' w w' (Kok b S c) (Kok b ((S.kp (.all key::Ct gs)).ups (Cw gs++[.ow key (some o)])) c') (.all key::Ct gs)/\
  AX ((S.kp (.all key::Ct gs)).ups (Cw gs++[.ow key (some o)])) c' w' (Kok b ((S.kp (.all key::Ct gs)).ups (Cw gs++[.ow key (some o)])) c') (.s (.one (.vw key [] none))) h'
 generalize hS:(S.kp (.all key::Ct gs)).ups (Cw gs++[.ow key (some o)])=S';have hg:=P3 gs (S.kp (.all key::Ct gs));rw [EH]at hS;have how:∀k,S'.ow k=if k=key then some o else if k∈gs then none else S.ow k:=by
  intro k;rw [<- hS];show(if k=key then some o else((S.kp (.all key::Ct gs)).ups (Cw gs)).ow k)=_;rw [hg.2.2,Gr]
 have hms:S'.ms=S.ms:=by
  rw [<- hS];show((S.kp (.all key::Ct gs)).ups (Cw gs)).ms=_;rw [hg.1,GX]
 have hmc:∀k i,S'.mc k i=(S.mc k i).kp (.all key::Ct gs):=by
  intro k i;rw [<- hS];show((S.kp (.all key::Ct gs)).ups (Cw gs)).mc k i=_;rw [hg.2.1,E8]
 obtain ⟨c',_,e2,_,e4,e5,_⟩:=hi.setOwn (S':=S') (w':=w') key o gs (.all key::Ct gs) h' F' how hms hmc (λk hk=>by simp [Ct,hk]) (λ_ _=>.inl Z)
  (hst.mono (by rintro g ⟨k,h,h'⟩;exact⟨k,.inr h,hgs k h,h'⟩))
  (λg hg=>⟨(hF g hg).1,(hF g hg).2.imp (by rintro ⟨k,h,h'⟩;exact⟨k,.inr h,hgs k h,h'⟩) id⟩) hnd hR
 refine⟨c',e4,e5,o,o.e,o.r,o.xs,h',by rw [how,AoJ rfl],rfl,by rw [e2];rfl,rfl⟩
theorem Oj (ls:List Leaf):Eg [] ls=match ls with | []=>.ret ((),[]) | _::_=>.fail:=by cases ls <;> rfl
theorem AbL (t:Ty) (l:Leaf):Eg [t] [l]=JD t l:=rfl
theorem TA (t u:Ty) (ts:List Ty) (l:Leaf) (ls:List Leaf):Eg (t::u::ts) (l::ls)=(JD t l).bind λx=>(Eg (u::ts) ls).bind λy=>.ret ((x.1,y.1),x.2++y.2):=rfl
theorem KR (t:Ty) (ts:List Ty):Eg (t::ts) []=.fail:=by cases ts <;> rfl
theorem Tg (t:Ty) (l u:Leaf) (ls:List Leaf):Eg [t] (l::u::ls)=.fail:=rfl
theorem Aap (hi:Inv b S w c):∀(ts:List Ty) (ls:List Leaf) (vs:List Value) (z:(AW ts).D×List Nat),All2 (LeafOk S c w (Kok b S c)) ls vs->(Eg ts ls).ev S=some z->AO z.2=true->
  Ows S z.2/\∃G,Rp w (Kok b S c) (AW ts) z.1 vs G/\G.Nodup/\CK c z.2 G:=by
 intro ts
 induction ts with
 | nil=>
  intro ls vs z ha h _;cases ls with
  | nil=>
   cases ha;rw [Oj]at h
   replace h:some (((),[]):Unit×List Nat)=some z:=h
   injection h with h
   subst h;exact⟨λk hk=>(by cases hk),[],by simp [AW,Rp],Z,λg hg=>(by cases hg)⟩
  | cons l ls=>rw [Oj]at h;cases h
 | cons t ts ih=>
  intro ls vs z ha h hu;cases ts with
  | nil=>
   cases ls with
   | nil=>rw [KR]at h;cases h
   | cons l ls=>
    cases ls with
    | cons l2 ls=>rw [Tg]at h;cases h
    | nil=>
     cases ha with
     | cons h1 h2=>
      cases h2;rw [AbL]at h;obtain ⟨k1,_,G,k3,k4,k5⟩:=Lc (t:=t) (z:=z) hi h1 h;exact⟨k1,G,k3,k4,k5⟩
  | cons u ts=>
   cases ls with
   | nil=>rw [KR]at h;cases h
   | cons l ls=>
    cases ha with
    | cons h1 h2=>
     rw [TA]at h;obtain ⟨z1,hz1,h⟩:=AoG.1 ((Ak S _ _).symm.trans h);obtain ⟨z2,hz2,h⟩:=AoG.1 ((Ak S _ _).symm.trans h);injection h with h
     subst h;simp only at hu;obtain ⟨u1,u2,_⟩:=AU hu;obtain ⟨k1,_,G,k3,k4,k5⟩:=Lc hi h1 hz1;obtain ⟨m1,H,m3,m4,m5⟩:=ih ls _ z2 h2 hz2 u2;obtain ⟨q1,q2⟩:=C5 hi k5 m5 k1 m1 hu k4 m4;refine⟨CM k1 m1,G++H,?_,q2,q1⟩;show Rp w (Kok b S c) (.pair t (AW (u::ts))) (z1.1,z2.1) _ _;rw [Rp];exact⟨[_],_,G,H,rfl,rfl,k3,m3⟩
theorem Yw {S:St}:∀(ts:List Ty) (ls:List Leaf) (z:(AW ts).D×List Nat),(Eg ts ls).ev S=some z->ls.length=ts.length:=by
 intro ts
 induction ts with
 | nil=>
  intro ls z h;cases ls with
  | nil=>rfl
  | cons l ls=>rw [Oj]at h;cases h
 | cons t ts ih=>
  intro ls z h;cases ts with
  | nil=>
   cases ls with
   | nil=>rw [KR]at h;cases h
   | cons l ls=>
    cases ls with
    | cons l2 ls=>rw [Tg]at h;cases h
    | nil=>rfl
  | cons u ts=>
   cases ls with
   | nil=>rw [KR]at h;cases h
   | cons l ls=>
    rw [TA]at h;obtain ⟨z1,hz1,h⟩:=AoG.1 ((Ak S _ _).symm.trans h);obtain ⟨z2,hz2,h⟩:=AoG.1 ((Ak S _ _).symm.trans h);have:=ih ls z2 hz2;simp only [AoV]at this ⊢;omega
theorem AaK (hi:Inv b S w c) (ts:List Ty):∀(ps:List (Nat×SV)) (us:List Value) (n:Nat) {z:List (AW ts).D×List Nat},All2 (λp u=>AX S c w (Kok b S c) p.2 u) ps us->(Vi ts ps n).ev S=some z->AO z.2=true->
  Ows S z.2/\z.1.length=ps.length/\ps.map (·.1)=List.range' n ps.length/\(∀u,u∈us->u.cells.size=ts.length)/\∃G,RpL (Rp w (Kok b S c) (AW ts)) z.1 (us.flatMap λu=>u.cells.toList) G/\G.Nodup/\CK c z.2 G
 | [],_,n,z,.nil,h,_=>by
  simp only [Vi,Tr.ev,AoD]at h;subst h;refine⟨λk hk=>(by cases hk),rfl,rfl,Z,[],?_,Z,λg hg=>(by cases hg)⟩;exact⟨rfl,rfl⟩
 | (i,x)::ps,_,n,z,.cons (b:=v) (bs:=vs) h1 h2,h,hu=>by
  simp only [Vi]at h;split at h
  .rename_i hin;subst hin;split at h
   .rename_i ls hls;simp only [Ak,AoG,Tr.ev,AoD]at h;obtain ⟨z1,hz1,z2,hz2,rfl⟩:=h;simp only at hu;obtain ⟨u1,u2,_⟩:=AU hu;obtain ⟨cs,e1,e2,_⟩:=Jj hi h1 hls;obtain ⟨k1,G,k3,k4,k5⟩:=Aap hi ts ls cs z1 e2 hz1 u1;obtain ⟨m1,m2,m3,m4,H,m5,m6,m7⟩:=AaK hi ts ps vs (i+1) h2 hz2 u2;obtain ⟨q1,q2⟩:=C5 hi k5 m7 k1 m1 hu k4 m6;have hlen:=Yw ts ls z1 hz1;refine⟨CM k1 m1,by simp [m2],?_,?_,G++H,?_,q2,q1⟩
    .simp only [Apk,AoV,List.range'_succ,m3]
    .intro u hu;rcases AoY.1 hu with rfl | hu
     .rw [e1,Apn,<- e2.len,hlen]
     .exact m4 u hu
    .refine⟨cs,_,G,H,?_,rfl,k3,m5⟩;simp [e1]
   .simp [Tr.ev]at h
  .simp [Tr.ev]at h
theorem AaR {K:Nat->Prop}:∀(ts:List Ty),(∀t∈ts,t.size=1/\∀a b,t≠.pair a b)->Rp w K (AW ts) (AW ts).zero (ts.map By) []
 | [],_=>by simp [AW,Rp]
 | [t],h=>zero1 t (h t Z)
 | t::u::ts,h=>by
  simp only [AW,Rp,Ty.zero];exact⟨[By t],(u::ts).map By,[],[],rfl,rfl,zero1 t (h t Z),AaR (u::ts) λx hx=>h x (by simp [hx])⟩
where
 zero1 (t:Ty) (h:t.size=1/\∀a b,t≠.pair a b):Rp w K t t.zero [By t] []:=by
  cases t with
  | pair a b=>exact absurd rfl (h.2 a b)
  | unit=>simp [Ty.size]at h
  | int k=>simp [By,Rp,Ty.zero]
  | bool=>simp [By,Rp,Ty.zero]
  | er=>simp [By,Rp,Ty.zero,ErV]
  | lp=>simp [Ty.size]at h
  | mh=>simp [By,Rp,Ty.zero]
  | mp=>simp [Ty.size]at h
  | str=>simp [By,Rp,Ty.zero]
  | pt t=>simp [By,Rp,Ty.zero]
  | sl o e r=>
   cases o with
   | true=>simp only [Rp,Ty.zero,By];exact .inl ⟨trivial,trivial,trivial⟩
   | false=>simp only [Rp,Ty.zero,By];exact⟨trivial,none,0,[],rfl,Ao4 _,⟨rfl,rfl⟩,.inl trivial⟩
theorem RB (z:Array Value) (hz:0 < z.size):∀m,(List.range (m * z.size)).map (λi=>z[i % z.size]!)=(List.replicate m z.toList).flatten
 | 0=>by simp
 | m+1=>by
  have h1:(m+1) * z.size=z.size+m * z.size:=by rw [Nat.succ_mul];omega
  rw [h1,List.range_add,Ape,ApF,ApE,List.flatten_cons,<- RB z hz m]
  congr 1
  .apply Apq;intro j;by_cases hj:j < z.size
   .simp [hj,Aqv hj]
   .simp [hj]
  .apply Aps;intro j _;simp
theorem AfW (z:Array Value) (hz:0 < z.size) (m n:Nat) (h:m<=n):(madeCells z (n * z.size)).toList.take (m * z.size)=(List.replicate m z.toList).flatten:=by
 have hmn:m * z.size<=n * z.size:=ApJ _ h;rw [<- RB z hz m,madeCells,Array.toList_map,Array.toList_range,<- List.map_take,List.take_range,AqD hmn]
theorem Rj {K:Nat->Prop} {ts:List Ty} (h:∀t∈ts,t.size=1/\∀a b,t≠.pair a b):∀m,RpL (Rp w K (AW ts)) (List.replicate m (AW ts).zero) (List.replicate m (ts.map By)).flatten []
 | 0=>⟨rfl,rfl⟩
 | m+1=>⟨ts.map By,_,[],[],by simp [ApE],rfl,AaR ts h,Rj h m⟩
end
section
variable {P:Program} {ti:TypeId->TI} {b:Base} {S:St} {c:Cc} {w:World}
theorem Step.push (w:World) (o:Obj):Step w { w with heap:=w.heap.push o } (λ_=>False):=
 ⟨rfl,rfl,rfl,Z,λg hg _=>by simp [Array.getElem?_push,(O:¬ (g=w.heap.size))]⟩
theorem F8 (w:World) (o:Obj):(w.heap.push o)[w.heap.size]?=some o:=by simp
theorem Xu:∀(us:List Value) (n:Nat),(List.range' n us.length).zip us=(us.zipIdx n).map λx=>(x.2,x.1)
 | [],_=>rfl
 | u::us,n=>by simp [List.range'_succ,Xu us (n+1)]
theorem Yf (hT:TabOk P ti) (hi:Inv b S w c) {hn:List (Nat×List Ty)} {t:TypeId} {d len:Nat} {ps:List (Nat×SV)} {us:List Value} {is:List (Nat×Value)} {out:Out} (hps:All2 (λp u=>AX S c w (Kok b S c) p.2 u) ps us)
  (his:is=(ps.map (·.1)).zip us) (h:(Od (ti t) hn d len ps).ev S=some out):∃v w',(Instr.buildSlice t len is.toArray).run P w=.ok v w'/\Did b S c w out v w':=by
 unfold Od at h;split at h
 .rename_i e ts0 bytes ht;split at h
  rotate_left
  .simp [Tr.ev]at h
  rename_i hc0;generalize Vy ts0 (JK hn d ts0) ps=ts at hc0 h;simp only [AoI,Apb,beq_iff_eq]at hc0;obtain ⟨hall1,hl0⟩:=hc0;unfold Vs at h;simp only [Ak,AoG]at h;obtain ⟨r,hr,h⟩:=h;split at h
  .rename_i hc;simp only [AoI,decide_eq_true_eq]at hc;obtain ⟨⟨hu,hl⟩,hsmall⟩:=hc;simp only [Tr.ev,AoD]at h;subst h;obtain ⟨h1,_,_,hpos,i,z,h2,h3,h4,h5,h6,h7⟩:=hT.slice ht;rw [<- hl0]at hpos h3;obtain ⟨k1,k2,k3,k4,G,k5,k6,k7⟩:=AaK hi ts ps us 0 hps hr hu;have hsz:(AW ts).size=ts.length:=PE ts hall1;have hzs:z.cells.size=ts.length:=by
    have:=congrArg List.length h6;simpa [hl0] using this
   have hlus:us.length=len:=by rw [<- hps.len,hl]
   have hflat:(us.flatMap λu=>u.cells.toList).length=len * ts.length:=by
    have:=RpL.len (λx vs F h=>Rp.len (AW ts) x h) k5;rw [this,k2,hl,hsz]
   rcases Nat.eq_zero_or_pos len with hz | hp
   .-- nothing in it
    have hus:us=[]:=Ao1 O;have hps0:ps=[]:=Ao1 O;subst hus hps0 hz;simp only [AqC,List.zip_nil_left]at his;subst his;have hr1:r.1=[]:=Ao1 (by rw [k2];rfl);refine⟨.slice (some ⟨w.heap.size,0,none⟩) 0 0,{ w with heap:=w.heap.push (.cells #[] e) },?_,?_⟩
    .simp [Instr.buildSlice,run_underlying h1,sizeOf,typeInfo,h2,Instr.fill,newRow,Array.range_zero']
    .refine Ed hi (kd d 0) ⟨e,AW ts,r.1⟩ r.2 k1 (F':=[w.heap.size]) ((Step.push w _).mono λ_ h=>h.elim) ?_ Z ?_
     .intro g hg;simp only [AoZ]at hg;subst hg;exact⟨Z,.inr (Ao4 _)⟩
     .intro K' hK _;simp only [Rp,hr1];exact .inr ⟨w.heap.size,0,0,#[],(0,0),[],rfl,rfl,F8 w _,NFt.zero _ (λ_=>by simp),Z,Ao4 _,by simp [RpL]⟩
   .have hfill:=Great.fill_whole (s:=ts.length) hpos us ((Array.range (len * i.size)).map (z.cells[· % z.cells.size]!)) k4 (by simp [h3,hlus]);have his':is.toArray.toList=(us.zipIdx 0).map λx=>(x.2,x.1):=by
     rw [his,k3,<- Xu us 0,hps.len]
    have hrun:=run_buildSlice (P:=P) w t e len is.toArray (us.flatMap λu=>u.cells.toList).toArray i z h1 h2 h5 (by rw [h3,<- hsz];omega) (by rw [h3];have:=Nat.mul_pos hp hpos;omega)
     (by rw [his',h3];rw [h3]at hfill;exact hfill)
    refine⟨_,_,hrun,?_⟩;refine Ed hi (kd d 0) ⟨e,AW ts,r.1⟩ r.2 k1 (F':=w.heap.size::G) ((Step.push w _).mono λ_ h=>h.elim) ?_ ?_ ?_
    .intro g hg;rcases AoY.1 hg with rfl | hg
     .exact⟨Z,.inr (Ao4 _)⟩
     .obtain ⟨k,q,q'⟩:=k7 g hg;have:=(hi.fr g (.inr ⟨k,k1 k q,q'⟩)).1;exact⟨Aoz,.inl ⟨k,q,q'⟩⟩
    .rw [ApB];refine⟨λhg=>?_,k6⟩;obtain ⟨k,q,q'⟩:=k7 _ hg;have:=(hi.fr _ (.inr ⟨k,k1 k q,q'⟩)).1;omega
    .intro K' hK _;simp only [Rp];refine .inr ⟨w.heap.size,0,len,_,(0,0),G,by rw [k2,hl],rfl,F8 w _,NFt.zero _ (λ_=>by rw [Apn,hflat,<- hsz];omega),?_,by rw [k2,hl];exact Ao4 _,?_⟩
     .rw [hsz,Apn,hflat];simp
     .rw [ApN,k2,hl,hsz,<- hflat,Apy];exact RpL.frame hK _ _ _ _ (λg hg=>by
       obtain ⟨k,q,q'⟩:=k7 g hg;exact(Step.push w _).same g (hi.fr g (.inr ⟨k,k1 k q,q'⟩)).1 (λh=>h)) k5
  .simp [Tr.ev]at h
 .simp [Tr.ev]at h
theorem AgX (t:Ty):By t.frz=By t:=by cases t <;> rfl
theorem Aio (t:Ty) (h:t.frz.size=1/\∀a b,t.frz≠.pair a b):t.size=1/\∀a b,t≠.pair a b:=by
 cases t with
 | pair a b=>exact absurd rfl (h.2 a.frz b.frz)
 | unit=>simp [Ty.frz,Ty.size]at h
 | lp=>simp [Ty.frz,Ty.size]at h
 | mp=>simp [Ty.frz,Ty.size]at h
 | _=>simp [Ty.size]
theorem Ah2 (t:Ty) (h:t.size=1/\∀a b,t≠.pair a b):t.frz.size=1/\∀a b,t.frz≠.pair a b:=by
 cases t with
 | pair a b=>exact absurd rfl (h.2 a b)
 | unit=>simp [Ty.size]at h
 | lp=>simp [Ty.size]at h
 | mp=>simp [Ty.size]at h
 | _=>simp [Ty.frz,Ty.size]
theorem Aem {ts hs:List Ty} (h:∀t∈ts,t.size=1/\∀a b,t≠.pair a b):(Mo ts hs).map By=ts.map By/\(∀t∈Mo ts hs,t.size=1/\∀a b,t≠.pair a b)/\(Mo ts hs).length=ts.length:=by
 unfold Mo;split
 .rename_i he;refine⟨?_,?_,by have:=congrArg List.length he;simpa using this.symm⟩
  .have:=congrArg (List.map By) he;simp only [ApF]at this;have hz:(By ∘ Ty.frz)=By:=funext AgX;rw [hz]at this;exact this.symm
  .intro t ht;have hm:t.frz∈ts.map Ty.frz:=by rw [he];exact List.mem_map_of_mem ht
   obtain ⟨u,hu,hut⟩:=Ao0.1 hm;exact Aio t (hut ▸ Ah2 u (h u hu))
 .exact⟨rfl,h,rfl⟩
theorem AaJ (hT:TabOk P ti) (hi:Inv b S w c) {hn:List (Nat×List Ty)} {t:TypeId} {d:Nat} {l m:SV} {u v:Value} {out:Out} (hl:AX S c w (Kok b S c) l u) (hm:AX S c w (Kok b S c) m v)
  (h:(PP (ti t) hn d l m).ev S=some out):∃r w',(Instr.makeSlice t u v).run P w=.ok r w'/\Did b S c w out r w':=by
 unfold PP at h;split at h
 .rename_i e ts0 bytes l m ht;generalize hts:Mo ts0 (JK hn d ts0)=ts at h;simp only at h;obtain rfl:=B7 (AY hl);obtain rfl:=B7 (AY hm)
  replace h:=BN h
  obtain ⟨c1,h⟩:=h
  replace h:=BN h
  obtain ⟨c2,h⟩:=h
  replace h:=BN h
  obtain ⟨c3,h⟩:=h;simp only [decide_eq_true_eq,Aa]at c1 c2 c3;simp only [Tr.ev,AoD]at h;subst h;obtain ⟨h1,_,hb,hpos,i,z,h2,h3,h4,h5,h60,h70⟩:=hT.slice ht;obtain ⟨hl1,hl2,hl3⟩:=Aem (hs:=JK hn d ts0) h70;rw [hts]at hl1 hl2 hl3;have h6:z.cells.toList=ts.map By:=h60.trans hl1.symm;have h7:=hl2;rw [<- hl3]at h3 hpos;have hsz:(AW ts).size=ts.length:=PE ts λt ht=>(h7 t ht).1
  have hzs:z.cells.size=ts.length:=by
   have:=congrArg List.length h6;simpa using this
  obtain ⟨l',rfl⟩:=AoX c1;obtain ⟨m',rfl⟩:=AoX (Int.le_trans c1 c2);simp only [AoE]at c3 ⊢;have c2':l'<=m':=Int.ofNat_le.1 c2;have hm':m'<=140737488355328:=Ao2 (Nat.le_mul_of_pos_right _ hb) c3;have hrun:=run_make (P:=P) w t e i z h1 h2 h5 .i64 .i64 l' m' c1 c2 (by rw [h4,<- Int.natCast_mul,Nat.mul_comm];omega) O;refine⟨_,_,hrun,?_⟩;refine Ed hi (kd d 0) ⟨e,AW ts,List.replicate l' (AW ts).zero⟩ [] (λk hk=>by cases hk) (F':=[w.heap.size]) ((Step.push w _).mono λ_ h=>h.elim) ?_ Z ?_
  .intro g hg;simp only [AoZ]at hg;subst hg;exact⟨Z,.inr (Ao4 _)⟩
  .intro K' hK _;simp only [Rp];refine .inr ⟨w.heap.size,0,m',madeCells z.cells (m' * i.size),(0,0),[],Z,rfl,F8 w _,NFt.zero _ (λhr1=>by have hs1:=congrArg Ty.size hr1;rw [hsz]at hs1;rw [size_madeCells,h3,hs1];simp only [Ty.size];omega),?_,Aoz,?_⟩
   .rw [hsz,size_madeCells,h3];omega
   .rw [ApN,ApC,hsz,h3,<- hzs,AfW z.cells O l' m' O,h6];exact Rj h7 l'
 .simp [Tr.ev]at h
end
end Go.V
namespace Go.V
open Go.RowKit
theorem Rp.ro {w:World} {K:Nat->Prop}:∀(t:Ty) (x:t.D) {vs F},t.ro=true->Rp w K t x vs F->F=[]
 | .int _,_,_,_,_,h=>by simp only [Rp]at h;exact h.2
 | .bool,_,_,_,_,h=>by simp only [Rp]at h;exact h.2
 | .er,_,_,_,_,h=>by simp only [Rp]at h;grind
 | .lp,_,_,_,_,h=>by simp only [Rp]at h
 | .mh,_,_,_,_,h=>by simp only [Rp]at h;exact h.2.1
 | .mp,_,_,_,_,h=>by simp only [Rp]at h
 | .str,_,_,_,_,h=>by simp only [Rp]at h;exact h.2
 | .pt _,_,_,_,_,h=>by simp only [Rp]at h;exact h.1
 | .unit,_,_,_,_,h=>by simp only [Rp]at h;exact h.2
 | .pair a b,x,_,_,hr,h=>by
  simp only [Ty.ro,AoI]at hr;obtain ⟨v1,v2,F1,F2,_,rfl,h1,h2⟩:=h;rw [Rp.ro a _ hr.1 h1,Rp.ro b _ hr.2 h2];rfl
 | .sl true _ _,_,_,_,hr,_=>by simp [Ty.ro]at hr
 | .sl false _ r,_,_,_,_,h=>by simp only [Rp]at h;exact h.1
theorem RpL.ro {w:World} {K:Nat->Prop} {r:Ty} (hr:r.ro=true):∀(xs:List r.D) {vs F},RpL (Rp w K r) xs vs F->F=[]
 | [],_,_,h=>h.2
 | x::xs,_,_,h=>by
  obtain ⟨v1,v2,F1,F2,_,rfl,h1,h2⟩:=h;rw [Rp.ro r x hr h1,RpL.ro hr xs h2];rfl
theorem RpL.one {w:World} {K:Nat->Prop} {r:Ty}:∀(xs:List r.D) {vs F},RpL (Rp w K r) xs vs F->∀u∈vs,u.oneCell'=true
 | [],_,_,h=>by rw [h.1];simp
 | x::xs,_,_,h=>by
  obtain ⟨v1,v2,F1,F2,rfl,_,h1,h2⟩:=h;intro u hu;rcases AoK.1 hu with hu | hu
  .exact Rp.one r x h1 u hu
  .exact RpL.one xs h2 u hu
theorem Rk {w:World} {K:Nat->Prop}:∀(s:List UInt8),RpL (Rp w K (.int .u8)) (AA s) (byteCells ⟨s.toArray⟩) []
 | []=>⟨rfl,rfl⟩
 | x::s=>by
  have ih:=Rk (w:=w) (K:=K) s;simp only [byteCells,AA,Apk]at ih ⊢;exact⟨[_],_,[],[],rfl,rfl,by simp [Rp],ih⟩
section
variable {P:Program} {ti:TypeId->TI} {b:Base} {S:St} {c:Cc} {w:World}
theorem Ll {size:Nat} {t2 e':TypeId} {A:Option Addr} {n cap:Nat} {ws:List Value} (hk:P.underlying t2=some (.slice e')) (hl:ws.length=n * size) (h1:∀u∈ws,u.oneCell'=true)
  (hA:n=0\/∃ad,A=some ad/\∀j,j < ws.length->w.cell? (ad.add j)=ws[j]?):Src P size t2 (.slice A n cap) n ws w:=by
 cases A with
 | none=>
  rcases hA with rfl | ⟨ad,h,_⟩
  .obtain rfl:ws=[]:=Ao1 O;exact Src.ofNil w hk cap
  .cases h
 | some a=>
  refine Src.ofSlice w hk a n cap ws hl (λj u hu=>?_) h1
  grind
theorem AjQ (hT:TabOk P ti) (hi:Inv b S w c) {t2 e:TypeId} {r:Ty} {y:Leaf} {v:Value} {m:List r.D×List Nat} (hy:LeafOk S c w (Kok b S c) y v) (h:(Afj (ti t2) e r y).ev S=some m) :
  Ows S m.2/\AO m.2=true/\∃news F,Src P r.size t2 v m.1.length news w/\RpL (Rp w (Kok b S c) r) m.1 news F/\F.Nodup/\CK c m.2 F:=by
 have hn:Ows S []/\AO []=true:=⟨λk hk=>(by cases hk),rfl⟩
 have hh:CK c [] []:=λg hg=>(by cases hg)
 unfold Afj at h;split at h
 .rename_i s;split at h
  .rename_i hc;split at h
   .simp only [Tr.ev,AoD]at h;subst h;obtain rfl:=Es hy;refine⟨hn.1,hn.2,byteCells ⟨s.toArray⟩,[],?_,Rk s,Z,hh⟩;have:=Src.ofString (P:=P) w (NJ hT hc) ⟨s.toArray⟩;have hs:(ByteArray.mk s.toArray).size=(AA s).length:=by simp [ByteArray.size,AA]
    rw [hs]at this;exact this
   .simp [Tr.ev]at h
  .simp [Tr.ev]at h
 .split at h
  .rename_i hc;obtain ⟨e',ie,hu,hie⟩:=K9 hT hc;split at h
   .rename_i hro;split at h
    .simp only [Tr.ev,AoD]at h;subst h;obtain rfl:v=.slice none 0 0:=hy;exact⟨hn.1,hn.2,[],[],Ll hu Z Z (.inl rfl),⟨rfl,rfl⟩,Z,hh⟩
    .simp only [Ak,AoG]at h;obtain ⟨o,ho,h⟩:=h;split at h
     .rename_i he;obtain ⟨oe,or,oxs⟩:=o;simp only [Ty.sl.injEq,true_and]at he;obtain ⟨rfl,rfl⟩:=he;simp only [Tr.ev,AoD]at h;subst h;obtain ⟨A,cap,ws,F',rfl,hr,hx⟩:=HG hi hy ho;have hF:=RpL.ro hro _ hr;subst hF;refine⟨hn.1,hn.2,ws,[],Ll hu (RpL.len (λx vs F h=>Rp.len or x h) hr) (RpL.one _ hr) ?_,hr,Z,hh⟩
      grind
     .simp [Tr.ev]at h
   .obtain ⟨k1,k2,G,k3,k4,k5⟩:=Lc (t:=.sl true e r) hi hy h;refine⟨k1,k2,?_⟩;simp only [Rp]at k3;rcases k3 with⟨h1,rfl,h2⟩ | ⟨g,off,cap,cs,fr,F0,h1,rfl,hg,hnf,hoff,hcp,hr⟩
    .injection h2 with h2
     subst h2;rw [h1];exact⟨[],[],Ll hu Z Z (.inl rfl),⟨rfl,rfl⟩,Z,λg hg=>(by cases hg)⟩
    .injection h1 with h1
     subst h1;refine⟨_,F0,Ll hu (RpL.len (λx vs F h=>Rp.len r x h) hr) (RpL.one _ hr) (.inr ⟨_,rfl,λj hj=>?_⟩),hr,(ApB.1 k4).2,λg hg=>k5 g (by simp [hg])⟩;rw [Be,Bf hg]
     grind
  .simp [Tr.ev]at h
theorem C6 {g:Nat} {e:TypeId} {fr:Nat×Nat}:∀(vs:List Value) (o:Nat) (w:World) (cs:Array Value),w.heap[g]?=some (.cells cs e fr)->o+vs.length<=cs.size->
  ∃cs',(w.setCells g o vs).heap[g]?=some (.cells cs' e fr)/\cs'.size=cs.size/\∀i,cs'[i]?=if o<=i/\i < o+vs.length then vs[i - o]? else cs[i]?
 | [],o,w,cs,h,_=>⟨cs,h,rfl,λi=>by grind⟩
 | v::vs,o,w,cs,h,hle=>by
  simp only [AoV]at hle;obtain ⟨cs',h1,h2,h3⟩:=C6 vs (o+1) (w.setCell ⟨g,o,none⟩ v) _ (Oh h o v) Aoz;refine⟨cs',h1,by rw [h2];simp,λi=>?_⟩
  grind
theorem CN {g:Nat}:∀(vs:List Value) (o:Nat) (w:World),Step w (w.setCells g o vs) (λx=>x=g)/\(w.setCells g o vs).heap.size=w.heap.size
 | [],_,w=>⟨Step.refl _ _,rfl⟩
 | v::vs,o,w=>by
  obtain ⟨h1,h2⟩:=CN (g:=g) vs (o+1) (w.setCell ⟨g,o,none⟩ v);have h3:(w.setCell ⟨g,o,none⟩ v).heap.size=w.heap.size:=by simp
  have h4:Step w (w.setCell ⟨g,o,none⟩ v) (λx=>x=g):=⟨rfl,rfl,rfl,O,λx _ hx=>Below.heap_setCell _ _ _ _ hx⟩
  exact⟨h4.trans h1,by rw [<- h3];exact h2⟩
theorem Aiw (hi:Inv b S w c) {ks ls:List Nat} {g:Nat} {G:List Nat} (ho:Ows S ks) (ho':Ows S ls) (hu:AO (ks++ls)=true) (hg:CK c ks [g]) (hG:CK c ls G):g∉G:=by
 intro hx;obtain ⟨k,h1,h2⟩:=hg g Z;obtain ⟨l,h3,h4⟩:=hG g hx;obtain ⟨_,_,h5⟩:=AU hu;have hne:k≠l:=by grind
 exact hi.oo k l hne (ho k h1) (ho' l h3) g h2 h4
theorem Jn (hi:Inv b S w c) {ks:List Nat} {G:List Nat} (ho:Ows S ks) (hG:CK c ks G) {g:Nat} (hg:g∈G):g < w.heap.size:=by
 obtain ⟨k,h1,h2⟩:=hG g hg;exact(hi.fr g (.inr ⟨k,ho k h1,h2⟩)).1
theorem I2 (hT:TabOk P ti) {t:TypeId} {k:IntKind} (h:ti t=.cell (.int k)):P.underlying t=some (.int k):=by
 obtain ⟨⟨d,hd,he⟩,_⟩:=hT.cell h;rw [hd];cases d <;> simp [BY]at he;rw [he]
structure Src2 (P:Program) (i:TypeInfo) (z:Value) (t t2 ty e:TypeId) (v:Value) (n:Nat) (news:List Value) (w:World):Prop where
 newsLen:news.length=n * i.size
 grow:∀(A:Option Addr) (sLen cap:Nat) (olds:List Value),sLen<=cap->(Builtin.firstCells i.size sLen (.slice A sLen cap)).run P w.drew=.ok olds.toArray w.drew->cap < sLen+n->sLen+n<=140737488355328->(sLen+n) * i.bytes<=140737488355328->
  (Builtin.append_ #[t,t2] ty #[.slice A sLen cap,v]).run P w=.ok (.slice (some ⟨w.heap.size,0,none⟩) (sLen+n) (grownCap w (sLen+n) cap e)) (w.drew.alloc (.cells ((olds++news).toArray++Builtin.zeroCells z.cells (grownCap w (sLen+n) cap e - (sLen+n))) e))
 room:∀(g off sLen cap:Nat),sLen+n<=cap->sLen+n<=140737488355328->(sLen+n) * i.bytes<=140737488355328->(∀j,j < news.length->(w.cell? ⟨g,off+sLen * i.size+j,none⟩).isSome=true)->(∀j,j < news.length->w.frozen? ⟨g,off+sLen * i.size+j,none⟩=false)->
  (Builtin.append_ #[t,t2] ty #[.slice (some ⟨g,off,none⟩) sLen cap,v]).run P w=.ok (.slice (some ⟨g,off,none⟩) (sLen+n) cap) (w.setCells g (off+sLen * i.size) news)
 nothing:n=0->(Builtin.append_ #[t,t2] ty #[.slice none 0 0,v]).run P w=.ok (.slice none 0 0) w
theorem Src2.of {i:TypeInfo} {z:Value} {t t2 ty e:TypeId} {v:Value} {n:Nat} {news:List Value} (h1:P.underlying t=some (.slice e)) (h2:P.info? e=some i) (h5:i.zero=some z) (h:Src P i.size t2 v n news w):Src2 P i z t t2 ty e v n news w where
 newsLen:=h.newsLen
 grow A sLen cap olds _ hold hcap hb hby:=run_append_grow_src (P:=P) w t t2 ty e i z h1 h2 h5 A sLen cap olds hold v n news h hcap O (growslice_fits hcap hby)
 room g off sLen cap hr _ _ hc hf:=run_append_room_src (P:=P) w t t2 ty e i h1 h2 g off sLen cap v n news h hr hc hf
 nothing hn:=by
  subst hn;have:news=[]:=Ao1 (by rw [h.newsLen];simp);subst this;exact run_append_nothing w t t2 ty e i h1 h2 none 0 0 (Ao4 _) v h
theorem Src2.zeros {i:TypeInfo} {z:Value} {t t2 ty e:TypeId} {n:Nat} (h1:P.underlying t=some (.slice e)) (ht2:P.underlying t2=some (.int .i64)) (h2:P.info? e=some i) (h5:i.zero=some z) (hs:0 < i.size) (hz:z.cells.size=i.size)
  (h1z:∀u∈z.cells.toList,u.oneCell'=true):Src2 P i z t t2 ty e (.int .i64 (n:Int)) n (Builtin.zeroCells z.cells n).toList w where
 newsLen:=by rw [Array.length_toList,size_zeroCells,hz]
 grow A sLen cap olds hle hold hcap hb hby:=by
  have hn:0 < n:=O
  have:=Lib.run_append_grow_zeros w t t2 ty e i z .i64 .i64 h1 ht2 h2 h5 A sLen cap olds hold n hn hs hcap O (by grind) (growslice_fits hcap hby);rw [this]
  congr 3
  grind
 room g off sLen cap hr hb hby hc hf:=by
  have hone:∀u∈(Builtin.zeroCells z.cells n).toList,u.oneCell'=true:=by
   intro u hu;simp only [Builtin.zeroCells,Array.toList_map,Ao0]at hu;obtain ⟨j,hj,rfl⟩:=hu;have hjl:j % z.cells.size < z.cells.size:=Nat.mod_lt _ O
   grind
  have hst:=run_storeCells_cells (P:=P) g (off+sLen * i.size) (Builtin.zeroCells z.cells n).toList 0 w O O hone;simp only [Aqf]at hst;have hw:IntKind.i64.wrap (n:Int)=n:=by rw [IntKind.wrap_i64];omega
  have hneg:¬ ((n:Int) < 0):=O
  have hnb:n * i.bytes<=140737488355328:=by grind
  have h48i:¬ (281474976710656 < (n:Int) * (i.bytes:Int)):=O
  by_cases h0:n=0
  .subst h0;have e0:(Builtin.zeroCells z.cells 0) = #[]:=by simp [Builtin.zeroCells]
   rw [e0]at hst ⊢;simp [Builtin.append_,run_underlying h1,run_underlying ht2,sizeOf,typeInfo,h2,asInt,asIntOf,Addr.add_lit,storeCells,World.setCells,show IntKind.i64.wrap (0:Int)=0 from rfl,Nat.le_of_add_right_le hr]
  .have hns:¬ (n * i.size=0):=Nat.mul_ne_zero h0 O;simp [Builtin.append_,run_underlying h1,run_underlying ht2,sizeOf,typeInfo,zeroValue,h2,h5,asInt,asIntOf,hw,hneg,hns,h48i,hr,Addr.add_lit,hst]
 nothing hn:=by
  subst hn;simp [Builtin.append_,run_underlying h1,run_underlying ht2,sizeOf,typeInfo,h2,asInt,asIntOf,show IntKind.i64.wrap (0:Int)=0 from rfl]
theorem Ajf (hT:TabOk P ti) (hi:Inv b S w c) {t t2 ty e:TypeId} {ts:List Ty} {bytes:Nat} (ht:ti t=.slice e ts bytes) {r:Ty} (hsz:r.size=ts.length) {y:Leaf} {v:Value} {m:List r.D×List Nat} (hy:LeafOk S c w (Kok b S c) y v) (h:(Ael (ti t2) e (AW ts) r y).ev S=some m) :
  Ows S m.2/\AO m.2=true/\∃news F,(∀i z,P.info? e=some i->i.zero=some z->Src2 P i z t t2 ty e v m.1.length news w)/\RpL (Rp w (Kok b S c) r) m.1 news F/\F.Nodup/\CK c m.2 F:=by
 obtain ⟨h1,_,hb,hpos,i,z,h2,h3,h4,h5,h6,h7⟩:=hT.slice ht;unfold Ael at h;split at h
 .rename_i hti;split at h
  .rename_i n;split at h
   .rename_i hr;subst hr
    replace h:=BN h
    obtain ⟨c1,h⟩:=h;simp only [Tr.ev,AoD]at h;subst h;simp only [decide_eq_true_eq]at c1;obtain ⟨k,rfl⟩:=AoX c1;obtain rfl:=B7 hy;have ht2:P.underlying t2=some (.int .i64):=I2 hT hti;have hzs:z.cells.size=i.size:=by
     have:=congrArg List.length h6
     grind
    have hzl:(Builtin.zeroCells z.cells k).toList=(List.replicate k (ts.map By)).flatten:=by
     have hmade:=RB z.cells O k;rw [h6]at hmade;rw [<- hmade];simp [Builtin.zeroCells]
    refine⟨λk hk=>(by cases hk),rfl,(Builtin.zeroCells z.cells k).toList,[],?_,?_,Z,λg hg=>(by cases hg)⟩
    .intro i' z' hi' hz';obtain rfl:i=i':=by grind
     obtain rfl:z=z':=by grind
     simp only [AoE,ApC];refine Src2.zeros h1 ht2 h2 h5 O hzs (λu hu=>?_);rw [h6]at hu;obtain ⟨t,_,rfl⟩:=Ao0.1 hu;cases t <;> rfl
    .rw [hzl,AoE];exact Rj h7 k
   .simp [Tr.ev]at h
  .simp [Tr.ev]at h
 .obtain ⟨q1,q2,news,F,q3,q4,q5,q6⟩:=AjQ hT hi hy h;refine⟨q1,q2,news,F,λi' z' hi' hz'=>?_,q4,q5,q6⟩;obtain rfl:i=i':=by grind
  exact Src2.of h1 hi' hz' (by grind)
theorem XI (hT:TabOk P ti) (hi:Inv b S w c) {t t2 ty:TypeId} {d:Nat} {x y:Leaf} {u v:Value} {out:Out} (hx:LeafOk S c w (Kok b S c) x u) (hy:LeafOk S c w (Kok b S c) y v)
  (h:(Mi (ti t) (ti t2) d x y).ev S=some out):∃r w',(Builtin.append_ #[t,t2] ty #[u,v]).run P w=.ok r w'/\Did b S c w out r w':=by
 unfold Mi at h;split at h
 .rename_i e ts bytes ht;simp only [Ak,AoG]at h;obtain ⟨r,_,h⟩:=h;split at h
  rotate_left
  .simp [Tr.ev]at h
  rename_i hsz;simp only [Ak,AoG]at h;obtain ⟨⟨xs,ks⟩,hb0,⟨ys,ls⟩,hm0,h⟩:=h
  replace h:=BN h
  obtain ⟨c1,h⟩:=h;split at h
  .rename_i hun;simp only [Tr.ev,AoD]at h;subst h;simp only [Aa,decide_eq_true_eq]at c1 hun;obtain ⟨h1,_,hb,hpos,i,z,h2,h3,h4,h5,h6,h7⟩:=hT.slice ht;have hzs:z.cells.size=ts.length:=by
    have:=congrArg List.length h6
    grind
   obtain ⟨k1,_,G,k3,k4,k5⟩:=Lc hi hx hb0;obtain ⟨m1,_,news,F2,m3',m4,m5,m6⟩:=Ajf (t:=t) (ty:=ty) hT hi ht hsz hy hm0;have m3:=m3' i z h2 h5;simp only at k1 k3 k5 m1 m3 m4 m6;have hnl:=m3.newsLen;rw [<- h4]at c1;have h63:xs.length+ys.length<=140737488355328:=Ao2 (Nat.le_mul_of_pos_right _ O) c1;have same2:∀{w':World} {T:Nat->Prop},Step w w' T->∀{F:List Nat},(∀g,g∈F->g < w.heap.size)->(∀g,g∈F->¬ T g)->Do w w' F:=λhs F h1 h2 g hg=>hs.same g (h1 g hg) (h2 g hg)
   have ho:Ows S (ks++ls):=CM k1 m1;have grow:∀(A:Option Addr) (cap:Nat) (olds:List Value) (F1:List Nat),u=.slice A xs.length cap->xs.length<=cap->cap < xs.length+ys.length->(Builtin.firstCells i.size xs.length (.slice A xs.length cap)).run P w.drew=.ok olds.toArray w.drew->
     RpL (Rp w (Kok b S c) r) xs olds F1->F1.Nodup->CK c ks F1->∃r' w',(Builtin.append_ #[t,t2] ty #[u,v]).run P w=.ok r' w'/\Did b S c w (BZ (kd d 0) ⟨e,r,xs++ys⟩ (ks++ls)) r' w':=by
    rintro A cap olds F1 rfl hle hcap hold hro hnd hhe;have hrun:=m3.grow A xs.length cap olds hle hold hcap h63 c1;have hge:=grownCap_ge w (xs.length+ys.length) cap e;obtain ⟨q1,q2⟩:=C5 hi hhe m6 k1 m1 hun hnd m5;have hol:olds.length=xs.length * r.size:=RpL.len (λx vs F h=>Rp.len r x h) hro;have hgm:=grownCap_le_maxLen w (xs.length+ys.length) cap e (by unfold maxLen;omega);generalize grownCap w (xs.length+ys.length) cap e=gc at hrun hge hgm;generalize hcs:(olds++news).toArray++Builtin.zeroCells z.cells (gc - (xs.length+ys.length))=cs at hrun;generalize hw:w.drew.alloc (.cells cs e)=w' at hrun;have hst:Step w w' (λ_=>False):=by
     subst hw;exact⟨rfl,rfl,rfl,Z,λg hg _=>(by show(w.heap.push _)[g]?=_;grind)⟩
    have hnew:w'.heap[w.heap.size]?=some (.cells cs e):=by subst hw;exact F8 w _
    have hws:w.heap.size < w'.heap.size:=by grind
    refine⟨_,_,hrun,?_⟩;refine Ed hi (kd d 0) ⟨e,r,xs++ys⟩ (ks++ls) ho (F':=w.heap.size::(F1++F2)) (hst.mono λ_ h=>h.elim) ?_ ?_ ?_
    .intro g hg;rcases AoY.1 hg with rfl | hg
     .omega
     .exact⟨Nat.lt_trans (Jn hi ho q1 hg) hws,.inl (q1 g hg)⟩
    .rw [ApB];exact⟨λhg=>by have:=Jn hi ho q1 hg;omega,q2⟩
    .intro K' hK _;simp only [Rp];refine .inr ⟨w.heap.size,0,gc,cs,(0,0),F1++F2,Z,rfl,hnew,NFt.zero _ (λhr1=>by have hs1:r.size=1:=(by rw [hr1];rfl);rw [<- hcs,Aqd,Apn,AoM,size_zeroCells,hol,hnl,hzs,h3,<- hsz,hs1];unfold maxLen at hgm;omega),?_,by grind,?_⟩
     .rw [<- hcs,Aqd,Apn,AoM,size_zeroCells,hol,hnl,hzs,h3,<- hsz,<- ApQ,<- ApQ,AoS]
      grind
     .have htake:(cs.toList.drop 0).take ((xs++ys).length * r.size)=olds++news:=by
       rw [<- hcs,ApN,Aqa,ApX (by simp [hol,hnl,h3,hsz,ApQ])];apply Ao5;simp [hol,hnl,h3,hsz,ApQ]
      rw [htake];exact RpL.append (RpL.frame hK _ _ _ _ (same2 hst (λg hg=>Jn hi k1 hhe hg) (λ_ _ h=>h)) hro) (RpL.frame hK _ _ _ _ (same2 hst (λg hg=>Jn hi m1 m6 hg) (λ_ _ h=>h)) m4)
   simp only [Rp]at k3;rcases k3 with⟨rfl,rfl,hu⟩ | ⟨g,off,cap,cs,fr,F0,hu,rfl,hg,hnf,hoff,hcp,hro⟩
   .injection hu with hu
    subst hu;by_cases hk:ys.length=0
    .obtain rfl:ys=[]:=Ao1 hk;obtain rfl:news=[]:=Ao1 (by grind);refine⟨_,_,m3.nothing rfl,?_⟩;refine Ed hi (kd d 0) ⟨e,r,[]++[]⟩ (ks++ls) ho (F':=[]) (Step.refl _ _) Z Z ?_;intro K' _ _;simp only [Rp];simp
    .exact grow none 0 [] [] rfl (Ao4 _) Aoz (run_firstCells_none w.drew i.size 0 0 0) ⟨rfl,rfl⟩ Z (λg hg=>(by cases hg))
   .injection hu with hu
    subst hu;obtain ⟨n1,n2⟩:=ApB.1 k4;have hh0:CK c ks F0:=λx hx=>k5 x (by simp [hx])
    have hhg:CK c ks [g]:=λx hx=>k5 x (by grind)
    have hol:((cs.toList.drop off).take (xs.length * r.size)).length=xs.length * r.size:=RpL.len (λx vs F h=>Rp.len r x h) hro;by_cases hcap:xs.length+ys.length<=cap
    .have hfit:off+xs.length * r.size+news.length<=cs.size:=by
      rw [hnl,h3,<- hsz,Nat.add_assoc,<- ApQ];exact Ao2 (Nat.add_le_add_left (ApJ _ hcap) _) hoff
     have hrun:=m3.room g off xs.length cap hcap h63 c1
      (λj hj=>by rw [h3,<- hsz,Bf hg,Apg O];rfl)
      (λj hj=>by rw [h3,<- hsz];exact DC hg hnf.nf O)
     rw [h3,<- hsz]at hrun;obtain ⟨cs',s1,s2,s3⟩:=C6 news (off+xs.length * r.size) w cs hg hfit;obtain ⟨s4,s5⟩:=CN (g:=g) news (off+xs.length * r.size) w;generalize w.setCells g (off+xs.length * r.size) news=w' at hrun s1 s4 s5;obtain ⟨q1,q2⟩:=C5 hi k5 m6 k1 m1 hun k4 m5;refine⟨_,_,hrun,?_⟩;refine Ed hi (kd d 0) ⟨e,r,xs++ys⟩ (ks++ls) ho (F':=g::F0++F2) (s4.mono ?_) ?_ q2 ?_
     .grind
     .intro x hx;exact⟨by rw [s5];exact Jn hi ho q1 hx,.inl (q1 x hx)⟩
     .intro K' hK _;simp only [Rp];refine .inr ⟨g,off,cap,cs',fr,F0++F2,Z,rfl,s1,by grind,O,by grind,?_⟩;have htake:(cs'.toList.drop off).take ((xs++ys).length * r.size)=(cs.toList.drop off).take (xs.length * r.size)++news:=by
       have hn2:news.length=ys.length * r.size:=by grind
       apply Apq;intro j;rw [AoM,ApQ];by_cases hj:j < xs.length * r.size
       .grind
       .rw [Apw O,hol];by_cases hj2:j < xs.length * r.size+ys.length * r.size
        .rw [Apf hj2,Apu,Ao8,s3,AoJ O]
         grind
        grind
      rw [htake];exact RpL.append (RpL.frame hK _ _ _ _ (same2 s4 (λx hx=>Jn hi k1 hh0 hx) (λx hx h=>n1 (h ▸ hx))) hro)
       (RpL.frame hK _ _ _ _ (same2 s4 (λx hx=>Jn hi m1 m6 hx) (λx hx h=>Aiw hi k1 m1 hun hhg m6 (h ▸ hx))) m4)
    .refine grow (some ⟨g,off,none⟩) cap _ F0 rfl hcp O (run_firstCells_some w.drew i.size xs.length ⟨g,off,none⟩ _ cap ((cs.toList.drop off).take (xs.length * r.size)) (by grind) (λj u hu=>?_)) hro n2 hh0;have hj:=(Apt.1 hu).1;rw [hol]at hj;rw [Apf hj,Apu,Ao8]at hu;have hg':w.drew.heap[g]?=some (.cells cs e fr):=hg;rw [Be,Bf hg'];exact hu
  .simp [Tr.ev]at h
 .simp [Tr.ev]at h
theorem Mw {t t2 ty e:TypeId} {i:TypeInfo} (w w':World) (hu:P.underlying t=some (.slice e)) (hinfo:P.info? e=some i) (base:Option Addr) (dLen dCap:Nat) (v:Value) (m:Nat)
  (hlen:(Builtin.lenOf v).run P w=.ok m w) (cs:List Value) (hcells:(Builtin.firstCells i.size (Nat.min m dLen) v).run P w=.ok cs.toArray w)
  (hst:(base=none/\w'=w)\/∃a,base=some a/\(storeCells a cs).run P w=.ok () w') :
  (Builtin.copy_ #[t,t2] ty #[.slice base dLen dCap,v]).run P w=.ok (goInt (Nat.min m dLen)) w':=by
 rcases hst with⟨rfl,rfl⟩ | ⟨a,rfl,hst⟩
 .simp [Builtin.copy_,run_underlying hu,hlen,sizeOf,typeInfo,hinfo,hcells]
 .simp [Builtin.copy_,run_underlying hu,hlen,sizeOf,typeInfo,hinfo,hcells,hst]
theorem Akb (hT:TabOk P ti) (hi:Inv b S w c) {t t2 ty:TypeId} {x y:Leaf} {u v:Value} {out:Out} (hx:LeafOk S c w (Kok b S c) x u) (hy:LeafOk S c w (Kok b S c) y v)
  (h:(Aez (ti t) (ti t2) x y).ev S=some out):∃r w',(Builtin.copy_ #[t,t2] ty #[u,v]).run P w=.ok r w'/\Did b S c w out r w':=by
 unfold Aez at h;split at h
 .rename_i k;obtain ⟨o,e0,r0,ys0,h0,hk,hg0,hh0,hw0⟩:=hx;obtain rfl:u=h0:=hw0;obtain rfl:c.hv k=u:=by simp only [hdr]at hh0;injection hh0
  simp only [Tr.ev,hk]at h;split at h
  .rename_i hc;simp only [AoI]at hc;obtain ⟨⟨hc1,hc2⟩,hro⟩:=hc;obtain ⟨e,i,hu,hinf,hsz⟩:=MB hT hc1;have hown:=hi.ow k o hk;have hnd:=hi.nd k (by rw [hk];simp);obtain ⟨A0,cap0,hA0⟩:∃A0 cap0,c.hv k=.slice A0 o.xs.length cap0:=by
    obtain ⟨A,cap,ws,F',h1,_⟩:=PA hown
    grind
   have fin:∀(ps:List o.r.D) (ws:List Value) (A:Option Addr) (cap:Nat),v=.slice A ps.length cap->RpL (Rp w (Kok b S c) o.r) ps ws []->(ps=[]\/∃ad,A=some ad/\∀j,j < ws.length->w.cell? (ad.add j)=ws[j]?)->
     ∃r w',(Builtin.copy_ #[t,t2] ty #[c.hv k,v]).run P w=.ok r w'/\
      Did b S c w ⟨.s (.one (.v (.int .i64) (Nat.min ps.length o.xs.length:Int))),[.deep k],[.ow k (some ⟨o.e,o.r,ps.take o.xs.length++o.xs.drop ps.length⟩)]⟩ r w':=by
    rintro ps ws A cap rfl hps hx;have hwl:ws.length=ps.length * o.r.size:=RpL.len (λx vs F h=>Rp.len o.r x h) hps;have hcl:((ws.take (Nat.min ps.length o.xs.length * o.r.size))).length=Nat.min ps.length o.xs.length * o.r.size:=by
     simp_all
    have hcells:(Builtin.firstCells i.size (Nat.min ps.length o.xs.length) (.slice A ps.length cap)).run P w=.ok (ws.take (Nat.min ps.length o.xs.length * o.r.size)).toArray w:=by
     rw [hsz];cases A with
     | none=>
      rcases hx with rfl | ⟨ad,h1,_⟩
      .have:ws=[]:=Ao1 (by grind);subst this;simp [Builtin.firstCells]
      .cases h1
     | some a=>
      refine run_firstCells_some w o.r.size _ a _ _ _ hcl (λj u hu=>?_)
      grind
    have hlenS:∀(xs':List o.r.D),xs'=ps.take o.xs.length++o.xs.drop ps.length->xs'.length=o.xs.length:=by
     grind
    generalize hnew:ps.take o.xs.length++o.xs.drop ps.length=new at *;have hnl:=hlenS new rfl;have turn:∀(w':World) (F':List Nat),(Builtin.copy_ #[t,t2] ty #[c.hv k,.slice A ps.length cap]).run P w=.ok (goInt (Nat.min ps.length o.xs.length)) w'->Step w w' (λg=>g∈c.F k)->w'.heap.size=w.heap.size->
      (∀g,g∈F'->g∈c.F k)->F'.Nodup->(∀K',KSame w w' (Kok b S c) K'->Rp w' K' (.sl true o.e o.r) new [c.hv k] F')->
      ∃r w',(Builtin.copy_ #[t,t2] ty #[c.hv k,.slice A ps.length cap]).run P w=.ok r w'/\Did b S c w ⟨.s (.one (.v (.int .i64) (Nat.min ps.length o.xs.length:Int))),[.deep k],[.ow k (some ⟨o.e,o.r,new⟩)]⟩ r w':=by
     intro w' F' hrun hst hws hF hFn hR;refine⟨_,_,hrun,?_⟩;generalize hS:(S.kp [.deep k]).ups [.ow k (some ⟨o.e,o.r,new⟩)]=S';obtain ⟨c',_,_,_,e4,e5,_⟩:=hi.setOwn (S':=S') (w':=w') k ⟨o.e,o.r,new⟩ [] [.deep k] (c.hv k) F'
      (by intro k';rw [<- hS];rfl)
      (by rw [<- hS];rfl) (by intro k' i;rw [<- hS];rfl) (λk hk=>by cases hk)
      (λo' ho=>by
       grind)
      (hst.mono λg hg=>⟨k,.inl rfl,by rw [hk];simp,hg⟩)
      (λg hg=>⟨by rw [hws];exact(hi.fr g (.inr ⟨k,by rw [hk];simp,hF g hg⟩)).1,.inl ⟨k,.inl rfl,by rw [hk];simp,hF g hg⟩⟩) hFn
      (λK' hK _=>hR K' hK)
     subst hS;exact⟨c',e4,e5,CZ Db⟩
    simp only [Rp]at hown;rcases hown with⟨hx0,hF0,hv0⟩ | ⟨g,off,capo,cs,fr,F1,hv0,hF0,hg,hnf,hoff,hcp,hr⟩
    .injection hv0 with hv0
     have hnil:new=[]:=Ao1 (by grind);refine turn w [] ?_ (Step.refl _ _) rfl Z Z (λK' _=>by rw [hnil];simp only [Rp];grind);rw [hv0];have e0:o.xs.length=0:=by rw [hx0];rfl
     have:=Mw (P:=P) (t2:=t2) (ty:=ty) w w hu hinf none 0 0 (.slice A ps.length cap) ps.length rfl _ (by rw [<- e0];exact hcells) (.inl ⟨rfl,rfl⟩)
     grind
    .injection hv0 with hv0
     have hF1:F1=[]:=RpL.ro hro _ hr;subst hF1;have hol:((cs.toList.drop off).take (o.xs.length * o.r.size)).length=o.xs.length * o.r.size:=RpL.len (λx vs F h=>Rp.len o.r x h) hr;have hmo:Nat.min ps.length o.xs.length * o.r.size<=o.xs.length * o.r.size:=ApJ _ (Nat.min_le_right _ _);have hoc:o.xs.length * o.r.size<=capo * o.r.size:=ApJ _ hcp;generalize hmv:Nat.min ps.length o.xs.length=m at *;have hcs1:∀v∈ws.take (m * o.r.size),v.oneCell'=true:=λv hv=>RpL.one _ hps v (ApL hv)
     have hst:(storeCells ⟨g,off,none⟩ (ws.take (m * o.r.size))).run P w=.ok () (w.setCells g off (ws.take (m * o.r.size))):=by
      have:=run_storeCells_cells (P:=P) g off (ws.take (m * o.r.size)) 0 w (λj hj=>by rw [Bf hg,Apg O];rfl)
       (λj hj=>DC hg hnf.nf O) hcs1
      exact this
     have hrun:=Mw (P:=P) (t2:=t2) (ty:=ty) w (w.setCells g off (ws.take (m * o.r.size))) hu hinf (some ⟨g,off,none⟩) o.xs.length capo (.slice A ps.length cap) ps.length rfl _ (by grind) (.inr ⟨_,rfl,hst⟩);rw [show Nat.min ps.length o.xs.length=m from hmv,<- hv0]at hrun;obtain ⟨cs',s1,s2,s3⟩:=C6 (ws.take (m * o.r.size)) off w cs hg O;obtain ⟨s4,s5⟩:=CN (g:=g) (ws.take (m * o.r.size)) off w;generalize w.setCells g off (ws.take (m * o.r.size))=w' at hrun s1 s4 s5;refine turn w' [g] hrun (s4.mono λx hx=>by grind) s5 (λx hx=>by grind) Z (λK' hK=>?_);simp only [Rp];refine .inr ⟨g,off,capo,cs',fr,[],by rw [hnl,hv0],rfl,s1,by grind,O,O,?_⟩;have htk:(cs'.toList.drop off).take (new.length * o.r.size)=ws.take (m * o.r.size)++((cs.toList.drop off).take (o.xs.length * o.r.size)).drop (m * o.r.size):=by
      rw [hnl];apply Apq;intro j;by_cases hj:j < m * o.r.size
      .rw [ApH O,Apf O,Apu,Ao8,s3,AoJ O];simp
      .rw [Apw O,hcl,Apu,(O:m * o.r.size+(j - m * o.r.size)=j)];by_cases hj2:j < o.xs.length * o.r.size
       .simp [*]
       grind
     rw [htk,<- hnew];have hA:RpL (Rp w (Kok b S c) o.r) (ps.take o.xs.length) (ws.take (m * o.r.size)) []:=by
      have hsp:ps=ps.take o.xs.length++ps.drop o.xs.length:=(Apm _ _).symm;rw [hsp]at hps;obtain ⟨v1,v2,G1,G2,e1,e2,q1,q2⟩:=RpL.split hps;have l1:v1.length=(ps.take o.xs.length).length * o.r.size:=RpL.len (λx vs F h=>Rp.len o.r x h) q1;have l2:(ps.take o.xs.length).length=m:=by grind
      rw [l2]at l1;have:ws.take (m * o.r.size)=v1:=by grind
      rw [this];obtain ⟨rfl,rfl⟩:=Aqg.1 e2.symm;exact q1
     have hB:RpL (Rp w (Kok b S c) o.r) (o.xs.drop ps.length) (((cs.toList.drop off).take (o.xs.length * o.r.size)).drop (m * o.r.size)) []:=by
      have hsp:o.xs=o.xs.take ps.length++o.xs.drop ps.length:=(Apm _ _).symm;generalize (cs.toList.drop off).take (o.xs.length * o.r.size)=ows at hr;rw [hsp]at hr;obtain ⟨v1,v2,G1,G2,e1,e2,q1,q2⟩:=RpL.split hr;have l1:v1.length=(o.xs.take ps.length).length * o.r.size:=RpL.len (λx vs F h=>Rp.len o.r x h) q1;have l2:(o.xs.take ps.length).length=m:=by grind
      rw [l2]at l1;have:ows.drop (m * o.r.size)=v2:=by grind
      rw [this];obtain ⟨rfl,rfl⟩:=Aqg.1 e2.symm;exact q2
     exact(RpL.append (RpL.frame hK _ _ _ _ (λg hg=>by cases hg) hA) (RpL.frame hK _ _ _ _ (λg hg=>by cases hg) hB))
   split at h
   .simp only [Tr.ev,AoD]at h;subst h;obtain rfl:v=.slice none 0 0:=hy;refine⟨goInt 0,w,?_,Did.same hi (CZ Db)⟩;obtain hrun:=Mw (P:=P) (t2:=t2) (ty:=ty) w w hu hinf A0 o.xs.length cap0 (.slice none 0 0) 0 rfl [] (by rfl) (by
     cases A0 with
     | none=>simp
     | some a=>exact .inr ⟨a,rfl,rfl⟩)
    grind
   .simp only [Ak,AoG]at h;obtain ⟨p,hp,h⟩:=h;split at h
    .rename_i he;obtain ⟨pe,pr,pxs⟩:=p;simp only [Ty.sl.injEq,true_and]at he;obtain ⟨rfl,rfl⟩:=he;simp only [Tr.ev,AoD]at h;subst h;obtain ⟨A,cap,ws,F',rfl,hr,hx⟩:=HG hi hy hp;have hF:=RpL.ro hro _ hr;subst hF;exact fin pxs ws A cap rfl hr (hx.imp id λ⟨ad,h1,_,h2⟩=>⟨ad,h1,h2⟩)
    .simp [Tr.ev]at h
  .simp [Tr.ev]at h
 .simp [Tr.ev]at h
theorem RpL.window {w:World} {K:Nat->Prop} {r:Ty} {xs:List r.D} {W:List Value} {F:List Nat} (h:RpL (Rp w K r) xs W F) (hF:F.Nodup) {p a m:Nat} (hpa:p<=a) (ha:a<=xs.length) :
  ∃F1 F2,RpL (Rp w K r) (xs.take p) (W.take (p * r.size)) F1/\RpL (Rp w K r) ((xs.drop a).take m) ((W.drop (a * r.size)).take (((xs.drop a).take m).length * r.size)) F2/\(F1++F2).Nodup/\∀g,g∈F1++F2->g∈F:=by
 have e1:xs=xs.take p++((xs.drop p).take (a - p)++((xs.drop a).take m++(xs.drop a).drop m)):=by
  conv=>lhs;rw [<- Apm p xs]
  congr 1
  conv=>lhs;rw [<- Apm (a - p) (xs.drop p)]
  congr 1
  rw [Aqz,(O:p+(a - p)=a),Apm]
 have h0:=h;rw [e1]at h;obtain ⟨v1,v2,FA,FB,rfl,rfl,r1,h⟩:=RpL.split h;obtain ⟨v3,v4,FC,FD,rfl,rfl,r2,h⟩:=RpL.split h;obtain ⟨v5,v6,FE,FG,rfl,rfl,r3,r4⟩:=RpL.split h;have l1:=RpL.len (λx vs F h=>Rp.len r x h) r1;have l2:=RpL.len (λx vs F h=>Rp.len r x h) r2;have l3:=RpL.len (λx vs F h=>Rp.len r x h) r3;have q1:(xs.take p).length=p:=by grind
 have q2:((xs.drop p).take (a - p)).length=a - p:=by rw [AoQ,Apr];omega
 rw [q1]at l1;rw [q2]at l2;refine⟨FA,FE,?_,?_,?_,?_⟩
 .grind
 .have hlen:a * r.size=v1.length+v3.length:=by rw [l1,l2,<- ApQ];grind
  grind
 .grind
 grind
theorem Als (hT:TabOk P ti) (hi:Inv b S w c) {t t2 ty:TypeId} {d k lo hh a m:Nat} {u v:Value} {out:Out} (hx:LeafOk S c w (Kok b S c) (.vw k [] (some (lo,hh))) u) (hy:LeafOk S c w (Kok b S c) (.vw k [] (some (a,m))) v)
  (h:(Ae1 (ti t) (ti t2) d k lo hh a m).ev S=some out):∃r w',(Builtin.append_ #[t,t2] ty #[u,v]).run P w=.ok r w'/\Did b S c w out r w':=by
 unfold Ae1 at h;split at h
 rotate_left
 .simp [Tr.ev]at h
 rename_i e ts bytes ht;simp only [Tr.ev]at h;split at h
 rotate_left
 .simp [Tr.ev]at h
 rename_i o hk;split at h
 rotate_left
 .simp [Tr.ev]at h
 rename_i hc;obtain ⟨rfl,hsz,hsl⟩:=hc
 replace h:=BN h
 obtain ⟨c1,h⟩:=h
 replace h:=BN h
 obtain ⟨c2,h⟩:=h
 replace h:=BN h
 obtain ⟨c3,h⟩:=h
 replace h:=BN h
 obtain ⟨c4,h⟩:=h;simp only [Tr.ev,AoD]at h;subst h;simp only [decide_eq_true_eq,Aa]at c1 c2 c3 c4;subst c1;obtain ⟨h1,_,hb,hpos,i,z,h2,h3,h4,h5,h6,h7⟩:=hT.slice ht;obtain ⟨e2,ie,hu2,hie⟩:=K9 hT hsl;have hzs:z.cells.size=ts.length:=by
  have:=congrArg List.length h6
  grind
 have hown:=hi.ow k o hk;have hnd:=hi.nd k (by rw [hk];simp);have hOw:Ows S [k]:=λk' hk'=>by grind
 obtain ⟨ox,ex,rx,yx,hvx,ek,eg,eh,ew⟩:=hx;obtain rfl:o=ox:=by grind
 simp only [Aw,Tr.run]at eg;cases eg;obtain rfl:c.hv k=hvx:=by simp only [hdr]at eh;injection eh
 obtain ⟨oy,ey,ry,yy,hvy,ek2,eg2,eh2,ew2⟩:=hy;obtain rfl:o=oy:=by grind
 simp only [Aw,Tr.run]at eg2;cases eg2;obtain rfl:c.hv k=hvy:=by grind
 obtain ⟨oe,or,oxs⟩:=o;simp only at hsz c3 c4 ew ew2 hown h1 h2 ht;rw [Rp]at hown;rcases hown with⟨rfl,_,_⟩ | ⟨g,off,cap,cs,fr,F0,hv,hF,hg,hnf,hoff,hcp,hro⟩
 .simp at c3
 obtain ⟨A,n,cap0,A',cap1,q,w1,rfl,w3,w4,w5,w6,w7⟩:=ew;obtain ⟨B,n2,cap2,B',cap3,q',y1,rfl,y3,y4,y5,y6,y7⟩:=ew2;injection hv with hv
 rw [hv]at w1 y1;injection w1 with w1 w1n w1c
 injection y1 with y1 y1n y1c
 subst w1 w1c y1 y1c;rw [w7 _ rfl,y7 _ rfl];have n1:min hh (oxs.length - 0)=hh:=O
 rw [n1]at w3 w5 ⊢;rw [hF]at hnd;obtain ⟨n3,n4⟩:=ApB.1 hnd;obtain ⟨F1,F2,r1,r2,r3,r4⟩:=RpL.window hro n4 (p:=hh) (a:=a) (m:=m) c2 O;have hlen2:((oxs.drop a).take m).length=min m (oxs.length - a):=by simp
 have hl1:(oxs.take hh).length=hh:=by grind
 rw [hlen2]at r2;generalize hnm:min m (oxs.length - a)=nm at y3 y5 r2 hlen2;generalize holds:((cs.toList.drop off).take (oxs.length * or.size)).take (hh * or.size)=olds at r1;generalize hnews:(((cs.toList.drop off).take (oxs.length * or.size)).drop (a * or.size)).take (nm * or.size)=news at r2;have hol:olds.length=hh * or.size:=by have:=RpL.len (λx vs F h=>Rp.len or x h) r1;grind
 have hnl:news.length=nm * or.size:=by have:=RpL.len (λx vs F h=>Rp.len or x h) r2;grind
 have hco:cs.toList.length=cs.size:=Array.length_toList;have hmul:oxs.length * or.size<=cap * or.size:=ApJ _ hcp;have olds_at:∀j,j < hh * or.size->olds[j]?=cs[off+j]?:=by
  grind
 have news_at:∀j,j < nm * or.size->news[j]?=cs[off+(a * or.size+j)]?:=by
  grind
 have m3:Src2 P i z t t2 ty oe (.slice (some (Addr.add ⟨g,off,none⟩ (q' * or.size))) nm cap3) nm news w:=by
  refine Src2.of h1 h2 h5 ?_;refine Ll hu2 (by grind) (RpL.one _ r2) ?_;by_cases h0:nm=0
  .exact .inl h0
  .right;refine⟨_,rfl,λj hj=>?_⟩;rw [hnl]at hj;rw [y5 O,Be,Be,Bf hg,news_at j hj,Nat.add_assoc]
 have hcap63:hh+nm<=oxs.length:=O
 have c4':(hh+nm) * i.bytes<=140737488355328:=by rw [h4];exact Ao2 (ApJ _ hcap63) c4
 have h63:hh+nm<=140737488355328:=by
  have:hh+nm<=(hh+nm) * i.bytes:=Nat.le_mul_of_pos_right _ O;omega
 have held:∀x,x∈g::(F1++F2)->∃k',k'∈[k]/\x∈c.F k':=by
  grind
 have hlt:∀x,x∈g::(F1++F2)->x < w.heap.size:=λx hx=>Jn hi hOw (G:=g::(F1++F2)) held hx
 have ndn:(g::(F1++F2)).Nodup:=ApB.2 ⟨λhx=>n3 (r4 g hx),r3⟩;have hrow:(List.take hh oxs++List.take m (List.drop a oxs)).length=hh+nm:=by grind
 rw [Be];by_cases hroom:hh+nm<=cap1
 .have hq:(q+(hh+nm)) * or.size<=cap * or.size:=ApJ _ O;rw [ApQ,ApQ]at hq;have hfit:off+q * or.size+hh * or.size+news.length<=cs.size:=O
  have hrun:=m3.room g (off+q * or.size) hh cap1 hroom h63 c4'
   (λj hj=>by rw [h3,<- hsz,Bf hg,Apg O];rfl)
   (λj hj=>by rw [h3,<- hsz];exact DC hg hnf.nf O)
  rw [h3,<- hsz]at hrun;obtain ⟨cs',s1,s2,s3⟩:=C6 news (off+q * or.size+hh * or.size) w cs hg hfit;obtain ⟨s4,s5⟩:=CN (g:=g) news (off+q * or.size+hh * or.size) w;generalize w.setCells g (off+q * or.size+hh * or.size) news=w' at hrun s1 s4 s5;refine⟨_,_,hrun,?_⟩;refine Ed hi (kd d 0) ⟨oe,or,List.take hh oxs++List.take m (List.drop a oxs)⟩ [k] hOw (F':=g::(F1++F2)) (s4.mono ?_) ?_ ndn ?_
  .grind
  .grind
  .intro K' hK _;simp only [Rp];have hq2:(q+cap1) * or.size<=cap * or.size:=ApJ _ O;rw [ApQ]at hq2;refine .inr ⟨g,off+q * or.size,cap1,cs',fr,F1++F2,by rw [hrow],rfl,s1,by grind,O,O,?_⟩;have htake:(cs'.toList.drop (off+q * or.size)).take ((List.take hh oxs++List.take m (List.drop a oxs)).length * or.size)=olds++news:=by
    rw [hrow];apply Apq;intro j;rw [ApQ];by_cases hj:j < hh * or.size
    .have hhp:0 < hh:=by
      grind
     rw [w5 hhp,Nat.zero_mul,Aqf]at s3 ⊢
     grind
    .rw [Apw O,hol];by_cases hj2:j < hh * or.size+nm * or.size
     .rw [Apf hj2,Apu,Ao8,s3,AoJ O]
      congr 1;omega
     grind
   rw [htake];have hsame:∀{F:List Nat},(∀x,x∈F->x∈F1++F2)->Do w w' F:=λhs x hx=>s4.same x (hlt x (ApM _ (hs x hx))) (λe=>n3 (r4 g (by grind)))
   exact RpL.append (RpL.frame hK _ _ _ _ (hsame λx hx=>by simp [hx]) r1) (RpL.frame hK _ _ _ _ (hsame λx hx=>by simp [hx]) r2)
 .have hfc:(Builtin.firstCells i.size hh (.slice (some ⟨g,off+q * or.size,none⟩) hh cap1)).run P w.drew=.ok olds.toArray w.drew:=by
   refine run_firstCells_some w.drew i.size hh ⟨g,off+q * or.size,none⟩ _ cap1 olds (by grind) (λj u hu=>?_);have hj:=(Apt.1 hu).1;rw [hol]at hj;have hhp:0 < hh:=by
    grind
   rw [olds_at j hj]at hu;have hg':w.drew.heap[g]?=some (.cells cs oe fr):=hg;rw [Be,Bf hg',w5 hhp,Nat.zero_mul,Aqf];exact hu
  have hrun:=m3.grow (some ⟨g,off+q * or.size,none⟩) hh cap1 olds w3 hfc O h63 c4';have hge:=grownCap_ge w (hh+nm) cap1 oe;have hgm:=grownCap_le_maxLen w (hh+nm) cap1 oe (by unfold maxLen;omega);generalize grownCap w (hh+nm) cap1 oe=gc at hrun hge hgm;generalize hcs:(olds++news).toArray++Builtin.zeroCells z.cells (gc - (hh+nm))=cs2 at hrun;generalize hw:w.drew.alloc (.cells cs2 oe)=w' at hrun;have hst:Step w w' (λ_=>False):=by
   subst hw;exact⟨rfl,rfl,rfl,Z,λg hg _=>(by show(w.heap.push _)[g]?=_;grind)⟩
  have hnew:w'.heap[w.heap.size]?=some (.cells cs2 oe):=by subst hw;exact F8 w _
  have hws:w.heap.size < w'.heap.size:=by grind
  have hlt2:∀x,x∈F1++F2->x < w.heap.size:=λx hx=>hlt x (ApM _ hx)
  refine⟨_,_,hrun,?_⟩;refine Ed hi (kd d 0) ⟨oe,or,List.take hh oxs++List.take m (List.drop a oxs)⟩ [k] hOw (F':=w.heap.size::(F1++F2)) (hst.mono λ_ h=>h.elim) ?_ ?_ ?_
  .intro x hx;rcases AoY.1 hx with rfl | hx
   .omega
   grind
  .grind
  .intro K' hK _;simp only [Rp];have hsz2:cs2.size=gc * or.size:=by
    rw [<- hcs,Aqd,Apn,AoM,size_zeroCells,hol,hnl,hzs,<- hsz,<- ApQ,<- ApQ]
    grind
   refine .inr ⟨w.heap.size,0,gc,cs2,(0,0),F1++F2,by rw [hrow],rfl,hnew,NFt.zero _ (λhr1=>by have hs1:or.size=1:=(by rw [hr1];rfl);rw [hsz2,hs1];unfold maxLen at hgm;omega),O,O,?_⟩;have htake:(cs2.toList.drop 0).take ((List.take hh oxs++List.take m (List.drop a oxs)).length * or.size)=olds++news:=by
    rw [hrow,<- hcs,ApN,Aqa,ApX (by grind)];apply Ao5
    grind
   rw [htake];have hsame:∀{F:List Nat},(∀x,x∈F->x∈F1++F2)->Do w w' F:=λhs x hx=>hst.same x (hlt2 x (hs x hx)) (λe=>e)
   exact RpL.append (RpL.frame hK _ _ _ _ (hsame λx hx=>by simp [hx]) r1) (RpL.frame hK _ _ _ _ (hsame λx hx=>by simp [hx]) r2)
theorem Alk (hT:TabOk P ti) (hi:Inv b S w c) {t t2 ty:TypeId} {d:Nat} {x y:Leaf} {u v:Value} {out:Out} (hx:LeafOk S c w (Kok b S c) x u) (hy:LeafOk S c w (Kok b S c) y v)
  (h:(Aae (ti t) (ti t2) d x y).ev S=some out):∃r w',(Builtin.append_ #[t,t2] ty #[u,v]).run P w=.ok r w'/\Did b S c w out r w':=by
 unfold Aae at h;split at h
 .split at h
  .rename_i hkk;subst hkk;exact Als hT hi hx hy h
  .exact XI hT hi hx hy h
 .exact XI hT hi hx hy h
end
end Go.V
namespace Go.V
open Go.RowKit
section
variable {P:Program} {ti:TypeId->TI} {b:Base} {S:St} {c:Cc} {w:World}
theorem R5:∀{fs:List (Nat×Nat×Bool)} {gs:List Field} {f:Nat} {o n:Nat} {ag:Bool},CW P fs gs=true->fs[f]?=some (o,n,ag)->
  ∃g,gs[f]?=some g/\g.offset=o/\n≠0/\(∃i,P.info? g.type=some i/\i.size=n)/\∃d,P.underlying g.type=some d/\IB d=ag
 | [],_,_,_,_,_,_,h=>by simp at h
 | _::_,[],_,_,_,_,h,_=>by simp [CW]at h
 | (o',n',ag')::fs,g::gs,f,o,n,ag,h,hf=>by
  simp only [CW,AoI,beq_iff_eq,Ao7,beq_eq_false_iff_ne]at h;obtain ⟨⟨⟨⟨h1,h2⟩,h3⟩,h4⟩,h5⟩:=h;cases f with
  | zero=>
   simp only [Aqr,AoD,Prod.mk.injEq]at hf;obtain ⟨rfl,rfl,rfl⟩:=hf;refine⟨g,rfl,h1,h2,?_,?_⟩
   .split at h3
    .rename_i i hi;exact⟨i,hi,by simpa using h3⟩
    .cases h3
   .split at h4
    .rename_i d hd;exact⟨d,hd,by simpa using h4⟩
    .cases h4
  | succ f=>
   have:=R5 (f:=f) h5 (by simpa using hf);simpa using this
theorem Qv:∀{fs:List (Nat×Nat×Bool)} {gs:List Field},CW P fs gs=true->gs.mapM (λf=>(P.info? f.type).map λi=>(f.offset,i.size))=some (fs.map λx=>(x.1,x.2.1))
 | [],[],_=>rfl
 | [],_::_,h=>by simp [CW]at h
 | _::_,[],h=>by simp [CW]at h
 | (o',n',ag')::fs,g::gs,h=>by
  simp only [CW,AoI,beq_iff_eq,Ao7,beq_eq_false_iff_ne]at h;obtain ⟨⟨⟨⟨h1,h2⟩,h3⟩,h4⟩,h5⟩:=h;split at h3
  .rename_i i hi;rw [beq_iff_eq]at h3;simp [List.mapM_cons,hi,Qv h5,h1,h3]
  .cases h3
theorem VH {t:TypeId} {fields:Array Field} {f:Nat} {g:Field} {d:TypeDesc} {i:TypeInfo} (h1:P.underlying t=some (.struct fields)) (h2:fields[f]?=some g) (h3:P.underlying g.type=some d)
  (h4:P.info? g.type=some i) (cs:Array Value) (v:Value) (hv:if IB d then v=.agg (cs.extract g.offset (g.offset+i.size))else cs[g.offset]?=some v) :
  (Instr.field t (.agg cs) f).run P w=.ok v w:=by
 simp only [Instr.field,Sem.run_bind,run_underlying h1,Result.andThen_ok,h2,asAgg,Sem.run_pure,part,Lo h3];split at hv
 .rename_i ha;subst hv;simp [ha,MZ h4]
 .rename_i ha;simp [ha,hv]
theorem Z2 (hT:TabOk P ti) {K:Nat->Prop} {t:TypeId} {fs:List (Nat×Nat×Bool)} {row:List Ty} {eq:Bool} {ls:List Leaf} {v:Value} {f o n:Nat} {ag:Bool} {r:SV}
  (ht:ti t=.struct fs row eq) (hf:fs[f]?=some (o,n,ag)) (hx:AX S c w K (.s (.ag ls)) v)
  (hr:if ag then r=.s (.ag ((ls.drop o).take n))else ∃l,ls[o]?=some l/\r=.s (GR l)):∃u,(Instr.field t v f).run P w=.ok u w/\AX S c w K r u:=by
 obtain ⟨fields,h1,h2,_⟩:=hT.struct ht;obtain ⟨g,h3,h4,h5,⟨i,h6,h7⟩,d,h8,h9⟩:=R5 h2 hf;obtain ⟨vs,rfl,hall⟩:=hx;rw [Ao8]at h3;cases ag with
 | true=>
  simp only [AoU]at hr;subst hr;refine⟨_,VH h1 h3 h8 h6 _ (.agg (vs.toArray.extract o (o+n))) (by rw [h9,h4,h7];simp),(vs.drop o).take n,?_,(hall.drop o).take n⟩
  congr 1
  apply Array.ext';simp [List.extract_eq_take_drop]
 | false=>
  obtain ⟨l,hl,rfl⟩:=hr;obtain ⟨u,hu,hlu⟩:=hall.get hl;exact⟨u,VH h1 h3 h8 h6 _ u (by rw [h9,h4];simpa using hu),AdC hlu⟩
theorem Ps (hT:TabOk P ti) {t:TypeId} {fs:List (Nat×Nat×Bool)} {row:List Ty} {eq:Bool} {f o n:Nat} {ag:Bool} (ht:ti t=.struct fs row eq) (hf:fs[f]?=some (o,n,ag)) (ad:Addr) :
  (Instr.fieldAt t (.pointer (some ad)) f).run P w=.ok (.pointer (some (ad.add o))) w:=by
 obtain ⟨fields,h1,h2,_⟩:=hT.struct ht;obtain ⟨g,h3,h4,h5,⟨i,h6,h7⟩,d,h8,h9⟩:=R5 h2 hf;rw [Ao8]at h3;simp only [Instr.fieldAt,Sem.run_bind,run_underlying h1,Result.andThen_ok,h3,Instr.sureAddr,Sem.run_pure,fieldPlace,MZ h6,h7,AoH h5,h4]
theorem MI (hT:TabOk P ti) {K:Nat->Prop} {t:TypeId} {fs:List (Nat×Nat×Bool)} {row:List Ty} {eq:Bool} {f o n:Nat} {ag:Bool} {a:S1} {v:Value} {r:SV} (ht:ti t=.struct fs row eq) (hf:fs[f]?=some (o,n,ag)) (ha:AX S c w K (.s a) v)
  (hr:(∃k off,a=.pl k off/\r=.s (.pl k (off+o)))\/(∃k st,a=.el k st/\r=.s (.el k (Cn st o)))\/(∃u x off,a=.rp u x off/\r=.s (.rp u x (off+o)))) :
  ∃u,(Instr.fieldAt t v f).run P w=.ok u w/\AX S c w K r u:=by
 rcases hr with⟨k,off,rfl,rfl⟩ | ⟨k,st,rfl,rfl⟩ | ⟨u,x,off,rfl,rfl⟩
 .obtain ⟨m,hm,rfl⟩:=ha;refine⟨_,Ps hT ht hf _,m,hm,by rw [Be,Nat.add_assoc]⟩
 .obtain ⟨o0,ad,ho,had,rfl,pre,p,d,rfl,hd⟩:=ha;refine⟨_,Ps hT ht hf _,o0,_,ho,PG _ o had,rfl,pre,(p.1,p.2+o),d,?_,hd⟩;obtain ⟨i,j⟩:=p;exact N7 _ _ _ _
 .obtain ⟨ad,vs,rfl,h1,h2,h3,h4⟩:=ha;refine⟨_,Ps hT ht hf _,ad,vs,?_,h1,h2,h3,h4⟩;rw [add_add]
theorem Td {p:Leaf->Value->Prop}:∀(ls:List Leaf) (vs:List Value) (off k:Nat) (row:List Leaf) (cs:Array Value),All2 p ls vs->All2 p row cs.toList->
  All2 p (Sg row (off+k) ls) ((vs.zipIdx k).foldl (λcs q=>cs.setIfInBounds (off+q.2) q.1) cs).toList
 | [],_,_,_,_,_,.nil,h=>h
 | l::ls,_,off,k,row,cs,.cons (b:=v) (bs:=vs) h1 h2,h=>by
  simp only [Sg,List.zipIdx_cons,ApU];exact Td ls vs off (k+1) _ _ h2 (by rw [Array.toList_setIfInBounds];exact h.set _ h1)
theorem XO (hi:Inv b S w c) (fs:List (Nat×Nat×Bool)) (Sp:Nat->Option (Nat×Nat)) (hp:∀f o n ag,fs[f]?=some (o,n,ag)->Sp f=some (o,n)) :
  ∀(ps:List (Nat×SV)) (us:List Value) (row:List Leaf) (cs:Array Value) {ls:List Leaf},All2 (λp u=>AX S c w (Kok b S c) p.2 u) ps us->All2 (LeafOk S c w (Kok b S c)) row cs.toList->OL fs ps row=some ls->
   ∃cs',Instr.fill Sp cs ((ps.map (·.1)).zip us)=some cs'/\All2 (LeafOk S c w (Kok b S c)) ls cs'.toList
 | [],_,row,cs,ls,.nil,h,hb=>by
  simp only [OL,AoD]at hb;subst hb;exact⟨cs,rfl,h⟩
 | (f,x)::ps,_,row,cs,ls,.cons (b:=u) (bs:=us) h1 h2,h,hb=>by
  simp only [OL]at hb;split at hb
  .rename_i off n ag lsx hf hlx;split at hb
   .rename_i hn;split at hb
    .rename_i hle;obtain ⟨vs,e1,e2,_⟩:=Jj hi h1 hlx;have hvl:vs.length=n:=by rw [<- e2.len,hn]
     have hcl:row.length=cs.size:=by rw [h.len];simp
     have hall:=Td lsx vs off 0 row cs e2 h;rw [Aqf]at hall;obtain ⟨cs',q1,q2⟩:=XO hi fs Sp hp ps us _ _ h2 hall hb;refine⟨cs',?_,q2⟩;simp only [Apk,List.zip_cons_cons,Instr.fill,hp f off n ag hf,e1,Apn];rw [AoH Aoz];rw [<- q1]
     congr 1
     rw [<- Array.foldl_toList,Array.toList_zipIdx]
    .cases hb
   .cases hb
  .cases hb
theorem Aik (hT:TabOk P ti) (hi:Inv b S w c) {t:TypeId} {fs:List (Nat×Nat×Bool)} {row:List Ty} {eq:Bool} {ps:List (Nat×SV)} {us:List Value} {is:List (Nat×Value)} {ls:List Leaf} (ht:ti t=.struct fs row eq)
  (hps:All2 (λp u=>AX S c w (Kok b S c) p.2 u) ps us) (his:is=(ps.map (·.1)).zip us) (h:OL fs ps (row.map Eo)=some ls) :
  ∃u,(Instr.build t is.toArray).run P w=.ok u w/\AX S c w (Kok b S c) (.s (.ag ls)) u:=by
 obtain ⟨fields,h1,h2,_,i,h3,h4,h5,h6⟩:=hT.struct ht;obtain ⟨cs',q1,q2⟩:=XO hi fs ((fs.map λx=>(x.1,x.2.1)).toArray[·]?) (λf o n ag hf=>by simp [hf]) ps us (row.map Eo) (row.map By).toArray hps (by simpa using Ob row h6) h;refine⟨.agg cs',run_build w t _ cs' ?_,cs'.toList,rfl,q2⟩;simp only [Program.built,h3,h1,h5,Qv h2,Value.cells];rw [his];exact q1
theorem Agv (xs:List Int):xs.foldl (λr n=>r.push (UInt8.ofNat n.toNat)) ByteArray.empty=⟨(AL xs).toArray⟩:=by
 have h:∀(xs:List Int) (r:ByteArray),xs.foldl (λr n=>r.push (UInt8.ofNat n.toNat)) r=⟨r.data++(AL xs).toArray⟩:=by
  intro xs
  induction xs with
  | nil=>intro r;simp [AL]
  | cons x xs ih=>
   intro r;rw [ApU,ih];simp [AL,ByteArray.push]
 rw [h];simp
theorem Aa8 {K:Nat->Prop}:∀(xs:List Int) {ws F},RpL (Rp w K (.int .u8)) xs ws F->ws=xs.map (Value.int .u8)
 | [],_,_,h=>h.1
 | x::xs,_,_,⟨v1,v2,F1,F2,e1,_,h1,h2⟩=>by
  simp only [Rp]at h1;subst e1;rw [h1.1,Aa8 xs h2];rfl
theorem KD (hT:TabOk P ti) {t:TypeId} (h:ti t=.cell .str):P.underlying t=some .string:=by
 obtain ⟨⟨d,hd,he⟩,_⟩:=hT.cell h;rw [hd];cases d <;> first | rfl | (simp [BY]at he;done)
theorem Ahj (hT:TabOk P ti) {t:TypeId} (h:ti t=.cell .bool):P.underlying t=some .bool:=by
 obtain ⟨⟨d,hd,he⟩,_⟩:=hT.cell h;rw [hd];cases d <;> first | rfl | (simp [BY]at he;done)
theorem AkC (hT:TabOk P ti) (hi:Inv b S w c) {s t:TypeId} {d:Nat} {x:Leaf} {v:Value} {out:Out} (hx:LeafOk S c w (Kok b S c) x v) (h:(Aed ti (ti s) (ti t) d x).ev S=some out) :
  ∃r w',(convert s t v).run P w=.ok r w'/\Did b S c w out r w':=by
 unfold Aed at h;split at h
 .rename_i k0 k k' n hs ht;simp only [Tr.ev,AoD]at h;subst h;obtain rfl:=B7 hx;refine⟨.int k (k.wrap n),w,?_,Did.same hi (CZ Db)⟩;simp [convert,run_underlying (I2 hT hs),run_underlying (I2 hT ht),Conv.intToInt]
 .rename_i s' hs ht;simp only [Tr.ev,AoD]at h;subst h;obtain rfl:=Es hx;refine⟨_,w,?_,Did.same hi (CZ Rc)⟩;simp [convert,run_underlying (KD hT hs),run_underlying (KD hT ht)]
 .rename_i e ts bytes s' hs ht;split at h
  .rename_i he;simp only [Tr.ev,AoD]at h;subst h;obtain rfl:=Es hx;obtain ⟨h1,_⟩:=hT.slice ht;have hrun:=run_bytes_of_string (P:=P) w s t e ⟨s'.toArray⟩ (KD hT hs) h1 (I2 hT he);have hge:=grownCap_ge w (ByteArray.mk s'.toArray).size 0 e;generalize grownCap w (ByteArray.mk s'.toArray).size 0 e=gc at hrun hge;have hsz:(ByteArray.mk s'.toArray).size=s'.length:=by simp [ByteArray.size]
   have hrow:bytesRow ⟨s'.toArray⟩ gc=(byteCells ⟨s'.toArray⟩).toArray++Array.replicate (gc - s'.length) (.int .u8 0):=by
    simp only [bytesRow,hsz,byteCells]
    congr 1
    apply Array.ext';simp
   have hbl:(byteCells ⟨s'.toArray⟩).length=s'.length:=by rw [byteCells_length,hsz]
   rw [hrow,hsz]at hrun;rw [hsz]at hge;generalize hcs:(byteCells ⟨s'.toArray⟩).toArray++Array.replicate (gc - s'.length) (Value.int .u8 0)=cs at hrun;have hcz:cs.size=gc:=by rw [<- hcs];simp [hbl];omega
   have hst:Step w (w.drew.alloc (.cells cs e (cs.size,cs.size+1))) (λ_=>False):=by
    exact⟨rfl,rfl,rfl,(by show w.heap.size<=(w.heap.push _).size;simp),λg hg _=>(by show(w.heap.push _)[g]?=_;simp [Array.getElem?_push,(O:¬ (g=w.heap.size))])⟩
   refine⟨_,_,hrun,?_⟩;refine Ed hi (kd d 0) ⟨e,.int .u8,AA s'⟩ [] (λk hk=>(by cases hk)) (F':=[w.heap.size]) (hst.mono λ_ h=>h.elim) ?_ Z ?_
   .intro g hg;simp only [AoZ]at hg;subst hg;exact⟨by show w.heap.size < (w.heap.push _).size;simp,.inr (Ao4 _)⟩
   .intro K' _ _;have hlen:(AA s').length=s'.length:=by simp [AA]
    rw [Rp];refine .inr ⟨w.heap.size,0,gc,cs,(cs.size,cs.size+1),[],by rw [hlen],rfl,F8 w _,⟨by intro i hi hx;omega,λh=>absurd rfl h,λh=>(by cases h)⟩,by simp [Ty.size,hcz],by rw [hlen];exact hge,?_⟩;have:(cs.toList.drop 0).take ((AA s').length * Ty.size (.int .u8))=byteCells ⟨s'.toArray⟩:=by
     rw [<- hcs,ApN,Aqa,ApX (by simp [hbl,hlen,Ty.size])];apply Ao5;simp [hbl,hlen,Ty.size]
    rw [this];exact Rk s'
  .simp [Tr.ev]at h
 .rename_i e ts bytes hs ht;split at h
  .rename_i he;simp only [Tr.ev,AoD]at h;subst h;obtain rfl:v=.slice none 0 0:=hx;obtain ⟨h1,_⟩:=hT.slice hs;exact⟨_,w,run_convert_bytes_nil w s e h1 (I2 hT he) 0 0 t (KD hT ht),Did.same hi (CZ (Rc (n:=[])))⟩
  .simp [Tr.ev]at h
 .rename_i hs ht _;split at h
  .rename_i he;simp only [Ak,AoG]at h;obtain ⟨o,ho,h⟩:=h;split at h
   .rename_i oe xs;simp only [Tr.ev,AoD]at h;subst h;obtain ⟨A,cap,ws,F',rfl,hr,hxs⟩:=HG hi hx ho;obtain ⟨h1,_⟩:=hT.slice hs;have hws:=Aa8 _ hr;refine⟨.string ⟨(AL xs).toArray⟩,w,?_,Did.same hi (CZ Rc)⟩;cases A with
    | none=>
     rcases hxs with hxs | ⟨ad,h,_⟩
     .simp only at hxs;subst hxs;exact run_convert_bytes_nil w s _ h1 (I2 hT he) _ cap t (KD hT ht)
     .cases h
    | some a=>
     rw [run_convert_bytes_string w s t _ (some a) _ cap h1 (I2 hT he) (KD hT ht)];have hl:(loadCells a (List.length xs)).run P w=.ok (xs.map (Value.int .u8)).toArray w:=by
      have:=run_loadCells_list (P:=P) w a (xs.map (Value.int .u8)) (λj u hu=>by
       have hj:=(Apt.1 hu).1;rcases hxs with hxs | ⟨ad,h,_,h2⟩
       .simp only at hxs;subst hxs;simp at hj
       .injection h with h;subst h
        rw [h2 j (by rw [hws];exact hj),hws];exact hu)
      simpa using this
     rw [run_bytesToString w a _ cap xs hl,Agv]
   .simp [Tr.ev]at h
  .simp [Tr.ev]at h
 .simp [Tr.ev]at h
theorem Xi {K:Nat->Prop} {f:Builtin} {xs:List SV} {us:List Value} {r:SV} (ts:Array TypeId) (t:TypeId) (hx:All2 (AX S c w K) xs us) (h:(VF f xs).ev S=some r) :
  (f=.min/\∃u,(Builtin.min_ ts t us.toArray).run P w=.ok u w/\AX S c w K r u)\/(f=.max/\∃u,(Builtin.max_ ts t us.toArray).run P w=.ok u w/\AX S c w K r u):=by
 unfold VF at h;split at h
 .rename_i k x k' y;cases hx with
  | cons h1 h2=>
   cases h2 with
   | cons h2 h3=>
    cases h3;obtain rfl:=B7 (AY h1);obtain rfl:=B7 (AY h2);split at h
    .rename_i hk;subst hk;split at h
     .simp only [Tr.ev,AoD]at h;subst h;refine .inl ⟨rfl,.int k (if(y:Int) < x then y else x),?_,CZ Db⟩;simp [Builtin.min_,Builtin.min2]
     .simp only [Tr.ev,AoD]at h;subst h;refine .inr ⟨rfl,.int k (if(x:Int) < y then y else x),?_,CZ Db⟩;simp [Builtin.max_,Builtin.max2]
     .simp [Tr.ev]at h
    .simp [Tr.ev]at h
 .simp [Tr.ev]at h
theorem AgK {K:Nat->Prop} {t:TypeId} {s:List UInt8} {k:IntKind} {i:Int} {u:UInt8} (ht:P.underlying t=some .string) (h0:0<=i) (hu:s[i.toNat]?=some u) :
  (Instr.index t (.string ⟨s.toArray⟩) (.int k i)).run P w=.ok (.int .u8 (u.toNat:Nat)) w/\AX S c w K (.s (.one (.v (.int .u8) (UInt8.toNat u:Int)))) (.int .u8 (u.toNat:Nat)):=by
 refine⟨?_,CZ Db⟩;have hlt:i.toNat < s.length:=(Apt.1 hu).1;rw [run_index_string w t _ k i ht,dif_pos ⟨h0,by simp only [ByteArray.size,Apn];omega⟩];have hs:s[i.toNat]=u:=by
  have:=AoF hlt;rw [hu]at this;injection this with this
  exact this.symm
 congr 2
 rw [<- hs];rfl
end
end Go.V