import Derived.Test.YtofhefmbioblbaaGreatQStA
import Derived.Test.YtofhefmbioblbaaGreatQStD
import Derived.Lib.SliceRun
import Derived.Calls
import Derived.Orders
import Derived.Tactics
import Derived.Maps.RangeRun
import Derived.Deep.LoopGhost
set_option linter.unusedVariables false
set_option linter.unusedSimpArgs false
namespace Go.V
open Go.RowKit
def NT (P:Program) (o:Oper) (a:Act) (w:World) (post:Value->World->Prop):Prop:=
 ∀(next:Act->World->Prop) (Q:Exit->Act->World->Prop),(∀v w',post v w'->next (a.put o.dst v) w')->o.wp P a w next Q
section
variable {P:Program} {E:Env} {b:Base} {S:St} {c:Cc} {w:World} {a:Act} {o:Oper} {post:Value->World->Prop}
theorem Az {s:Sem Value} (he:execOp a.eval o=(do pure (.value (<- s)))) (hr:∃v w',s.run P w=.ok v w'/\post v w'):NT P o a w post:=by
 intro next Q h;obtain ⟨v,w',h1,h2⟩:=hr;unfold Oper.wp;rw [he];simp only [Sem.run_bind,h1,Result.andThen_ok,Sem.run_pure];exact h v w' h2
theorem Ps {s:Sem Unit} (he:execOp a.eval o=(do s;pure .skip)) (hr:∃w',s.run P w=.ok () w'/\post undef w'):NT P o a w post:=by
 intro next Q h;obtain ⟨w',h1,h2⟩:=hr;unfold Oper.wp;rw [he];simp only [Sem.run_bind,h1,Result.andThen_ok,Sem.run_pure];exact h undef w' h2
theorem Ja {v:Value} (he:execOp a.eval o=pure (.value v)) (hr:post v w):NT P o a w post:=by
 intro next Q h;unfold Oper.wp;rw [he,Sem.run_pure];exact h v w hr
theorem AcE (hr:∃v w',(execOp a.eval o).run P w=.ok (.value v) w'/\post v w'):NT P o a w post:=by
 intro next Q h;obtain ⟨v,w',h1,h2⟩:=hr;unfold Oper.wp;rw [h1];exact h v w' h2
theorem AeW {K:Nat->Prop} {op:BinOp} {x y l:Leaf} {u:Value} (hx:LeafOk S c w K x u) (h:(WO op x y).ev S=some l):u.oneCell'=true/\u≠.nilIface:=by
 unfold WO at h;split at h
 .obtain rfl:=BY hx;exact⟨rfl,Z⟩
 .obtain rfl:=Ep hx;exact⟨rfl,Z⟩
 .obtain rfl:=DZ hx;exact⟨rfl,Z⟩
 .simp [Tr.ev]at h
theorem Pi {N:Nat} {K:Nat->Prop} (hs:Slots N S c w K a):∀(ps:List (Nat×Operand)),All2 (λ(p:Nat×SV) u=>AO S c w K p.2 u) (ps.map λp=>(p.1,Cj S p.2)) (ps.map λp=>a.eval p.2)
 | []=>.nil
 | p::ps=>.cons (AD hs p.2) (Pi hs ps)
theorem PJ {S:St} {a:Act}:∀(ps:List (Nat×Operand)),ps.map (λ(p:Nat×Operand)=>(p.1,a.eval p.2))=((ps.map λp=>(p.1,Cj S p.2)).map (·.1)).zip (ps.map λp=>a.eval p.2)
 | []=>rfl
 | p::ps=>by simp [PJ (S:=S) (a:=a) ps]
theorem Ue {a:Act} (ps:Array (Nat×Operand)):(ps.map λ(i,x)=>(i,a.eval x))=(ps.toList.map λp=>(p.1,a.eval p.2)).toArray:=by
 apply AlB;simp
theorem Gd {N:Nat} {K:Nat->Prop} (hs:Slots N S c w K a):∀(ps:List Operand),All2 (AO S c w K) (ps.map (Cj S)) (ps.map a.eval)
 | []=>.nil
 | p::ps=>.cons (AD hs p) (Gd hs ps)
theorem Gj {N:Nat} {f:Builtin} {args:Array Operand} {ts:Array TypeId} {dst:Option Tmp} {ty:TypeId} {pos:String} {aft:Array Edge} {gd:Option (Nat×Bool)} {s:Sem Value} (_:Slots N S c w (Kok b S c) a)
  (he:∀consts,builtin f ts ty consts (args.map a.eval)=(do pure (.value (<- s)))) (hr:∃v w',s.run P w=.ok v w'/\post v w'):NT P ⟨dst,.call ⟨.builtin f,args,ts⟩,ty,pos,aft,gd⟩ a w post:=by
 intro next Q h;obtain ⟨v,w',h1,h2⟩:=hr;unfold Oper.wp;simp only [execOp,resolve,Sem.run_bind,Sem.run_pure,Result.andThen_ok,invoke,he,h1];exact h v w' h2
theorem Zw {K:Nat->Prop}:∀{xs:List SV} {vs:List Value} {l:List (Nat×Nat)},All2 (AO S c w K) xs vs->R0 xs=some l->All2 (TB S c) l vs
 | [],_,l,.nil,h=>by
  simp only [R0,AjN]at h;subst h;exact .nil
 | x::xs,_,l,.cons (b:=v) (bs:=vs) h1 h2,h=>by
  unfold R0 at h;split at h
  .rename_i e;cases e
  .rename_i k off xs' e;injection e with e1 e2
   subst e1 e2;split at h
   .rename_i l' hl';simp only [AjN]at h;subst h;exact .cons h1 (Zw h2 hl')
   .cases h
  .cases h
theorem AhX (hi:Inv b S w c) {x l:Leaf} {v:Value} (hx:LeafOk S c w (Kok b S c) x v) (h:(Ad5 x).ev S=some l) :
  ∃A n cap,v=.slice A n cap/\LeafOk S c w (Kok b S c) l (.bool A.isNone):=by
 unfold Ad5 at h;split at h
 .simp only [Tr.ev,AjN]at h;subst h;exact⟨none,0,0,hx,Cm⟩
 .rename_i o e r xs;simp only [Tr.ev,AjN]at h;subst h;have hd:(Kd (.v (.sl o e r) xs)).ev S=some ⟨e,r,xs⟩:=by cases o <;> rfl
  obtain ⟨A,cap,ws,F',rfl,hr,hz⟩:=Gc hi hx hd;refine⟨A,_,cap,rfl,_,rfl,λhA=>?_⟩;rcases hz with hz | ⟨ad,h1,_⟩
  .simp only at hz;rw [hz];rfl
  .rw [h1]at hA;cases hA
 .rename_i k st win;simp only [Af,AjQ,Tr.ev,AjN]at h;obtain ⟨o,ho,rfl⟩:=h;obtain ⟨A,cap,ws,F',rfl,hr,hz⟩:=Gc hi hx (show(Kd (.vw k st win)).ev S=some o from ho);refine⟨A,_,cap,rfl,_,rfl,λhA=>?_⟩;rcases hz with hz | ⟨ad,h1,_⟩
  .rw [hz];rfl
  .rw [h1]at hA;cases hA
 .simp [Tr.ev]at h
theorem Agq (hT:TabOk P E.ti) {N:Nat} (hi:Inv b S w c) (hs:Slots N S c w (Kok b S c) a) (o:Oper) {d:Nat} (hdn:d < b.n1) {out:Out}
  (hcall:∀fo f cs args ts out,o.op=.call ⟨.value fo,args,ts⟩->Cj S fo=.s (.fv f cs)->args.size=ts.size->(VD E d f cs ((args.toList.map (Cj S)).zip ts.toList)).ev S=some out->NT P o a w λv w'=>Did b S c w out v w')
  (hen:∀s p,WV E.en s=some p->(Instr.entry (a.eval (.tmp s))).run P w=.ok (.tuple #[.int .i64 p.1,.int .i64 p.2]) w)
  (h:(Je E (Cj S) d o.op).ev S=some out):NT P o a w λv w'=>Did b S c w out v w':=by
 obtain ⟨dst,op,ty,pos,aft,gd⟩:=o;simp only at h hcall;unfold Je at h;split at h
 .rename_i x;split at h
  .simp [Tr.ev]at h
  .simp [Tr.ev]at h
  .simp only [Tr.ev,AjN]at h;subst h;exact Ja rfl (Did.same hi (AD hs x))
 .rename_i x;split at h
  .simp [Tr.ev]at h
  .simp [Tr.ev]at h
  .simp only [Tr.ev,AjN]at h;subst h;exact Ja rfl (Did.same hi (AD hs x))
 .rename_i cc x y;split at h
  .rename_i cb hc;have hb:a.eval cc=.bool cb:=by
    have:=AD hs cc;rw [hc]at this;exact Ep (AT this)
   simp only [Tr.ev]at h;refine AcE ⟨if cb then a.eval x else a.eval y,w,?_,?_⟩
   .simp [execOp,hb,asBool]
   .split at h
    .rename_i hcb;rw [AjS hcb];split at h
     .simp [Tr.ev]at h
     .simp [Tr.ev]at h
     .simp only [Tr.ev,AjN]at h;subst h;exact Did.same hi (AD hs x)
    .rename_i hcb;rw [AjR hcb];split at h
     .simp [Tr.ev]at h
     .simp [Tr.ev]at h
     .simp only [Tr.ev,AjN]at h;subst h;exact Did.same hi (AD hs y)
  .simp [Tr.ev]at h
 .rename_i t;split at h
  .rename_i ts ht;split at h
   .simp [Tr.ev]at h
   .rename_i hne;simp only [Tr.ev,AjN]at h;subst h;exact Az rfl (Aeg hT hi ht (by rintro rfl;exact hne rfl) d hdn)
  .simp [Tr.ev]at h
 .rename_i t x;split at h
  .rename_i ts ls ht hl;split at h
   .rename_i hln;simp only [Tr.ev,AjN]at h;subst h;exact Az rfl (Aho hi (AD hs x) hl (by rintro rfl;exact hln.2 (Akb hln.1.symm)) d hdn)
   .simp [Tr.ev]at h
  .simp [Tr.ev]at h
 .rename_i t ps;split at h
  .rename_i fs row eq ht;split at h
   .rename_i ls hl;simp only [Tr.ev,AjN]at h;subst h;obtain ⟨u,h1,h2⟩:=AeQ (P:=P) hT hi ht (Pi hs ps.toList) (PJ ps.toList) hl;rw [<- Ue]at h1;exact Az rfl ⟨u,w,h1,Did.same hi h2⟩
   .simp [Tr.ev]at h
  .simp [Tr.ev]at h
 .rename_i t len ps;obtain ⟨u,w',h1,h2⟩:=Vp (P:=P) hT hi (Pi hs ps.toList) (PJ ps.toList) h;rw [<- Ue]at h1;exact Az rfl ⟨u,w',h1,h2⟩
 .rename_i t x;split at h
  .rename_i a1 ts hx ht;split at h
   .simp [Tr.ev]at h
   .rename_i hne;simp only [Af,AjQ]at h;obtain ⟨r,hr,h⟩:=h;simp only [Tr.ev,AjN]at h;subst h;have hv:=AD hs x;rw [hx]at hv;have hpos:0 < ts.length:=by
     cases ts with
     | nil=>simp at hne
     | cons _ _=>simp
    obtain ⟨u,h1,h2⟩:=Z3 (P:=P) hT hi hv ht hr hpos;exact Az rfl ⟨u,w,h1,Did.same hi h2⟩
  .simp [Tr.ev]at h
 .rename_i t p x;split at h
  .rename_i a1 ts ls hx ht hl;split at h
   .rename_i hn;simp only [Af,AjQ,Tr.ev,AjN]at h;obtain ⟨r,hr,h⟩:=h;subst h;have hv:=AD hs p;rw [hx]at hv
    match a1,hv,hr with
    | .pl k off,hv,hr=>exact Ps rfl (AfS hT hi hv ht (AD hs x) hl hn hr)
    | .el k st,hv,hr=>exact Ps rfl (Af5 hT hi hv ht (AD hs x) hl hn hr)
    | .one _,_,hr=>simp [GI,Tr.ev]at hr
    | .ag _,_,hr=>simp [GI,Tr.ev]at hr
    | .rp _ _ _,_,hr=>simp [GI,Tr.ev]at hr
    | .fv _ _,_,hr=>simp [GI,Tr.ev]at hr
   .simp [Tr.ev]at h
  .simp [Tr.ev]at h
 .rename_i x;have hx:=AD hs x;split at h
  all_goals first
   | (simp [Tr.ev]at h;done)
   | skip
  .rename_i k off he;simp only [Tr.ev,AjN]at h;subst h;rw [he]at hx;have hx':=hx;obtain ⟨m,hm,hv⟩:=hx';refine Ja (v:=a.eval x) ?_ (Did.same hi hx);simp only [execOp,hv]
  .rename_i k st he;simp only [Tr.ev,AjN]at h;subst h;rw [he]at hx;have hx':=hx;obtain ⟨o0,ad,ho,had,hv,_⟩:=hx';refine Ja (v:=a.eval x) ?_ (Did.same hi hx);simp only [execOp,hv]
  .rename_i u y off he;simp only [Tr.ev,AjN]at h;subst h;rw [he]at hx;have hx':=hx;obtain ⟨ad,vs,hv,_⟩:=hx';refine Ja (v:=a.eval x) ?_ (Did.same hi hx);simp only [execOp,hv]
  .rename_i u o' he;cases o' with
   | none=>simp [Tr.ev]at h
   | some y=>
    simp only [Tr.ev,AjM,AjN]at h;subst h;rw [he]at hx;have hp:=Aff (AT hx);have hp':=hp;obtain ⟨ad,vs,hv,_⟩:=hp';refine Ja (v:=a.eval x) ?_ (Did.same hi (x:=.s (.rp u y 0)) hp);simp only [execOp,hv]
 .rename_i op t x y z;split at h
  .rename_i l1 hx hy;split at h
   .split at h
    .rename_i hsl;simp only [Af,AjQ,Tr.ev,AjN]at h;obtain ⟨l,hl,h⟩:=h;subst h;have h1:=AD hs x;have h2:=AD hs y;rw [hx]at h1;rw [hy]at h2;obtain ⟨A,n,cap,hv,hlf⟩:=AhX hi (AT h1) hl;have hy0:a.eval y=.slice none 0 0:=h2;obtain ⟨e,_,hu,_⟩:=JM hT hsl;refine Az rfl ⟨.bool A.isNone,w,?_,Did.same hi (CK hlf)⟩;rw [hv,hy0,Ui .eql t x y rfl Z];simp only [Sem.run_bind,Sem.run_pure,Result.andThen_ok];exact Lib.run_eql_slice_nil w t e A n cap 0 0 hu
    .simp [Tr.ev]at h
   .simp [Tr.ev]at h
  .rename_i e e2 hx hy;have h1:=AD hs x;rw [hx]at h1;have hE:=AfA (AT h1);split at h
   .rename_i ht;simp only [Tr.ev,AjN]at h;subst h;refine Az rfl ⟨.bool e,w,?_,Did.same hi (CK Cm)⟩;obtain ⟨ms,hu⟩:=Acr hT ht;exact AgI t x hE hu
   .simp [Tr.ev]at h
  .rename_i l1 l2 _ _ hx hy;split at h
   .rename_i hb;simp only [Af,AjQ,Tr.ev,AjN]at h;obtain ⟨l,hl,h⟩:=h;subst h;have h1:=AD hs x;have h2:=AD hs y;rw [hx]at h1;rw [hy]at h2;obtain ⟨r,h3,h4⟩:=AfN (P:=P) op t l1 l2 _ _ l (AT h1) (AT h2) hl (λq hq=>by
     subst hq;cases ht:E.ti t with
     | cell u=>
      cases u with
      | bool=>exact AcR hT ht
      | _=>rw [ht]at hb;simp [XJ]at hb
     | _=>rw [ht]at hb;simp [XJ]at hb)
    obtain ⟨g1,g2⟩:=AeW (AT h1) hl;refine Az rfl ⟨r,w,?_,Did.same hi (CK h4)⟩;rw [Ui op t x y g1 g2];simpa using h3
   .simp [Tr.ev]at h
  .rename_i xs ys hx hy;have h1:=AD hs x;have h2:=AD hs y;rw [hx]at h1;rw [hy]at h2;obtain ⟨us,e1,k1⟩:=h1;obtain ⟨vs,e2,k2⟩:=h2;split at h
   .rename_i fs row ht;obtain ⟨fields,f1,f2,f3,_⟩:=hT.struct ht;obtain ⟨f4,f5,f6,f7⟩:=f3 rfl;have hfo:P.fieldsOf t=fields:=by simp [Program.fieldsOf,f1]
    split at h
    .rename_i r hr;simp only [Tr.ev,AjN]at h;subst h;have:=ZM (w:=w) t us vs fields f1 f6 (Rb (w:=w) row fields.toList fs 0 xs ys us vs [] [] f4 f2 f5 rfl rfl k1 k2 hr);refine Az rfl ⟨.bool r,w,?_,Did.same hi (CK Cm)⟩;rw [e1,e2];simp only [Sem.run_bind,run_eqGuard_agg w _ _ _ _ _ _ f7,Result.andThen_ok,this.1]
    .rename_i r hr;simp only [Tr.ev,AjN]at h;subst h;have:=ZM (w:=w) t us vs fields f1 f6 (Rb (w:=w) row fields.toList fs 0 xs ys us vs [] [] f4 f2 f5 rfl rfl k1 k2 hr);refine Az rfl ⟨.bool (!r),w,?_,Did.same hi (CK Cm)⟩;rw [e1,e2];simp only [Sem.run_bind,run_eqGuard_agg w _ _ _ _ _ _ f7,Result.andThen_ok,this.2]
    .simp [Tr.ev]at h
   .simp [Tr.ev]at h
  .simp [Tr.ev]at h
 .rename_i op t x;split at h
  .rename_i l1 hx;simp only [Af,AjQ,Tr.ev,AjN]at h;obtain ⟨l,hl,h⟩:=h;subst h;have h1:=AD hs x;rw [hx]at h1;obtain ⟨r,h3,h4⟩:=Aia (P:=P) op l1 _ l (AT h1) hl;exact Az rfl ⟨r,w,h3,Did.same hi (CK h4)⟩
  .simp [Tr.ev]at h
 .rename_i s t x;split at h
  .rename_i l1 hx;have h1:=AD hs x;rw [hx]at h1;exact Az rfl (AfV hT hi (AT h1) h)
  .simp [Tr.ev]at h
 .rename_i t l m;exact Az rfl (XK hT hi (AD hs l) (AD hs m) h)
 .rename_i t x lo hi' mx;split at h
  .rename_i l1 hx;simp only [Af,AjQ,Tr.ev,AjN]at h;obtain ⟨r,hr,h⟩:=h;subst h;have h1:=AD hs x;rw [hx]at h1;obtain ⟨u,h2,h3⟩:=AdZ (P:=P) hT hi hs (AT h1) hr;exact Az rfl ⟨u,w,h2,Did.same hi h3⟩
  .simp [Tr.ev]at h
 .rename_i t x f;split at h
  .rename_i fs row eq ht;have h1:=AD hs x;split at h
   all_goals first
    | (simp [Tr.ev]at h;done)
    | skip
   .rename_i hf hx;simp only [Tr.ev,AjN]at h;subst h;rw [hx]at h1;obtain ⟨u,h2,h3⟩:=KL (P:=P) hT ht hf h1 (.inl ⟨_,_,rfl,rfl⟩);exact Az rfl ⟨u,w,h2,Did.same hi h3⟩
   .rename_i hf hx;simp only [Tr.ev,AjN]at h;subst h;rw [hx]at h1;obtain ⟨u,h2,h3⟩:=KL (P:=P) hT ht hf h1 (.inr (.inl ⟨_,_,rfl,rfl⟩));exact Az rfl ⟨u,w,h2,Did.same hi h3⟩
   .rename_i hf hx;simp only [Tr.ev,AjN]at h;subst h;rw [hx]at h1;obtain ⟨u,h2,h3⟩:=KL (P:=P) hT ht hf h1 (.inr (.inr ⟨_,_,_,rfl,rfl⟩));exact Az rfl ⟨u,w,h2,Did.same hi h3⟩
  .simp [Tr.ev]at h
 .rename_i t x f;split at h
  .rename_i fs row eq ls ht hx;have h1:=AD hs x;rw [hx]at h1;split at h
   .rename_i o n hf;simp only [Tr.ev,AjN]at h;subst h;obtain ⟨u,h2,h3⟩:=XA (P:=P) (w:=w) hT ht hf h1 (r:=.s (.ag ((ls.drop o).take n))) Z;exact Az rfl ⟨u,w,h2,Did.same hi h3⟩
   .rename_i o n hf;split at h
    .rename_i l hl;simp only [Tr.ev,AjN]at h;subst h;obtain ⟨u,h2,h3⟩:=XA (P:=P) (w:=w) hT ht hf h1 (r:=.s (FZ l)) (by simp [hl]);exact Az rfl ⟨u,w,h2,Did.same hi h3⟩
    .simp [Tr.ev]at h
   .simp [Tr.ev]at h
  .simp [Tr.ev]at h
 .rename_i t x i;split at h
  .rename_i l1 k n hx hn;simp only [Af,AjQ,Tr.ev,AjN]at h;obtain ⟨r,hr,h⟩:=h;subst h;have h1:=AD hs x;have h2:=AD hs i;rw [hx]at h1;rw [hn]at h2;obtain ⟨u,h3,h4⟩:=Rh (P:=P) (k:=k) hT hi (AT h1) hr;refine Az (s:=Instr.indexAt t (a.eval x) (a.eval i)) rfl ⟨u,w,?_,Did.same hi h4⟩;rw [BY (AT h2)];exact h3
  .simp [Tr.ev]at h
 .rename_i t x i;split at h
  .rename_i s k n hx hn
   replace h:=BG h
   obtain ⟨c1,h⟩:=h
   replace h:=BG h
   obtain ⟨c2,h⟩:=h;simp only [decide_eq_true_eq]at c2;simp only [Tr.ev,AjQ,AjN]at h;obtain ⟨u,hu,h⟩:=h;subst h;have h1:=AD hs x;have h2:=AD hs i;rw [hx]at h1;rw [hn]at h2;obtain ⟨h3,h4⟩:=AcS (P:=P) (S:=S) (c:=c) (w:=w) (K:=Kok b S c) (k:=k) (LU hT c1) c2 hu;refine Az (s:=Instr.index t (a.eval x) (a.eval i)) rfl ⟨_,w,?_,Did.same hi h4⟩;rw [BY (AT h2),DZ (AT h1)];exact h3
  .simp [Tr.ev]at h
 .rename_i x i;split at h
  .rename_i xs hx;split at h
   .rename_i y hy;simp only [Tr.ev,AjN]at h;subst h;have h1:=AD hs x;rw [hx]at h1;obtain ⟨vs,hv,hall⟩:=h1;obtain ⟨u,hu,h2⟩:=hall.get hy;refine Az (s:=Instr.extract (a.eval x) i) rfl ⟨u,w,?_,Did.same hi h2⟩;rw [hv];simp [Instr.extract,hu]
   .simp [Tr.ev]at h
  .simp [Tr.ev]at h
 .rename_i as ts;split at h
  .rename_i x t has hts;simp only [Af,AjQ,Tr.ev,AjN]at h;obtain ⟨n,hn,h⟩:=h;subst h;have hall:=Gd hs as.toList;rw [has]at hall;generalize hus:as.toList.map a.eval=us at hall;cases hall with
   | cons h1 h2=>
    cases h2;rename_i u;have ha:as.map a.eval = #[u]:=by apply AlB;simp [hus]
    have ht:ts = #[t]:=by apply AlB;simp [hts]
    subst ht;refine Gj hs (s:=Builtin.len_ #[t] ty (as.map a.eval)) (λ_=>rfl) ⟨goInt n,w,?_,Did.same hi (CK CX)⟩;rw [ha];rcases Ag5 hi (AT h1) hn with⟨s,rfl,hsz,hst⟩ | ⟨hsl,A,cap,rfl⟩
    .rw [run_len_string w t ty s (LU hT hst),hsz]
    .obtain ⟨e,ie,hu,_⟩:=JM hT hsl;simp [Builtin.len_,run_underlying hu]
  .simp [Tr.ev]at h
 .rename_i as ts;split at h
  .rename_i x y t t2 has hts;have hall:=Gd hs as.toList;rw [has]at hall;generalize hus:as.toList.map a.eval=us at hall;cases hall with
   | cons h1 h2=>
    cases h2 with
    | cons h2 h3=>
     cases h3;rename_i u v;have ha:as.map a.eval = #[u,v]:=by apply AlB;simp [hus]
     have ht:ts = #[t,t2]:=by apply AlB;simp [hts]
     subst ht;refine Gj hs (s:=Builtin.append_ #[t,t2] ty (as.map a.eval)) (λ_=>rfl) ?_;rw [ha];exact AfF hT hi (AT h1) (AT h2) h
  .simp [Tr.ev]at h
 .rename_i as ts;split at h
  .rename_i x y t t2 has hts;have hall:=Gd hs as.toList;rw [has]at hall;generalize hus:as.toList.map a.eval=us at hall;cases hall with
   | cons h1 h2=>
    cases h2 with
    | cons h2 h3=>
     cases h3;rename_i u v;have ha:as.map a.eval = #[u,v]:=by apply AlB;simp [hus]
     have ht:ts = #[t,t2]:=by apply AlB;simp [hts]
     subst ht;refine Gj hs (s:=Builtin.copy_ #[t,t2] ty (as.map a.eval)) (λ_=>rfl) ?_;rw [ha];exact Afv hT hi (AT h1) (AT h2) h
  .simp [Tr.ev]at h
 .rename_i as ts;simp only [Af,AjQ,Tr.ev,AjN]at h;obtain ⟨r,hr,h⟩:=h;subst h;have ha:as.map a.eval=(as.toList.map a.eval).toArray:=by apply AlB;simp
  rcases Uh (P:=P) (w:=w) ts ty (Gd hs as.toList) hr with⟨_,u,h1,h2⟩ | ⟨h0,_⟩
  .refine Gj hs (s:=Builtin.min_ ts ty (as.map a.eval)) (λ_=>rfl) ⟨u,w,?_,Did.same hi h2⟩;rw [ha];exact h1
  .cases h0
 .rename_i as ts;simp only [Af,AjQ,Tr.ev,AjN]at h;obtain ⟨r,hr,h⟩:=h;subst h;have ha:as.map a.eval=(as.toList.map a.eval).toArray:=by apply AlB;simp
  rcases Uh (P:=P) (w:=w) ts ty (Gd hs as.toList) hr with⟨h0,_⟩ | ⟨_,u,h1,h2⟩
  .cases h0
  .refine Gj hs (s:=Builtin.max_ ts ty (as.map a.eval)) (λ_=>rfl) ⟨u,w,?_,Did.same hi h2⟩;rw [ha];exact h1
 .rename_i fo as ts;split at h
  .rename_i f cs hfo;split at h
   .rename_i hsz;exact hcall fo f cs as ts out rfl hfo hsz h
   .simp [Tr.ev]at h
  .simp [Tr.ev]at h
 .rename_i t;split at h
  .simp only [Tr.ev,AjN]at h;subst h;exact Az rfl (AaB hi t d hdn)
  .simp [Tr.ev]at h
 .rename_i t x i;split at h
  .rename_i n hn;obtain ⟨ht,k,xs,h1,h2,h3,h4⟩:=Aaa hi (AD hs x) h;simp only [Bu,Tr.ev,AjN]at h4;subst h4;have hiv:a.eval i=.int .i64 n:=by
    have:=AD hs i;rw [hn]at this;exact BY (AT this)
   refine Az rfl ⟨_,w,?_,Did.same hi (v:=.int .i64 (CB xs n)) ?_⟩
   .rw [h2,hiv];exact AcW hT hi ht h3 n
   .exact(show LeafOk S c w (Kok b S c) (.v (.int .i64) (CB xs n)) (.int .i64 (CB xs n)) from⟨rfl,rfl⟩)
  .simp [Tr.ev]at h
 .rename_i t x i y;split at h
  .rename_i n m hn hm;obtain ⟨ht,k,xs,h1,h2,h3,h4⟩:=Aaa hi (AD hs x) h;simp only [Tr.ev,AjN]at h4;subst h4;have hiv:a.eval i=.int .i64 n:=by
    have:=AD hs i;rw [hn]at this;exact BY (AT this)
   have hyv:a.eval y=.int .i64 m:=by
    have:=AD hs y;rw [hm]at this;exact BY (AT this)
   refine Ps rfl ?_;rw [h2,hiv,hyv];exact WP hT hi ht h1 h3 n m
  .simp [Tr.ev]at h
 .rename_i s;split at h
  .rename_i p hp;simp only [Bu,Tr.ev,AjN]at h;subst h;exact Az rfl ⟨_,w,hen s p hp,Did.same hi (c:=c) (x:=.tu [.one (.v (.int .i64) p.1),.one (.v (.int .i64) p.2)]) ⟨[.int .i64 p.1,.int .i64 p.2],rfl,.cons ⟨rfl,rfl⟩ (.cons ⟨rfl,rfl⟩ .nil)⟩⟩
  .simp [Tr.ev]at h
 .rename_i f first cs
  split at h
  .rename_i hf;split at h
   .rename_i l hl;simp only [Tr.ev,AjN]at h;subst h;have hfirst:first = #[]:=by simpa [Array.isEmpty_iff] using hf
    subst hfirst;refine Az rfl ⟨_,w,rfl,Did.same hi ?_⟩;refine⟨cs.toList.map a.eval,by congr 1 <;> (apply AlB;simp),?_⟩;have hall:=Gd hs cs.toList;revert hl hall;generalize cs.toList.map (Cj S)=xs;generalize cs.toList.map a.eval=vs;intro hl hall;exact Zw hall hl
   .simp [Tr.ev]at h
  .simp [Tr.ev]at h
 .simp [Tr.ev]at h
end
end Go.V
namespace Go.V
open Go.RowKit
def FL {α β:Type} (p:α->β->List Nat->Prop):List α->List β->List Nat->Prop
 | [],vs,F=>vs=[]/\F=[]
 | x::xs,vs,F=>∃v vs' F1 F2,vs=v::vs'/\F=F1++F2/\p x v F1/\FL p xs vs' F2
section
variable {α β:Type} {p q:α->β->List Nat->Prop}
theorem FL.mono (h:∀x v F,p x v F->q x v F):∀{xs:List α} {vs:List β} {F},FL p xs vs F->FL q xs vs F
 | [],_,_,hx=>hx
 | _::_,_,_,⟨v,vs',F1,F2,e1,e2,h1,h2⟩=>⟨v,vs',F1,F2,e1,e2,h _ _ _ h1,FL.mono h h2⟩
theorem FL.mono':∀{xs:List α} {vs:List β} {F},(∀x∈xs,∀v F',(∀g,g∈F'->g∈F)->p x v F'->q x v F')->FL p xs vs F->FL q xs vs F
 | [],_,_,_,hx=>hx
 | _::_,_,_,h,⟨v,vs',F1,F2,e1,e2,h1,h2⟩=>by
  subst e2;exact⟨v,vs',F1,F2,e1,rfl,h _ Z _ _ (λg hg=>by simp [hg]) h1,FL.mono' (λx hx v F hF=>h x (by simp [hx]) v F λg hg=>by simp [hF g hg]) h2⟩
theorem FL.len:∀{xs:List α} {vs:List β} {F},FL p xs vs F->vs.length=xs.length
 | [],_,_,⟨e,_⟩=>by subst e;rfl
 | _::_,_,_,⟨v,vs',F1,F2,e1,_,_,h2⟩=>by subst e1;simp [FL.len h2]
theorem FL.append:∀{xs ys:List α} {vs ws:List β} {F G},FL p xs vs F->FL p ys ws G->FL p (xs++ys) (vs++ws) (F++G)
 | [],_,_,_,_,_,⟨e1,e2⟩,h=>by subst e1 e2;exact h
 | _::_,_,_,_,_,_,⟨v,vs',F1,F2,e1,e2,h1,h2⟩,h=>by
  subst e1 e2;exact⟨v,_,F1,_,rfl,AjY ..,h1,FL.append h2 h⟩
theorem FL.snoc {xs:List α} {vs:List β} {F G:List Nat} {x:α} {v:β} (h:FL p xs vs F) (hx:p x v G):FL p (xs++[x]) (vs++[v]) (F++G):=
 h.append ⟨v,[],G,[],rfl,Z,hx,rfl,rfl⟩
end
def Ty.own:Ty->Bool
 | .sl true _ _=>true
 | _=>false
def ALOk (w:World) (K:Nat->Prop) (l:Ae) (v:Value) (F:List Nat):Prop:=Rp w K l.1 l.2 [v] F/\(l.1.own=false->F=[])
def A1Ok (w:World) (K:Nat->Prop) (ms:List (Nat×Nat)):A1->Value->List Nat->Prop
 | .one l,v,F=>ALOk w K l v F
 | .ag ls,v,F=>∃vs:List Value,v=.agg vs.toArray/\FL (ALOk w K) ls vs F
 | .pl m off,v,F=>F=[]/\∃g,ms[m]?=some g/\v=.pointer (some ⟨g.1,g.2+off,none⟩)
 | .rp t x off,v,F=>F=[]/\∃(a:Addr) (vs:List Value),v=.pointer (some (a.add off))/\Rp w K t x vs []/\K a.block/\a.block < w.heap.size/\∀j,j < vs.length->w.cell? (a.add j)=vs[j]?
 | .fv f cs,v,F=>F=[]/\∃vs:List Value,v=.func (.func f) #[] vs.toArray/\All2 (λp v=>∃g,ms[p.1]?=some g/\v=.pointer (some ⟨g.1,g.2+p.2,none⟩)) cs vs
def ROk (w:World) (K:Nat->Prop) (ms:List (Nat×Nat)) (l:Ae) (v:Value) (F:List Nat):Prop:=
 ALOk w K l v F\/((F=[]/\∃(p g:Nat×Nat),l=⟨.lp,p⟩/\ms[p.1]?=some g/\v=.pointer (some ⟨g.1,g.2+p.2,none⟩))\/
  (F=[]/\∃(m:Nat) (g:Nat×Nat),l=⟨.mh,m+1⟩/\ms[m]?=some g/\v=.map (some g.1)/\∃es n,w.heap[g.1]?=some (.map es n)))
def RowOk (w:World) (K:Nat->Prop) (ms:List (Nat×Nat)) (g:Nat×Nat) (r:List Ae) (F:List Nat):Prop:=
 (∃cs e fr,w.heap[g.1]?=some (.cells cs e fr)/\NF fr cs.size/\g.2+r.length<=cs.size/\FL (ROk w K ms) r ((cs.toList.drop g.2).take r.length) F)\/
 ∃xs:List (Int×Int),r=[⟨.mp,xs⟩]/\MapAt w g.1 xs/\F=[]
def RowsOk (w:World) (K:Nat->Prop) (ms:List (Nat×Nat)):List (Nat×Nat)->List (List Ae)->List Nat->Prop
 | [],rs,F=>rs=[]/\F=[]
 | g::gs,rs,F=>∃r rs' F1 F2,rs=r::rs'/\F=F1++F2/\RowOk w K ms g r F1/\RowsOk w K ms gs rs' F2
def RestOk (w w':World) (ms:List (Nat×Nat)) (rows:List (List Ae)):Prop:=
 (∀(m:Nat) (g:Nat×Nat) (es:Array MapEntry) (n:Nat),ms[m]?=some g->w.heap[g.1]?=some (.map es n)->∃es' n',w'.heap[g.1]?=some (.map es' n'))/\
 ∀(m:Nat) (g:Nat×Nat) (row:List Ae) (cs:Array Value) (e:TypeId) (fr:Nat×Nat),ms[m]?=some g->rows[m]?=some row->w.heap[g.1]?=some (.cells cs e fr)->∃cs',w'.heap[g.1]?=some (.cells cs' e fr)/\cs'.size=cs.size/\∀i,(i < g.2\/g.2+row.length<=i)->cs'[i]?=cs[i]?
def TJ:List Value->Value
 | [v]=>v
 | vs=>.tuple vs.toArray
def ED (vals:List Value) (p:Nat×Nat):Option Value:=match vals[p.1]? with
 | some (.agg vs)=>vs[p.2]?
 | some v=>if p.2=0 then some v else none
 | none=>none
def LentOk (w:World) (K:Nat->Prop) (vals:List Value):List ((Nat×Nat)×Ae)->List Nat->Prop
 | [],F=>F=[]
 | p::l,F=>∃v F1 F2,F=F1++F2/\ED vals p.1=some v/\ALOk w K p.2 v F1/\LentOk w K vals l F2
def HU (w:World) (Ro:Nat->Prop) (ms:List (Nat×Nat)) (F:List Nat) (vals:List Value) (r:Res) (v:Value) (w':World):Prop:=
 ∃(vs:List Value) (F1 F2 F3:List Nat),v=TJ vs/\FL (A1Ok w' (λg=>(Ro g\/w.heap.size<=g\/g∈F)/\g∉ms.map (·.1)++(F1++(F2++F3))) ms) r.val vs F1/\RowsOk w' (λg=>(Ro g\/w.heap.size<=g\/g∈F)/\g∉ms.map (·.1)++(F1++(F2++F3))) ms ms r.rows F2/\
  LentOk w' (λg=>(Ro g\/w.heap.size<=g\/g∈F)/\g∉ms.map (·.1)++(F1++(F2++F3))) vals r.lent F3/\
  (ms.map (·.1)++(F1++(F2++F3))).Nodup/\(∀g,g∈F1++(F2++F3)->g < w'.heap.size/\(g∈F\/w.heap.size<=g))/\Step w w' (λg=>g∈ms.map (·.1)++F)/\RestOk w w' ms r.rows
theorem RestOk.nil {w w':World} {rows:List (List Ae)}:RestOk w w' [] rows:=⟨λ_ _ _ _ h=>by simp at h,λ_ _ _ _ _ _ h=>by simp at h⟩
def Cq (P:Program) (f:FuncId) (as:List A1) (rows:List (List Ae)) (r:Res):Prop:=
 (∃ fn, P.funcs[f]? = some fn ∧ (fn.name == "runtime.NumGoroutine") = false ∧ fn.body.isNone = false) ∧
 ∀(w:World) (vals:List Value) (Ro:Nat->Prop) (ms:List (Nat×Nat)) (F1 F2:List Nat),FL (A1Ok w Ro ms) as vals F1->RowsOk w Ro ms ms rows F2->(ms.map (·.1)++(F1++F2)).Nodup->(∀g,g∈ms.map (·.1)++(F1++F2)->g < w.heap.size/\¬ Ro g)->(GlF w/\∀g,glo g->Ro g)->
  Calls P f vals.toArray w λout w'=>∃v,out=.returned v/\HU w Ro ms (F1++F2) vals r v w'
structure EnvOk (P:Program) (E:Env):Prop where
 ti:TabOk P E.ti
 mix:P.follows .mixedOrders=true
 ca:∀f as rows S r,(E.ca f as rows).ev S=some r->Cq P f as rows r
theorem Rp.mono {w:World} {K K':Nat->Prop} (hK:∀g,g < w.heap.size->K g->K' g) (t:Ty) (x:t.D) {vs F} (h:Rp w K t x vs F):Rp w K' t x vs F:=
 Rp.frame ⟨Akk _,λg hg hlt=>⟨rfl,hK g hlt hg⟩⟩ t x h λ_ _=>rfl
theorem Rp.noRo {w:World} {K K':Nat->Prop}:∀(t:Ty) (x:t.D) {vs F},t.hasRo=false->Rp w K t x vs F->Rp w K' t x vs F
 | .int _,_,_,_,_,h=>by simp only [Rp]at h ⊢;exact h
 | .bool,_,_,_,_,h=>by simp only [Rp]at h ⊢;exact h
 | .er,_,_,_,_,h=>by simp only [Rp]at h ⊢;exact h
 | .lp,_,_,_,_,h=>by simp only [Rp]at h
 | .mh,_,_,_,_,h=>by simp only [Rp]at h ⊢;exact h
 | .mp,_,_,_,_,h=>by simp only [Rp]at h
 | .str,_,_,_,_,h=>by simp only [Rp]at h ⊢;exact h
 | .unit,_,_,_,_,h=>by simp only [Rp]at h ⊢;exact h
 | .pair a b,x,_,_,hr,h=>by
  simp only [Ty.hasRo,AlG]at hr;simp only [Rp]at h ⊢;obtain ⟨v1,v2,F1,F2,rfl,rfl,h1,h2⟩:=h;exact⟨v1,v2,F1,F2,rfl,rfl,Rp.noRo a _ hr.1 h1,Rp.noRo b _ hr.2 h2⟩
 | .sl true _ r,xs,_,_,hr,h=>by
  simp only [Ty.hasRo,AkF,Ak3]at hr;simp only [Rp]at h ⊢;rcases h with h | ⟨g,off,c,cs,fr,F',rfl,rfl,hh,hn,hc,hl,hx⟩
  .exact .inl h
  .exact .inr ⟨g,off,c,cs,fr,F',rfl,rfl,hh,hn,hc,hl,RpL.mono (λx vs F h=>Rp.noRo r x hr h) hx⟩
 | .sl false _ _,_,_,_,hr,_=>by simp [Ty.hasRo]at hr
 | .pt _,_,_,_,hr,_=>by simp [Ty.hasRo]at hr
theorem ALOk.mono {w:World} {K K':Nat->Prop} (hK:∀g,g < w.heap.size->K g->K' g) {l:Ae} {v F} (h:ALOk w K l v F):ALOk w K' l v F:=⟨Rp.mono hK _ _ h.1,h.2⟩
theorem A1Ok.mono {w:World} {K K':Nat->Prop} (hK:∀g,g < w.heap.size->K g->K' g) {ms:List (Nat×Nat)} {a:A1} {v F} (h:A1Ok w K ms a v F):A1Ok w K' ms a v F:=by
 cases a with
 | one l=>exact ALOk.mono hK h
 | ag ls=>obtain ⟨vs,e,h⟩:=h;exact⟨vs,e,h.mono λx v F h=>ALOk.mono hK h⟩
 | pl m off=>exact h
 | rp t x off=>
  obtain ⟨e,a,vs,h1,h2,h3,h4,h5⟩:=h;exact⟨e,a,vs,h1,Rp.mono hK _ _ h2,hK _ h4 h3,h4,h5⟩
 | fv f cs=>exact h
theorem ROk.mono {w:World} {K K':Nat->Prop} (hK:∀g,g < w.heap.size->K g->K' g) {ms:List (Nat×Nat)} {l:Ae} {v F} (h:ROk w K ms l v F):ROk w K' ms l v F:=h.imp (ALOk.mono hK) id
theorem RowOk.mono {w:World} {K K':Nat->Prop} (hK:∀g,g < w.heap.size->K g->K' g) {mk:List (Nat×Nat)} {g:Nat×Nat} {r F} (h:RowOk w K mk g r F):RowOk w K' mk g r F:=
 h.imp (λ⟨cs,e,fr,h1,h2,h3,h4⟩=>⟨cs,e,fr,h1,h2,h3,h4.mono λ_ _ _ h=>ROk.mono hK h⟩) id
theorem RowsOk.mono {w:World} {K K':Nat->Prop} (hK:∀g,g < w.heap.size->K g->K' g) {mk:List (Nat×Nat)}:∀{ms:List (Nat×Nat)} {rs F},RowsOk w K mk ms rs F->RowsOk w K' mk ms rs F
 | [],_,_,h=>h
 | _::_,_,_,⟨r,rs',F1,F2,e1,e2,h1,h2⟩=>⟨r,rs',F1,F2,e1,e2,h1.mono hK,RowsOk.mono hK h2⟩
theorem ALOk.noRo {w:World} {K K':Nat->Prop} {l:Ae} {v F} (hr:l.1.hasRo=false) (h:ALOk w K l v F):ALOk w K' l v F:=⟨Rp.noRo _ _ hr h.1,h.2⟩
theorem ALs.noRo {w:World} {K K':Nat->Prop} {ls:List Ae} {vs F} (hr:(ls.any λl=>l.1.hasRo)=false) (h:FL (ALOk w K) ls vs F):FL (ALOk w K') ls vs F:=by
 rw [AkV]at hr;exact FL.mono' (λx hx v F _ h=>ALOk.noRo (by simpa using hr x hx) h) h
theorem RLs.noRo {w:World} {K K':Nat->Prop} {ms:List (Nat×Nat)} {ls:List Ae} {vs F} (hr:(ls.any λl=>l.1.hasRo)=false) (h:FL (ROk w K ms) ls vs F):FL (ROk w K' ms) ls vs F:=by
 rw [AkV]at hr;exact FL.mono' (λx hx v F _ h=>h.imp (ALOk.noRo (by simpa using hr x hx)) id) h
theorem A1Ok.noRo {w:World} {K K':Nat->Prop} {ms:List (Nat×Nat)} {a:A1} {v F} (hr:a.hasRo=false) (h:A1Ok w K ms a v F):A1Ok w K' ms a v F:=by
 cases a with
 | one l=>exact ALOk.noRo hr h
 | ag ls=>obtain ⟨vs,e,h⟩:=h;exact⟨vs,e,ALs.noRo hr h⟩
 | pl m off=>exact h
 | rp t x off=>cases hr
 | fv f cs=>exact h
theorem RowsOk.noRo {w:World} {K K':Nat->Prop} {mk:List (Nat×Nat)}:∀{ms:List (Nat×Nat)} {rs:List (List Ae)} {F},(rs.any λl=>l.any λx=>x.1.hasRo)=false->RowsOk w K mk ms rs F->RowsOk w K' mk ms rs F
 | [],_,_,_,h=>h
 | _::_,_,_,hr,⟨r,rs',F1,F2,e1,e2,h1,h2⟩=>by
  subst e1;simp only [List.any_cons,AlG]at hr;exact⟨r,rs',F1,F2,rfl,e2,h1.imp (λ⟨cs,e,fr,k1,k2,k3,k4⟩=>⟨cs,e,fr,k1,k2,k3,RLs.noRo hr.1 k4⟩) id,RowsOk.noRo hr.2 h2⟩
section
variable {b:Base} {S:St} {c:Cc} {w:World}
def KB (b:Base) (S:St) (c:Cc) (B:List Nat) (g:Nat):Prop:=Kok b S c g\/(∃k,k∈B/\S.ow k≠none/\g∈c.F k)\/∃k,k∈B/\S.ms k≠none/\g=c.mb k
theorem J8 (hi:Inv b S w c) {mv:Bool} {t:Ty} {l:Leaf} {v:Value} {y:Ae×List Nat×List Nat} (hl:LeafOk S c w (Kok b S c) l v) (h:(Ia mv t l).ev S=some y) :
  Ows S y.2.1/\Ows S y.2.2/\(mv=true->y.2.1=[])/\∃G,(∀B,(∀k,k∈y.2.1->k∈B)->ALOk w (KB b S c B) y.1 v G)/\G.Nodup/\Cu c y.2.2 G:=by
 have hn:Ows S []:=λk hk=>(by cases hk)
 have hh:Cu c [] []:=λg hg=>(by cases hg)
 unfold Ia at h;split at h
 .simp only [Tr.ev,AjN]at h;subst h;exact⟨hn,hn,λ_=>rfl,[],λB _=>⟨Rp.mono (λg _ h=>.inl h) _ _ hl,λ_=>rfl⟩,Z,hh⟩
 .obtain rfl:v=.slice none 0 0:=hl;split at h
  .split at h
   .simp only [Tr.ev,AjN]at h;subst h;refine⟨hn,hn,λ_=>rfl,[],λB _=>⟨?_,λ_=>rfl⟩,Z,hh⟩;simp only [Rp];exact .inl ⟨trivial,trivial,trivial⟩
   .simp only [Tr.ev,AjN]at h;subst h;refine⟨hn,hn,λ_=>rfl,[],λB _=>⟨?_,λ_=>rfl⟩,Z,hh⟩;rw [Rp];exact⟨rfl,none,0,[],rfl,Akk _,⟨rfl,rfl⟩,.inl rfl⟩
  .simp [Tr.ev]at h
 .rename_i k st win;split at h
  .rename_i hmv;split at h
   .simp only [Af,AjQ,Tr.ev,AjN]at h;obtain ⟨o,ho,h⟩:=h;subst h;obtain ⟨h1,F',h2,h3,h4⟩:=HP hi hl ho;exact⟨hn,λk' hk'=>(by simp only [AjX]at hk';subst hk';exact h1),λ_=>rfl,F',λB _=>⟨Rp.mono (λg _ h=>.inl h) _ _ h2,λh=>(by simp [Ty.own]at h)⟩,h4,λg hg=>⟨k,Z,h3 g hg⟩⟩
   .simp [Tr.ev]at h
  .rename_i hmv;simp only [Af,AjQ,Tr.ev,AjN]at h;obtain ⟨o,ho,h⟩:=h;subst h;obtain ⟨h1,F',h2,h3,h4⟩:=HP hi hl ho;exact⟨λk' hk'=>(by simp only [AjX]at hk';subst hk';exact h1),hn,λh=>absurd h hmv,[],λB hB=>⟨Rp.frz (λg _ h=>.inl h) _ _ h2 λg hg=>.inr (.inl ⟨k,hB k Z,h1,h3 g hg⟩),λ_=>rfl⟩,Z,hh⟩
 .simp [Tr.ev]at h
def Ai0 (S:St) (c:Cc) (w:World) (K:Nat->Prop) (k:Nat) (st:AP) (v:Value) (Fa Fb:List Nat):Prop:=
 ∃o0,S.ow k=some o0/\(∃G,c.F k=Fa++(G++Fb))/\
  ∀(d:(u:Ty)×u.D) (z:d.1.D) (zs:(Ty.sl true o0.e o0.r).D),(Ao (.sl true o0.e o0.r) o0.xs st).run=some d->(Fp (.sl true o0.e o0.r) o0.xs st d.1 z).run=some zs->
   ∀(w':World) (K':Nat->Prop) (G':List Nat),Rp w' K' d.1 z [v] G'->KSame w w' K K'->C6 w w' Fa->C6 w w' Fb->Rp w' K' (.sl true o0.e o0.r) zs [c.hv k] (Fa++(G'++Fb))
def LnOk (S:St) (c:Cc) (w:World) (K:Nat->Prop) (q:Option (Nat×AP)) (v:Value) (gv G:List Nat):Prop:=match q with
 | none=>v=.slice none 0 0
 | some (k,st)=>k∈gv/\∃Fa Fb,Ai0 S c w K k st v Fa Fb/\∀g,g∈G->g∉Fa/\g∉Fb
theorem Rp.back {w:World} {K:Nat->Prop}:∀(st:AP) (t:Ty) (x:t.D) {h:Value} {F:List Nat} {c:(u:Ty)×u.D},Rp w K t x [h] F->(Ao t x st).run=some c->
  ∃h' Fa G Fb,hdr w h t st=some h'/\F=Fa++(G++Fb)/\Rp w K c.1 c.2 [h'] G/\∀(z:c.1.D) (y:t.D),(Fp t x st c.1 z).run=some y->
   ∀(w':World) (K':Nat->Prop) (G':List Nat),Rp w' K' c.1 z [h'] G'->KSame w w' K K'->C6 w w' Fa->C6 w w' Fb->Rp w' K' t y [h] (Fa++(G'++Fb))
 | [],t,x,h,F,c,hp,hg=>by
  simp only [Ao,Tr.run,AjN]at hg;subst hg;refine⟨h,[],F,[],rfl,Z,hp,λz y hs w' K' G' hz _ _ _=>?_⟩;simp only [Fp]at hs;split at hs
  .simp only [Tr.run,AjN]at hs;subst hs;simpa using hz
  .simp [Tr.run]at hs
 | (i,j)::ps,t,x,h,F,c,hp,hg=>by
  match t,x,hp,hg with
  | .sl true e r,xs,hp,hg=>
   obtain ⟨row,d,hrow,hd,hrest⟩:=DA hg;obtain ⟨g,off,cap,cs,fr,v,F1,Fa0,G0,Fb0,F2,rfl,rfl,hh,hn,_,_,hcell,hlt,hv,hput⟩:=Rp.elem hp hrow hd;have hc?:w.cell? ⟨g,off+(i * r.size+j),none⟩=some v:=by rw [A7 hh];exact hcell
   obtain ⟨h',Ga,G,Gb,hhd,rfl,hp',hset2⟩:=Rp.back ps d.1 d.2 hv hrest;refine⟨h',g::(F1++(Fa0++Ga)),G,Gb++(Fb0++F2),?_,Z,hp',?_⟩
   .cases ps with
    | nil=>
     simp only [hdr,AjN]at hhd;subst hhd;simp only [hdr,adr,A6];exact hc?
    | cons p ps=>
     simp only [hdr,adr,A6,hc?,Db r row j hd];simpa only [hdr] using hhd
   .intro z y hs w' K' G' hz hK sa sb;have hs':∃yy row',(Fp d.1 d.2 ps c.1 z).run=some yy/\setCell r row j d.1 yy=some row'/\y=(xs:List r.D).set i row':=by
     simp only [Fp,C4,AjQ]at hs;obtain ⟨row2,hrow2,hs⟩:=hs;obtain rfl:row=row2:=by rw [hrow]at hrow2;injection hrow2
     rw [hd]at hs;simp only [run_bind,AjQ]at hs;obtain ⟨yy,h1,hs⟩:=hs;split at hs
     .rename_i row' hr;simp only [Tr.run,AjN]at hs;exact⟨yy,row',h1,hr,hs.symm⟩
     .simp [Tr.run]at hs
    obtain ⟨yy,row',hsy,hset,rfl⟩:=hs';have hinner:=hset2 z yy hsy w' K' G' hz hK (λb hb=>sa b (by simp [hb])) (λb hb=>sb b (by simp [hb]));have hgs:w'.heap[g]?=some (.cells cs e fr):=by rw [sa g Z];exact hh
    have hsame:cs=cs.setIfInBounds (off+(i * r.size+j)) v:=by
     apply Array.ext_getElem?;intro m;rw [Array.getElem?_setIfInBounds];split
     .subst_vars;first | exact hcell | (rw [AjS hlt];exact hcell)
     .rfl
    have:=hput w' K' yy v (Ga++(G'++Gb)) row' cs hset hinner hK hgs hsame (λb hb=>sa b (by simp [hb])) (λb hb=>sa b (by simp [hb])) (λb hb=>sb b (by simp [hb])) (λb hb=>sb b (by simp [hb]));simpa using this
  | .sl false _ _,_,_,hg=>simp [Ao,Tr.run]at hg
  | .int _,_,_,hg=>simp [Ao,Tr.run]at hg
  | .bool,_,_,hg=>simp [Ao,Tr.run]at hg
  | .er,_,_,hg=>simp [Ao,Tr.run]at hg
  | .lp,_,_,hg=>simp [Ao,Tr.run]at hg
  | .mh,_,_,hg=>simp [Ao,Tr.run]at hg
  | .mp,_,_,hg=>simp [Ao,Tr.run]at hg
  | .str,_,_,hg=>simp [Ao,Tr.run]at hg
  | .pt _,_,_,hg=>simp [Ao,Tr.run]at hg
  | .unit,_,_,hg=>simp [Ao,Tr.run]at hg
  | .pair _ _,_,_,hg=>simp [Ao,Tr.run]at hg
theorem Y5 (hi:Inv b S w c) {t:Ty} {l:Leaf} {v:Value} {y:Ae×List Nat×List Nat} (hl:LeafOk S c w (Kok b S c) l v) (h:(Q8 t l).ev S=some y) :
  Ows S y.2.1/\Ows S y.2.2/\∃G,(∀B,(∀k,k∈y.2.1->k∈B)->ALOk w (KB b S c B) y.1 v G)/\G.Nodup/\Cu c y.2.2 G/\∀p e,e∈KW p l->e.1=p/\LnOk S c w (Kok b S c) e.2 v y.2.2 G:=by
 unfold Q8 at h;split at h
 .rename_i k st;simp only [Af,AjQ,Tr.ev,AjN]at h;obtain ⟨o,ho,h⟩:=h;subst h;obtain ⟨o0,e,r,ys,hd,ho0,hg,hh,hw⟩:=hl;have hw':v=hd:=hw;subst hw';obtain ⟨h',Fa,G,Fb,k1,k2,k3,k4⟩:=Rp.back st _ _ (hi.ow k o0 ho0) hg;rw [hh]at k1;injection k1 with k1
  subst k1;have hnd:=hi.nd k (by rw [ho0];simp);rw [k2]at hnd;obtain ⟨n1,n2,n3⟩:=Aj8.1 hnd;obtain ⟨m1,m2,m3⟩:=Aj8.1 n2;have hoo:o=⟨e,r,ys⟩:=by
   simp only [EF,Tr.ev,ho0,Af,AjQ]at ho;obtain ⟨c0,hc0,ho⟩:=ho;rw [JD,hg]at hc0;injection hc0 with hc0
   subst hc0;simp only [Tr.ev,AjN]at ho;exact ho.symm
  subst hoo;refine⟨λk hk=>(by cases hk),λk' hk'=>(by simp only [AjX]at hk';subst hk';rw [ho0];simp),G,λB _=>⟨Rp.mono (λg _ h=>.inl h) _ _ k3,λh=>(by simp [Ty.own]at h)⟩,m1,λg hg=>⟨k,Z,by rw [k2];simp [hg]⟩,?_⟩;intro p e' he';simp only [KW,AjX]at he';subst he';refine⟨rfl,Z,Fa,Fb,⟨o0,ho0,⟨G,k2⟩,?_⟩,λg hg=>⟨λhx=>n3 g hx g (by simp [hg]) rfl,λhx=>m3 g hg g hx rfl⟩⟩;intro d z zs hd' hs';rw [hg]at hd';injection hd' with hd'
  subst hd';exact k4 z zs hs'
 .simp [Tr.ev]at h
 .rename_i hn1 hn2;obtain ⟨k1,k2,_,G,k4,k5,k6⟩:=J8 hi hl h;refine⟨k1,k2,G,k4,k5,k6,λp e he=>?_⟩;cases l with
  | vw k st win=>
   cases win with
   | none=>exact absurd rfl (hn1 k st)
   | some w=>exact absurd rfl (hn2 k st w)
  | nil=>
   simp only [KW,AjX]at he;subst he;exact⟨rfl,hl⟩
  | v t x=>cases he
  | qn q=>cases he
  | p k off=>cases he
  | np=>cases he
  | mh k=>cases he
  | md xs=>cases he
  | no=>cases he
theorem QH (hi:Inv b S w c) {m:Nat} {t:Ty} {l:Leaf} {v:Value} {y:Ae×List Nat×List Nat} (hl:LeafOk S c w (Kok b S c) l v) (h:(Nu m t l).ev S=some y) :
  Ows S y.2.1/\Ows S y.2.2/\∃G,(∀B,(∀k,k∈y.2.1->k∈B)->ALOk w (KB b S c B) y.1 v G)/\G.Nodup/\Cu c y.2.2 G/\(m=2->∀p e,e∈KW p l->e.1=p/\LnOk S c w (Kok b S c) e.2 v y.2.2 G):=by
 unfold Nu at h;split at h
 .obtain ⟨k1,k2,G,k3,k4,k5,k6⟩:=Y5 hi hl h;exact⟨k1,k2,G,k3,k4,k5,λ_=>k6⟩
 .rename_i hm;obtain ⟨k1,k2,_,G,k4,k5,k6⟩:=J8 hi hl h;exact⟨k1,k2,G,k4,k5,k6,λh=>absurd h hm⟩
theorem LnOk.left (hi:Inv b S w c) {q:Option (Nat×AP)} {v:Value} {g1 g2 G1 G2:List Nat} (h:LnOk S c w (Kok b S c) q v g1 G1) (hh:Cu c g2 G2) (ho:Ows S g1) (ho2:Ows S g2) (hu:AJ (g1++g2)=true):LnOk S c w (Kok b S c) q v (g1++g2) (G1++G2):=by
 cases q with
 | none=>exact h
 | some q=>
  obtain ⟨k,st⟩:=q;obtain ⟨hk,Fa,Fb,hB,hd⟩:=h;refine⟨by simp [hk],Fa,Fb,hB,λg hg=>?_⟩;rcases AjV.1 hg with hg | hg
  .exact hd g hg
  .obtain ⟨k2,q1,q2⟩:=hh g hg;obtain ⟨_,_,u⟩:=AQ hu;have hne:k2≠k:=by rintro rfl;exact u k2 hk q1
   have hno:=hi.oo k2 k hne (ho2 k2 q1) (ho k hk) g q2;obtain ⟨_,_,⟨G0,hF⟩,_⟩:=hB;rw [hF]at hno;simp only [AjV,not_or]at hno;exact⟨hno.1,hno.2.2⟩
theorem LnOk.right (hi:Inv b S w c) {q:Option (Nat×AP)} {v:Value} {g1 g2 G1 G2:List Nat} (h:LnOk S c w (Kok b S c) q v g2 G2) (hh:Cu c g1 G1) (ho:Ows S g1) (ho2:Ows S g2) (hu:AJ (g1++g2)=true):LnOk S c w (Kok b S c) q v (g1++g2) (G1++G2):=by
 cases q with
 | none=>exact h
 | some q=>
  obtain ⟨k,st⟩:=q;obtain ⟨hk,Fa,Fb,hB,hd⟩:=h;refine⟨by simp [hk],Fa,Fb,hB,λg hg=>?_⟩;rcases AjV.1 hg with hg | hg
  .obtain ⟨k2,q1,q2⟩:=hh g hg;obtain ⟨_,_,u⟩:=AQ hu;have hne:k2≠k:=by rintro rfl;exact u k2 q1 hk
   have hno:=hi.oo k2 k hne (ho k2 q1) (ho2 k hk) g q2;obtain ⟨_,_,⟨G0,hF⟩,_⟩:=hB;rw [hF]at hno;simp only [AjV,not_or]at hno;exact⟨hno.1,hno.2.2⟩
  .exact hd g hg
theorem OG (hi:Inv b S w c) {m:Nat}:∀{ls:List Leaf} {ts:List Ty} {vs:List Value} {y:List Ae×List Nat×List Nat},All2 (LeafOk S c w (Kok b S c)) ls vs->(JQ m ts ls).ev S=some y->
  Ows S y.2.1/\Ows S y.2.2/\∃G,(∀B,(∀k,k∈y.2.1->k∈B)->FL (ALOk w (KB b S c B)) y.1 vs G)/\(AJ y.2.2=true->G.Nodup)/\Cu c y.2.2 G/\
   (m=2->AJ y.2.2=true->∀i j e,e∈Qf i j ls->∃n u,e.1=(i,j+n)/\vs[n]?=some u/\LnOk S c w (Kok b S c) e.2 u y.2.2 G)
 | [],ts,_,y,.nil,h=>by
  rw [JQ]at h;simp only [Tr.ev,AjN]at h;subst h;exact⟨λk hk=>(by cases hk),λk hk=>(by cases hk),[],λB _=>⟨rfl,rfl⟩,λ_=>by simp,λg hg=>(by cases hg),λ_ _ i j e he=>by cases he⟩
 | l::ls,ts,_,y,.cons (b:=v) (bs:=vs) h1 h2,h=>by
  rw [JQ]at h;simp only [Af,AjQ,Tr.ev,AjN]at h;obtain ⟨y1,hy1,y2,hy2,rfl⟩:=h;obtain ⟨k1,k2,G,k4,k5,k6,k7⟩:=QH hi h1 hy1;obtain ⟨m1,m2,H,m4,m5,m6,m7⟩:=OG hi h2 hy2;refine⟨Cz k1 m1,Cz k2 m2,G++H,λB hB=>⟨v,vs,G,H,rfl,rfl,k4 B λk hk=>hB k (by simp [hk]),m4 B λk hk=>hB k (by simp [hk])⟩,?_,?_,?_⟩
  rotate_left 2
  .intro hm hu i j e he;obtain ⟨u1,u2,_⟩:=AQ hu;simp only [Qf]at he;rcases AjV.1 he with he | he
   .obtain ⟨q1,q2⟩:=k7 hm _ e he;exact⟨0,v,q1,rfl,q2.left hi m6 k2 m2 hu⟩
   .obtain ⟨n,u,q1,q2,q3⟩:=m7 hm u2 i (j+1) e he;exact⟨n+1,u,by rw [q1];congr 1;omega,by simpa using q2,q3.right hi k6 k2 m2 hu⟩
  .intro hu;obtain ⟨u1,u2,_⟩:=AQ hu;exact(CN hi k6 m6 k2 m2 hu k5 (m5 u2)).2
  .intro g hg;rcases AjV.1 hg with hg | hg
   .obtain ⟨k,h,h'⟩:=k6 g hg;exact⟨k,by simp [h],h'⟩
   .obtain ⟨k,h,h'⟩:=m6 g hg;exact⟨k,by simp [h],h'⟩
abbrev plc (c:Cc) (p:(Nat×Nat)×List Ty):Nat×Nat:=(c.mb p.1.1,c.mo p.1.1+p.1.2)
structure AInv (b:Base) (S:St) (c:Cc) (w:World) (C:AC) (vals:List Value) (F:List Nat):Prop where
 fl:∀eb em,FL (A1Ok w (KB b S c (C.bw++eb)) ((C.ms++em).map (plc c))) C.as vals F
 held:Cu c C.gv F
 gv:Ows S C.gv
 bw:True
 nd:AJ C.gv=true->F.Nodup
 ms:∀p,p∈C.ms->∃n,S.ms p.1.1=some n/\(0 < n/\p.1.2+p.2.length<=n\/n=0/\p.1.2=0/\p.2=[.mp])
 un:(C.ms.map (·.1.1)).Nodup
 ln:AJ C.gv=true->∀e,e∈C.ln->∃v,ED vals e.1=some v/\LnOk S c w (Kok b S c) e.2 v C.gv F
theorem Fq {vals more:List Value} {p:Nat×Nat} {v:Value} (h:ED vals p=some v):ED (vals++more) p=some v:=by
 unfold ED at h ⊢;cases hv:vals[p.1]? with
 | none=>rw [hv]at h;cases h
 | some u=>
  have:(vals++more)[p.1]?=some u:=by rw [AkG (Akn.1 hv).1];exact hv
  rw [this];rw [hv]at h;exact h
theorem Acs {vals:List Value} {v:Value} (hv:∀vs,v≠.agg vs):ED (vals++[v]) (vals.length,0)=some v:=by
 unfold ED;rw [Aky (Akk _),AlE];cases v <;> first | rfl | (exact absurd rfl (hv _))
theorem Aer {vals:List Value} {vs:List Value} {n:Nat} {u:Value} (hu:vs[n]?=some u):ED (vals++[.agg vs.toArray]) (vals.length,n)=some u:=by
 unfold ED;rw [Aky (Akk _),AlE];simpa using hu
theorem AInv.step (hi:Inv b S w c) {C:AC} {vals:List Value} {F:List Nat} (h:AInv b S c w C vals F) {a:A1} {v:Value} {bw gv:List Nat} {G:List Nat}
  (_h1:Ows S bw) (h2:Ows S gv) (h3:∀B ms,(∀k,k∈bw->k∈B)->A1Ok w (KB b S c B) ms a v G) (h4:AJ gv=true->G.Nodup) (h5:Cu c gv G)
  {L:List ((Nat×Nat)×Option (Nat×AP))} (h6:AJ gv=true->∀e,e∈L->∃u,ED (vals++[v]) e.1=some u/\LnOk S c w (Kok b S c) e.2 u gv G) :
  AInv b S c w { C with as:=C.as++[a],bw:=C.bw++bw,gv:=C.gv++gv,ln:=C.ln++L } (vals++[v]) (F++G):=by
 refine⟨?_,?_,Cz h.gv h2,trivial,?_,h.ms,h.un,?_⟩
 rotate_left 3
 .intro hu e he;obtain ⟨u1,u2,_⟩:=AQ hu;rcases AjV.1 he with he | he
  .obtain ⟨u,q1,q2⟩:=h.ln u1 e he;exact⟨u,Fq q1,q2.left hi h5 h.gv h2 hu⟩
  .obtain ⟨u,q1,q2⟩:=h6 u2 e he;exact⟨u,q1,q2.right hi h.held h.gv h2 hu⟩
 .intro eb em;have:=h.fl (bw++eb) em;rw [<- AjY]at this;exact this.snoc (h3 _ _ λk hk=>by simp [hk])
 .intro g hg;rcases AjV.1 hg with hg | hg
  .obtain ⟨k,q,q'⟩:=h.held g hg;exact⟨k,by simp [q],q'⟩
  .obtain ⟨k,q,q'⟩:=h5 g hg;exact⟨k,by simp [q],q'⟩
 .intro hu;obtain ⟨u1,u2,_⟩:=AQ hu;exact(CN hi h.held h5 h.gv h2 hu (h.nd u1) (h4 u2)).2
theorem SJ:∀(l:List Nat) (k:Nat),l.contains k=true->l[l.findIdx (· == k)]?=some k
 | [],_,h=>by simp at h
 | x::l,k,h=>by
  rw [List.findIdx_cons];by_cases hx:x=k
  .subst hx;simp
  .have:(x == k)=false:=by simp [hx]
   rw [this];simp only [cond_false,AkU];refine SJ l k ?_;simp only [List.contains_cons,Ak2,beq_iff_eq]at h;exact h.resolve_left λh=>hx h.symm
theorem O8 {C:AC} {vals:List Value} {F:List Nat} (hA:AInv b S c w C vals F) {k off n:Nat} {ts:Option (List Ty)} {y:(Nat×Nat)×AC} (hn:S.ms k=some n) (h:(KH k off ts C).ev S=some y) :
  AInv b S c w y.2 vals F/\(∃more,y.2.ms=C.ms++more)/\(y.2.as=C.as/\y.2.bw=C.bw/\y.2.gv=C.gv)/\∀em,∃q,((y.2.ms++em).map (plc c))[y.1.1]?=some q/\q.1=c.mb k/\q.2+y.1.2=c.mo k+off:=by
 unfold KH at h;split at h
 .rename_i ts;split at h
  .rename_i hc;have hf:=SJ (C.ms.map (·.1.1)) k hc;split at h
   .rename_i m hm;split at h
    .rename_i hle;simp only [Tr.ev,AjN]at h;subst h;have hmk:m.1.1=k:=by
      rw [Akr,show C.ms[List.findIdx (· == k) (C.ms.map (·.1.1))]?=some m from hm]at hf;injection hf
     refine⟨hA,⟨[],Z⟩,⟨rfl,rfl,rfl⟩,λem=>⟨plc c m,?_,by rw [<- hmk],?_⟩⟩
     .have hlt:=(Akn.1 hm).1;rw [Akv,AkG (by simpa using hlt),Akr,hm];rfl
     .show c.mo m.1.1+m.1.2+(off - m.1.2)=_;rw [hmk];omega
    .simp [Tr.ev]at h
   .simp [Tr.ev]at h
  .rename_i hc;simp only [Tr.ev,hn]at h;split at h
   .rename_i hle;simp only [Tr.ev,AjN]at h;subst h;refine⟨⟨λeb em=>?_,hA.held,hA.gv,hA.bw,hA.nd,?_,?_,hA.ln⟩,⟨_,rfl⟩,⟨rfl,rfl,rfl⟩,λem=>⟨(c.mb k,c.mo k+off),?_,rfl,rfl⟩⟩
    .have:=hA.fl eb (((k,off),ts)::em);simpa using this
    .intro p hp;rcases AjV.1 hp with hp | hp
     .exact hA.ms p hp
     .simp only [AjX]at hp;subst hp;exact⟨n,hn,.inl ⟨Alp hle.2,hle.1⟩⟩
    .rw [Akv,Aj8];refine⟨hA.un,Z,?_⟩;rintro q hq q' hq' rfl;simp only [Akw,AlO,AjX]at hq';subst hq';exact hc (by simpa using hq)
    .rw [AjY,Akv,Aky Z];simp
   .simp [Tr.ev]at h
 .simp [Tr.ev]at h
theorem Ab7 {C:AC} {k off n:Nat} {ts:Option (List Ty)} {y:(Nat×Nat)×AC} (hn:S.ms k=some n) (h:(KH k off ts C).ev S=some y):y.2.ln=C.ln:=by
 unfold KH at h;split at h
 .split at h
  .split at h
   .split at h
    .simp only [Tr.ev,AjN]at h;subst h;rfl
    .simp [Tr.ev]at h
   .simp [Tr.ev]at h
  .simp only [Tr.ev,hn]at h;split at h
   .simp only [Tr.ev,AjN]at h;subst h;rfl
   .simp [Tr.ev]at h
 .simp [Tr.ev]at h
theorem AcC {C C':AC} {vals:List Value} {F:List Nat} (hA:AInv b S c w C vals F) {k:Nat} (hc:k∉C.ms.map (·.1.1)) (h:(XG k C).ev S=some C') :
  AInv b S c w C' vals F/\(∃more,C'.ms=C.ms++more)/\C'.as=C.as/\C'.bw=C.bw/\C'.gv=C.gv/\C'.ln=C.ln:=by
 simp only [XG,Tr.ev]at h;split at h
 .rename_i hn;simp only [Tr.ev,AjN]at h;subst h;refine⟨⟨λeb em=>?_,hA.held,hA.gv,hA.bw,hA.nd,?_,?_,hA.ln⟩,⟨_,rfl⟩,rfl,rfl,rfl,rfl⟩
  .have:=hA.fl eb (((k,0),[.mp])::em);simpa using this
  .intro p hp;rcases AjV.1 hp with hp | hp
   .exact hA.ms p hp
   .simp only [AjX]at hp;subst hp;exact⟨0,hn,.inr ⟨rfl,rfl,rfl⟩⟩
  .rw [Akv,Aj8];refine⟨hA.un,Z,?_⟩;rintro q hq q' hq' rfl;simp only [Akw,AlO,AjX]at hq';subst hq';exact hc hq
 .simp [Tr.ev]at h
def Aea (c:Cc) (C:AC) (p:Nat×Nat) (v:Value):Prop:=∀em,∃g,((C.ms++em).map (plc c))[p.1]?=some g/\v=.pointer (some ⟨g.1,g.2+p.2,none⟩)
theorem Q0:∀(cs:List (Nat×Nat)) (tss:List (List Ty)) {vs:List Value} {C:AC} {vals:List Value} {F:List Nat} {y:List (Nat×Nat)×AC},All2 (TB S c) cs vs->AInv b S c w C vals F->(PV cs tss C).ev S=some y->
  AInv b S c w y.2 vals F/\((∃more,y.2.ms=C.ms++more)/\y.2.as=C.as/\y.2.bw=C.bw/\y.2.gv=C.gv)/\All2 (Aea c y.2) y.1 vs
 | [],tss,_,C,vals,F,y,.nil,hA,h=>by
  rw [PV]at h;simp only [Tr.ev,AjN]at h;subst h;exact⟨hA,⟨⟨[],Z⟩,rfl,rfl,rfl⟩,.nil⟩
 | p::cs,tss,_,C,vals,F,y,.cons (b:=v) (bs:=vs) h1 h2,hA,h=>by
  rw [PV]at h;simp only [Af,AjQ,Tr.ev,AjN]at h;obtain ⟨y1,hy1,y2,hy2,rfl⟩:=h;obtain ⟨n,hn,rfl⟩:=h1;obtain ⟨q1,⟨m1,e1⟩,⟨a1,a2,a3⟩,q4⟩:=O8 hA hn hy1;obtain ⟨r1,⟨⟨m2,e2⟩,b1,b2,b3⟩,r3⟩:=Q0 cs _ h2 q1 hy2;refine⟨r1,⟨⟨m1++m2,by rw [e2,e1,AjY]⟩,b1.trans a1,b2.trans a2,b3.trans a3⟩,.cons (λem=>?_) r3⟩;obtain ⟨q,g1,g2,g3⟩:=q4 (m2++em);exact⟨q,by rw [e2,AjY];exact g1,by rw [g2,g3]⟩
theorem Abo (hi:Inv b S w c) {l:Leaf} {v:Value} (hl:LeafOk S c w (Kok b S c) l v) {p:Nat×Nat} {e:(Nat×Nat)×Option (Nat×AP)} (he:e∈KW p l):∀vs,v≠.agg vs:=by
 intro vs;cases l with
 | vw k st win=>obtain ⟨A,n,cap,rfl⟩:=Q6 hi hl;simp
 | nil=>rw [show v=.slice none 0 0 from hl];simp
 | v t x=>cases he
 | qn q=>cases he
 | p k off=>cases he
 | np=>cases he
 | mh k=>cases he
 | md xs=>cases he
 | no=>cases he
theorem Aa2 {t:Ty} {l:Leaf} {y:Ae×List Nat×List Nat} (h:(Ia false t l).ev S=some y):y.2.2=[]:=by
 unfold Ia at h;split at h
 .simp only [Tr.ev,AjN]at h;subst h;rfl
 .split at h
  .simp only [Aj4,Aku,Tr.ev,AjN]at h;subst h;rfl
  .simp [Tr.ev]at h
 .simp only [Aj4,Aku,Af,AjQ,Tr.ev,AjN]at h;obtain ⟨o,_,h⟩:=h;subst h;rfl
 .simp [Tr.ev]at h
theorem QP (hi:Inv b S w c) (k:Nat):∀(ts:List Ty) (i:Nat) (vs:List Value) {y:List Ae×List Nat},vs.length=ts.length->(∀j v,vs[j]?=some v->LeafOk S c w (Kok b S c) (S.mc k (i+j)) v)->(Lc k ts i).ev S=some y->
  ∀B,(∀k',k'∈y.2->k'∈B)->FL (ALOk w (KB b S c B)) y.1 vs []
 | [],i,vs,y,hl,_,h=>by
  rw [Lc]at h;simp only [Tr.ev,AjN]at h;subst h;obtain rfl:vs=[]:=Akb hl;exact λB _=>⟨rfl,rfl⟩
 | t::ts,i,[],y,hl,_,_=>by simp at hl
 | t::ts,i,v::vs,y,hl,hc,h=>by
  rw [Lc]at h;simp only [Tr.ev,Af,AjQ,AjN]at h;obtain ⟨y1,hy1,y2,hy2,rfl⟩:=h;obtain ⟨k1,k2,k3,G,k4,k5,k6⟩:=J8 hi (hc 0 v rfl) hy1;have hG:G=[]:=by
   rw [Aa2 hy1]at k6;cases G with
   | nil=>rfl
   | cons g G=>obtain ⟨k,hk,_⟩:=k6 g Z;cases hk
  subst hG;have m:=QP hi k ts (i+1) vs (by simpa using hl) (λj v hv=>by
   have:=hc (j+1) v (by simpa using hv)
   rwa [(O:i+(j+1)=i+1+j)]at this) hy2
  exact λB hB=>⟨v,vs,[],[],rfl,rfl,k4 B λk hk=>hB k (by simp [hk]),m B λk hk=>hB k (by simp [hk])⟩
theorem L9 {K:Nat->Prop}:∀(ls:List Ae) {vs:List Value},FL (ALOk w K) ls vs []->Rp w K (B4 ls).1 (B4 ls).2 vs []
 | [],vs,h=>by
  obtain ⟨rfl,_⟩:=h;rw [B4,Rp];exact⟨rfl,rfl⟩
 | [l],vs,h=>by
  obtain ⟨v,vs',F1,F2,rfl,hF,h1,rfl,rfl⟩:=h;obtain ⟨rfl,_⟩:=AlP.1 hF.symm;exact h1.1
 | l::m::ls,vs,h=>by
  obtain ⟨v,vs',F1,F2,rfl,hF,h1,h2⟩:=h;obtain ⟨rfl,rfl⟩:=AlP.1 hF.symm;have:=L9 (m::ls) h2;rw [B4,Rp];exact⟨[v],vs',[],[],rfl,rfl,h1.1,this⟩
theorem R8 {K:Nat->Prop} {t:Ty} {x:t.D} {vs:List Value} (h:Rp w K t x vs []):∀(n i:Nat) {ls:List Ae},MT t x i n=some ls->
  ∃ws,FL (ALOk w K) ls ws []/\(∀j,j < ws.length->vs[i+j]?=ws[j]?)/\∀j,j < ws.length->i+j < vs.length
 | 0,i,ls,hl=>by
  simp only [MT,AjN]at hl;subst hl;exact⟨[],⟨rfl,rfl⟩,λj hj=>by simp at hj,λj hj=>by simp at hj⟩
 | n+1,i,ls,hl=>by
  simp only [MT]at hl;split at hl
  .rename_i c0 ls' hc hl';injection hl with hl
   subst hl;obtain ⟨ws,k1,k2,k3⟩:=R8 h n (i+1) hl';obtain ⟨pre,u,post,Fa,G,Fb,rfl,hpl,hF,hu,_⟩:=Rp.cell t x i h hc;obtain ⟨rfl,h4⟩:=AlP.1 hF.symm;obtain ⟨rfl,rfl⟩:=AlP.1 h4;refine⟨u::ws,⟨u,ws,[],[],rfl,rfl,⟨hu,λ_=>rfl⟩,k1⟩,λj hj=>?_,λj hj=>?_⟩
   .cases j with
    | zero=>rw [Alf,Aky O,hpl,AlE];rfl
    | succ j=>
     have:=k2 j (by simpa using hj);rw [(O:i+(j+1)=i+1+j),this];rfl
   .cases j with
    | zero=>simp only [AjU,Aj1];omega
    | succ j=>
     have:=k3 j (by simpa using hj);omega
  .cases hl
theorem Fz (hi:Inv b S w c) {E:Env} {d:Nat}:∀(xs:List (SV×TypeId)) (mvs:List Nat) (us:List Value) (C:AC) (vals:List Value) (F:List Nat) {C':AC},All2 (λx u=>AO S c w (Kok b S c) x.1 u) xs us->AInv b S c w C vals F->
  (HJ E d mvs xs C).ev S=some C'->∃F',AInv b S c w C' (vals++us) F'
 | [],mvs,_,C,vals,F,C',.nil,hA,h=>by
  rw [HJ]at h;simp only [Tr.ev,AjN]at h;subst h;exact⟨F,by rw [Aj2];exact hA⟩
 | (x,t)::xs,mvs,_,C,vals,F,C',.cons (b:=u) (bs:=us) h1 h2,hA,h=>by
  unfold HJ at h;rw [show vals++u::us=(vals++[u])++us by simp];simp only at h h1;split at h
  .simp only [Af,AjQ]at h;obtain ⟨y,hy,h⟩:=h;rename_i l;obtain ⟨k1,k2,G,k4,k5,k6,k7⟩:=QH hi (AT h1) hy;refine Fz hi xs _ us _ _ _ h2 (hA.step hi (a:=.one y.1) k1 k2 (λB ms hB=>k4 B hB) (λ_=>k5) k6 ?_) h;intro _ e he;split at he
   .rename_i hm;obtain ⟨q1,q2⟩:=k7 hm _ e he;have hlen:C.as.length=vals.length:=(hA.fl [] []).len.symm;refine⟨u,?_,q2⟩;rw [q1,hlen];exact Acs (Abo hi (AT h1) he)
   .cases he
  .simp only [Af,AjQ]at h;obtain ⟨y,hy,h⟩:=h;obtain ⟨vs,rfl,hall⟩:=h1;obtain ⟨k1,k2,G,k4,k5,k6,k7⟩:=OG hi hall hy;refine Fz hi xs _ us _ _ _ h2 (hA.step hi (a:=.ag y.1) k1 k2 (λB ms hB=>⟨vs,rfl,k4 B hB⟩) k5 k6 ?_) h;intro hu e he;split at he
   .rename_i hm;obtain ⟨n,u,q1,q2,q3⟩:=k7 hm hu _ _ e he;have hlen:C.as.length=vals.length:=(hA.fl [] []).len.symm;refine⟨u,?_,q3⟩;rw [q1,hlen,Ake];exact Aer q2
   .cases he
  .rename_i u' x' off;have hx:AInv b S c w { C with as:=C.as++[A1.rp u' x' off] } (vals++[u]) F:=by
    refine⟨λeb em=>?_,hA.held,hA.gv,hA.bw,hA.nd,hA.ms,hA.un,λhu e he=>(hA.ln hu e he).imp λ_ h=>⟨Fq h.1,h.2⟩⟩;obtain ⟨a,vs,e,q1,q2,q3,q4⟩:=h1;have:=(hA.fl eb em).snoc (x:=A1.rp u' x' off) (v:=u) (G:=[]) ⟨rfl,a,vs,e,Rp.mono (λg _ h=>.inl h) _ _ q1,.inl q2,q3,q4⟩
    rwa [Aj2]at this
   split at h
   .split at h
    .split at h
     .exact Fz hi xs _ us _ _ _ h2 hx h
     .split at h
      .rename_i ls hls;obtain ⟨a,vs,e,q1,q2,q3,q4⟩:=h1;obtain ⟨ws,k1,k2,k3⟩:=R8 q1 _ _ hls;have hx2:AInv b S c w { C with as:=C.as++[A1.rp (B4 ls).1 (B4 ls).2 0] } (vals++[u]) F:=by
        refine⟨λeb em=>?_,hA.held,hA.gv,hA.bw,hA.nd,hA.ms,hA.un,λhu e he=>(hA.ln hu e he).imp λ_ h=>⟨Fq h.1,h.2⟩⟩;have:=(hA.fl eb em).snoc (x:=A1.rp (B4 ls).1 (B4 ls).2 0) (v:=u) (G:=[]) ⟨rfl,a.add off,ws,by rw [e,add_add,Alf],L9 _ (k1.mono λ_ _ _ h=>ALOk.mono (λg _ h=>.inl h) h),by rw [Dn];exact .inl q2,by rw [Dn];exact q3,λj hj=>by
         rw [add_add,q4 _ (k3 j hj)];exact k2 j hj⟩
        rwa [Aj2]at this
       exact Fz hi xs _ us _ _ _ h2 hx2 h
      .simp [Tr.ev]at h
    .simp [Tr.ev]at h
   .exact Fz hi xs _ us _ _ _ h2 hx h
  .rename_i k off;split at h
   .split at h
    .rename_i ts _;simp only [Tr.ev]at h;obtain ⟨n,hn,rfl⟩:=h1;simp only [hn]at h;split at h
     .rename_i hle;simp only [Af,AjQ]at h;obtain ⟨y,hy,h⟩:=h;obtain ⟨hle,hn0⟩:=hle;obtain ⟨cs,e,fr,g1,g2,g3,g4,_⟩:=hi.ms k _ hn (Alp hn0);have hwl:((cs.toList.drop (c.mo k+off)).take ts.length).length=ts.length:=by
       rw [AjW,Akf,Alz (xs:=cs)];omega
      have hwg:∀j,j < ts.length->((cs.toList.drop (c.mo k+off)).take ts.length)[j]?=cs[c.mo k+(off+j)]?:=by
       intro j hj;rw [Aj7 hj,Akt,Aj6,Ak4]
      have hfl:=QP hi k ts off _ hwl (λj v hv=>by
       have hj:j < ts.length:=by rw [<- hwl];exact(Akn.1 hv).1
       rw [hwg j hj]at hv;exact g4 (off+j) v O hv) hy
      have hlt:c.mb k < w.heap.size:=(hi.fr _ (.inl ⟨k,by rw [hn];simp,rfl⟩)).1;have hx:AInv b S c w { C with as:=C.as++[A1.rp (B4 y.1).1 (B4 y.1).2 0],bw:=C.bw++k::y.2 } (vals++[.pointer (some ⟨c.mb k,c.mo k+off,none⟩)]) F:=by
       refine⟨λeb em=>?_,hA.held,hA.gv,trivial,hA.nd,hA.ms,hA.un,λhu e he=>(hA.ln hu e he).imp λ_ h=>⟨Fq h.1,h.2⟩⟩;have h0:=hA.fl ((k::y.2)++eb) em;rw [<- AjY]at h0;have:=h0.snoc (x:=A1.rp (B4 y.1).1 (B4 y.1).2 0) (v:=.pointer (some ⟨c.mb k,c.mo k+off,none⟩)) (G:=[]) ⟨rfl,⟨c.mb k,c.mo k+off,none⟩,_,by simp [Addr.add],L9 _ (hfl _ λk' hk'=>by simp [hk']),
        .inr (.inr ⟨k,Z,by rw [hn];simp,rfl⟩),hlt,λj hj=>by
         rw [A6,A7 g1,Ak4];exact(hwg j O).symm⟩
       rwa [Aj2]at this
      exact Fz hi xs _ us _ _ _ h2 hx h
     .simp [Tr.ev]at h
    .simp [Tr.ev]at h
   simp only [Af,AjQ]at h;obtain ⟨y,hy,h⟩:=h;obtain ⟨n,hn,rfl⟩:=h1;obtain ⟨q1,q2,_,q4⟩:=O8 hA hn hy;have hx:AInv b S c w { y.2 with as:=y.2.as++[A1.pl y.1.1 y.1.2] } (vals++[.pointer (some ⟨c.mb k,c.mo k+off,none⟩)]) F:=by
    refine⟨λeb em=>?_,q1.held,q1.gv,q1.bw,q1.nd,q1.ms,q1.un,λhu e he=>(q1.ln hu e he).imp λ_ h=>⟨Fq h.1,h.2⟩⟩;obtain ⟨q,g1,g2,g3⟩:=q4 em;have:=(q1.fl eb em).snoc (x:=A1.pl y.1.1 y.1.2) (v:=.pointer (some ⟨c.mb k,c.mo k+off,none⟩)) (G:=[]) ⟨rfl,q,g1,by rw [g2,g3]⟩
    rwa [Aj2]at this
   exact Fz hi xs _ us _ _ _ h2 hx h
  .rename_i f cs;simp only [Af,AjQ]at h;obtain ⟨y,hy,h⟩:=h;obtain ⟨vs,rfl,hvs⟩:=h1;obtain ⟨q1,_,q2⟩:=Q0 cs _ hvs hA hy;have hx:AInv b S c w { y.2 with as:=y.2.as++[A1.fv f y.1] } (vals++[.func (.func f) #[] vs.toArray]) F:=by
    refine⟨λeb em=>?_,q1.held,q1.gv,q1.bw,q1.nd,q1.ms,q1.un,λhu e he=>(q1.ln hu e he).imp λ_ h=>⟨Fq h.1,h.2⟩⟩;have:=(q1.fl eb em).snoc (x:=A1.fv f y.1) (v:=.func (.func f) #[] vs.toArray) (G:=[]) ⟨rfl,vs,rfl,q2.mono λp v h=>⟨_,(h em).choose_spec⟩⟩
    rwa [Aj2]at this
   exact Fz hi xs _ us _ _ _ h2 hx h
  .simp [Tr.ev]at h
abbrev loc (mb mo:Nat->Nat) (p:Nat×Nat):Nat×Nat:=(mb p.1,mo p.1+p.2)
theorem AaA (hi:Inv b S w c) {mk:List (Nat×Nat)} {t:Ty} {l:Leaf} {v:Value} {y:Ae×List Nat×List Nat} (hl:LeafOk S c w (Kok b S c) l v) (h:(Qc mk t l).ev S=some y) :
  Ows S y.2.2/\∃G,(∀B,ROk w (KB b S c B) (mk.map (loc c.mb c.mo)) y.1 v G)/\G.Nodup/\Cu c y.2.2 G:=by
 unfold Qc at h;split at h
 .rename_i k off;split at h
  .rename_i a ha;simp only [Tr.ev,AjN]at h;subst h;obtain ⟨n,_,rfl⟩:=hl;unfold ZU at ha;split at ha
   .rename_i m hm;split at ha
    .rename_i hmk;injection ha with ha
     subst ha;refine⟨λk hk=>(by cases hk),[],λB=>.inr (.inl ⟨rfl,_,_,rfl,by rw [Akr,hm];rfl,?_⟩),Z,λg hg=>(by cases hg)⟩;simp only [loc,hmk.1]
     congr 3
     omega
    .cases ha
   .cases ha
  .simp [Tr.ev]at h
 .rename_i k;split at h
  .rename_i a ha;simp only [Tr.ev,AjN]at h;subst h;obtain ⟨hk0,rfl⟩:=hl;obtain ⟨_,_,es,hes,_⟩:=hi.mp _ hk0;unfold ZV at ha;split at ha
   .rename_i m hm;split at ha
    .rename_i hmk;injection ha with ha
     subst ha;refine⟨λk hk=>(by cases hk),[],λB=>.inr (.inr ⟨rfl,_,_,rfl,by rw [Akr,hm];rfl,?_,es,es.size,?_⟩),Z,λg hg=>(by cases hg)⟩
     .simp only [loc,hmk]
     .simp only [loc,hmk];exact hes
    .cases ha
   .cases ha
  .simp [Tr.ev]at h
 .exact hl.elim
 .obtain ⟨k1,k2,k3,G,k4,k5,k6⟩:=J8 hi hl h;exact⟨k2,G,λB=>.inl (k4 B λk hk=>by rw [k3 rfl]at hk;cases hk),k5,k6⟩
theorem OU (hi:Inv b S w c) (mk:List (Nat×Nat)) (k:Nat):∀(ts:List Ty) (i:Nat) (vs:List Value) {y:List Ae×List Nat},vs.length=ts.length->(∀j v,vs[j]?=some v->LeafOk S c w (Kok b S c) (S.mc k (i+j)) v)->(Ic mk k ts i).ev S=some y->
  Ows S y.2/\∃G,(∀B,FL (ROk w (KB b S c B) (mk.map (loc c.mb c.mo))) y.1 vs G)/\(AJ y.2=true->G.Nodup)/\Cu c y.2 G
 | [],i,vs,y,hl,_,h=>by
  rw [Ic]at h;simp only [Tr.ev,AjN]at h;subst h;obtain rfl:vs=[]:=Akb hl;exact⟨λk hk=>(by cases hk),[],λB=>⟨rfl,rfl⟩,λ_=>by simp,λg hg=>(by cases hg)⟩
 | t::ts,i,[],y,hl,_,_=>by simp at hl
 | t::ts,i,v::vs,y,hl,hc,h=>by
  rw [Ic]at h;simp only [Tr.ev,Af,AjQ,AjN]at h;obtain ⟨y1,hy1,y2,hy2,rfl⟩:=h;obtain ⟨k2,G,k4,k5,k6⟩:=AaA hi (hc 0 v rfl) hy1;obtain ⟨m2,H,m4,m5,m6⟩:=OU hi mk k ts (i+1) vs (by simpa using hl) (λj v hv=>by
   have:=hc (j+1) v (by simpa using hv)
   rwa [(O:i+(j+1)=i+1+j)]at this) hy2
  refine⟨Cz k2 m2,G++H,λB=>⟨v,vs,G,H,rfl,rfl,k4 B,m4 B⟩,?_,?_⟩
  .intro hu;obtain ⟨u1,u2,_⟩:=AQ hu;exact(CN hi k6 m6 k2 m2 hu k5 (m5 u2)).2
  .intro g hg;rcases AjV.1 hg with hg | hg
   .obtain ⟨k,h,h'⟩:=k6 g hg;exact⟨k,by simp [h],h'⟩
   .obtain ⟨k,h,h'⟩:=m6 g hg;exact⟨k,by simp [h],h'⟩
theorem Ut (hi:Inv b S w c) (mk:List (Nat×Nat)):∀(ms:List ((Nat×Nat)×List Ty)) {y:List (List Ae)×List Nat},(∀p,p∈ms->∃n,S.ms p.1.1=some n/\(0 < n/\p.1.2+p.2.length<=n\/n=0/\p.1.2=0/\p.2=[.mp]))->(PD mk ms).ev S=some y->
  Ows S y.2/\∃G,(∀B,RowsOk w (KB b S c B) (mk.map (loc c.mb c.mo)) (ms.map (plc c)) y.1 G)/\(AJ y.2=true->G.Nodup)/\Cu c y.2 G
 | [],y,_,h=>by
  rw [PD]at h;simp only [Tr.ev,AjN]at h;subst h;exact⟨λk hk=>(by cases hk),[],λB=>⟨rfl,rfl⟩,λ_=>by simp,λg hg=>(by cases hg)⟩
 | ((k,o),ts)::ms,y,hm,h=>by
  rw [PD]at h;simp only [Tr.ev,Af,AjQ,AjN]at h;obtain ⟨y1,hy1,y2,hy2,rfl⟩:=h;obtain ⟨n,hk,hle⟩:=hm ((k,o),ts) Z;simp only at hk hle hy1;obtain ⟨m2,H,m4,m5,m6⟩:=Ut hi mk ms (λp hp=>hm p (by simp [hp])) hy2;rcases hle with⟨hn0,hle⟩ | ⟨rfl,rfl,rfl⟩
  rotate_left
  .obtain ⟨xs,hxs,hmap⟩:=hi.mp k hk;simp only [Ic,Tr.ev,hxs,Qc,Af,AjM,AjN]at hy1;subst hy1;exact⟨Cz (λk hk=>by cases hk) m2,H,λB=>⟨_,_,[],H,rfl,rfl,.inr ⟨xs,rfl,hmap,rfl⟩,m4 B⟩,λhu=>m5 (by simpa using hu),λg hg=>by simpa using m6 g hg⟩
  obtain ⟨cs,e,fr,h1,h2,h3,h4,_⟩:=hi.ms k _ hk hn0;have hwl:((cs.toList.drop (c.mo k+o)).take ts.length).length=ts.length:=by
   rw [AjW,Akf,Alz (xs:=cs)];omega
  obtain ⟨k2,G,k4,k5,k6⟩:=OU hi mk k ts o _ hwl (λj v hv=>by
   have hj:j < ts.length:=by rw [<- hwl];exact(Akn.1 hv).1
   rw [Aj7 hj,Akt,Aj6,Ak4]at hv;exact h4 (o+j) v O hv) hy1
  have hl1:y1.1.length=ts.length:=by rw [<- hwl];exact(k4 []).len.symm
  refine⟨Cz k2 m2,G++H,λB=>⟨y1.1,y2.1,G,H,rfl,rfl,.inl ⟨cs,e,fr,h1,h3,by rw [hl1];show c.mo k+o+ts.length<=_;omega,by rw [hl1];exact k4 B⟩,m4 B⟩,?_,?_⟩
  .intro hu;obtain ⟨u1,u2,_⟩:=AQ hu;exact(CN hi k6 m6 k2 m2 hu (k5 u1) (m5 u2)).2
  .intro g hg;rcases AjV.1 hg with hg | hg
   .obtain ⟨k,h,h'⟩:=k6 g hg;exact⟨k,by simp [h],h'⟩
   .obtain ⟨k,h,h'⟩:=m6 g hg;exact⟨k,by simp [h],h'⟩
theorem FT (k:Nat):∀(n j:Nat) (ts:List (List Ty)) {C:AC} {vals:List Value} {F:List Nat} {y:List (List Ty)×AC},AInv b S c w C vals F->(Fi k n j ts C).ev S=some y->
  AInv b S c w y.2 vals F/\(∃more,y.2.ms=C.ms++more)/\y.2.as=C.as/\y.2.bw=C.bw/\y.2.gv=C.gv/\y.2.ln=C.ln
 | 0,j,ts,C,vals,F,y,hA,h=>by
  simp only [Fi,Tr.ev,AjN]at h;subst h;exact⟨hA,⟨[],Z⟩,rfl,rfl,rfl,rfl⟩
 | n+1,j,ts,C,vals,F,y,hA,h=>by
  simp only [Fi,Tr.ev]at h;split at h
  .rename_i k' _ _;split at h
   .exact FT k n (j+1) ts hA h
   .simp only [Tr.ev]at h;split at h
    .rename_i hm;obtain ⟨m,hm⟩:=AlF.1 hm;simp only [Af,AjQ]at h;obtain ⟨y1,hy1,h⟩:=h;obtain ⟨q1,⟨m1,e1⟩,⟨a1,a2,a3⟩,_⟩:=O8 hA hm hy1;obtain ⟨r1,⟨m2,e2⟩,b1,b2,b3,b4⟩:=FT k n (j+1) ts.tail q1 h;exact⟨r1,⟨m1++m2,by rw [e2,e1,AjY]⟩,b1.trans a1,b2.trans a2,b3.trans a3,b4.trans (Ab7 hm hy1)⟩
    .simp [Tr.ev]at h
  .rename_i k' _;split at h
   .exact FT k n (j+1) ts hA h
   .rename_i hc;simp only [Af,AjQ]at h;obtain ⟨y1,hy1,h⟩:=h;obtain ⟨q1,⟨m1,e1⟩,a1,a2,a3,a4⟩:=AcC hA (by simpa using hc) hy1;obtain ⟨r1,⟨m2,e2⟩,b1,b2,b3,b4⟩:=FT k n (j+1) ts q1 h;exact⟨r1,⟨m1++m2,by rw [e2,e1,AjY]⟩,b1.trans a1,b2.trans a2,b3.trans a3,b4.trans a4⟩
  .exact FT k n (j+1) ts hA h
theorem UU:∀(n i:Nat) (ts:List (List Ty)) {C C':AC} {vals:List Value} {F:List Nat},AInv b S c w C vals F->(PH n i ts C).ev S=some C'->
  AInv b S c w C' vals F/\(∃more,C'.ms=C.ms++more)/\C'.as=C.as/\C'.bw=C.bw/\C'.gv=C.gv/\C'.ln=C.ln
 | 0,i,ts,C,C',vals,F,hA,h=>by
  simp only [PH,Tr.ev,AjN]at h;subst h;exact⟨hA,⟨[],Z⟩,rfl,rfl,rfl,rfl⟩
 | n+1,i,ts,C,C',vals,F,hA,h=>by
  simp only [PH]at h;split at h
  .simp only [Af,AjQ]at h;obtain ⟨y,hy,h⟩:=h;obtain ⟨q1,⟨m1,e1⟩,a1,a2,a3,a4⟩:=FT _ _ _ _ hA hy;obtain ⟨r1,⟨m2,e2⟩,b1,b2,b3,b4⟩:=UU n (i+1) y.1 q1 h;exact⟨r1,⟨m1++m2,by rw [e2,e1,AjY]⟩,b1.trans a1,b2.trans a2,b3.trans a3,b4.trans a4⟩
  .simp only [Tr.ev,AjN]at h;subst h;exact⟨hA,⟨[],Z⟩,rfl,rfl,rfl,rfl⟩
end
end Go.V
namespace Go.V
open Go.RowKit
theorem AI {β:Type}:∀{l:List (Nat×β)} {k:Nat} {x:β},find l k=some x->(k,x)∈l
 | [],_,_,h=>by simp [find]at h
 | (i,y)::l,k,x,h=>by
  simp only [find]at h;split at h
  .rename_i hk;subst hk;injection h with h;subst h;simp
  .exact AkT _ (AI h)
theorem De {β:Type}:∀{l:List (Nat×β)} {k:Nat} {x:β},(l.map (·.1)).Nodup->(k,x)∈l->find l k=some x
 | [],_,_,_,h=>by cases h
 | (i,y)::l,k,x,hn,h=>by
  rw [Akw,AkE]at hn;simp only [find];rcases Aj5.1 h with h' | h'
  .injection h' with h1 h2;subst h1 h2;simp
  .have hne:¬ k=i:=by
    rintro rfl;exact hn.1 (Aj9.2 ⟨(k,x),h',rfl⟩)
   rw [AjR hne];exact De hn.2 h'
theorem Ie {β:Type}:∀{l:List (Nat×β)} {k:Nat},k∉l.map (·.1)->find l k=none
 | [],_,_=>rfl
 | (i,y)::l,k,h=>by
  simp only [Akw,Aj5,not_or]at h;simp only [find,AjR h.1];exact Ie h.2
theorem BT:∀{l:List Nat},AJ l=true->l.Nodup
 | [],_=>by simp
 | k::l,h=>by
  obtain ⟨h1,h2⟩:=QN h;exact AkE.2 ⟨h1,BT h2⟩
theorem Ra:∀(l:List (Nat×Own)) (S:St),(l.map (·.1)).Nodup->(S.ups (GU l)).ms=S.ms/\(S.ups (GU l)).mc=S.mc/\(S.ups (GU l)).sl=S.sl/\∀k,(S.ups (GU l)).ow k=match find l k with | some o=>some o | none=>S.ow k
 | [],S,_=>⟨rfl,rfl,rfl,λ_=>rfl⟩
 | p::l,S,h=>by
  rw [Akw,AkE]at h;obtain ⟨h1,h2,h3,h4⟩:=Ra l (S.up (.ow p.1 (some p.2))) h.2;refine⟨h1,h2,h3,λk=>?_⟩;show((S.up (.ow p.1 (some p.2))).ups (GU l)).ow k=_;rw [h4];obtain ⟨i,o⟩:=p;simp only [find];by_cases hk:k=i
  .subst hk;rw [Ie h.1];simp [St.up]
  .simp only [AjR hk];have:(S.up (.ow i (some o))).ow k=S.ow k:=by show(if k=i then some o else S.ow k)=_;rw [AjR hk]
   rw [this]
theorem W7 (k:Nat):∀(ls:List Leaf) (off:Nat) (S:St),(S.ups (GY k ls off)).ms=S.ms/\(S.ups (GY k ls off)).ow=S.ow/\(S.ups (GY k ls off)).sl=S.sl/\
  ∀k' i,(S.ups (GY k ls off)).mc k' i=if k'=k/\off<=i/\i < off+ls.length then ls.getD (i - off) .no else S.mc k' i
 | [],off,S=>⟨rfl,rfl,rfl,λk' i=>by rw [AjR (by simp only [Akl];omega)];rfl⟩
 | l::ls,off,S=>by
  obtain ⟨h1,h2,h3,h4⟩:=W7 k ls (off+1) (S.up (.mc k off l));refine⟨h1,h2,h3,λk' i=>?_⟩;show((S.up (.mc k off l)).ups (GY k ls (off+1))).mc k' i=_;rw [h4];by_cases hk:k'=k
  .subst hk;by_cases h5:off+1<=i/\i < off+1+ls.length
   .rw [AjS ⟨rfl,h5⟩,AjS ⟨rfl,by simp only [Aj1];omega⟩,(O:i - off=(i - (off+1))+1),List.getD_cons_succ]
   .rw [AjR (by rintro ⟨_,h⟩;exact h5 h)];show(if k'=k' then(if i=off then l else S.mc k' i)else S.mc k' i)=_;rw [AjS rfl];by_cases hio:i=off
    .subst hio;rw [AjS rfl,AjS ⟨rfl,by simp only [Aj1];omega⟩,AlE];rfl
    .rw [AjR hio,AjR (by simp only [Aj1];omega)]
  .rw [AjR (by rintro ⟨h,_⟩;exact hk h),AjR (by rintro ⟨h,_⟩;exact hk h)];show(if k'=k then _ else S.mc k' i)=_;rw [AjR hk]
theorem WI:∀(l:List ((Nat×Nat)×List Leaf)) (S:St),(l.map (·.1.1)).Nodup->(S.ups (HH l)).ms=S.ms/\(S.ups (HH l)).ow=S.ow/\(S.ups (HH l)).sl=S.sl/\
  (∀k i,k∉l.map (·.1.1)->(S.ups (HH l)).mc k i=S.mc k i)/\∀p,p∈l->∀i,(S.ups (HH l)).mc p.1.1 i=if p.1.2<=i/\i < p.1.2+p.2.length then p.2.getD (i - p.1.2) .no else S.mc p.1.1 i
 | [],S,_=>⟨rfl,rfl,rfl,λ_ _ _=>rfl,λ_ h=>by cases h⟩
 | p::l,S,h=>by
  rw [Akw,AkE]at h;obtain ⟨a1,a2,a3,a4⟩:=W7 p.1.1 p.2 p.1.2 S;obtain ⟨h1,h2,h3,h4,h5⟩:=WI l (S.ups (GY p.1.1 p.2 p.1.2)) h.2;have e:S.ups (HH (p::l))=(S.ups (GY p.1.1 p.2 p.1.2)).ups (HH l):=En _ _ _;rw [e];refine⟨h1.trans a1,h2.trans a2,h3.trans a3,λk i hk=>?_,λq hq i=>?_⟩
  .simp only [Akw,Aj5,not_or]at hk;rw [h4 k i hk.2,a4,AjR (by rintro ⟨h,_⟩;exact hk.1 h)]
  .rcases Aj5.1 hq with rfl | hq
   .rw [h4 _ i h.1,a4];by_cases hc:q.1.2<=i/\i < q.1.2+q.2.length
    .rw [AjS ⟨rfl,hc⟩,AjS hc]
    .rw [AjR (λh=>hc h.2),AjR hc]
   .rw [h5 q hq i,a4];have hne:¬ q.1.1=p.1.1:=λhx=>h.1 (hx ▸ Aj9.2 ⟨q,hq,rfl⟩)
    rw [AjR (λh:q.1.1=p.1.1/\p.1.2<=i/\i < p.1.2+p.2.length=>hne h.1)]
def I5 (w:World) (K:Nat->Prop) (p:Nat×Own) (n:New) (F:List Nat):Prop:=n.o=p.2/\F=n.F/\Rp w K (.sl true n.o.e n.o.r) n.o.xs [n.h] n.F
def Hv (S:St) (c:Cc) (l:List (Nat×Own)) (ns:List New):Prop:=∀k n,(k,n)∈(l.map (·.1)).zip ns->S.ow k=some n.o/\c.hv k=n.h
section
variable {w:World} {K:Nat->Prop}
theorem Hv.left {S:St} {c:Cc} {l l':List (Nat×Own)} {ns ns':List New} (hl:ns.length=l.length) (h:Hv S c (l++l') (ns++ns')):Hv S c l ns:=λk n hk=>h k n (by
 rw [Akv,List.zip_append (by simp [hl])];exact AjV.2 (.inl hk))
theorem Hv.right {S:St} {c:Cc} {l l':List (Nat×Own)} {ns ns':List New} (hl:ns.length=l.length) (h:Hv S c (l++l') (ns++ns')):Hv S c l' ns':=λk n hk=>h k n (by
 rw [Akv,List.zip_append (by simp [hl])];exact AjV.2 (.inr hk))
theorem Mm (key:Nat) {l:Ae} {v:Value} {F:List Nat} (h:ALOk w K l v F):∃ns,FL (I5 w K) (CV key l).2 ns F/\∀S c,Hv S c (CV key l).2 ns->LeafOk S c w K (CV key l).1 v:=by
 obtain ⟨t,x⟩:=l;have other:CV key ⟨t,x⟩=(.v t x,[])->t.own=false->∃ns,FL (I5 w K) (CV key ⟨t,x⟩).2 ns F/\∀S c,Hv S c (CV key ⟨t,x⟩).2 ns->LeafOk S c w K (CV key ⟨t,x⟩).1 v:=by
  intro e ho;have hF:=h.2 ho;subst hF;rw [e];exact⟨[],⟨rfl,rfl⟩,λ_ _ _=>h.1⟩
 cases t with
 | sl o e r=>
  cases o with
  | true=>
   refine⟨[⟨⟨e,r,x⟩,v,F⟩],⟨_,[],F,[],rfl,Z,⟨rfl,rfl,h.1⟩,rfl,rfl⟩,λS c hv=>?_⟩;obtain ⟨h1,h2⟩:=hv key ⟨⟨e,r,x⟩,v,F⟩ (by simp [CV]);exact⟨_,e,r,x,v,h1,rfl,by rw [h2];rfl,rfl⟩
  | false=>exact other rfl rfl
 | _=>exact other rfl rfl
theorem Of:∀(ls:List Ae) (key:Nat) {vs:List Value} {F:List Nat},FL (ALOk w K) ls vs F->
  ∃ns,FL (I5 w K) (Fl key ls).2 ns F/\∀S c,Hv S c (Fl key ls).2 ns->All2 (LeafOk S c w K) (Fl key ls).1 vs
 | [],key,_,_,h=>by
  obtain ⟨rfl,rfl⟩:=h;exact⟨[],⟨rfl,rfl⟩,λ_ _ _=>.nil⟩
 | l::ls,key,_,_,h=>by
  obtain ⟨v,vs,F1,F2,rfl,rfl,h1,h2⟩:=h;obtain ⟨n1,k1,k2⟩:=Mm key h1;obtain ⟨n2,k3,k4⟩:=Of ls (key+1) h2;exact⟨n1++n2,k1.append k3,λS c hv=>.cons (k2 S c (Hv.left k1.len hv)) (k4 S c (Hv.right k1.len hv))⟩
theorem Aeq (msK:List (Nat×Nat)) (mb mo:Nat->Nat) (key:Nat) {a:A1} {v:Value} {F:List Nat} {x:S1×List (Nat×Own)} (h:A1Ok w K (msK.map (loc mb mo)) a v F) (hb:N1 msK key a=some x) :
  ∃ns,FL (I5 w K) x.2 ns F/\∀S c,Hv S c x.2 ns->(∀k,k∈msK->S.ms k.1≠none)->(∀k,k∈msK->c.mb k.1=mb k.1/\c.mo k.1=mo k.1)->S1Ok S c w K x.1 v:=by
 cases a with
 | one l=>
  simp only [N1,AjN]at hb;subst hb;obtain ⟨ns,h1,h2⟩:=Mm key h;exact⟨ns,h1,λS c hv _ _=>h2 S c hv⟩
 | ag ls=>
  simp only [N1,AjN]at hb;subst hb;obtain ⟨vs,rfl,h⟩:=h;obtain ⟨ns,h1,h2⟩:=Of ls key h;exact⟨ns,h1,λS c hv _ _=>⟨vs,rfl,h2 S c hv⟩⟩
 | pl m off=>
  simp only [N1]at hb;split at hb
  .rename_i k hk;simp only [AjN]at hb;subst hb;obtain ⟨rfl,g,hg,rfl⟩:=h;rw [Akr,hk]at hg;simp only [AkJ,AjN]at hg;subst hg;refine⟨[],⟨rfl,rfl⟩,λS c _ h1 h2=>?_⟩;have hm:=Akz hk;obtain ⟨n,hn⟩:=Ale.1 (h1 k hm);exact⟨n,hn,by rw [(h2 k hm).1,(h2 k hm).2,Ak4]⟩
  .cases hb
 | rp t y off=>
  simp only [N1,AjN]at hb;subst hb;obtain ⟨rfl,h⟩:=h;exact⟨[],⟨rfl,rfl⟩,λS c _ _ _=>h⟩
 | fv f cs=>
  simp only [N1]at hb;split at hb
  .rename_i l hl;simp only [AjN]at hb;subst hb;obtain ⟨rfl,vs,rfl,h⟩:=h;refine⟨[],⟨rfl,rfl⟩,λS c _ h1 h2=>⟨vs,rfl,?_⟩⟩;have key:∀(cs l:List (Nat×Nat)) (vs:List Value),All2 (λp v=>∃g,(msK.map (loc mb mo))[p.1]?=some g/\v=.pointer (some ⟨g.1,g.2+p.2,none⟩)) cs vs->MW msK cs=some l->All2 (TB S c) l vs:=by
    intro cs l vs h
    induction h generalizing l with
    | nil=>intro hl;simp only [MW,AjN]at hl;subst hl;exact .nil
    | @cons p v cs vs q1 _ ih=>
     intro hl;simp only [MW]at hl;split at hl
     .rename_i k l' e1 e2;simp only [AjN]at hl;subst hl;obtain ⟨g,hg,rfl⟩:=q1;rw [Akr,e1]at hg;simp only [AkJ,AjN]at hg;subst hg;have hm:=Akz e1;obtain ⟨n,hn⟩:=Ale.1 (h1 k hm);exact .cons ⟨n,hn,by rw [(h2 k hm).1,(h2 k hm).2,Ak4]⟩ (ih l' e2)
     .cases hl
   exact key cs l vs h hl
  .cases hb
theorem Ms (msK:List (Nat×Nat)) (mb mo:Nat->Nat):∀(as:List A1) (key:Nat) {vs:List Value} {F:List Nat} {x:List S1×List (Nat×Own)},FL (A1Ok w K (msK.map (loc mb mo))) as vs F->HO msK key as=some x->
  ∃ns,FL (I5 w K) x.2 ns F/\∀S c,Hv S c x.2 ns->(∀k,k∈msK->S.ms k.1≠none)->(∀k,k∈msK->c.mb k.1=mb k.1/\c.mo k.1=mo k.1)->All2 (S1Ok S c w K) x.1 vs
 | [],key,_,_,x,h,hb=>by
  obtain ⟨rfl,rfl⟩:=h;simp only [HO,AjN]at hb;subst hb;exact⟨[],⟨rfl,rfl⟩,λ_ _ _ _ _=>.nil⟩
 | a::as,key,_,_,x,h,hb=>by
  obtain ⟨v,vs,F1,F2,rfl,rfl,h1,h2⟩:=h;simp only [HO]at hb;split at hb
  .rename_i x1 x2 e1 e2;simp only [AjN]at hb;subst hb;obtain ⟨n1,k1,k2⟩:=Aeq msK mb mo key h1 e1;obtain ⟨n2,k3,k4⟩:=Ms msK mb mo as (key+64) h2 e2;exact⟨n1++n2,k1.append k3,λS c hv g1 g2=>.cons (k2 S c (Hv.left k1.len hv) g1 g2) (k4 S c (Hv.right k1.len hv) g1 g2)⟩
  .cases hb
theorem YL (mk:List (Nat×Nat)) (mb mo:Nat->Nat) (key:Nat) {l:Ae} {v:Value} {F:List Nat} (h:ROk w K (mk.map (loc mb mo)) l v F) :
  ∃ns,FL (I5 w K) (Fx mk key l).2 ns F/\∀S c,Hv S c (Fx mk key l).2 ns->(∀k,k∈mk->S.ms k.1≠none)->(∀k,k∈mk->c.mb k.1=mb k.1/\c.mo k.1=mo k.1)->(∀k,k∈mk->∀es n,w.heap[mb k.1]?=some (.map es n)->S.ms k.1=some 0)->LeafOk S c w K (Fx mk key l).1 v:=by
 rcases h with h | ⟨rfl,p,g,rfl,hg,rfl⟩ | ⟨rfl,m,g,rfl,hg,rfl,es,n,hes⟩
 .have e:Fx mk key l=CV key l:=by
   unfold Fx;split
   .exact absurd h.1 (by simp only [Rp];exact λh=>h)
   .rename_i m;have h0:=h.1;simp only [Rp]at h0;obtain ⟨_,_,h0⟩:=h0;rw [show m=(0:Nat) from h0];rfl
   .exact absurd h.1 (by simp only [Rp];exact λh=>h)
   .rfl
  rw [e];obtain ⟨ns,h1,h2⟩:=Mm key h;exact⟨ns,h1,λS c hv _ _ _=>h2 S c hv⟩
 .rw [Akr,AkO]at hg;obtain ⟨k,hk,rfl⟩:=hg;refine⟨[],⟨rfl,rfl⟩,λS c _ h1 h2 _=>?_⟩;have hm:=Akz hk;obtain ⟨n,hn⟩:=Ale.1 (h1 k hm);simp only [Fx,hk];exact⟨n,hn,by rw [(h2 k hm).1,(h2 k hm).2,Ak4]⟩
 .rw [Akr,AkO]at hg;obtain ⟨k,hk,rfl⟩:=hg;refine⟨[],⟨rfl,rfl⟩,λS c _ h1 h2 h3=>?_⟩;have hm:=Akz hk;simp only [Fx,hk];exact⟨h3 k hm es n hes,by rw [(h2 k hm).1]⟩
theorem Ph (mk:List (Nat×Nat)) (mb mo:Nat->Nat):∀(ls:List Ae) (key:Nat) {vs:List Value} {F:List Nat},FL (ROk w K (mk.map (loc mb mo))) ls vs F->
  ∃ns,FL (I5 w K) (Em mk key ls).2 ns F/\∀S c,Hv S c (Em mk key ls).2 ns->(∀k,k∈mk->S.ms k.1≠none)->(∀k,k∈mk->c.mb k.1=mb k.1/\c.mo k.1=mo k.1)->(∀k,k∈mk->∀es n,w.heap[mb k.1]?=some (.map es n)->S.ms k.1=some 0)->All2 (LeafOk S c w K) (Em mk key ls).1 vs
 | [],key,_,_,h=>by
  obtain ⟨rfl,rfl⟩:=h;exact⟨[],⟨rfl,rfl⟩,λ_ _ _ _ _ _=>.nil⟩
 | l::ls,key,_,_,h=>by
  obtain ⟨v,vs,F1,F2,rfl,rfl,h1,h2⟩:=h;obtain ⟨n1,k1,k2⟩:=YL mk mb mo key h1;obtain ⟨n2,k3,k4⟩:=Ph mk mb mo ls (key+1) h2;exact⟨n1++n2,k1.append k3,λS c hv g1 g2 g3=>.cons (k2 S c (Hv.left k1.len hv) g1 g2 g3) (k4 S c (Hv.right k1.len hv) g1 g2 g3)⟩
theorem FO (mk:List (Nat×Nat)):∀(ls:List Ae) (key:Nat),(Em mk key ls).1.length=ls.length
 | [],_=>rfl
 | l::ls,key=>by simp [Em,FO mk ls (key+1)]
theorem Md (mk:List (Nat×Nat)) (mb mo:Nat->Nat):∀(msK:List (Nat×Nat)) (rs:List (List Ae)) (key:Nat) {F:List Nat} {x:List ((Nat×Nat)×List Leaf)×List (Nat×Own)},RowsOk w K (mk.map (loc mb mo)) (msK.map (loc mb mo)) rs F->Fu mk key msK rs=some x->
  x.1.map (·.1)=msK/\x.1.map (·.2.length)=rs.map List.length/\(∀p,p∈x.1->(∃cs e fr,w.heap[mb p.1.1]?=some (.cells cs e fr))\/∃xs,p.2=[.md xs]/\MapAt w (mb p.1.1) xs)/\
  ∃ns,FL (I5 w K) x.2 ns F/\∀S c,Hv S c x.2 ns->(∀k,k∈mk->S.ms k.1≠none)->(∀k,k∈mk->c.mb k.1=mb k.1/\c.mo k.1=mo k.1)->(∀k,k∈mk->∀es n,w.heap[mb k.1]?=some (.map es n)->S.ms k.1=some 0)->∀p,p∈x.1->(∃cs e fr,w.heap[mb p.1.1]?=some (.cells cs e fr)/\NF fr cs.size/\mo p.1.1+p.1.2+p.2.length<=cs.size/\All2 (LeafOk S c w K) p.2 ((cs.toList.drop (mo p.1.1+p.1.2)).take p.2.length))\/∃xs,p.2=[.md xs]/\MapAt w (mb p.1.1) xs
 | [],[],key,F,x,h,hb=>by
  simp only [Fu,AjN]at hb;subst hb;exact⟨rfl,rfl,(λp hp=>by cases hp),[],⟨rfl,h.2⟩,λ_ _ _ _ _ _ p hp=>by cases hp⟩
 | k::ms,r::rs,key,F,x,h,hb=>by
  obtain ⟨r',rs',F1,F2,e1,rfl,h1,h4⟩:=h;injection e1 with e1 e2
  subst e1 e2;simp only [Fu]at hb;split at hb
  .rename_i y hy;simp only [AjN]at hb;subst hb;obtain ⟨g1,g2,g3,n2,k3,k4⟩:=Md mk mb mo ms rs (key+64) h4 hy;rcases h1 with⟨cs,e,fr,h1,h2,h3,h5⟩ | ⟨xs,rfl,hm,rfl⟩
   .obtain ⟨n1,k1,k2⟩:=Ph mk mb mo r key h5;refine⟨by simp [g1],by simp [g2,FO],λp hp=>(Aj5.1 hp).elim (λh=>by subst h;exact .inl ⟨cs,e,fr,h1⟩) (g3 p),n1++n2,k1.append k3,λS c hv c1 c2 c3 p hp=>?_⟩;rcases Aj5.1 hp with rfl | hp
    .exact .inl ⟨cs,e,fr,h1,h2,by simp only [FO];exact h3,by simp only [FO];exact k2 S c (Hv.left k1.len hv) c1 c2 c3⟩
    .exact k4 S c (Hv.right k1.len hv) c1 c2 c3 p hp
   .refine⟨by simp [g1],by simp [g2,FO],λp hp=>(Aj5.1 hp).elim (λh=>by subst h;exact .inr ⟨xs,rfl,hm⟩) (g3 p),n2,k3,λS c hv c1 c2 c3 p hp=>?_⟩;rcases Aj5.1 hp with rfl | hp
    .exact .inr ⟨xs,rfl,hm⟩
    .exact k4 S c hv c1 c2 c3 p hp
  .cases hb
 | [],r::rs,key,F,x,h,hb=>by simp [Fu]at hb
 | k::ms,[],key,F,x,h,hb=>by simp [Fu]at hb
theorem AbK {S:St} {c:Cc}:∀{xs:List S1} {vs:List Value},All2 (S1Ok S c w K) xs vs->AO S c w K (Wc xs) (TJ vs)
 | [],_,.nil=>⟨[],rfl,.nil⟩
 | [_],_,.cons h .nil=>h
 | _::_::_,_,.cons (b:=v) h (.cons (b:=u) (bs:=vs) h1 h2)=>⟨v::u::vs,rfl,.cons h (.cons h1 h2)⟩
theorem Pr:∀{l:List (Nat×Own)} {ns:List New} {F:List Nat},FL (I5 w K) l ns F->∀k,(match find ((l.map (·.1)).zip ns) k with | some n=>some n.o | none=>none)=find l k
 | [],_,_,h,k=>by rw [h.1];rfl
 | (i,o)::l,_,_,⟨n,ns,F1,F2,e1,_,h1,h2⟩,k=>by
  subst e1;simp only [Akw,List.zip_cons_cons,find];by_cases hk:k=i
  .rw [AjS hk,AjS hk];simp [h1.1]
  .rw [AjR hk,AjR hk];exact Pr h2 k
theorem D9:∀{l:List (Nat×Own)} {ns:List New} {F:List Nat},FL (I5 w K) l ns F->∀k n,find ((l.map (·.1)).zip ns) k=some n->k∈l.map (·.1)/\(∀g,g∈n.F->g∈F)/\(F.Nodup->n.F.Nodup)/\Rp w K (.sl true n.o.e n.o.r) n.o.xs [n.h] n.F
 | [],_,_,h,k,n,hf=>by simp [find]at hf
 | (i,o)::l,_,_,⟨n',ns,F1,F2,e1,e2,⟨h1,h1',h1''⟩,h2⟩,k,n,hf=>by
  subst e1 e2;simp only [Akw,List.zip_cons_cons,find]at hf;split at hf
  .rename_i hk;injection hf with hf
   subst hf h1';exact⟨by simp [hk],λg hg=>by simp [hg],λhn=>(Aj8.1 hn).1,h1''⟩
  .obtain ⟨a1,a2,a3,a4⟩:=D9 h2 k n hf;exact⟨AkT _ a1,λg hg=>by simp [a2 g hg],λhn=>a3 (Aj8.1 hn).2.1,a4⟩
theorem Rk:∀{l:List (Nat×Own)} {ns:List New} {F:List Nat},FL (I5 w K) l ns F->F.Nodup->∀k n k' n',k≠k'->find ((l.map (·.1)).zip ns) k=some n->find ((l.map (·.1)).zip ns) k'=some n'->∀g,g∈n.F->g∉n'.F
 | [],_,_,h,_,k,n,_,_,_,hf,_=>by simp [find]at hf
 | (i,o)::l,_,_,⟨m,ns,F1,F2,e1,e2,⟨h1,h1',h1''⟩,h2⟩,hn,k,n,k',n',hne,hf,hf'=>by
  subst e1 e2;obtain ⟨d1,d2,d3⟩:=Aj8.1 hn;simp only [Akw,List.zip_cons_cons,find]at hf hf';intro g hg hg';split at hf
  .rename_i hk;injection hf with hf
   subst hf h1';rw [AjR (λh=>hne (hk.trans h.symm))]at hf';exact d3 g hg g ((D9 h2 k' n' hf').2.1 g hg') rfl
  .split at hf'
   .injection hf' with hf'
    subst hf' h1';exact d3 g hg' g ((D9 h2 k n hf).2.1 g hg) rfl
   .exact Rk h2 d2 k n k' n' hne hf hf' g hg hg'
end
theorem LeafOk.mono {S:St} {c:Cc} {w:World} {K K':Nat->Prop} (hK:∀g,g < w.heap.size->K g->K' g) {l:Leaf} {v:Value} (h:LeafOk S c w K l v):LeafOk S c w K' l v:=by
 cases l with
 | v t x=>exact Rp.mono hK _ _ h
 | _=>exact h
theorem S1Ok.mono {S:St} {c:Cc} {w:World} {K K':Nat->Prop} (hK:∀g,g < w.heap.size->K g->K' g) {x:S1} {v:Value} (h:S1Ok S c w K x v):S1Ok S c w K' x v:=by
 cases x with
 | one l=>exact LeafOk.mono hK h
 | ag ls=>obtain ⟨vs,e,h⟩:=h;exact⟨vs,e,h.mono λ_ _ h=>LeafOk.mono hK h⟩
 | rp t x off=>obtain ⟨a,vs,h1,h2,h3,h4,h5⟩:=h;exact⟨a,vs,h1,Rp.mono hK _ _ h2,hK _ h4 h3,h4,h5⟩
 | _=>exact h
section
variable {P:Program} {E:Env} {b:Base} {S:St} {c:Cc} {w:World}
theorem AeV (S:St) (ks:List Kl):(S.kp ks).ms=S.ms/\(S.kp ks).ow=S.ow/\∀k i,(S.kp ks).mc k i=(S.mc k i).kp ks:=
 ⟨Du S ks,D0 S ks,λk i=>Di S ks k i⟩
theorem LentOk.mono {w:World} {K K':Nat->Prop} {vals:List Value} (hK:∀g,g < w.heap.size->K g->K' g):∀{l:List ((Nat×Nat)×Ae)} {F},LentOk w K vals l F->LentOk w K' vals l F
 | [],_,h=>h
 | _::_,_,⟨v,F1,F2,e,h1,h2,h3⟩=>⟨v,F1,F2,e,h1,ALOk.mono hK h2,LentOk.mono hK h3⟩
theorem LentOk.noRo {w:World} {K K':Nat->Prop} {vals:List Value}:∀{l:List ((Nat×Nat)×Ae)} {F},(l.any λx=>x.2.1.hasRo)=false->LentOk w K vals l F->LentOk w K' vals l F
 | [],_,_,h=>h
 | _::_,_,hr,⟨v,F1,F2,e,h1,h2,h3⟩=>by
  simp only [List.any_cons,AlG]at hr;exact⟨v,F1,F2,e,h1,ALOk.noRo hr.1 h2,LentOk.noRo hr.2 h3⟩
theorem NS (hi:Inv b S w c) {w':World} {K2:Nat->Prop} {vals:List Value} {gv F:List Nat} (hgv:Ows S gv) (hKS:KSame w w' (Kok b S c) K2) (hsame:∀k,S.ow k≠none->∀g,g∈c.F k->g∉F->w'.heap[g]?=w.heap[g]?) :
  ∀(L:List ((Nat×Nat)×Option (Nat×AP))) (rl:List ((Nat×Nat)×Ae)) {lts:List (Nat×Own)} {F3:List Nat},(∀e,e∈L->∃v,ED vals e.1=some v/\LnOk S c w (Kok b S c) e.2 v gv F)->(ES L rl).ev S=some lts->
   LentOk w' K2 vals rl F3->F3.Nodup->(∀g,g∈F3->g∈F\/w.heap.size<=g)->(lts.map (·.1)).Nodup->
   lts.map (·.1)=DJ L/\(∀k,k∈DJ L->k∈gv)/\∃ns FL3,FL (I5 w' K2) lts ns FL3/\FL3.Nodup/\(∀g,g∈FL3->g∈F3\/∃k,k∈DJ L/\g∈c.F k/\g∉F)/\
    ∀k n,(k,n)∈(lts.map (·.1)).zip ns->n.h=c.hv k/\∃o xs',S.ow k=some o/\n.o=⟨o.e,o.r,xs'⟩/\xs'.length=o.xs.length
 | [],[],lts,F3,_,h,hl,_,_,_=>by
  simp only [ES,Tr.ev,AjN]at h;subst h;exact⟨rfl,λk hk=>(by cases hk),[],[],⟨rfl,rfl⟩,Z,λg hg=>(by cases hg),λk n hk=>(by cases hk)⟩
 | [],_::_,_,_,_,h,_,_,_,_=>by simp [ES,Tr.ev]at h
 | (p,none)::L,[],_,_,_,h,_,_,_,_=>by simp [ES,Tr.ev]at h
 | (p,some (k,st))::L,[],_,_,_,h,_,_,_,_=>by simp [ES,Tr.ev]at h
 | (p,none)::L,(p',a)::rl,lts,F3,hL,h,hl,hnd,hF3,hk=>by
  simp only [ES]at h;split at h
  .rename_i hp;subst hp;obtain ⟨v,F1,F2,rfl,h1,h2,h3⟩:=hl;obtain ⟨n1,n2,n3⟩:=Aj8.1 hnd;obtain ⟨q1,q2,ns,FL3,q3,q4,q5,q6⟩:=NS hi hgv hKS hsame L rl (λe he=>hL e (by simp [he])) h h3 n2 (λg hg=>hF3 g (by simp [hg])) hk;exact⟨q1,q2,ns,FL3,q3,q4,λg hg=>(q5 g hg).imp (λh=>by simp [h]) id,q6⟩
  .simp [Tr.ev]at h
 | (p,some (k,st))::L,(p',⟨at',ax⟩)::rl,lts,F3,hL,h,hl,hnd,hF3,hk=>by
  simp only [ES]at h;split at h
  .rename_i hp;subst hp;obtain ⟨v,F1,F2,rfl,h1,h2,h3⟩:=hl;obtain ⟨v',hv',hkg,Fa,Fb,⟨o0,ho0,⟨G0,hF0⟩,hback⟩,hdis⟩:=hL (p,some (k,st)) Z;obtain rfl:v=v':=by rw [h1]at hv';injection hv'
   simp only [Tr.ev,ho0,Af,AjQ]at h;obtain ⟨⟨dt,dx⟩,hd,h⟩:=h;split at h
   .rename_i hty;simp only at hty;subst hty;simp only [Af,AjQ,Tr.ev,AjN]at h;obtain ⟨zs,hzs,y,hy,rfl⟩:=h;rw [JD]at hd;rw [RW]at hzs;obtain ⟨n1,n2,n3⟩:=Aj8.1 hnd;simp only [Akw,AkE]at hk;obtain ⟨q1,q2,ns,FL3,q3,q4,q5,q6⟩:=NS hi hgv hKS hsame L rl (λe he=>hL e (by simp [he])) hy h3 n2 (λg hg=>hF3 g (by simp [hg])) hk.2;have hko:S.ow k≠none:=by rw [ho0];simp
    have hnk:=hi.nd k hko;have hlt:∀g,g∈c.F k->g < w.heap.size:=λg hg=>(hi.fr g (.inr ⟨k,hko,hg⟩)).1
    have hin:∀g,g∈Fa\/g∈Fb->g∈c.F k:=λg hg=>by rw [hF0];rcases hg with hg | hg <;> simp [hg]
    have hnF:∀g,g∈Fa\/g∈Fb->g∉F:=λg hg hx=>hg.elim (hdis g hx).1 (hdis g hx).2
    have hFF:∀g,g∈F1++F2->¬ (g∈Fa\/g∈Fb):=by
     intro g hg hx;rcases hF3 g hg with h | h
     .exact hnF g hx h
     .have:=hlt g (hin g hx);omega
    have hkr:k∉DJ L:=by rw [<- q1];exact hk.1
    have hR:=hback ⟨at',dx⟩ ax zs hd hzs w' K2 F1 h2.1 hKS (λg hg=>hsame k hko g (hin g (.inl hg)) (hnF g (.inl hg))) (λg hg=>hsame k hko g (hin g (.inr hg)) (hnF g (.inr hg)));have hlen:zs.length=o0.xs.length:=by
     obtain ⟨A,cp,e1,_⟩:=LF hR;obtain ⟨A',cp',e2,_⟩:=LF (hi.ow k o0 ho0);rw [e1]at e2;injection e2
    rw [hF0]at hnk;obtain ⟨a1,a2,a3⟩:=Aj8.1 hnk;obtain ⟨b1,b2,b3⟩:=Aj8.1 a2;have hX:∀g,g∈FL3->¬ (g∈Fa\/g∈Fb)/\g∉F1:=by
     intro g hg;rcases q5 g hg with h | ⟨k',hk',hg',hgF⟩
     .exact⟨hFF g (by simp [h]),λhx=>n3 g hx g h rfl⟩
     .have hne:k≠k':=by rintro rfl;exact hkr hk'
      have hko':S.ow k'≠none:=hgv k' (q2 k' hk');refine⟨λhx=>hi.oo k k' hne hko hko' g (hin g hx) hg',λhx=>?_⟩;rcases hF3 g (by simp [hx])with h | h
      .exact hgF h
      .have:=(hi.fr g (.inr ⟨k',hko',hg'⟩)).1;omega
    refine⟨by simp [DJ,q1],?_,⟨⟨o0.e,o0.r,zs⟩,c.hv k,Fa++(F1++Fb)⟩::ns,(Fa++(F1++Fb))++FL3,⟨_,ns,_,FL3,rfl,rfl,⟨rfl,rfl,hR⟩,q3⟩,?_,?_,?_⟩
    .intro k' hk';simp only [DJ,Aj5]at hk';rcases hk' with rfl | hk'
     .exact hkg
     .exact q2 k' hk'
    .refine Aj8.2 ⟨Aj8.2 ⟨a1,Aj8.2 ⟨n1,b2,?_⟩,?_⟩,q4,?_⟩
     .rintro x hx x' hx' rfl;exact hFF x (by simp [hx]) (.inr hx')
     .rintro x hx x' hx' rfl;rcases AjV.1 hx' with h | h
      .exact hFF x (by simp [h]) (.inl hx)
      .exact a3 x hx x (by simp [h]) rfl
     .rintro x hx x' hx' rfl;have:=hX x hx';simp only [AjV]at hx;rcases hx with hx | hx | hx
      .exact this.1 (.inl hx)
      .exact this.2 hx
      .exact this.1 (.inr hx)
    .intro g hg;simp only [AjV]at hg;rcases hg with(hg | hg | hg) | hg
     .exact .inr ⟨k,by simp [DJ],hin g (.inl hg),hnF g (.inl hg)⟩
     .exact .inl (by simp [hg])
     .exact .inr ⟨k,by simp [DJ],hin g (.inr hg),hnF g (.inr hg)⟩
     .rcases q5 g hg with h | ⟨k',h1,h2⟩
      .exact .inl (by simp [h])
      .exact .inr ⟨k',by simp [DJ,h1],h2⟩
    .intro k' n hm;simp only [Akw,List.zip_cons_cons,Aj5,Prod.mk.injEq]at hm;rcases hm with⟨rfl,rfl⟩ | hm
     .exact⟨rfl,o0,zs,ho0,rfl,hlen⟩
     .exact q6 k' n hm
   .simp [Tr.ev]at h
  .simp [Tr.ev]at h
theorem AeM (hi:Inv b S w c) {C:AC} {us:List Value} {F1:List Nat} (hA:AInv b S c w C us F1) {rows:List (List Ae)×List Nat} {r:Res}
  (hro:C.bw=[]\/((r.val.any A1.hasRo=false/\(r.rows.any λl=>l.any λx=>x.1.hasRo)=false)/\(r.lent.any λx=>x.2.1.hasRo)=false)) {d:Nat} {vs:List S1×List (Nat×Own)} {rs:List ((Nat×Nat)×List Leaf)×List (Nat×Own)} {lts:List (Nat×Own)}
  (hlt:(ES C.ln r.lent).ev S=some lts)
  (hv:HO (C.ms.map (·.1)) (kd d 0) r.val=some vs) (hr:Fu (C.ms.map (·.1)) (kd d 512) (C.ms.map (·.1)) r.rows=some rs) (hu2:AJ ((vs.2++(rs.2++lts)).map (·.1))=true) (hlen:r.rows.map List.length=C.ms.map λm=>m.2.length)
  {F2:List Nat} (hF2:Cu c rows.2 F2) (hgv2:Ows S rows.2) (hun:AJ (C.gv++rows.2)=true) {more:List Value} {v:Value} {w':World} (hp:HU w (KB b S c C.bw) (C.ms.map (plc c)) (F1++F2) (us++more) r v w') :
  Did b S c w ⟨Wc vs.1,Cd (VK (DJ C.ln) C.gv++rows.2)++((DJ C.ln).map Kl.deep++Cd ((vs.2++rs.2).map (·.1))),Cb (C.gv++rows.2)++(GU (vs.2++(rs.2++lts))++HH rs.1)⟩ v w':=by
 obtain ⟨vals,G1,G2,G3,rfl,p1,p2,p2',p3,p4,p5,p6⟩:=hp;have hmap:C.ms.map (plc c)=(C.ms.map (·.1)).map (loc c.mb c.mo):=by rw [AkL];rfl
 rw [hmap]at p1 p2 p2' p3 p5 p6;have hmap1:((C.ms.map (·.1)).map (loc c.mb c.mo)).map (·.1)=(C.ms.map (·.1.1)).map c.mb:=by rw [AkL,AkL,AkL];rfl
 rw [hmap1]at p1 p2 p2' p3 p5;have hms1:(C.ms.map (·.1)).map (·.1)=C.ms.map (·.1.1):=by rw [AkL];rfl
 have hun1:=hA.un;have hmsA:=hA.ms;generalize hmsQ:C.ms.map (·.1.1)=msQ at *;generalize hms:C.ms.map (·.1)=msK at *
 let K2:Nat->Prop:=λg=>(Kok b S c g/\g < w.heap.size)\/((w.heap.size<=g\/g∈F1++F2)/\g∉G1++(G2++G3))
 have q12:FL (A1Ok w' K2 (msK.map (loc c.mb c.mo))) r.val vals G1/\RowsOk w' K2 (msK.map (loc c.mb c.mo)) (msK.map (loc c.mb c.mo)) r.rows G2/\LentOk w' K2 (us++more) r.lent G3:=by
  rcases hro with hb | ⟨⟨h1,h2⟩,h3⟩
  .have hK:∀g,g < w'.heap.size->((KB b S c C.bw g\/w.heap.size<=g\/g∈F1++F2)/\g∉msQ.map c.mb++(G1++(G2++G3)))->K2 g:=by
    rintro g _ ⟨h1,h2⟩;have h3:g∉G1++(G2++G3):=λh=>h2 (by simp only [AjV]at h ⊢;exact .inr h)
    rcases h1 with h1 | h1 | h1
    .rcases h1 with h1 | ⟨k,hk,_⟩ | ⟨k,hk,_⟩
     .by_cases hg:g < w.heap.size
      .exact .inl ⟨h1,hg⟩
      .exact .inr ⟨.inl O,h3⟩
     .rw [hb]at hk;cases hk
     .rw [hb]at hk;cases hk
    .exact .inr ⟨.inl h1,h3⟩
    .exact .inr ⟨.inr h1,h3⟩
   exact⟨p1.mono λ_ _ _ h=>A1Ok.mono hK h,RowsOk.mono hK p2,LentOk.mono hK p2'⟩
  .rw [AkV]at h1;exact⟨FL.mono' (λx hx v F _ h=>A1Ok.noRo (by simpa using h1 x hx) h) p1,RowsOk.noRo h2 p2,LentOk.noRo h3 p2'⟩
 obtain ⟨q1,q2,q3⟩:=q12;obtain ⟨n1,a1,a2⟩:=Ms msK c.mb c.mo r.val (kd d 0) q1 hv;obtain ⟨b1,b2,b5,n2,b3,b4⟩:=Md msK c.mb c.mo msK r.rows (kd d 512) q2 hr;generalize hgs:C.gv++rows.2=gs at *;have hgo:Ows S gs:=by rw [<- hgs];exact Cz hA.gv hgv2
 have hFh:Cu c gs (F1++F2):=by
  intro g hg;rw [<- hgs];rcases AjV.1 hg with hg | hg
  .obtain ⟨k,h,h'⟩:=hA.held g hg;exact⟨k,by simp [h],h'⟩
  .obtain ⟨k,h,h'⟩:=hF2 g hg;exact⟨k,by simp [h],h'⟩
 have hnl:n1.length=vs.2.length:=a1.len;have hkeys:=BT hu2;have hnd0:(G1++(G2++G3)).Nodup:=(Aj8.1 p3).2.1;obtain ⟨hndA,hndB,hndC⟩:=Aj8.1 hnd0;obtain ⟨hndD,hndE,hndF⟩:=Aj8.1 hndB;have hkeys3:(lts.map (·.1)).Nodup:=by
  rw [Akv,Akv]at hkeys;exact(Aj8.1 (Aj8.1 hkeys).2.1).2.1
 have hOwn:∀g,g∈msQ.map c.mb++(F1++F2)->AW S c g:=by
  intro g hg;rcases AjV.1 hg with hg | hg
  .obtain ⟨k,hk,rfl⟩:=Aj9.1 hg;rw [<- hmsQ]at hk;obtain ⟨p,hp,rfl⟩:=Aj9.1 hk;obtain ⟨n,hn,_⟩:=hmsA p hp;exact .inl ⟨p.1.1,by rw [hn];simp,rfl⟩
  .obtain ⟨k,h,h'⟩:=hFh g hg;exact .inr ⟨k,hgo k h,h'⟩
 have hKS:KSame w w' (Kok b S c) K2:=⟨p5.size,λg hg hlt=>⟨p5.same g hlt λh=>hg.2 (hOwn g h),.inl ⟨hg,hlt⟩⟩⟩
 have hsm:∀k,S.ow k≠none->∀g,g∈c.F k->g∉F1++F2->w'.heap[g]?=w.heap[g]?:=by
  intro k hk g hg hgF;refine p5.same g (hi.fr g (.inr ⟨k,hk,hg⟩)).1 λh=>?_
  rcases AjV.1 h with h | h
  .obtain ⟨k',hk',rfl⟩:=Aj9.1 h;rw [<- hmsQ]at hk';obtain ⟨p,hp,rfl⟩:=Aj9.1 hk';obtain ⟨n,hn,_⟩:=hmsA p hp;exact hi.mo p.1.1 k (by rw [hn];simp) hk hg
  .exact hgF h
 obtain ⟨t1,t2,n3,FL3,t3,t4,t5,t6⟩:=NS hi hgo hKS hsm C.ln r.lent (λe he=>by
   have hun2:AJ (C.gv++rows.2)=true:=by rw [hgs];exact hun
   obtain ⟨u1,_,_⟩:=AQ hun2;obtain ⟨u,k1,k2⟩:=hA.ln u1 e he;refine⟨u,Fq k1,?_⟩;have:=k2.left hi hF2 hA.gv hgv2 hun2;rw [hgs]at this;exact this) hlt q3 hndE (λg hg=>(p4 g (by simp [hg])).2) hkeys3
 have hall:FL (I5 w' K2) (vs.2++(rs.2++lts)) (n1++(n2++n3)) (G1++(G2++FL3)):=a1.append (b3.append t3);have hFL3:∀g,g∈FL3->g∉G1/\g∉G2:=by
  intro g hg;rcases t5 g hg with h | ⟨k,hk,hgk,hgF⟩
  .exact⟨λhx=>hndC g hx g (by simp [h]) rfl,λhx=>hndF g hx g h rfl⟩
  .have hlt':=(hi.fr g (.inr ⟨k,hgo k (t2 k hk),hgk⟩)).1;refine⟨λhx=>?_,λhx=>?_⟩
   .rcases (p4 g (by simp [hx])).2 with h | h
    .exact hgF h
    .omega
   .rcases (p4 g (by simp [hx])).2 with h | h
    .exact hgF h
    .omega
 have hnd:(G1++(G2++FL3)).Nodup:=by
  refine Aj8.2 ⟨hndA,Aj8.2 ⟨hndD,t4,?_⟩,?_⟩
  .rintro x hx x' hx' rfl;exact(hFL3 x hx').2 hx
  .rintro x hx x' hx' rfl;rcases AjV.1 hx' with h | h
   .exact hndC x hx x (by simp [h]) rfl
   .exact(hFL3 x h).1 hx
 have hGin:∀g,g∈G1++(G2++FL3)->g < w'.heap.size/\((∃k,k∈gs/\S.ow k≠none/\g∈c.F k)\/w.heap.size<=g):=by
  intro g hg;have hcase:g∈G1++(G2++G3)\/∃k,k∈DJ C.ln/\g∈c.F k/\g∉F1++F2:=by
   rcases AjV.1 hg with h | h
   .exact .inl (by simp [h])
   .rcases AjV.1 h with h | h
    .exact .inl (by simp [h])
    .rcases t5 g h with h | h
     .exact .inl (by simp [h])
     .exact .inr h
  rcases hcase with h | ⟨k,hk,hgk,_⟩
  .refine⟨(p4 g h).1,(p4 g h).2.imp (λh=>?_) id⟩;obtain ⟨k,h,h'⟩:=hFh g h;exact⟨k,h,hgo k h,h'⟩
  .have hko:=hgo k (t2 k hk);exact⟨AkI (hi.fr g (.inr ⟨k,hko,hgk⟩)).1 p5.size,.inl ⟨k,t2 k hk,hko,hgk⟩⟩
 have hmsK:∀k,k∈msK->S.ms k.1≠none:=by
  intro k hk;rw [<- hms]at hk;obtain ⟨p,hp,rfl⟩:=Aj9.1 hk;obtain ⟨n,hn,_⟩:=hmsA p hp;rw [hn];simp
 have hmsQK:∀k,k∈msQ->S.ms k≠none:=by
  intro k hk;rw [<- hms1]at hk;obtain ⟨p,hp,rfl⟩:=Aj9.1 hk;exact hmsK p hp
 have hmsN:msQ.Nodup:=hun1;have hkind:∀p,p∈C.ms->∀n,S.ms p.1.1=some n->(0 < n->∃cs e fr,w'.heap[c.mb p.1.1]?=some (.cells cs e fr))/\(n=0->∃es n',w'.heap[c.mb p.1.1]?=some (.map es n')):=by
  intro p hp n hn;obtain ⟨i,hi',hip⟩:=Akq hp;have hm:C.ms[i]?=some p:=by rw [AjP hi',hip]
  have hloc:(msK.map (loc c.mb c.mo))[i]?=some (c.mb p.1.1,c.mo p.1.1+p.1.2):=by
   rw [<- hms,AkL,Akr,hm];rfl
  refine⟨λh0=>?_,λh0=>?_⟩
  .obtain ⟨cs,e,fr,z,_⟩:=hi.ms _ n hn h0;have hl2:i < r.rows.length:=by
    have:=congrArg List.length hlen;simp only [Akj]at this;omega
   obtain ⟨cs',y,_⟩:=p6.2 i _ _ cs e fr hloc (AjP hl2) z;exact⟨cs',e,fr,y⟩
  .subst h0;obtain ⟨_,_,es,z,_⟩:=hi.mp _ hn;exact p6.1 i _ es _ hloc z
 have hmapK:∀k,k∈msK->∀es n',w'.heap[c.mb k.1]?=some (.map es n')->S.ms k.1=some 0:=by
  intro k hk es n' hh;rw [<- hms]at hk;obtain ⟨p,hp,rfl⟩:=Aj9.1 hk;obtain ⟨n,hn,_⟩:=hmsA p hp;rcases AlU n with h | h
  .rw [hn,h]
  .obtain ⟨cs,e,fr,z⟩:=(hkind p hp n hn).1 h;rw [hh]at z;cases z
 generalize hl:vs.2++(rs.2++lts)=l at *;generalize hns:n1++(n2++n3)=ns at *;generalize hks:Cd (VK (DJ C.ln) C.gv++rows.2)++((DJ C.ln).map Kl.deep++Cd ((vs.2++rs.2).map (·.1)))=ks;generalize hS:(S.kp ks).ups (Cb gs++(GU l++HH rs.1))=S';have hg:=N7 gs (S.kp ks);obtain ⟨o1,o2,_,o4⟩:=Ra l ((S.kp ks).ups (Cb gs)) hkeys;obtain ⟨r1,r2,_,r4,r5⟩:=WI rs.1 (((S.kp ks).ups (Cb gs)).ups (GU l)) (by rw [show rs.1.map (·.1.1)=msQ by rw [<- hms1,<- b1,AkL];rfl];exact hmsN);rw [En,En]at hS;obtain ⟨e1,e2,e3⟩:=AeV S ks
 let news:Nat->Option New:=λk=>find ((l.map (·.1)).zip ns) k
 have how:∀k,S'.ow k=match news k with | some n=>some n.o | none=>if k∈gs then none else S.ow k:=by
  intro k;rw [<- hS,r2,o4,hg.2.2,e2];have:=Pr hall k;show _=match find ((l.map (·.1)).zip ns) k with | some n=>some n.o | none=>if k∈gs then none else S.ow k
  cases hf:find ((l.map (·.1)).zip ns) k with
  | none=>rw [hf]at this;simp only at this;rw [<- this]
  | some n=>rw [hf]at this;simp only at this;rw [<- this]
 have hms':S'.ms=S.ms:=by rw [<- hS,r1,o1,hg.1,e1]
 have hrsq:rs.1.map (·.1.1)=msQ:=by rw [<- hms1,<- b1,AkL];rfl
 have hmc:∀k i,k∉msQ->S'.mc k i=(S.mc k i).kp ks:=by
  intro k i hk;rw [<- hS,r4 k i (by rw [hrsq];exact hk),o2,hg.2.1,e3]
 have hrowmc:∀p,p∈rs.1->∀i,S'.mc p.1.1 i=if p.1.2<=i/\i < p.1.2+p.2.length then p.2.getD (i - p.1.2) .no else(S.mc p.1.1 i).kp ks:=by
  intro p hp i;rw [<- hS,r5 p hp i,o2,hg.2.1,e3]
 have hHv:∀c',(∀k n,news k=some n->c'.hv k=n.h)->Hv S' c' l ns:=by
  intro c' hc' k n hk;have hf:find ((l.map (·.1)).zip ns) k=some n:=De (by
   rw [List.map_fst_zip (by rw [hall.len];simp)];exact hkeys) hk
  exact⟨by rw [how,show news k=some n from hf],hc' k n hf⟩
 have hK2:∀K',KSame w w' (Kok b S c) K'->(∀g,(w.heap.size<=g\/∃k,k∈gs/\S.ow k≠none/\g∈c.F k)->(∀k n,news k=some n->g∉n.F)->K' g)->∀g,g < w'.heap.size->K2 g->K' g:=by
  rintro K' hK hfr g _ (⟨h1,h2⟩ | ⟨h1,h2⟩)
  .exact(hK.2 g h1 h2).2
  .refine hfr g (h1.imp id λh1=>?_) λk n hk hg=>?_
   .obtain ⟨k,h,h'⟩:=hFh g h1;exact⟨k,h,hgo k h,h'⟩
   have hx:=(D9 hall k n hk).2.1 g hg;rcases AjV.1 hx with h | h
   .exact h2 (by simp [h])
   .rcases AjV.1 h with h | h
    .exact h2 (by simp [h])
    .rcases t5 g h with h | ⟨k',hk',hgk,hnF⟩
     .exact h2 (by simp [h])
     .have:=(hi.fr g (.inr ⟨k',hgo k' (t2 k' hk'),hgk⟩)).1;rcases h1 with h1 | h1
      .omega
      .exact hnF h1
 have hstay:∀k o,S.ow k=some o->(k∈gs\/news k≠none)->.all k∈ks\/(.deep k∈ks/\∃n xs',news k=some n/\n.h=c.hv k/\n.o=⟨o.e,o.r,xs'⟩/\xs'.length=o.xs.length):=by
  intro k o ho hk;by_cases hkl:k∈DJ C.ln
  .right;rw [<- t1]at hkl;have hlen3:n3.length=lts.length:=t3.len;obtain ⟨i,hi',hik⟩:=Akq hkl;have hi3:i < n3.length:=by rw [hlen3];simpa using hi'
   have hz:(k,n3[i])∈(lts.map (·.1)).zip n3:=by
    have:((lts.map (·.1)).zip n3)[i]?=some (k,n3[i]):=by
     rw [List.getElem?_zip_eq_some];exact⟨by rw [AjP hi',hik],AjP hi3⟩
    exact Akz this
   have hz2:(k,n3[i])∈(l.map (·.1)).zip ns:=by
    rw [<- hl,<- hns,Akv,Akv,List.zip_append (by simp [hnl]),List.zip_append (by rw [Akj];exact b3.len.symm)];simp [hz]
   have hf:news k=some n3[i]:=De (by rw [List.map_fst_zip (by rw [hall.len];simp)];exact hkeys) hz2;obtain ⟨g1,o',xs',g2,g3,g4⟩:=t6 k _ hz;obtain rfl:o=o':=by rw [ho]at g2;injection g2
   refine⟨?_,_,xs',hf,g1,g3,g4⟩;rw [<- hks];rw [t1]at hkl;simp only [AjV];exact .inr (.inl (Aj9.2 ⟨k,hkl,rfl⟩))
  .left;rw [<- hks];rcases hk with hk | hk
   .rw [<- hgs]at hk;refine AjV.2 (.inl (Aj9.2 ⟨k,?_,rfl⟩));rcases AjV.1 hk with hk | hk
    .exact AjV.2 (.inl (by simp only [VK,AlC];exact⟨hk,by simpa using hkl⟩))
    .exact AjV.2 (.inr hk)
   .obtain ⟨n,hn⟩:=Ale.1 hk;have hm:=(D9 hall k n hn).1;rw [<- hl,Akv,Akv]at hm;refine AjV.2 (.inr (AjV.2 (.inr (Aj9.2 ⟨k,?_,rfl⟩))));rw [Akv];rcases AjV.1 hm with hm | hm
    .exact AjV.2 (.inl hm)
    .rcases AjV.1 hm with hm | hm
     .exact AjV.2 (.inr hm)
     .rw [t1]at hm;exact absurd hm hkl
 have hmany:=hi.many (S':=S') (w':=w') news gs msQ ks how hms' hmc hstay
  (p5.mono (by
   intro g hg;rcases AjV.1 hg with hg | hg
   .obtain ⟨k,hk,rfl⟩:=Aj9.1 hg;exact .inr ⟨k,hk,hmsQK k hk,rfl⟩
   .obtain ⟨k,h,h'⟩:=hFh g hg;exact .inl ⟨k,h,hgo k h,h'⟩))
  (λk n hk g hg=>hGin g ((D9 hall k n hk).2.1 g hg))
  (λk n hk=>(D9 hall k n hk).2.2.1 hnd) (λk n k' n' hne hk hk'=>Rk hall hnd k n k' n' hne hk hk')
  (λK' hK hfr k n hk=>Rp.mono (hK2 K' hK hfr) _ _ (D9 hall k n hk).2.2.2)
  (λK' c' hcb hstayL hK hfr hhv k n hk hn hn0=>by
   have hb:=hHv c' hhv;rw [<- hl,<- hns]at hb;rw [<- hrsq]at hk;obtain ⟨p,hp,rfl⟩:=Aj9.1 hk;have hb4:=b4 S' c' (Hv.left b3.len (Hv.right hnl hb)) (λk hk=>by rw [hms'];exact hmsK k hk) (λk _=>by rw [hcb.1,hcb.2];exact⟨rfl,rfl⟩) (λk hk es n hh=>by rw [hms'];exact hmapK k hk es n hh) p hp;obtain ⟨i0,hi0,hpi⟩:=Akq hp;have q0:rs.1[i0]?=some p:=by rw [AjP hi0,hpi]
   have q1:(rs.1.map (·.1))[i0]?=some p.1:=by rw [Akr,q0];rfl
   have q2:(rs.1.map (·.2.length))[i0]?=some p.2.length:=by rw [Akr,q0];rfl
   rw [b1,<- hms,Akr,AkO]at q1;obtain ⟨m,hm,hm1⟩:=q1;rw [b2]at q2;rw [Akr,AkO]at q2;obtain ⟨row,hrow,hrl⟩:=q2;obtain ⟨n',hn',hle'⟩:=hmsA m (Akz hm);have hsz:m.2.length=p.2.length:=by
    have:=congrArg (·[i0]?) hlen;simp only [Akr,hrow,hm,AkJ,AjN]at this;omega
   rw [hm1]at hn' hle';obtain rfl:n=n':=by rw [hn]at hn';injection hn'
   obtain ⟨cs0,e0,fr0,z1,z2,z3,z4,z5⟩:=hi.ms _ _ hn hn0
   replace hle':p.1.2+m.2.length<=n:=by
    rcases hle' with h | h
    .exact h.2
    .omega
   rcases hb4 with⟨cs,e,fr,h1,h2,hwin,h3⟩ | ⟨xs,_,es,hmp,_⟩
   rotate_left
   .obtain ⟨_,_,_,hcl⟩:=(hkind m (Akz hm) n (by rw [hm1];exact hn)).1 hn0;rw [hm1,hmp]at hcl;cases hcl
   have hloc:(msK.map (loc c.mb c.mo))[i0]?=some (c.mb p.1.1,c.mo p.1.1+p.1.2):=by
    rw [<- hms,AkL,Akr,hm];simp only [AkJ,Function.comp,loc,hm1]
   obtain ⟨cs',y1,y2,y3⟩:=p6.2 i0 _ row cs0 e0 fr0 hloc hrow z1;simp only at y1 y3;rw [h1]at y1;injection y1 with y1
   injection y1 with y1a y1b y1c
   subst y1a y1b y1c;refine⟨cs,e,fr,h1,O,h2,λi u hlt hu=>?_,?_⟩
   .rw [hrowmc p hp i];by_cases hc:p.1.2<=i/\i < p.1.2+p.2.length
    .rw [AjS hc];have hlt:i - p.1.2 < p.2.length:=O
     obtain ⟨u',hu1,hu2⟩:=h3.get (AjP hlt);rw [AkD,AjP hlt,Akx];have:u'=u:=by
      rw [Aj7 hlt,Akt,Aj6,(O:c.mo p.1.1+p.1.2+(i - p.1.2)=c.mo p.1.1+i),hu]at hu1;injection hu1 with hu1;exact hu1.symm
     subst this;exact LeafOk.mono (hK2 K' hK hfr) hu2
    .rw [AjR hc];rw [y3 _ O]at hu;exact hstayL _ _ (z4 i u hlt hu)
   .intro cs1 e1 fr1 h0;obtain ⟨x1,x2,x3,x4⟩:=z5 cs1 e1 fr1 h0;refine⟨x1,x2,O,λi hio=>?_⟩;rw [<- x4 i hio];exact y3 i O)
  (λk hk hn=>by
   rw [<- hrsq]at hk;obtain ⟨p,hp,rfl⟩:=Aj9.1 hk;have hpK:p.1∈msK:=by rw [<- b1];exact Aj9.2 ⟨p,hp,rfl⟩
   rw [<- hms]at hpK;obtain ⟨m,hm,hm1⟩:=Aj9.1 hpK;obtain ⟨es,n',hh⟩:=(hkind m hm 0 (by rw [hm1];exact hn)).2 rfl;rw [hm1]at hh;obtain ⟨n'',hn'',hle'⟩:=hmsA m hm;rw [hm1]at hn'' hle';obtain rfl:0=n'':=by rw [hn]at hn'';injection hn''
   obtain ⟨_,ho,_⟩:=hle'.resolve_left λh=>by omega
   rcases b5 p hp with⟨cs,e,fr,h1⟩ | ⟨xs,h1,h2⟩
   .rw [hh]at h1;cases h1
   .refine⟨xs,?_,h2⟩;rw [hrowmc p hp 0,h1,ho];rfl)
 obtain ⟨c',m1,m2,m3,m4,m5⟩:=hmany;have hS':(S.kp ks).ups (Cb gs++(GU l++HH rs.1))=S':=by rw [En,En];exact hS
 unfold Did;simp only;rw [hS'];refine⟨c',m3,m4,?_⟩;have hb:=hHv c' λk n hk=>(m2 k n hk).1
 rw [<- hl,<- hns]at hb;refine AbK ?_;have:=a2 S' c' (Hv.left hnl hb) (λk hk=>by rw [hms'];exact hmsK k hk) (λk _=>by rw [m1.1,m1.2];exact⟨rfl,rfl⟩);exact this.mono λ_ _ h=>S1Ok.mono (hK2 _ m4.kk m5) h
theorem Aaf {p:SV->Value->Prop}:∀{xs:List SV} {us:List Value} {ts:List TypeId},All2 p xs us->xs.length=ts.length->All2 (λ(x:SV×TypeId) u=>p x.1 u) (xs.zip ts) us
 | [],_,[],.nil,_=>.nil
 | _::_,_,_::_,.cons h1 h2,h=>.cons h1 (Aaf h2 (by simpa using h))
 | [],_,_::_,_,h=>by simp at h
 | _::_,_,[],_,h=>by simp at h
theorem ZP {K:Nat->Prop} {C:AC}:∀{ps:List (Nat×Nat)} {vs:List Value},All2 (Aea c C) ps vs->FL (A1Ok w K (C.ms.map (plc c))) (ps.map λp=>A1.pl p.1 p.2) vs []
 | [],_,.nil=>⟨rfl,rfl⟩
 | p::ps,_,.cons (b:=v) (bs:=vs) h1 h2=>by
  obtain ⟨g,h3,h4⟩:=h1 [];rw [Aj2]at h3;exact⟨v,vs,[],[],rfl,rfl,⟨rfl,g,h3,h4⟩,ZP h2⟩
theorem Ade (hE:EnvOk P E) {N:Nat} {a:Act} (hi:Inv b S w c) (hs:Slots N S c w (Kok b S c) a) {o:Oper} {f:FuncId} {fo:Operand} {caps:List (Nat×Nat)} {args:Array Operand} {ts:Array TypeId} {d:Nat} {out:Out} (ho:o.op=.call ⟨.value fo,args,ts⟩) (hfo:Cj S fo=.s (.fv f caps))
  (hsz:args.size=ts.size) (h:(WY E d f caps ((args.toList.map (Cj S)).zip ts.toList)).ev S=some out):NT P o a w λv w'=>Did b S c w out v w':=by
 unfold WY at h;simp only [Af,AjQ]at h;obtain ⟨C0,hC0,⟨ps,C1⟩,hcaps,C,hreach,h⟩:=h;have hfv:=AD hs fo;rw [hfo]at hfv;obtain ⟨cvs,hfval,hcvs⟩:=hfv;have hall:=Aaf (Gd hs args.toList) (by simpa using hsz:(args.toList.map (Cj S)).length=ts.toList.length);obtain ⟨F1,hA0⟩:=Fz hi _ _ _ {} [] [] hall ⟨λ_ _=>⟨rfl,rfl⟩,λg hg=>(by cases hg),λk hk=>(by cases hk),trivial,λ_=>by simp,λp hp=>(by cases hp),Z,λ_ e he=>(by cases he)⟩ hC0;rw [Akm]at hA0;obtain ⟨hA1,_,hps1⟩:=Q0 caps _ hcvs hA0 hcaps;simp only at hA1 hps1 hreach h;obtain ⟨hA,⟨mr,hmr⟩,-,-,-,-⟩:=UU _ _ _ hA1 hreach;have hps:All2 (Aea c C) ps cvs:=hps1.mono λp v hp em=>by
  have:=hp (mr++em)
  rwa [<- AjY,<- hmr]at this
 unfold Adn at h;simp only [Af,AjQ]at h;obtain ⟨rows,hrows,h⟩:=h;split at h
 .rename_i hun;simp only [AjT,Aki,Aj0]at hun;obtain ⟨hun,hbw⟩:=hun;simp only [Af,AjQ]at h;obtain ⟨r,hr,lts,hlts,h⟩:=h;split at h
  .rename_i hro;split at h
   .rename_i vs rs hv hrs;split at h
    .rename_i hu;simp only [AjT,decide_eq_true_eq]at hu;obtain ⟨hu2,hlen⟩:=hu;simp only [Tr.ev,AjN]at h;subst h;obtain ⟨hgv2,F2,hR,hnd2,hF2⟩:=Ut hi (C.ms.map (·.1)) C.ms hA.ms hrows;obtain ⟨u1,u2,u3⟩:=AQ hun;have hFn:=CN hi hA.held hF2 hA.gv hgv2 hun (hA.nd u1) (hnd2 u2);obtain ⟨hFh,hFnd⟩:=hFn;have hgo:=Cz hA.gv hgv2;obtain ⟨⟨fn,hf,hname,hbody⟩,hcs⟩:=hE.ca f _ rows.1 S r hr;have hfl0:=hA.fl [] [];rw [Aj2,Aj2]at hfl0;have hfl:=hfl0.append (ZP (w:=w) (K:=KB b S c C.bw) hps);rw [Aj2]at hfl;have hmb1:(C.ms.map (plc c)).map (·.1)=(C.ms.map (·.1.1)).map c.mb:=by rw [AkL,AkL];rfl
     have hmsO:∀g,g∈(C.ms.map (plc c)).map (·.1)->∃k,S.ms k≠none/\c.mb k=g/\k∈C.ms.map (·.1.1):=by
      intro g hg;rw [hmb1]at hg;obtain ⟨k,hk,rfl⟩:=Aj9.1 hg;obtain ⟨p,hp,rfl⟩:=Aj9.1 hk;obtain ⟨n,hn,_⟩:=hA.ms p hp;exact⟨p.1.1,by rw [hn];simp,rfl,hk⟩
     have hmsN:((C.ms.map (plc c)).map (·.1)).Nodup:=by
      have h2:∀k,k∈C.ms.map (·.1.1)->S.ms k≠none:=by
       intro k hk;obtain ⟨p,hp,rfl⟩:=Aj9.1 hk;obtain ⟨n,hn,_⟩:=hA.ms p hp;rw [hn];simp
      rw [hmb1];have h3:=hA.un;revert h2 h3;generalize C.ms.map (·.1.1)=l;intro h2 h3
      induction l with
      | nil=>simp
      | cons k l ih=>
       obtain ⟨g1,g2⟩:=AkE.1 h3;rw [Akw,AkE];refine⟨λhm=>?_,ih (λk hk=>h2 k (AkT _ hk)) g2⟩;obtain ⟨k',hk',he⟩:=Aj9.1 hm;have hne:k'≠k:=by rintro rfl;exact g1 hk'
       exact hi.mm k' k hne (h2 k' (AkT _ hk')) (h2 k Z) he
     have hcall:=hcs w (args.toList.map a.eval++cvs) (KB b S c C.bw) (C.ms.map (plc c)) F1 F2 hfl (by
      have:=hR C.bw
      rwa [show(C.ms.map (·.1)).map (loc c.mb c.mo)=C.ms.map (plc c) by rw [AkL];rfl]at this) (by
      refine Aj8.2 ⟨hmsN,hFnd,?_⟩;rintro g hg g' hg' rfl;obtain ⟨k,hk,rfl,_⟩:=hmsO g hg;obtain ⟨k',hk',hgk⟩:=hFh _ hg';exact hi.mo k k' hk (hgo k' hk') hgk) (by
      intro g hg;rcases AjV.1 hg with hg | hg
      .obtain ⟨k,hk,rfl,hkm⟩:=hmsO g hg;have hO:AW S c (c.mb k):=.inl ⟨k,hk,rfl⟩;refine⟨(hi.fr _ hO).1,?_⟩;rintro (h | ⟨k',hk',how,hgk⟩ | ⟨k',hk',hms',hgk⟩)
       .exact h.2 hO
       .exact hi.mo k k' hk how hgk
       .have hne:k≠k':=by
         rintro rfl;have:=(hbw k hk').2;simp only [List.contains_eq_mem,decide_eq_false_iff_not]at this;exact this hkm
        exact hi.mm k k' hne hk hms' hgk
      .obtain ⟨k,hk,hgk⟩:=hFh g hg;have hO:AW S c g:=.inr ⟨k,hgo k hk,hgk⟩;refine⟨(hi.fr _ hO).1,?_⟩;rintro (h | ⟨k',hk',how,hgk'⟩ | ⟨k',hk',hms',hgk'⟩)
       .exact h.2 hO
       rotate_left
       .subst hgk';exact hi.mo k' k hms' (hgo k hk) hgk
       .have hne:k≠k':=by
         rintro rfl;have:=(hbw k hk').1;simp only [List.contains_eq_mem,decide_eq_false_iff_not]at this;exact this hk
        exact hi.oo k k' hne (hgo k hk) how g hgk hgk') ⟨(XY hi).1,λg hg=>.inl ((XY hi).2 g hg)⟩
     intro next Q hnext;have hargs:args.map a.eval++cvs.toArray=(args.toList.map a.eval++cvs).toArray:=by apply AlB;simp
     unfold Oper.wp;have hrun:(execOp a.eval o).run P w=.ok (.enter f (args.toList.map a.eval++cvs).toArray) w:=by
      rw [<- hargs]
      have hname' : ¬ fn.name = "runtime.NumGoroutine" := by simpa using hname
      have hbody':¬ fn.body=none:=by
       intro hb;rw [hb]at hbody;cases hbody
      simp [execOp,ho,resolve,Deferred.ofValue,hfval,invoke,callFunc,hf,hname',hbody']
     rw [hrun];refine Calls.mono hcall ?_;rintro e w' ⟨v,rfl,hp⟩;refine hnext v w' (AeM hi hA ?_ hlts hv hrs hu2 hlen hF2 hgv2 hun hp);simp only [Ak2,Aj0,AlG,List.isEmpty_iff]at hro;exact hro
    .simp [Tr.ev]at h
   .simp [Tr.ev]at h
  .simp [Tr.ev]at h
 .simp [Tr.ev]at h
theorem Nv (kc:List (Nat×Nat)):∀(us:List U) {us':List U},(Kj kc us).ev S=some us'->∀T:St,(∀p,p∈kc->∀i (x:Int),S.mc p.1 p.2=.v (.int i) x->T.mc p.1 p.2=.v (.int i) x)->T.ups us'=T.ups us
 | [],us',h,T,_=>by
  simp only [Kj,Tr.ev,AjN]at h;subst h;rfl
 | .mc k off l::us,us',h,T,hT=>by
  unfold Kj at h;split at h
  .rename_i hc;split at h
   .rename_i i y;simp only [Tr.ev]at h;split at h
    .rename_i i' x hx;split at h
     .rename_i hi;subst hi;simp only [Tr.ev]at h;split at h
      .rename_i hxy;obtain rfl:x=y:=of_decide_eq_true hxy;have h1:=hT (k,off) (by simpa using hc) i x hx;have h2:T.up (.mc k off (.v (.int i) x))=T:=St.ext' (λ_=>rfl) (λ_=>rfl) (λa b=>by
        show(if a=k then(if b=off then _ else T.mc a b)else T.mc a b)=T.mc a b;split
        .rename_i ha;split
         .rename_i hb;subst ha hb;exact h1.symm
         .rfl
        .rfl) (λ_=>rfl)
       show T.ups us'=(T.up _).ups us;rw [h2];exact Nv kc us h T hT
      .cases h
     .simp [Tr.ev]at h
    .simp [Tr.ev]at h
   .simp [Tr.ev]at h
  .rename_i hc;simp only [Af,AjQ,Tr.ev,AjN]at h;obtain ⟨r,hr,rfl⟩:=h;refine Nv kc us hr (T.up (.mc k off l)) λp hp i x hx=>?_
   show(if p.1=k then(if p.2=off then l else T.mc p.1 p.2)else T.mc p.1 p.2)=_;have hne:¬ (p.1=k/\p.2=off):=by
    rintro ⟨rfl,rfl⟩;exact hc (by simpa using hp)
   split
   .rename_i h1;rw [AjR λh2=>hne ⟨h1,h2⟩];exact hT p hp i x hx
   .exact hT p hp i x hx
 | .ow k o::us,us',h,T,hT=>by
  simp only [Kj,Af,AjQ,Tr.ev,AjN]at h;obtain ⟨r,hr,rfl⟩:=h;exact Nv kc us hr (T.up (.ow k o)) hT
 | .ms _ _::_,us',h,T,_=>by simp [Kj,Tr.ev]at h
theorem Ae5 (hE:EnvOk P E) {N:Nat} {a:Act} (hi:Inv b S w c) (hs:Slots N S c w (Kok b S c) a) {o:Oper} {f:FuncId} {fo:Operand} {caps:List (Nat×Nat)} {args:Array Operand} {ts:Array TypeId} {d:Nat} {out:Out} (ho:o.op=.call ⟨.value fo,args,ts⟩) (hfo:Cj S fo=.s (.fv f caps))
  (hsz:args.size=ts.size) (h:(VD E d f caps ((args.toList.map (Cj S)).zip ts.toList)).ev S=some out):NT P o a w λv w'=>Did b S c w out v w':=by
 unfold VD at h;rw [Af,AjQ]at h;obtain ⟨out0,h0,h1⟩:=h;have h2:=Ade hE hi hs ho hfo hsz h0;unfold Afc at h1;split at h1
 .rename_i p hp;simp only [Af,AjQ,Tr.ev,AjN]at h1;obtain ⟨us,hus,rfl⟩:=h1;have h3:(S.kp out0.ks).ups us=(S.kp out0.ks).ups out0.us:=Nv p.2 _ hus _ λq _ i x hx=>by rw [Di,hx];rfl
  intro next Q hn;refine h2 next Q λv w' hd=>hn v w' ?_
  unfold Did at hd ⊢;simp only [h3];exact hd
 .simp only [Tr.ev,AjN]at h1;subst h1;exact h2
end
end Go.V
namespace Go.V
open Go.RowKit
theorem Age (vs:List (Nat×Ae)) (t:Ty) (i:Nat):tuple vs [t] i=match find vs i with
 | some ⟨u,x⟩=>if h:u=t then some (h ▸ x)else none
 | none=>none:=rfl
theorem Agh (vs:List (Nat×Ae)) (t u:Ty) (ts:List Ty) (i:Nat):tuple vs (t::u::ts) i=match find vs i with
 | some ⟨u',x⟩=>if h:u'=t then match tuple vs (u::ts) (i+1)with
  | some y=>some (h ▸ x,y)
  | none=>none
  else none
 | none=>none:=rfl
theorem Yr (vs:List (Nat×Ae)):∀(ts:List Ty) (i:Nat) (x:(AR ts).D),tuple vs ts i=some x->∀j,j < ts.length->find vs (i+j)=(split ts x)[j]?:=by
 intro ts
 induction ts with
 | nil=>intro i x _ j hj;simp at hj
 | cons t ts ih=>
  intro i x h j hj;cases ts with
  | nil=>
   obtain rfl:j=0:=by simp at hj;exact hj
   rw [Age]at h;show find vs (i+0)=[(⟨t,x⟩:Ae)][0]?;split at h
   .rename_i u y hf;split at h
    .rename_i hu;subst hu;injection h with h
     subst h;exact hf
    .cases h
   .cases h
  | cons u ts=>
   rw [Agh]at h;split at h
   .rename_i u' y hf;split at h
    .rename_i hu;subst hu;split at h
     .rename_i z hz;injection h with h
      subst h;show find vs (i+j)=((⟨_,y⟩:Ae)::split (u::ts) z)[j]?;cases j with
      | zero=>exact hf
      | succ j=>
       have:=ih (i+1) z hz j (by simpa using hj);rw [AkU,<- this]
       congr 1;omega
     .cases h
    .cases h
   .cases h
structure Le (m m':Mt):Prop where
 ro:∀x,x∈m.ro->x∈m'.ro
 rm:∀x,x∈m.rm->x∈m'.rm
 nl:∀x,x∈m.nl->x∈m'.nl
 vs:∀x,x∈m.vs->x∈m'.vs
theorem Le.refl (m:Mt):Le m m:=⟨λ_ h=>h,λ_ h=>h,λ_ h=>h,λ_ h=>h⟩
theorem Le.trans {a b c:Mt} (h:Le a b) (k:Le b c):Le a c:=⟨λx hx=>k.ro x (h.ro x hx),λx hx=>k.rm x (h.rm x hx),λx hx=>k.nl x (h.nl x hx),λx hx=>k.vs x (h.vs x hx)⟩
theorem GC {l l':List (Nat×Nat)} {a b:Nat} (h:Ir l a b=some l'):(a,b)∈l'/\∀x,x∈l->x∈l':=by
 unfold Ir at h;split at h
 .rename_i c hc;split at h
  .rename_i hcb;subst hcb;injection h with h
   subst h;exact⟨AI hc,λ_ h=>h⟩
  .cases h
 .injection h with h
  subst h;exact⟨Z,λx hx=>by simp [hx]⟩
section
variable {holes:List Ty} {S S0:St} {c c0:Cc} {w:World} {K K0:Nat->Prop}
structure Fin (hs:List Ae) (m:Mt) (S S0:St) (c c0:Cc) (w:World) (K K0:Nat->Prop):Prop where
 k:∀g,g < w.heap.size->K g->K0 g
 vs:∀i x,(i,x)∈m.vs->hs[i]?=some x
 ro:∀ κ k,(κ,k)∈m.ro->S0.ow κ=S.ow k/\c0.hv κ=c.hv k
 nl:∀ κ,κ∈m.nl->(∃e r,S0.ow κ=some ⟨e,r,[]⟩)/\c0.hv κ=.slice none 0 0
 rm:∀ κ k,(κ,k)∈m.rm->(∀n,S.ms k=some n->S0.ms κ=some n)/\c0.mb κ=c.mb k/\c0.mo κ=c.mo k
theorem Wy {hs:List Ae} {mf:Mt} {m m':Mt} {t:TL} {l:Leaf} (h:t.mt holes m l=some m'):Le m m'/\(Le m' mf->Fin hs mf S S0 c c0 w K K0->∀v,LeafOk S c w K l v->LeafOk S0 c0 w K0 (t.inj hs) v):=by
 unfold TL.mt at h;split at h
 .rename_i i t x;injection h with h
  subst h;refine⟨⟨λ_ h=>h,λ_ h=>h,λ_ h=>h,λx hx=>by simp [hx]⟩,λhl hf v hv=>?_⟩;have:=hf.vs i ⟨t,x⟩ (hl.vs _ Z);simp only [TL.inj,this];exact LeafOk.mono hf.k hv
 .rename_i i;split at h
  .rename_i e r _;injection h with h
   subst h;refine⟨⟨λ_ h=>h,λ_ h=>h,λ_ h=>h,λx hx=>by simp [hx]⟩,λhl hf v hv=>?_⟩;have:=hf.vs i ⟨.sl false e r,[]⟩ (hl.vs _ Z);simp only [TL.inj,this];obtain rfl:v=.slice none 0 0:=hv;show Rp w K0 (.sl false e r) [] _ _;rw [Rp];exact⟨rfl,none,0,[],rfl,Akk _,⟨rfl,rfl⟩,.inl rfl⟩
  .cases h
 .rename_i κ k;split at h
  .rename_i l hl;injection h with h
   subst h;obtain ⟨h1,h2⟩:=GC hl;refine⟨⟨h2,λ_ h=>h,λ_ h=>h,λ_ h=>h⟩,λhle hf v hv=>?_⟩;obtain ⟨h3,h4⟩:=hf.ro κ k (hle.ro _ h1);obtain ⟨o,e,r,ys,hd,q1,q2,q3,q4⟩:=hv;exact⟨o,e,r,ys,hd,by rw [h3];exact q1,q2,by rw [h4];exact q3,q4⟩
  .cases h
 .rename_i κ;injection h with h
  subst h;refine⟨⟨λ_ h=>h,λ_ h=>h,λx hx=>by simp [hx],λ_ h=>h⟩,λhle hf v hv=>?_⟩;obtain ⟨⟨e,r,h3⟩,h4⟩:=hf.nl κ (hle.nl _ Z);obtain rfl:v=.slice none 0 0:=hv;exact⟨_,e,r,[],.slice none 0 0,h3,rfl,by rw [h4];rfl,rfl⟩
 .rename_i κ i f k n g;split at h
  .rename_i hfg;subst hfg;split at h
   .rename_i l hl;injection h with h
    subst h;obtain ⟨h1,h2⟩:=GC hl;refine⟨⟨h2,λ_ h=>h,λ_ h=>h,λx hx=>by simp [hx]⟩,λhle hf v hv=>?_⟩;obtain ⟨h3,h4⟩:=hf.ro κ k (hle.ro _ h1);have:=hf.vs i ⟨.int .i64,(n:Int)⟩ (hle.vs _ Z);obtain ⟨o,e,r,ys,hd,q1,q2,q3,q4⟩:=hv;simp only [TL.inj,this,N4,AjO];exact⟨o,e,r,ys,hd,by rw [h3];exact q1,q2,by rw [h4];exact q3,q4⟩
   .cases h
  .cases h
 .rename_i κ i j k n g;split at h
  .rename_i l hl;injection h with h
   subst h;obtain ⟨h1,h2⟩:=GC hl;refine⟨⟨h2,λ_ h=>h,λ_ h=>h,λx hx=>by simp [hx]⟩,λhle hf v hv=>?_⟩;obtain ⟨h3,h4⟩:=hf.ro κ k (hle.ro _ h1);have t1:=hf.vs i ⟨.int .i64,(n:Int)⟩ (hle.vs _ Z);have t2:=hf.vs j ⟨.int .i64,(g:Int)⟩ (hle.vs _ Z);obtain ⟨o,e,r,ys,hd,q1,q2,q3,q4⟩:=hv;simp only [TL.inj,t1,t2,N4,AjO];exact⟨o,e,r,ys,hd,by rw [h3];exact q1,q2,by rw [h4];exact q3,q4⟩
  .cases h
 .rename_i κ i f x y k n g a b;split at h
  .rename_i hfg;subst hfg;split at h
   .rename_i l hl;injection h with h
    subst h;obtain ⟨h1,h2⟩:=GC hl;refine⟨⟨h2,λ_ h=>h,λ_ h=>h,λx hx=>by simp [hx]⟩,λhle hf v hv=>?_⟩;obtain ⟨h3,h4⟩:=hf.ro κ k (hle.ro _ h1);have t1:=hf.vs i ⟨.int .i64,(n:Int)⟩ (hle.vs _ Z);have t2:=hf.vs x ⟨.int .i64,(a:Int)⟩ (hle.vs _ Z);have t3:=hf.vs y ⟨.int .i64,(b:Int)⟩ (hle.vs _ Z);obtain ⟨o,e,r,ys,hd,q1,q2,q3,q4⟩:=hv;simp only [TL.inj,t1,t2,t3,N4,AjO];exact⟨o,e,r,ys,hd,by rw [h3];exact q1,q2,by rw [h4];exact q3,q4⟩
   .cases h
  .cases h
 .injection h with h
  subst h;exact⟨Le.refl _,λ_ _ v hv=>hv⟩
 .injection h with h
  subst h;exact⟨Le.refl _,λ_ _ v hv=>hv⟩
 .rename_i i;split at h
  .rename_i t _;injection h with h
   subst h;refine⟨⟨λ_ h=>h,λ_ h=>h,λ_ h=>h,λx hx=>by simp [hx]⟩,λhl hf v hv=>?_⟩;have:=hf.vs i ⟨.pt t,none⟩ (hl.vs _ Z);simp only [TL.inj,this];obtain rfl:v=.pointer none:=hv;show Rp w K0 (.pt t) none _ _;simp only [Rp];exact⟨trivial,trivial⟩
  .cases h
 .rename_i κ off k off';split at h
  .rename_i ho;subst ho;split at h
   .rename_i l hl;injection h with h
    subst h;obtain ⟨h1,h2⟩:=GC hl;refine⟨⟨λ_ h=>h,h2,λ_ h=>h,λ_ h=>h⟩,λhle hf v hv=>?_⟩;obtain ⟨h3,h4⟩:=hf.rm κ k (hle.rm _ h1);obtain ⟨n,hn,rfl⟩:=hv;exact⟨n,h3 n hn,by rw [h4.1,h4.2]⟩
   .cases h
  .cases h
 .injection h with h
  subst h;exact⟨Le.refl _,λ_ _ v _=>trivial⟩
 .rename_i κ k;split at h
  .rename_i l hl;injection h with h
   subst h;obtain ⟨h1,h2⟩:=GC hl;refine⟨⟨λ_ h=>h,h2,λ_ h=>h,λ_ h=>h⟩,λhle hf v hv=>?_⟩;obtain ⟨h3,h4⟩:=hf.rm κ k (hle.rm _ h1);obtain ⟨hn,rfl⟩:=hv;exact⟨h3 0 hn,by rw [h4.1]⟩
  .cases h
 .injection h with h
  subst h;exact⟨⟨λ_ h=>h,λ_ h=>h,λ_ h=>h,λx hx=>by simp [hx]⟩,λ_ _ v hv=>hv.elim⟩
 .cases h
theorem ZO {hs:List Ae} {mf:Mt}:∀(ts:List TL) (ls:List Leaf) {m m':Mt},TL.mts holes m ts ls=some m'->Le m m'/\(Le m' mf->Fin hs mf S S0 c c0 w K K0->∀vs,All2 (LeafOk S c w K) ls vs->All2 (LeafOk S0 c0 w K0) (ts.map (TL.inj hs)) vs)
 | [],[],m,m',h=>by
  rw [TL.mts]at h;injection h with h
  subst h;exact⟨Le.refl _,λ_ _ vs hv=>by cases hv;exact .nil⟩
 | t::ts,l::ls,m,m',h=>by
  rw [TL.mts]at h;split at h
  .rename_i m1 h1;obtain ⟨q1,q2⟩:=Wy (hs:=hs) (mf:=mf) (S:=S) (S0:=S0) (c:=c) (c0:=c0) (w:=w) (K:=K) (K0:=K0) h1;obtain ⟨q3,q4⟩:=ZO ts ls h;refine⟨q1.trans q3,λhle hf vs hv=>?_⟩;cases hv with
   | cons a1 a2=>exact .cons (q2 (q3.trans hle) hf _ a1) (q4 hle hf _ a2)
  .cases h
 | [],_::_,_,_,h=>by simp [TL.mts]at h
 | _::_,[],_,_,h=>by simp [TL.mts]at h
theorem Ag6 {hs:List Ae} {mf:Mt} {m m':Mt} {t:TS} {x:SV} (h:t.mt holes m x=some m'):Le m m'/\(Le m' mf->Fin hs mf S S0 c c0 w K K0->∀v,AO S c w K x v->AO S0 c0 w K0 (.s (t.inj hs)) v):=by
 unfold TS.mt at h;split at h
 .obtain ⟨q1,q2⟩:=Wy (hs:=hs) (mf:=mf) (S:=S) (S0:=S0) (c:=c) (c0:=c0) (w:=w) (K:=K) (K0:=K0) h;exact⟨q1,λhle hf v hv=>q2 hle hf v hv⟩
 .obtain ⟨q1,q2⟩:=ZO (hs:=hs) (mf:=mf) (S:=S) (S0:=S0) (c:=c) (c0:=c0) (w:=w) (K:=K) (K0:=K0) _ _ h;refine⟨q1,λhle hf v hv=>?_⟩;obtain ⟨vs,rfl,hv⟩:=hv;exact⟨vs,rfl,q2 hle hf vs hv⟩
 .rename_i κ off k off';split at h
  .rename_i ho;subst ho;split at h
   .rename_i l hl;injection h with h
    subst h;obtain ⟨h1,h2⟩:=GC hl;refine⟨⟨λ_ h=>h,h2,λ_ h=>h,λ_ h=>h⟩,λhle hf v hv=>?_⟩;obtain ⟨h3,h4⟩:=hf.rm κ k (hle.rm _ h1);obtain ⟨n,hn,rfl⟩:=hv;exact⟨n,h3 n hn,by rw [h4.1,h4.2]⟩
   .cases h
  .cases h
 .rename_i f cs f' cs';split at h
  .rename_i hq;obtain ⟨rfl,rfl,hall⟩:=hq;injection h with h
   subst h;refine⟨Le.refl _,λhle hf v hv=>?_⟩;obtain ⟨vs,rfl,hvs⟩:=hv;refine⟨vs,rfl,?_⟩
   induction hvs with
   | nil=>exact .nil
   | @cons p v cs vs h1 _ ih=>
    simp only [Ak8,AjT,beq_iff_eq]at hall;obtain ⟨n,hn,rfl⟩:=h1;obtain ⟨h3,h4⟩:=hf.rm p.1 p.1 (hle.rm _ (AI hall.1));exact .cons ⟨n,h3 n hn,by rw [h4.1,h4.2]⟩ (ih hall.2)
  .cases h
 .rename_i i off u x off';split at h
  .rename_i ho;subst ho;injection h with h
   subst h;refine⟨⟨λ_ h=>h,λ_ h=>h,λ_ h=>h,λx hx=>by simp [hx]⟩,λhle hf v hv=>?_⟩;have:=hf.vs i ⟨u,x⟩ (hle.vs _ Z);simp only [TS.inj,this];obtain ⟨a,vs,q0,q1,q2,q3,q4⟩:=hv;exact⟨a,vs,q0,Rp.mono hf.k _ _ q1,hf.k _ q3 q2,q3,q4⟩
  .cases h
 .cases h
theorem Ss {hs:List Ae} {mf:Mt}:∀(l:List (Nat×TS)) {m m':Mt},MF holes S l m=some m'->Le m m'/\(Le m' mf->Fin hs mf S S0 c c0 w K K0->∀i t,(i,t)∈l->∀v,AO S c w K (S.sl i) v->AO S0 c0 w K0 (.s (t.inj hs)) v)
 | [],m,m',h=>by
  rw [MF]at h;injection h with h
  subst h;exact⟨Le.refl _,λ_ _ i t hm=>by cases hm⟩
 | (i,t)::l,m,m',h=>by
  rw [MF]at h;split at h
  .rename_i m1 h1;obtain ⟨q1,q2⟩:=Ag6 (hs:=hs) (mf:=mf) (S:=S) (S0:=S0) (c:=c) (c0:=c0) (w:=w) (K:=K) (K0:=K0) h1;obtain ⟨q3,q4⟩:=Ss l h;refine⟨q1.trans q3,λhle hf j u hm v hv=>?_⟩;rcases Aj5.1 hm with hm | hm
   .injection hm with e1 e2
    subst e1 e2;exact q2 (q3.trans hle) hf v hv
   .exact q4 hle hf j u hm v hv
  .cases h
theorem X7 {hs:List Ae} {mf:Mt} (k:Nat):∀(ts:List TL) (i:Nat) {m m':Mt},Ny holes S k ts i m=some m'->
  Le m m'/\(Le m' mf->Fin hs mf S S0 c c0 w K K0->∀j t,ts[j]?=some t->∀v,LeafOk S c w K (S.mc k (i+j)) v->LeafOk S0 c0 w K0 (t.inj hs) v)
 | [],i,m,m',h=>by
  rw [Ny]at h;injection h with h
  subst h;exact⟨Le.refl _,λ_ _ j t hm=>by simp at hm⟩
 | t::ts,i,m,m',h=>by
  rw [Ny]at h;split at h
  .rename_i m1 h1;obtain ⟨q1,q2⟩:=Wy (hs:=hs) (mf:=mf) (S:=S) (S0:=S0) (c:=c) (c0:=c0) (w:=w) (K:=K) (K0:=K0) h1;obtain ⟨q3,q4⟩:=X7 k ts (i+1) h;refine⟨q1.trans q3,λhle hf j u hm v hv=>?_⟩;cases j with
   | zero=>
    simp only [Ak0,AjN]at hm;subst hm;exact q2 (q3.trans hle) hf v hv
   | succ j=>exact q4 hle hf j u (by simpa using hm) v (by rwa [(O:i+(j+1)=i+1+j)]at hv)
  .cases h
theorem AfX {k i:Nat} {m m':Mt} (h:Ny holes S k [.md i] 0 m=some m'):∃xs,S.mc k 0=.md xs/\(i,(⟨.mp,xs⟩:Ae))∈m'.vs:=by
 simp only [Ny]at h;split at h
 .rename_i m1 h1;injection h with h
  subst h;generalize hl:S.mc k 0=l at h1;cases l with
  | md xs=>
   injection h1 with h1
   subst h1;exact⟨xs,rfl,Z⟩
  | _=>cases h1
 .cases h
theorem OS {hs:List Ae} {mf:Mt}:∀(l:List (Nat×List TL)) {m m':Mt},OK holes S l m=some m'->
  Le m m'/\(Le m' mf->∀ κ row,(κ,row)∈l->∃k,(κ,k)∈mf.rm/\S.ms k=some (NB row)/\(∀i,row=[.md i]->∃xs,S.mc k 0=.md xs/\(i,(⟨.mp,xs⟩:Ae))∈mf.vs)/\(Fin hs mf S S0 c c0 w K K0->∀j t,row[j]?=some t->∀v,LeafOk S c w K (S.mc k j) v->LeafOk S0 c0 w K0 (t.inj hs) v))
 | [],m,m',h=>by
  rw [OK]at h;injection h with h
  subst h;exact⟨Le.refl _,λ_ i t hm=>by cases hm⟩
 | (κ,row)::l,m,m',h=>by
  rw [OK]at h;split at h
  .rename_i k hk;split at h
   .rename_i hn;split at h
    .rename_i m1 h1;obtain ⟨q1,q2⟩:=X7 (hs:=hs) (mf:=mf) (S:=S) (S0:=S0) (c:=c) (c0:=c0) (w:=w) (K:=K) (K0:=K0) k row 0 h1;obtain ⟨q3,q4⟩:=OS l h;refine⟨q1.trans q3,λhle κ' row' hm=>?_⟩;rcases Aj5.1 hm with hm | hm
     .injection hm with e1 e2
      subst e1 e2;exact⟨k,(q1.trans (q3.trans hle)).rm _ (AI hk),hn,(λi hi=>by
       subst hi;obtain ⟨xs,e1,e2⟩:=AfX h1;exact⟨xs,e1,(q3.trans hle).vs _ e2⟩),λhf j t ht v hv=>q2 (q3.trans hle) hf j t ht v (by rwa [Ake])⟩
     .exact q4 hle κ' row' hm
    .cases h
   .cases h
  .cases h
theorem Pj:∀(l:List (Nat×Nat)) {m m':Mt},MV holes S l m=some m'->
  Le m m'/\m'.ro=m.ro/\m'.nl=m.nl/\∀ κ h,(κ,h)∈l->(∃k o,(κ,k)∈m.ro/\S.ow k=some o/\(h,(⟨.sl true o.e o.r,o.xs⟩:Ae))∈m'.vs)\/(κ∈m.nl/\∃e r,(h,(⟨.sl true e r,[]⟩:Ae))∈m'.vs)
 | [],m,m',h=>by
  rw [MV]at h;injection h with h
  subst h;exact⟨Le.refl _,rfl,rfl,λ_ _ hm=>by cases hm⟩
 | (κ,hh)::l,m,m',h=>by
  rw [MV]at h;have add:∀(x:Ae),Le m { m with vs:=(hh,x)::m.vs }:=λx=>⟨λ_ h=>h,λ_ h=>h,λ_ h=>h,λy hy=>by simp [hy]⟩
  split at h
  .rename_i k hk;split at h
   .rename_i o ho;obtain ⟨q1,q2,q3,q4⟩:=Pj l h;refine⟨(add _).trans q1,q2,q3,λκ' h' hm=>?_⟩;rcases Aj5.1 hm with hm | hm
    .injection hm with e1 e2
     subst e1 e2;exact .inl ⟨k,o,AI hk,ho,q1.vs _ Z⟩
    .exact q4 κ' h' hm
   .cases h
  .split at h
   .rename_i hc;split at h
    .rename_i e r _;obtain ⟨q1,q2,q3,q4⟩:=Pj l h;refine⟨(add _).trans q1,q2,q3,λκ' h' hm=>?_⟩;rcases Aj5.1 hm with hm | hm
     .injection hm with e1 e2
      subst e1 e2;exact .inr ⟨by simpa using hc,e,r,q1.vs _ Z⟩
     .exact q4 κ' h' hm
    .cases h
   .cases h
end
theorem SX:∀{l:List (Nat×Nat)} {a b k:Nat},(l.map (·.2)).Nodup->(a,k)∈l->(b,k)∈l->a=b
 | [],_,_,_,_,h,_=>by cases h
 | (i,j)::l,a,b,k,hn,h1,h2=>by
  rw [Akw,AkE]at hn;rcases Aj5.1 h1 with e1 | h1'
  .injection e1 with e1 e1'
   subst e1 e1';rcases Aj5.1 h2 with e2 | h2'
   .injection e2 with e2 _;exact e2.symm
   .exact absurd (Aj9.2 ⟨(b,k),h2',rfl⟩) hn.1
  .rcases Aj5.1 h2 with e2 | h2'
   .injection e2 with e2 e2'
    subst e2 e2';exact absurd (Aj9.2 ⟨(a,k),h1',rfl⟩) hn.1
   .exact SX hn.2 h1' h2'
theorem Tpl.ok0 {b:Base} {N:Nat} {S:St} {a:Act} {w:World} (t:Tpl) {x:t.D} (h:t.prj0 S=some x) (hs:Sim b N S a w):Sim b N (t.inj x) a w:=by
 unfold Tpl.prj0 at h;split at h
 .rename_i m hm;split at h
  .rename_i hfine;simp only [Mt.fine,AjT,Aki,decide_eq_true_eq,Aj0,beq_iff_eq]at hfine;obtain ⟨⟨⟨⟨⟨⟨⟨⟨⟨f1,f2⟩,f3⟩,f4⟩,f5⟩,f6⟩,f7⟩,f8⟩,f9⟩,f10⟩:=hfine;obtain ⟨c,hi,hsl,hfx⟩:=hs;unfold Tpl.mt at hm;split at hm
   .rename_i m1 hm1;split at hm
    .rename_i m2 hm2;obtain ⟨w1,w2,w3,w4⟩:=Pj t.owns hm;generalize hhs:split t.holes x=hs;have hinj:t.inj x=t.injH hs:=by rw [<- hhs];rfl
     rw [hinj];have hvs:∀i y,(i,y)∈m.vs->hs[i]?=some y:=by
      intro i y hy;have:=Yr m.vs t.holes 0 x h i (f2 _ hy);rw [Ake,hhs]at this;rw [<- this];exact De (BT f1) hy
     let c0:Cc:=⟨c.mb,c.mo,λκ=>match find m.ro κ with | some k=>c.hv k | none=>.slice none 0 0,λκ=>match find m.ro κ with | some k=>c.F k | none=>[]⟩
     have how:∀ κ,(t.injH hs).ow κ≠none->(∃k o,find m.ro κ=some k/\S.ow k=some o/\(t.injH hs).ow κ=some o)\/(find m.ro κ=none/\∃e r,(t.injH hs).ow κ=some ⟨e,r,[]⟩):=by
      intro κ hκ;simp only [Tpl.injH]at hκ ⊢;split at hκ
      .rename_i hh hfo;rcases w4 κ hh (AI hfo)with⟨k,o,k1,k2,k3⟩ | ⟨k1,e,r,k3⟩
       .rw [<- w2]at k1;refine .inl ⟨k,o,De (BT f3) k1,k2,?_⟩;rw [hvs _ _ k3];rfl
       .rw [<- w3]at k1;have:=(f7 κ k1).1;refine .inr ⟨Ie (by simpa using this),e,r,?_⟩;rw [hvs _ _ k3];rfl
      .exact absurd rfl hκ
     have hroO:∀ κ k,(κ,k)∈m.ro->(t.injH hs).ow κ=S.ow k/\S.ow k≠none:=by
      intro κ k hk;have h8:=f8 _ hk;obtain ⟨hh,hho⟩:=AlF.1 h8;rcases w4 κ hh (AI hho)with⟨k',o,k1,k2,k3⟩ | ⟨k1,e,r,k3⟩
      .rw [<- w2]at k1;have e1:=De (BT f3) k1;have e2:=De (BT f3) hk;rw [e1]at e2;injection e2 with e2
       subst e2;refine⟨?_,by rw [k2];simp⟩;simp only [Tpl.injH,hho,hvs _ _ k3,k2];rfl
      .rw [<- w3]at k1;have:=(f7 κ k1).1;simp only [List.contains_eq_mem,decide_eq_false_iff_not]at this;exact absurd (Aj9.2 ⟨(κ,k),hk,rfl⟩) this
     have hrm:∀ κ,(t.injH hs).ms κ≠none->∃row,find t.mems κ=some row/\(t.injH hs).ms κ=some (NB row):=by
      intro κ hκ;simp only [Tpl.injH]at hκ ⊢;cases hfm:find t.mems κ with
      | none=>rw [hfm]at hκ;exact absurd rfl hκ
      | some row=>exact⟨row,rfl,rfl⟩
     have hrmf:∀ κ k,(κ,k)∈m.rm->find m.rm κ=some k:=λκ k hk=>De (BT f5) hk
     have hcmb:∀ κ k,find m.rm κ=some k->c0.mb κ=c.mb k:=λκ k hk=>by show c.mb κ=_;rw [show κ=k from f10 _ (AI hk)]
     have hcmo:∀ κ k,find m.rm κ=some k->c0.mo κ=c.mo k:=λκ k hk=>by show c.mo κ=_;rw [show κ=k from f10 _ (AI hk)]
     have hchv:∀ κ k,find m.ro κ=some k->c0.hv κ=c.hv k/\c0.F κ=c.F k:=λκ k hk=>⟨by show(match find m.ro κ with | some k=>c.hv k | none=>.slice none 0 0)=_;rw [hk],by show(match find m.ro κ with | some k=>c.F k | none=>[])=_;rw [hk]⟩
     have hcno:∀ κ,find m.ro κ=none->c0.hv κ=.slice none 0 0/\c0.F κ=[]:=λκ hk=>⟨by show(match find m.ro κ with | some k=>c.hv k | none=>.slice none 0 0)=_;rw [hk],by show(match find m.ro κ with | some k=>c.F k | none=>[])=_;rw [hk]⟩
     have hmem:∀ κ row,find t.mems κ=some row->∃k,find m.rm κ=some k/\S.ms k=some (NB row):=by
      intro κ row hrow;obtain ⟨_,q2⟩:=OS (hs:=hs) (mf:=m) (S:=S) (S0:=S) (c:=c) (c0:=c) (w:=w) (K:=Kok b S c) (K0:=Kok b S c) t.mems hm2;obtain ⟨k,k1,k2,_⟩:=q2 w1 κ row (AI hrow);exact⟨k,hrmf κ k k1,k2⟩
     have hK:∀g,g < w.heap.size->Kok b S c g->Kok b (t.injH hs) c0 g:=by
      rintro g _ ⟨h1,h2⟩;refine⟨h1,?_⟩;rintro (⟨κ,hκ,rfl⟩ | ⟨κ,hκ,hg⟩)
      .obtain ⟨row,hrow,_⟩:=hrm κ hκ;obtain ⟨k,hk,hn⟩:=hmem κ row hrow;exact h2 (.inl ⟨k,by rw [hn];simp,(hcmb κ k hk).symm⟩)
      .rcases how κ hκ with⟨k,o,k1,k2,k3⟩ | ⟨k1,_⟩
       .rw [(hchv κ k k1).2]at hg;exact h2 (.inr ⟨k,by rw [k2];simp,hg⟩)
       .rw [(hcno κ k1).2]at hg;cases hg
     have hfin:Fin hs m S (t.injH hs) c c0 w (Kok b S c) (Kok b (t.injH hs) c0):=by
      refine⟨hK,hvs,?_,?_,?_⟩
      .intro κ k hk;exact⟨(hroO κ k hk).1,(hchv κ k (De (BT f3) hk)).1⟩
      .intro κ hκ;have h7:=f7 κ hκ;have hno:find m.ro κ=none:=Ie (by simpa using h7.1);refine⟨?_,(hcno κ hno).1⟩;obtain ⟨hh,hho⟩:=AlF.1 h7.2;rcases w4 κ hh (AI hho)with⟨k',o,k1,k2,k3⟩ | ⟨k1,e,r,k3⟩
       .rw [<- w2]at k1;rw [De (BT f3) k1]at hno;cases hno
       .refine⟨e,r,?_⟩;simp only [Tpl.injH,hho,hvs _ _ k3];rfl
      .intro κ k hk;refine⟨λn hn=>?_,hcmb κ k (hrmf κ k hk),hcmo κ k (hrmf κ k hk)⟩;obtain ⟨row,hrow⟩:=AlF.1 (f9 _ hk);obtain ⟨k',k1,k2⟩:=hmem κ row hrow;rw [hrmf κ k hk]at k1;injection k1 with k1
       subst k1;rw [<- hn,k2];simp only [Tpl.injH,hrow];rfl
     obtain ⟨l1,g1⟩:=Ss (hs:=hs) (mf:=m) (S:=S) (S0:=t.injH hs) (c:=c) (c0:=c0) (w:=w) (K:=Kok b S c) (K0:=Kok b (t.injH hs) c0) t.slots hm1;obtain ⟨l2,g2⟩:=OS (hs:=hs) (mf:=m) (S:=S) (S0:=t.injH hs) (c:=c) (c0:=c0) (w:=w) (K:=Kok b S c) (K0:=Kok b (t.injH hs) c0) t.mems hm2;have hinjr:∀ κ κ' k,find m.ro κ=some k->find m.ro κ'=some k->κ=κ':=by
      intro κ κ' k h1 h2;exact SX (BT f4) (AI h1) (AI h2)
     have hinjm:∀ κ κ' k,find m.rm κ=some k->find m.rm κ'=some k->κ=κ':=by
      intro κ κ' k h1 h2;exact SX (BT f6) (AI h1) (AI h2)
     have hmk:∀ κ n,(t.injH hs).ms κ=some n->∃row k,find t.mems κ=some row/\n=NB row/\find m.rm κ=some k/\S.ms k=some n:=by
      intro κ n hn;obtain ⟨row,h1,h2⟩:=hrm κ (by rw [hn];simp);obtain ⟨k,k1,k2⟩:=hmem κ row h1;rw [hn]at h2;injection h2 with h2
      exact⟨row,k,h1,h2,k1,by rw [k2,h2]⟩
     refine⟨c0,⟨?_,?_,?_,?_,?_,?_,?_,hi.fix,hi.os,hi.tape,hi.output,hi.size,hi.an,?_⟩,⟨?_,hsl.n,hsl.d⟩,hfx⟩
     .intro κ n hn hn0;obtain ⟨row,k,h1,rfl,h2,h3⟩:=hmk κ n hn;obtain ⟨cs,e,fr,p1,p2,p3,p4,p5⟩:=hi.ms k _ h3 hn0;rw [hcmb κ k h2,hcmo κ k h2];refine⟨cs,e,fr,p1,p2,p3,λi v hlt hv=>?_,p5⟩;obtain ⟨k',k1,_,_,k3⟩:=g2 w1 κ row (AI h1);have:k'=k:=by
       have:=hrmf κ k' k1;rw [h2]at this;injection this with this;exact this.symm
      subst this;by_cases hlr:i < row.length
      rotate_left
      .have:(t.injH hs).mc κ i=.no:=by simp only [Tpl.injH,h1,Aka (O:row.length<=i)]
       rw [this];trivial
      have hrow:row[i]?=some row[i]:=AjP hlr;have hmc:(t.injH hs).mc κ i=(row[i]).inj hs:=by simp only [Tpl.injH,h1,hrow]
      rw [hmc];exact k3 hfin i _ hrow v (p4 i v hlt hv)
     .intro κ o ho;rcases how κ (by rw [ho];simp)with⟨k,o',k1,k2,k3⟩ | ⟨k1,e,r,k3⟩
      .rw [ho]at k3;injection k3 with k3
       subst k3;rw [(hchv κ k k1).1,(hchv κ k k1).2];exact Rp.mono hK _ _ (hi.ow k o k2)
      .rw [ho]at k3;injection k3 with k3
       subst k3;rw [(hcno κ k1).1,(hcno κ k1).2];simp only [Rp];exact .inl ⟨trivial,trivial,trivial⟩
     .intro κ hκ;rcases how κ hκ with⟨k,o',k1,k2,k3⟩ | ⟨k1,_⟩
      .rw [(hchv κ k k1).2];exact hi.nd k (by rw [k2];simp)
      .rw [(hcno κ k1).2];simp
     .intro κ κ' hne h1 h2 g hg;rcases how κ h1 with⟨k,o1,k1,k2,k3⟩ | ⟨k1,_⟩
      .rw [(hchv κ k k1).2]at hg;rcases how κ' h2 with⟨k',o2,q1,q2,q3⟩ | ⟨q1,_⟩
       .rw [(hchv κ' k' q1).2];have hne':k≠k':=by rintro rfl;exact hne (hinjr κ κ' k k1 q1)
        exact hi.oo k k' hne' (by rw [k2];simp) (by rw [q2];simp) g hg
       .rw [(hcno κ' q1).2];simp
      .rw [(hcno κ k1).2]at hg;cases hg
     .intro κ κ' hne h1 h2;obtain ⟨n,hn⟩:=Ale.1 h1;obtain ⟨n',hn'⟩:=Ale.1 h2;obtain ⟨_,k,_,_,a1,a2⟩:=hmk κ n hn;obtain ⟨_,k',_,_,b1,b2⟩:=hmk κ' n' hn';rw [hcmb κ k a1,hcmb κ' k' b1];have hne':k≠k':=by rintro rfl;exact hne (hinjm κ κ' k a1 b1)
      exact hi.mm k k' hne' (by rw [a2];simp) (by rw [b2];simp)
     .intro κ κ' h1 h2;obtain ⟨n,hn⟩:=Ale.1 h1;obtain ⟨_,k,_,_,a1,a2⟩:=hmk κ n hn;rw [hcmb κ k a1];rcases how κ' h2 with⟨k',o2,q1,q2,q3⟩ | ⟨q1,_⟩
      .rw [(hchv κ' k' q1).2];exact hi.mo k k' (by rw [a2];simp) (by rw [q2];simp)
      .rw [(hcno κ' q1).2];simp
     .rintro g (⟨κ,hκ,rfl⟩ | ⟨κ,hκ,hg⟩)
      .obtain ⟨n,hn⟩:=Ale.1 hκ;obtain ⟨_,k,_,_,a1,a2⟩:=hmk κ n hn;rw [hcmb κ k a1];exact hi.fr _ (.inl ⟨k,by rw [a2];simp,rfl⟩)
      .rcases how κ hκ with⟨k,o,k1,k2,k3⟩ | ⟨k1,_⟩
       .rw [(hchv κ k k1).2]at hg;exact hi.fr g (.inr ⟨k,by rw [k2];simp,hg⟩)
       .rw [(hcno κ k1).2]at hg;cases hg
     .intro κ hn;obtain ⟨row,k,h1,h1',h2,h3⟩:=hmk κ 0 hn;obtain ⟨k',k1,_,k4,_⟩:=g2 w1 κ row (AI h1);have:k'=k:=by
       have:=hrmf κ k' k1;rw [h2]at this;injection this with this;exact this.symm
      subst this;obtain ⟨i,rfl⟩:∃i,row=[.md i]:=by
       unfold NB at h1';split at h1'
       .exact⟨_,rfl⟩
       .cases h1'
       .rename_i hne;exact absurd (Akb h1'.symm) hne
      obtain ⟨xs,e1,e2⟩:=k4 i rfl;obtain ⟨xs',e3,e4⟩:=hi.mp k' h3;rw [e1]at e3;injection e3 with e3
      subst e3;refine⟨xs,?_,by rw [hcmb κ k' h2];exact e4⟩;have:(t.injH hs).mc κ 0=(TL.md i).inj hs:=by simp only [Tpl.injH,h1];rfl
      rw [this];simp only [TL.inj,hvs _ _ e2]
     .intro i;have:=g1 (l2.trans w1) hfin;cases hfs:find t.slots i with
      | none=>
       have:(t.injH hs).sl i=.no:=by simp only [Tpl.injH,hfs]
       rw [this];trivial
      | some s=>
       have h1:(t.injH hs).sl i=.s (s.inj hs):=by simp only [Tpl.injH,hfs]
       rw [h1];exact this i s (AI hfs) _ (hsl.ok i)
    .cases hm
   .cases hm
  .cases h
 .cases h
theorem Inv.setLeaf {b:Base} {S:St} {w:World} {c:Cc} (h:Inv b S w c) (k off:Nat) (l:Leaf) (hk0:S.ms k≠some 0) (hl:∀cs e fr v,S.ms k≠none->w.heap[c.mb k]?=some (.cells cs e fr)->cs[c.mo k+off]?=some v->LeafOk S c w (Kok b S c) l v):Inv b (S.up (.mc k off l)) w c:=by
 have ho:(S.up (.mc k off l)).ow=S.ow:=rfl;have hm:(S.up (.mc k off l)).ms=S.ms:=rfl;have hk:Kok b (S.up (.mc k off l)) c=Kok b S c:=Er ho hm;refine⟨?_,?_,h.nd,h.oo,h.mm,h.mo,λg hg=>h.fr g ((Fv ho hm g).1 hg),h.fix,h.os,h.tape,h.output,h.size,h.an,?_⟩
 .intro k' n hn hn0;obtain ⟨cs,e,fr,h1,h2,h3,h4,h5⟩:=h.ms k' n hn hn0;refine⟨cs,e,fr,h1,h2,h3,λi v hlt hv=>?_,h5⟩;rw [hk];refine(Gi ho hm _ _).2 ?_;show LeafOk S c w (Kok b S c) (if k'=k then(if i=off then l else S.mc k' i)else S.mc k' i) v;split
  .rename_i hkk;subst hkk;split
   .rename_i hio;subst hio;have h1':=h1;exact hl cs e fr v (by rw [show S.ms k'=some n from hn];simp) h1' hv
   .exact h4 i v hlt hv
  .exact h4 i v hlt hv
 .intro k' o hk';rw [hk];exact h.ow k' o hk'
 .intro k' hn;obtain ⟨xs,h1,h2⟩:=h.mp k' hn;refine⟨xs,?_,h2⟩;show(if k'=k then(if 0=off then l else S.mc k' 0)else S.mc k' 0)=_;rw [AjR (show ¬ k'=k by rintro rfl;exact hk0 hn)];exact h1
theorem Ka {N:Nat} {S:St} {c:Cc} {w:World} {K:Nat->Prop} {a:Act} (h:Slots N S c w K (a.put none undef)):Slots N S c w K a:=h
theorem Slots.setSlot {N:Nat} {S:St} {c:Cc} {w:World} {K:Nat->Prop} {a:Act} (h:Slots N S c w K a) (i:Nat) (x:SV) (hx:AO S c w K x (a.tmps.getD i undef)):Slots N (S.put i x) c w K a:=by
 have hsv:∀l v,AO (S.put i x) c w K l v↔AO S c w K l v:=by
  intro l v;cases l with
  | s y=>exact I8 rfl rfl y v
  | tu ys=>
   constructor
   .rintro ⟨vs,e,hv⟩;exact⟨vs,e,hv.mono λy v=>(I8 rfl rfl y v).1⟩
   .rintro ⟨vs,e,hv⟩;exact⟨vs,e,hv.mono λy v=>(I8 rfl rfl y v).2⟩
  | un=>exact Iff.rfl
  | no=>exact Iff.rfl
 refine⟨λj=>?_,h.n,h.d⟩;rw [hsv];show AO S c w K (if j=i then x else S.sl j) _;split
 .rename_i e;subst e;exact hx
 .exact h.ok j
theorem Xr {b:Base} {N:Nat} {S:St} {a:Act} {w:World} {c:Cc} (hi:Inv b S w c) (hsl:Slots N S c w (Kok b S c) a) (hfx:∀p,p∈b.fx->a.tmps.getD p.1 undef=p.2) (p:Pl) {k:Nat} {win:Option (Nat×Nat)} (hlf:KV S p=.vw k [] win) :
  ∃v,LeafOk S c w (Kok b S c) (.vw k [] win) v/\∀(S':St) (c':Cc) (l':Leaf),S'.ms=S.ms->(c'.mb=c.mb/\c'.mo=c.mo)->Inv b S' w c'->Slots N S' c' w (Kok b S' c') a->(∀i,S'.sl i=(S.sl i).kp [.all k])->
   LeafOk S' c' w (Kok b S' c') l' v->Sim b N (S'.setAt l' p) a w:=by
 cases p with
 | sl i=>
  simp only [KV]at hlf;split at hlf
  .rename_i l hl;subst hlf;have:=hsl.ok i;rw [hl]at this;refine⟨_,this,λS' c' l' _ _ hi' hsl' _ hlk=>?_⟩;refine⟨c',Inv.put (S:=S') rfl rfl rfl hi',?_,hfx⟩;rw [show Kok b (S'.setAt l' (.sl i)) c'=Kok b S' c' from Er rfl rfl];exact hsl'.setSlot i _ hlk
  .cases hlf
 | ag i j=>
  simp only [KV]at hlf;split at hlf
  .rename_i ls hl;have:=hsl.ok i;rw [hl]at this;obtain ⟨vs,e,hall⟩:=this;rw [AkD]at hlf;cases hj:ls[j]? with
   | none=>rw [hj]at hlf;cases hlf
   | some l=>
    rw [hj]at hlf;simp only [Akx]at hlf;subst hlf;obtain ⟨v,hvj,hvl⟩:=hall.get hj;refine⟨v,hvl,λS' c' l' _ _ hi' hsl' hsl2 hlk=>?_⟩;have hS:S'.sl i=.s (.ag (ls.map (Leaf.kp [.all k]))):=by rw [hsl2,hl];rfl
    simp only [St.setAt,hS];refine⟨c',Inv.put (S:=S') rfl rfl rfl hi',?_,hfx⟩;rw [show Kok b (S'.put i (.s (.ag ((ls.map (Leaf.kp [.all k])).set j l')))) c'=Kok b S' c' from Er rfl rfl];refine hsl'.setSlot i _ ?_;have h2:=hsl'.ok i;rw [hS]at h2;obtain ⟨vs',e',hall'⟩:=h2;have hvs:vs'=vs:=by
     have:=e'.symm.trans e;injection this with this
     exact List.toArray_inj this
    subst hvs;have hset:=hall'.set j hlk;have:vs'.set j v=vs':=by
     apply AkK;intro m;rw [Al7];split
     .rename_i hm;subst hm;split
      .exact hvj.symm
      .rename_i hlt;exact absurd (Akn.1 hvj).1 hlt
     .rfl
    rw [this]at hset;exact⟨vs',e',hset⟩
  .cases hlf
 | mc k0 c0=>
  simp only [KV]at hlf;split at hlf
  .rename_i m hm;split at hlf
   .rename_i hlt;obtain ⟨cs,e,fr,h1,h2,h3,h4,_⟩:=hi.ms k0 m hm O;have hc:cs[c.mo k0+c0]?=some cs[c.mo k0+c0]:=Akp O;have:=h4 c0 _ hlt hc;rw [hlf]at this;refine⟨_,this,λS' c' l' e1 e2 hi' hsl' _ hlk=>?_⟩;refine⟨c',hi'.setLeaf k0 c0 _ (by rw [e1,hm];intro h;injection h;omega) ?_,?_,hfx⟩
    .intro cs' e' fr' v' _ hh hv';rw [e2.1,h1]at hh;injection hh with hh
     injection hh with hh _ _
     subst hh;rw [e2.2,hc]at hv';injection hv' with hv'
     rw [<- hv'];exact hlk
    .rw [show Kok b (S'.setAt l' (.mc k0 c0)) c'=Kok b S' c' from Er rfl rfl];refine⟨λi=>?_,hsl'.n,hsl'.d⟩;have:=hsl'.ok i;show AO (S'.up (.mc k0 c0 _)) c' w _ (S'.sl i) _;cases hx:S'.sl i with
     | s y=>rw [hx]at this;exact(I8 rfl rfl y _).2 this
     | tu ys=>
      rw [hx]at this;obtain ⟨vs,e,hv⟩:=this;exact⟨vs,e,hv.mono λy v=>(I8 rfl rfl y v).2⟩
     | un=>rw [hx]at this;exact this
     | no=>trivial
   .cases hlf
  .cases hlf
 | pt i ts=>simp [KV]at hlf
theorem Inv.drop {b:Base} {S:St} {w:World} {c:Cc} (hi:Inv b S w c) (k:Nat):Inv b (S.drop k) w c/\Stay S (S.drop k) c c w w (Kok b S c) (Kok b (S.drop k) c) [.m k]/\∀n,S.ms k=some n->Kok b (S.drop k) c (c.mb k):=by
 have hms:∀i,(S.drop k).ms i=if i=k then none else S.ms i:=λi=>rfl
 have how:(S.drop k).ow=S.ow:=rfl;have hmc:∀a i,(S.drop k).mc a i=(S.mc a i).kp [.m k]:=λa i=>Di S [.m k] a i
 have hown:∀g,AW (S.drop k) c g->AW S c g:=by
  rintro g (⟨k',hk',rfl⟩ | ⟨k',hk',hg⟩)
  .rw [hms]at hk';split at hk'
   .exact absurd rfl hk'
   .exact .inl ⟨k',hk',rfl⟩
  .exact .inr ⟨k',hk',hg⟩
 have kk:KSame w w (Kok b S c) (Kok b (S.drop k) c):=⟨Akk _,λg hg _=>⟨rfl,hg.1,λh=>hg.2 (hown g h)⟩⟩
 have stay:Stay S (S.drop k) c c w w (Kok b S c) (Kok b (S.drop k) c) [.m k]:=by
  refine Stay.of hi (λk' o ho=>.inr (.inl ⟨ho,rfl,λ_ _=>rfl⟩)) (λk' n hn=>?_) kk;by_cases hk:k'=k
  .subst hk;exact .inl Z
  .exact .inr ⟨by rw [hms,AjR hk];exact hn,rfl,rfl⟩
 refine⟨⟨?_,?_,hi.nd,hi.oo,?_,?_,?_,hi.fix,hi.os,hi.tape,hi.output,hi.size,hi.an,?_⟩,stay,?_⟩
 .intro k' n hn hn0;rw [hms]at hn;split at hn
  .cases hn
  .obtain ⟨cs,e,fr,h1,h2,h3,h4,h5⟩:=hi.ms k' n hn hn0;exact⟨cs,e,fr,h1,h2,h3,λi v hlt hv=>by rw [hmc];exact stay.leaf (h4 i v hlt hv),h5⟩
 .intro k' o ho;exact Rp.frame kk _ _ (hi.ow k' o ho) λ_ _=>rfl
 .intro k1 k2 hne h1 h2;rw [hms]at h1 h2;split at h1
  .exact absurd rfl h1
  .split at h2
   .exact absurd rfl h2
   .exact hi.mm k1 k2 hne h1 h2
 .intro k1 k2 h1 h2;rw [hms]at h1;split at h1
  .exact absurd rfl h1
  .exact hi.mo k1 k2 h1 h2
 .exact λg hg=>hi.fr g (hown g hg)
 .intro k' hn;rw [hms]at hn;split at hn
  .cases hn
  .exact Jh hi hn (hmc k' 0) rfl rfl
 .intro n hn;have hko:S.ms k≠none:=by rw [hn];simp
  refine⟨.inr (hi.fr _ (.inl ⟨k,hko,rfl⟩)).2,?_⟩;rintro (⟨k',hk',he⟩ | ⟨k',hk',hg⟩)
  .rw [hms]at hk';split at hk'
   .exact absurd rfl hk'
   .rename_i hne;exact hi.mm k' k hne hk' hko he
  .exact hi.mo k k' hko hk' hg
theorem T1 {S:St} {c:Cc} {w:World} {K:Nat->Prop} (k:Nat):∀(ts:List Ty) (i:Nat) (vs:List Value) {ls:List Ae},vs.length=ts.length->(∀j v,vs[j]?=some v->LeafOk S c w K (S.mc k (i+j)) v)->KY S k ts i=some ls->FL (ALOk w K) ls vs []
 | [],i,vs,ls,hl,_,h=>by
  simp only [KY,AjN]at h;subst h;obtain rfl:vs=[]:=Akb hl;exact⟨rfl,rfl⟩
 | t::ts,i,[],ls,hl,_,_=>by simp at hl
 | t::ts,i,v::vs,ls,hl,hc,h=>by
  have ih:∀{ls'},KY S k ts (i+1)=some ls'->FL (ALOk w K) ls' vs []:=λh'=>T1 k ts (i+1) vs (by simpa using hl) (λj v hv=>by
   have:=hc (j+1) v (by simpa using hv)
   rwa [(O:i+(j+1)=i+1+j)]at this) h'
  have h0:=hc 0 v rfl;rw [Alf]at h0;simp only [KY]at h;split at h
  .rename_i u x he;rw [he]at h0;split at h
   .rename_i ls' hls';injection h with h
    subst h;exact⟨v,vs,[],[],rfl,rfl,⟨h0,λ_=>rfl⟩,ih hls'⟩
   .cases h
  .rename_i he;rw [he]at h0;obtain rfl:v=.slice none 0 0:=h0;split at h
   .split at h
    .rename_i ls' hls';injection h with h
     subst h;refine⟨_,vs,[],[],rfl,rfl,⟨?_,λ_=>rfl⟩,ih hls'⟩;rw [Rp];exact⟨rfl,none,0,[],rfl,Akk _,⟨rfl,rfl⟩,.inl rfl⟩
    .cases h
   .cases h
  .cases h
theorem Abm {b:Base} {N:Nat} {S:St} {a:Act} {w:World} (p:Pl) (hs:Sim b N S a w):Sim b N (Tx S p) a w:=by
 unfold Tx;split
 .rename_i k lo n hlf;split
  .rename_i o ho;obtain ⟨c,hi,hsl,hfx⟩:=hs;obtain ⟨v,hv,hplace⟩:=Xr hi hsl hfx p hlf;obtain ⟨o0,e,r,ys,hd,q1,q2,q3,q4⟩:=hv;obtain rfl:o=o0:=by rw [ho]at q1;injection q1
   simp only [Ao,Tr.run,AjN]at q2;injection q2 with ha hb
   injection ha with _ he hr
   obtain ⟨oe,or,oxs⟩:=o;simp only at he hr hb;subst he hr;obtain rfl:=eq_of_heq hb;simp only [hdr,AjN]at q3;subst q3;obtain ⟨F2,g1,g2,g3⟩:=Tm (hi.ow k _ ho) (hi.nd k (by rw [ho];simp)) q4;generalize hS:(S.kp [.all k]).up (.ow k (some ⟨oe,or,(oxs.drop lo).take n⟩))=S';obtain ⟨c',e1,e2,_,e4,e5,_⟩:=hi.setOwn (S':=S') (w':=w) k ⟨oe,or,(oxs.drop lo).take n⟩ [] [.all k] v F2
    (by intro k';rw [<- hS];show(if k'=k then _ else(S.kp _).ow k')=_;rw [D0];simp)
    (by rw [<- hS];exact Du S _) (by intro k' i;rw [<- hS];exact Di S [.all k] k' i) (λk hk=>by cases hk) (λ_ _=>.inl Z) (Step.refl _ _)
    (λg hg=>⟨(hi.fr g (.inr ⟨k,by rw [ho];simp,g2 g hg⟩)).1,.inl ⟨k,.inl rfl,by rw [ho];simp,g2 g hg⟩⟩) g3
    (λK' hK _=>Rp.frame ⟨Akk _,λg hg hlt=>⟨rfl,(hK.2 g hg hlt).2⟩⟩ _ _ g1 λg _=>rfl)
   have hsl':Slots N S' c' w (Kok b S' c') a:=Ka (e5.slots hsl (by intro i;rw [<- hS];exact G6 S [.all k] i) none .no undef (λ_ h=>by cases h) trivial (λ_ _=>Iff.rfl) (λ_ _=>Iff.rfl));have how:S'.ow k=some ⟨oe,or,(oxs.drop lo).take n⟩:=by rw [<- hS];show(if k=k then _ else _)=_;rw [AjS rfl]
   exact hplace S' c' (.vw k [] none) (by rw [<- hS];exact Du S _) e1 e4 hsl' (by intro i;rw [<- hS];exact G6 S [.all k] i) ⟨_,oe,or,_,v,how,rfl,by rw [e2];rfl,rfl⟩
  .exact hs
 .exact hs
theorem UM {b:Base} {N:Nat} {a:Act} {w:World}:∀(ps:List Pl) {S:St},Sim b N S a w->Sim b N (VT S ps) a w
 | [],_,hs=>hs
 | p::ps,_,hs=>UM ps (Abm p hs)
theorem AaN {b:Base} {N:Nat} {S:St} {a:Act} {w:World} (p:Pl) (hs:Sim b N S a w):Sim b N (Tt S p) a w:=by
 unfold Tt;split
 .rename_i k hlf;split
  .rename_i o ho;obtain ⟨c,hi,hsl,hfx⟩:=hs;obtain ⟨v,hv,hplace⟩:=Xr hi hsl hfx p hlf;obtain ⟨o0,e,r,ys,hd,q1,q2,q3,q4⟩:=hv;simp only [hdr,AjN]at q3;obtain rfl:v=hd:=q4;subst q3;generalize hS:(S.kp [.all k]).up (.ow k none)=S';obtain ⟨c',e1,_,e4,e5,hfree⟩:=hi.many (S':=S') (w':=w) (λ_=>none) [k] [] [.all k]
    (by intro k';rw [<- hS];show(if k'=k then _ else(S.kp _).ow k')=_;rw [D0];simp)
    (by rw [<- hS];exact Du S _) (by intro k' i _;rw [<- hS];exact Di S [.all k] k' i) (λk' o _ hk'=>.inl (hk'.elim (λh=>by rw [AjX.1 h];simp) λh=>absurd rfl h))
    (Step.refl _ _) (λ_ _ h=>by cases h) (λ_ _ h=>by cases h) (λ_ _ _ _ _ h=>by cases h) (λ_ _ _ _ _ h=>by cases h) (λ_ _ _ _ _ _ _ _ _ h=>by cases h) (λ_ h=>by cases h)
   have hsl':Slots N S' c' w (Kok b S' c') a:=Ka (e5.slots hsl (by intro i;rw [<- hS];exact G6 S [.all k] i) none .no undef (λ_ h=>by cases h) trivial (λ_ _=>Iff.rfl) (λ_ _=>Iff.rfl));refine hplace S' c' _ (by rw [<- hS];exact Du S _) e1 e4 hsl' (by intro i;rw [<- hS];exact G6 S [.all k] i) ?_;exact Rp.frz (λg hlt hg=>(e5.kk.2 g hg hlt).2) _ _ (hi.ow k o ho) λg hg=>hfree g (.inr ⟨k,Z,by rw [ho];simp,hg⟩) (λ_ _ h=>by cases h)
  .exact hs
 .exact hs
theorem Aa5 {b:Base} {N:Nat} {S:St} {a:Act} {w:World} (p:Pl) (hs:Sim b N S a w):Sim b N (S8 S p) a w:=by
 unfold S8;split
 .rename_i i ts;split
  .rename_i k hsl0;split
   .rename_i n ls hn hls;split
    .rename_i hlen;obtain ⟨c,hi,hsl,hfx⟩:=hs;obtain ⟨h1,h2,h3⟩:=hi.drop k;have hsl':Slots N (S.drop k) c w (Kok b (S.drop k) c) a:=Ka (h2.slots hsl (by intro i;exact G6 S [.m k] i) none .no undef (λ_ h=>by cases h) trivial (λ_ _=>Iff.rfl) (λ_ _=>Iff.rfl));have hv:=hsl.ok i;rw [hsl0]at hv;obtain ⟨n',hn',hv⟩:=hv;obtain ⟨hlen,hn0⟩:=hlen;obtain ⟨cs,e,fr,g1,g2,g3,g4,_⟩:=hi.ms k n hn (Alp hn0);have hlt:c.mb k < w.heap.size:=BM g1;have hwl:((cs.toList.drop (c.mo k)).take ts.length).length=ts.length:=by
      rw [AjW,Akf,Alz (xs:=cs)];omega
     have hwg:∀j,j < ts.length->((cs.toList.drop (c.mo k)).take ts.length)[j]?=cs[c.mo k+j]?:=by
      intro j hj;rw [Aj7 hj,Akt,Aj6]
     have hfl:=T1 (S:=S) (c:=c) (w:=w) (K:=Kok b S c) k ts 0 _ hwl (λj v hv=>by
      have hj:j < ts.length:=by rw [<- hwl];exact(Akn.1 hv).1
      rw [hwg j hj]at hv;rw [Ake];exact g4 j v O hv) hls
     refine⟨c,Inv.put (S:=S.drop k) rfl rfl rfl h1,?_,hfx⟩;rw [show Kok b ((S.drop k).put i (.s (.one (.v (.pt (B4 ls).1) (some (B4 ls).2))))) c=Kok b (S.drop k) c from Er rfl rfl];refine hsl'.setSlot i _ ?_;rw [hv];show Rp w _ (.pt (B4 ls).1) (some (B4 ls).2) _ _;simp only [Rp];refine⟨trivial,⟨c.mb k,c.mo k+0,none⟩,_,rfl,L9 _ (hfl.mono λ_ _ _ h=>ALOk.mono (λg hg hk=>(h2.kk.2 g hk hg).2) h),h3 n hn,hlt,λj hj=>?_⟩;rw [A6,A7 g1,Alf];exact(hwg j O).symm
    .exact hs
   .exact hs
  .exact hs
 .exact AaN p hs
theorem Uk {b:Base} {N:Nat} {a:Act} {w:World}:∀(ps:List Pl) {S:St},Sim b N S a w->Sim b N (WC S ps) a w
 | [],_,hs=>hs
 | p::ps,_,hs=>Uk ps (Aa5 p hs)
theorem Tpl.ok {b:Base} {N:Nat} {S:St} {a:Act} {w:World} (t:Tpl) {x:t.D} (h:t.prj S=some x) (hs:Sim b N S a w):Sim b N (t.inj x) a w:=
 t.ok0 h (Uk t.fz (UM t.nw hs))
end Go.V
namespace Go.V
theorem Aa4 (E:Env) (ρ ρ':Operand->SV) (d:Nat) (op:Op) (h:∀x,x∈op.operands.toList->ρ x=ρ' x):Je E ρ d op=Je E ρ' d op:=by
 have pairs:∀ps:List (Nat×Operand),(∀x,x∈ps.map (·.2)->ρ x=ρ' x)->(ps.map λp=>(p.1,ρ p.2))=ps.map λp=>(p.1,ρ' p.2):=λps hp=>
  AkM λp hm=>by rw [hp p.2 (Aj9.2 ⟨p,hm,rfl⟩)]
 cases op
 case build t ps=>simp only [Je,pairs ps.toList λx hx=>h x (by simpa [Op.operands] using hx)]
 case buildSlice t n ps=>simp only [Je,pairs ps.toList λx hx=>h x (by simpa [Op.operands] using hx)]
 case slice t x lo hi mx=>
  simp only [Op.operands]at h;have h1:ρ x=ρ' x:=h x Z;have h2:lo.map ρ=lo.map ρ':=by cases lo with | none=>rfl | some y=>simp only [AkJ];rw [h y Z]
  have h3:hi.map ρ=hi.map ρ':=by cases hi with | none=>rfl | some y=>simp only [AkJ];rw [h y Z]
  have h4:mx.map ρ=mx.map ρ':=by cases mx with | none=>rfl | some y=>simp only [AkJ];rw [h y Z]
  simp only [Je,h1,h2,h3,h4]
 case makeFunc f first cs=>
  have hcs:cs.toList.map ρ=cs.toList.map ρ':=AkM λx hx=>h x (by
   simp only [Op.operands,AlA,AjV];exact .inr hx)
  cases f with
  | func f=>simp only [Je,hcs]
  | _=>rfl
 case call c=>
  obtain ⟨cal,as,ts⟩:=c;have has:as.toList.map ρ=as.toList.map ρ':=AkM λx hx=>h x (by
   cases cal <;> simp [Op.operands,Call.operands] <;> simp [Array.mem_toList_iff.1 hx])
  cases cal with
  | value f=>
   have hf:ρ f=ρ' f:=h f (by simp [Op.operands,Call.operands]);simp only [Je,has,hf]
  | invoke r m=>rfl
  | builtin b=>cases b <;> simp only [Je,has]
 case entry x=>cases x <;> rfl
 case makeMap t r=>cases r <;> rfl
 case lookup t x i ok=>
  have h1:ρ x=ρ' x:=h x (by simp [Op.operands]);have h2:ρ i=ρ' i:=h i (by simp [Op.operands]);cases ok <;> simp only [Je,h1,h2]
 all_goals first
  | rfl
  | (simp only [Op.operands,Aj5,Al1,or_false,forall_eq_or_imp,forall_eq]at h;simp only [Je,h];done)
def Ag (S S':St) (l:List Lg):Prop:=∀x,x∈l->match x with | .o k=>S.ow k=S'.ow k | .c k off _=>S.mc k off=S'.mc k off | .m k=>S.ms k=S'.ms k
theorem VV {α:Type} (S:St) (t:Tr α):∀(g:List Lg) {x:α} {l:List Lg},(t.at S g).run=some (x,l)->∀y,y∈g->y∈l:=by
 induction t with
 | ret a=>intro g x l h;simp only [Tr.at,Tr.run,AjN,Prod.mk.injEq]at h;rw [<- h.2];exact λ_ h=>h
 | fail=>intro g x l h;simp [Tr.at,Tr.run]at h
 | br c t e ih1 ih2=>
  intro g x l h;simp only [Tr.at,Tr.run]at h;split at h
  .exact ih1 g h
  .exact ih2 g h
 | get γ o f ih=>
  intro g x l h;simp only [Tr.at,C4,AjQ]at h;obtain ⟨b,hb,h⟩:=h;exact ih b g h
 | alt γ δ s f f' ih1 ih2=>
  intro g x l h;cases s with
  | inl b=>exact ih1 b g h
  | inr b=>exact ih2 b g h
 | rdO k f ih=>intro g x l h y hy;exact ih _ _ h y (AkT _ hy)
 | rdC k off f ih=>intro g x l h y hy;exact ih _ _ h y (AkT _ hy)
 | rdM k f ih=>intro g x l h y hy;exact ih _ _ h y (AkT _ hy)
theorem AdH {α:Type} (S S':St) (t:Tr α):∀(g:List Lg) {x:α} {l:List Lg},(t.at S g).run=some (x,l)->Ag S S' l->(t.at S' g).run=some (x,l):=by
 induction t with
 | ret a=>intro g x l h _;exact h
 | fail=>intro g x l h;simp [Tr.at,Tr.run]at h
 | br c t e ih1 ih2=>
  intro g x l h ha;simp only [Tr.at,Tr.run]at h ⊢;split at h
  .rename_i hc;rw [AjS hc];exact ih1 g h ha
  .rename_i hc;rw [AjR hc];exact ih2 g h ha
 | get γ o f ih=>
  intro g x l h ha;simp only [Tr.at,C4,AjQ]at h ⊢;obtain ⟨b,hb,h⟩:=h;exact⟨b,hb,ih b g h ha⟩
 | alt γ δ s f f' ih1 ih2=>
  intro g x l h ha;cases s with
  | inl b=>exact ih1 b g h ha
  | inr b=>exact ih2 b g h ha
 | rdO k f ih=>
  intro g x l h ha
  replace h:((f (S.ow k)).at S (.o k::g)).run=some (x,l):=h
  have:S.ow k=S'.ow k:=ha _ (VV S _ _ h (.o k) Z);show((f (S'.ow k)).at S' (.o k::g)).run=_;rw [<- this];exact ih _ _ h ha
 | rdC k off f ih=>
  intro g x l h ha
  replace h:((f (S.mc k off)).at S (.c k off (S.mc k off)::g)).run=some (x,l):=h
  have:S.mc k off=S'.mc k off:=ha _ (VV S _ _ h (.c k off (S.mc k off)) Z);show((f (S'.mc k off)).at S' (.c k off (S'.mc k off)::g)).run=_;rw [<- this];exact ih _ _ h ha
 | rdM k f ih=>
  intro g x l h ha
  replace h:((f (S.ms k)).at S (.m k::g)).run=some (x,l):=h
  have:S.ms k=S'.ms k:=ha _ (VV S _ _ h (.m k) Z);show((f (S'.ms k)).at S' (.m k::g)).run=_;rw [<- this];exact ih _ _ h ha
def AdX (S:St) (l:List Lg):Prop:=∀k off x,Lg.c k off x∈l->S.mc k off=x
theorem AfC {α:Type} (S:St) (t:Tr α):∀(g:List Lg) {x:α} {l:List Lg},AdX S g->(t.at S g).run=some (x,l)->AdX S l:=by
 induction t with
 | ret a=>intro g x l hg h;simp only [Tr.at,Tr.run,AjN,Prod.mk.injEq]at h;rw [<- h.2];exact hg
 | fail=>intro g x l _ h;simp [Tr.at,Tr.run]at h
 | br c t e ih1 ih2=>
  intro g x l hg h;simp only [Tr.at,Tr.run]at h;split at h
  .exact ih1 g hg h
  .exact ih2 g hg h
 | get γ o f ih=>
  intro g x l hg h;simp only [Tr.at,C4,AjQ]at h;obtain ⟨b,hb,h⟩:=h;exact ih b g hg h
 | alt γ δ s f f' ih1 ih2=>
  intro g x l hg h;cases s with
  | inl b=>exact ih1 b g hg h
  | inr b=>exact ih2 b g hg h
 | rdO k f ih=>intro g x l hg h;exact ih _ _ (λk' o' x' hx=>by rcases Aj5.1 hx with hx | hx;cases hx;exact hg _ _ _ hx) h
 | rdC k off f ih=>intro g x l hg h;exact ih _ _ (λk' o' x' hx=>by
   rcases Aj5.1 hx with hx | hx
   .injection hx with e1 e2 e3;subst e1 e2 e3;rfl
   .exact hg _ _ _ hx) h
 | rdM k f ih=>intro g x l hg h;exact ih _ _ (λk' o' x' hx=>by rcases Aj5.1 hx with hx | hx;cases hx;exact hg _ _ _ hx) h
theorem Leaf.kp_kp (c c':List Kl) (l:Leaf):(l.kp c).kp c'=(l.kp c').kp c:=by
 cases l with
 | vw k st win=>
  by_cases h1:c.all (λx=>x.okV k st)=true <;> by_cases h2:c'.all (λx=>x.okV k st)=true <;> simp only [Leaf.kp,h1,h2,Akh] <;> rfl
 | p k off=>by_cases h1:c.all (λx=>x.okM k)=true <;> by_cases h2:c'.all (λx=>x.okM k)=true <;> simp only [Leaf.kp,h1,h2,Akh] <;> rfl
 | mh k=>by_cases h1:c.all (λx=>x.okM k)=true <;> by_cases h2:c'.all (λx=>x.okM k)=true <;> simp only [Leaf.kp,h1,h2,Akh] <;> rfl
 | _=>rfl
theorem S1.kp_kp (c c':List Kl) (x:S1):(x.kp c).kp c'=(x.kp c').kp c:=by
 cases x with
 | one l=>simp only [S1.kp,Leaf.kp_kp c c' l]
 | ag ls=>simp only [S1.kp,AkL];congr 1;apply AkM;intro l _;exact Leaf.kp_kp c c' l
 | pl k off=>by_cases h1:c.all (λx=>x.okM k)=true <;> by_cases h2:c'.all (λx=>x.okM k)=true <;> simp only [S1.kp,h1,h2,Akh] <;> rfl
 | el k st=>by_cases h1:c.all (λx=>x.okE k st)=true <;> by_cases h2:c'.all (λx=>x.okE k st)=true <;> simp only [S1.kp,h1,h2,Akh] <;> rfl
 | rp t x off=>rfl
 | fv f cs=>by_cases h1:c.all (λx=>cs.all λp=>x.okM p.1)=true <;> by_cases h2:c'.all (λx=>cs.all λp=>x.okM p.1)=true <;> simp only [S1.kp,h1,h2,Akh] <;> rfl
theorem SV.kp_kp (c c':List Kl) (x:SV):(x.kp c).kp c'=(x.kp c').kp c:=by
 cases x with
 | s x=>simp only [SV.kp,S1.kp_kp c c' x]
 | tu xs=>simp only [SV.kp,AkL];congr 1;apply AkM;intro l _;exact S1.kp_kp c c' l
 | un=>rfl
 | no=>rfl
theorem Leaf.kp_safe {c:List Kl} {l:Leaf} (h:l.safe c=true):l.kp c=l:=by
 cases l with
 | vw k st win=>simp only [Leaf.safe]at h;simp only [Leaf.kp,h,Akh]
 | p k off=>simp only [Leaf.safe]at h;simp only [Leaf.kp,h,Akh]
 | mh k=>simp only [Leaf.safe]at h;simp only [Leaf.kp,h,Akh]
 | _=>rfl
theorem JH {α:Type} {f:α->α}:∀{l:List α},(∀x,x∈l->f x=x)->l.map f=l
 | [],_=>rfl
 | x::l,h=>by rw [Akw,h x Z,JH λy hy=>h y (by simp [hy])]
theorem S1.kp_safe {c:List Kl} {x:S1} (h:x.safe c=true):x.kp c=x:=by
 cases x with
 | one l=>simp only [S1.safe]at h;simp only [S1.kp,Leaf.kp_safe h]
 | ag ls=>simp only [S1.safe,Aki]at h;simp only [S1.kp];rw [JH λl hl=>Leaf.kp_safe (h l hl)]
 | pl k off=>simp only [S1.safe]at h;simp only [S1.kp,h,Akh]
 | el k st=>simp only [S1.safe]at h;simp only [S1.kp,h,Akh]
 | rp t x off=>rfl
 | fv f cs=>simp only [S1.safe]at h;simp only [S1.kp,h,Akh]
theorem SV.kp_safe {c:List Kl} {x:SV} (h:x.safe c=true):x.kp c=x:=by
 cases x with
 | s x=>simp only [SV.safe]at h;simp only [SV.kp,S1.kp_safe h]
 | tu xs=>simp only [SV.safe,Aki]at h;simp only [SV.kp];rw [JH λl hl=>S1.kp_safe (h l hl)]
 | un=>rfl
 | no=>rfl
theorem Leaf.kp_whole {c:List Kl} {l:Leaf} (h:(l.kp c).whole=true):l.kp c=l:=by
 cases l with
 | vw k st win=>
  simp only [Leaf.kp]at h ⊢;split
  .rfl
  .rename_i hc;rw [AjR hc]at h;cases h
 | p k off=>
  simp only [Leaf.kp]at h ⊢;split
  .rfl
  .rename_i hc;rw [AjR hc]at h;cases h
 | mh k=>
  simp only [Leaf.kp]at h ⊢;split
  .rfl
  .rename_i hc;rw [AjR hc]at h;cases h
 | _=>rfl
theorem S1.kp_whole {c:List Kl} {x:S1} (h:(x.kp c).whole=true):x.kp c=x:=by
 cases x with
 | one l=>simp only [S1.kp,S1.whole]at h ⊢;rw [Leaf.kp_whole h]
 | ag ls=>
  simp only [S1.kp,S1.whole,Aki]at h ⊢;rw [JH λl hl=>Leaf.kp_whole (h (l.kp c) (Aj9.2 ⟨l,hl,rfl⟩))]
 | pl k off=>
  simp only [S1.kp]at h ⊢;split
  .rfl
  .rename_i hc;rw [AjR hc]at h;cases h
 | el k st=>
  simp only [S1.kp]at h ⊢;split
  .rfl
  .rename_i hc;rw [AjR hc]at h;cases h
 | rp t x off=>rfl
 | fv f cs=>
  simp only [S1.kp]at h ⊢;split
  .rfl
  .rename_i hc;rw [AjR hc]at h;cases h
theorem SV.kp_whole {c:List Kl} {x:SV} (h:(x.kp c).whole=true):x.kp c=x:=by
 cases x with
 | s x=>simp only [SV.kp,SV.whole]at h ⊢;rw [S1.kp_whole h]
 | tu xs=>
  simp only [SV.kp,SV.whole,Aki]at h ⊢;rw [JH λl hl=>S1.kp_whole (h (l.kp c) (Aj9.2 ⟨l,hl,rfl⟩))]
 | un=>rfl
 | no=>rfl
theorem St.kp_kp (S:St) (c c':List Kl):(S.kp c).kp c'=(S.kp c').kp c:=
 St.ext' (λi=>by simp only [G6,SV.kp_kp c c']) (λk=>by simp only [Du]) (λk i=>by simp only [Di,Leaf.kp_kp c c']) (λk=>by simp only [D0])
theorem Ais (S:St) (c:List Kl) {u:U} (h:u.safe c=true):(S.up u).kp c=(S.kp c).up u:=by
 have hsl:∀i,((S.up u).kp c).sl i=((S.kp c).up u).sl i:=by
  intro i;rw [G6];have e1:(S.up u).sl i=S.sl i:=by cases u <;> rfl
  have e2:((S.kp c).up u).sl i=(S.kp c).sl i:=by cases u <;> rfl
  rw [e1,e2,G6]
 cases u with
 | ow k o=>
  refine St.ext' hsl (λi=>?_) (λi j=>?_) (λi=>?_)
  .rw [Du];show S.ms i=(S.kp c).ms i;rw [Du]
  .rw [Di];show(S.mc i j).kp c=(S.kp c).mc i j;rw [Di]
  .rw [D0];show(if i=k then o else S.ow i)=(if i=k then o else(S.kp c).ow i);rw [D0]
 | mc k off l=>
  refine St.ext' hsl (λi=>?_) (λi j=>?_) (λi=>?_)
  .rw [Du];show S.ms i=(S.kp c).ms i;rw [Du]
  .rw [Di];show(if i=k then(if j=off then l else S.mc i j)else S.mc i j).kp c=(if i=k then(if j=off then l else(S.kp c).mc i j)else(S.kp c).mc i j)
   rw [Di];split
   .split
    .exact Leaf.kp_safe h
    .rfl
   .rfl
  .rw [D0];show S.ow i=(S.kp c).ow i;rw [D0]
 | ms k row=>
  refine St.ext' hsl (λi=>?_) (λi j=>?_) (λi=>?_)
  .rw [Du];show(if i=k then some (JT row)else S.ms i)=(if i=k then some (JT row)else(S.kp c).ms i);rw [Du]
  .rw [Di];show(if i=k then row.getD j .no else S.mc i j).kp c=(if i=k then row.getD j .no else(S.kp c).mc i j)
   rw [Di];split
   .simp only [U.safe,Aki]at h;rw [AkD];cases hr:row[j]? with
    | none=>rfl
    | some l=>exact Leaf.kp_safe (h l (Akz hr))
   .rfl
  .rw [D0];show S.ow i=(S.kp c).ow i;rw [D0]
theorem XO (c:List Kl):∀(us:List U) (S:St),us.all (U.safe c)=true->(S.ups us).kp c=(S.kp c).ups us
 | [],_,_=>rfl
 | u::us,S,h=>by
  simp only [Ak8,AjT]at h;show((S.up u).ups us).kp c=((S.kp c).up u).ups us;rw [XO c us _ h.2,Ais S c h.1]
theorem Air (S:St) {u v:U} (h:u.meets v=false):(S.up u).up v=(S.up v).up u:=by
 cases u <;> cases v <;> simp only [U.meets,Bool.and_eq_false_iff,beq_eq_false_iff_ne]at h <;> (refine St.ext' (λi=>rfl) (λi=>?_) (λi j=>?_) (λi=>?_)) <;> simp only [St.up] <;> (repeat' split) <;> simp_all
theorem Acj {u:U}:∀(vs:List U) (S:St),vs.all (λv=>!u.meets v)=true->(S.up u).ups vs=(S.ups vs).up u
 | [],_,_=>rfl
 | v::vs,S,h=>by
  simp only [Ak8,AjT,Aj0]at h;show((S.up u).up v).ups vs=((S.up v).ups vs).up u;rw [Air S h.1,Acj vs _ (by simpa using h.2)]
theorem Aai:∀(us vs:List U) (S:St),us.all (λu=>vs.all λv=>!u.meets v)=true->(S.ups us).ups vs=(S.ups vs).ups us
 | [],_,_,_=>rfl
 | u::us,vs,S,h=>by
  simp only [Ak8,AjT]at h;show((S.up u).ups us).ups vs=((S.ups vs).up u).ups us;rw [Aai us vs _ (by simpa using h.2),Acj vs S h.1]
theorem Aae (S:St) (d:Option Nat) (x:SV) (c:List Kl) (h:x.safe c=true):(S.putO d x).kp c=(S.kp c).putO d x:=by
 cases d with
 | none=>rfl
 | some d=>
  refine St.ext' (λi=>?_) (λi=>?_) (λi j=>?_) (λi=>?_)
  .rw [G6];show(if i=d then x else S.sl i).kp c=(if i=d then x else(S.kp c).sl i)
   rw [G6];split
   .exact SV.kp_safe h
   .rfl
  .rw [Du];show S.ms i=(S.kp c).ms i;rw [Du]
  .rw [Di];show(S.mc i j).kp c=(S.kp c).mc i j;rw [Di]
  .rw [D0];show S.ow i=(S.kp c).ow i;rw [D0]
theorem AfK (S:St) (d:Option Nat) (x:SV) (u:U):(S.putO d x).up u=(S.up u).putO d x:=by
 cases d <;> cases u <;> rfl
theorem Q9 (d:Option Nat) (x:SV):∀(us:List U) (S:St),(S.putO d x).ups us=(S.ups us).putO d x
 | [],_=>rfl
 | u::us,S=>by
  show((S.putO d x).up u).ups us=((S.up u).ups us).putO d x;rw [AfK,Q9 d x us]
theorem AbO (S:St) (d e:Option Nat) (x y:SV) (h:∀i,d=some i->e≠some i):(S.putO d x).putO e y=(S.putO e y).putO d x:=by
 cases d with
 | none=>rfl
 | some d=>
  cases e with
  | none=>rfl
  | some e=>
   have hne:¬ e=d:=λhe=>h d rfl (by rw [he])
   refine St.ext' (λi=>?_) (λ_=>rfl) (λ_ _=>rfl) (λ_=>rfl);show(if i=e then y else if i=d then x else S.sl i)=(if i=d then x else if i=e then y else S.sl i)
   by_cases h1:i=e
   .subst h1;rw [AjS rfl,AjR hne,AjS rfl]
   .rw [AjR h1,AjR h1]
theorem Af3 (S:St) (d e:Option Nat) (p q:Out) (hd:∀i,d=some i->e≠some i) (h1:p.x.safe q.ks=true) (h2:q.x.safe p.ks=true) (h3:p.us.all (U.safe q.ks)=true) (h4:q.us.all (U.safe p.ks)=true)
  (h5:p.us.all (λu=>q.us.all λv=>!u.meets v)=true):(S.app d p).app e q=(S.app e q).app d p:=by
 simp only [St.app];rw [Aae _ _ _ _ h1,XO _ _ _ h3,Q9,Aae _ _ _ _ h2,XO _ _ _ h4,Q9,AbO _ _ _ _ _ hd,Aai _ _ _ h5,St.kp_kp]
end Go.V
namespace Go.V
def Holds (ops:Array Oper) (S:St) (o:Oper) (y:Bool):Prop:=
 match o.guard with
 | none=>y=true
 | some (j,want)=>∃g,Ql ops j=some g/\((∃b,S.sl g=.s (.one (.v .bool b))/\y=(b == want))\/(S.sl g=.un/\y=false))
def Stp (E:Env) (N:Nat) (ops:Array Oper) (S:St) (r:Rec):Prop:=
 Qm E N r.o=true/\((Holds ops S r.o true/\(Aay E N r.o S).run=some (r.out,r.lg)/\r.ins=r.o.op.operands.toList.map (Cj S))\/(Holds ops S r.o false/\r.out=VB/\r.lg=[]/\r.ins=[]))
theorem Wx {S:St} {g:Nat} {x:SV} (h:S.sl g=x):S.put g x=S:=by
 refine St.ext' (λi=>?_) (λ_=>rfl) (λ_ _=>rfl) (λ_=>rfl);show(if i=g then x else S.sl i)=S.sl i;split
 .rename_i hi;rw [hi,h]
 .rfl
section
variable {E:Env} {N:Nat} {ops:Array Oper}
theorem UB {o:Oper} {S S':St} {r:Rec} (h:(VH E N ops o S).run=some (S',r)):r.o=o/\Stp E N ops S r/\S'=S.app o.dst r.out:=by
 have yes:Qm E N o=true->Holds ops S o true->(V7 E N o S).run=some (S',r)->r.o=o/\Stp E N ops S r/\S'=S.app o.dst r.out:=by
  intro hd hh h;simp only [V7,run_bind,AjQ,Tr.run,AjN,Prod.mk.injEq]at h;obtain ⟨x,hx,h1,h2⟩:=h;subst h1 h2;exact⟨rfl,⟨hd,.inl ⟨hh,hx,rfl⟩⟩,rfl⟩
 have nay:Qm E N o=true->Holds ops S o false->(VR o S).run=some (S',r)->r.o=o/\Stp E N ops S r/\S'=S.app o.dst r.out:=by
  intro hd hh h;simp only [VR,Tr.run,AjN,Prod.mk.injEq]at h;obtain ⟨h1,h2⟩:=h;subst h1 h2;exact⟨rfl,⟨hd,.inr ⟨hh,rfl,rfl,rfl⟩⟩,rfl⟩
 unfold VH at h;split at h
 .rename_i hd;split at h
  .rename_i hg;exact yes hd (by simp [Holds,hg]) h
  .rename_i j want hg;split at h
   .rename_i g hgs;split at h
    .rename_i bb hs;have hold:∀y,y=(bb == want)->Holds ops S o y:=λy hy=>by simp only [Holds,hg];exact⟨g,hgs,.inl ⟨bb,hs,hy⟩⟩
     simp only [Tr.run]at h;cases hb:(bb:Bool)with
     | true=>
      rw [hb]at h hs;simp only [Akh]at h;rw [Wx hs]at h;cases want with
      | true=>exact yes hd (hold _ (by rw [hb];rfl)) h
      | false=>exact nay hd (hold _ (by rw [hb];rfl)) h
     | false=>
      rw [hb]at h hs;simp only [Aj4,Aku]at h;rw [Wx hs]at h;cases want with
      | true=>exact nay hd (hold _ (by rw [hb];rfl)) h
      | false=>exact yes hd (hold _ (by rw [hb];rfl)) h
    .rename_i hs;exact nay hd (by unfold Holds;rw [hg];exact⟨g,hgs,.inr ⟨hs,rfl⟩⟩) h
    .simp [Tr.run]at h
   .simp [Tr.run]at h
 .simp [Tr.run]at h
theorem Su (S:St) (d:Option Nat) (p:Out) {t:Nat} (h:d≠some t):(S.app d p).sl t=(S.sl t).kp p.ks:=by
 have e:((S.kp p.ks).ups p.us).sl t=(S.sl t).kp p.ks:=by rw [Adf,G6]
 cases d with
 | none=>exact e
 | some d=>
  show(if t=d then p.x else((S.kp p.ks).ups p.us).sl t)=_;rw [AjR (λht=>h (by rw [ht])),e]
theorem OY {k:Nat}:∀(us:List U) (S:St),us.all (λu=>!u.hits (.o k))=true->(S.ups us).ow k=S.ow k
 | [],_,_=>rfl
 | u::us,S,h=>by
  simp only [Ak8,AjT,Aj0]at h;show((S.up u).ups us).ow k=_;rw [OY us _ (by simpa using h.2)];cases u with
  | ow k' o=>
   have:¬ k=k':=λhk=>by rw [hk]at h;simp [U.hits]at h
   show(if k=k' then o else S.ow k)=_;rw [AjR this]
  | mc _ _ _=>rfl
  | ms _ _=>rfl
theorem OC {k:Nat}:∀(us:List U) (S:St),us.all (λu=>!u.hits (.m k))=true->(S.ups us).ms k=S.ms k
 | [],_,_=>rfl
 | u::us,S,h=>by
  simp only [Ak8,AjT,Aj0]at h;show((S.up u).ups us).ms k=_;rw [OC us _ (by simpa using h.2)];cases u with
  | ms k' row=>
   have:¬ k=k':=λhk=>by rw [hk]at h;simp [U.hits]at h
   show(if k=k' then _ else S.ms k)=_;rw [AjR this]
  | mc _ _ _=>rfl
  | ow _ _=>rfl
theorem Pd {k off:Nat} {l:Leaf}:∀(us:List U) (S:St),us.all (λu=>!u.hits (.c k off l))=true->(S.ups us).mc k off=S.mc k off
 | [],_,_=>rfl
 | u::us,S,h=>by
  simp only [Ak8,AjT,Aj0]at h;show((S.up u).ups us).mc k off=_;rw [Pd us _ (by simpa using h.2)];cases u with
  | mc k' off' l'=>
   show(if k=k' then(if off=off' then l' else S.mc k off)else S.mc k off)=_;have:=h.1;simp only [U.hits,Bool.and_eq_false_iff,beq_eq_false_iff_ne]at this;by_cases h1:k=k'
   .rw [AjS h1,AjR (λh2=>by rcases this with h3 | h3 <;> simp_all)]
   .rw [AjR h1]
  | ms k' row=>
   have:¬ k=k':=λhk=>by rw [hk]at h;simp [U.hits]at h
   show(if k=k' then _ else S.mc k off)=_;rw [AjR this]
  | ow _ _=>rfl
theorem AbI (S:St) (d:Option Nat) (p:Out):(S.app d p).ow=((S.kp p.ks).ups p.us).ow:=by cases d <;> rfl
theorem Adh (S:St) (d:Option Nat) (p:Out):(S.app d p).ms=((S.kp p.ks).ups p.us).ms:=by cases d <;> rfl
theorem AbX (S:St) (d:Option Nat) (p:Out):(S.app d p).mc=((S.kp p.ks).ups p.us).mc:=by cases d <;> rfl
theorem Agx {x:SV} {c:List Kl} {b:Bool} (h:x.kp c=.s (.one (.v .bool b))):x=.s (.one (.v .bool b)):=by
 cases x with
 | s x=>
  cases x with
  | one l=>
   cases l with
   | v t y=>exact h
   | vw k st win=>
    simp only [SV.kp,S1.kp,Leaf.kp,SV.s.injEq,S1.one.injEq]at h;split at h <;> cases h
   | p k off=>
    simp only [SV.kp,S1.kp,Leaf.kp,SV.s.injEq,S1.one.injEq]at h;split at h <;> cases h
   | mh k=>
    simp only [SV.kp,S1.kp,Leaf.kp,SV.s.injEq,S1.one.injEq]at h;split at h <;> cases h
   | np=>exact h
   | md xs=>exact h
   | qn e=>exact h
   | nil=>exact h
   | no=>exact h
  | ag ls=>simp [SV.kp,S1.kp]at h
  | pl k off=>
   simp only [SV.kp,S1.kp,SV.s.injEq]at h;split at h <;> cases h
  | el k st=>
   simp only [SV.kp,S1.kp,SV.s.injEq]at h;split at h <;> cases h
  | rp t y off=>exact h
  | fv f cs=>
   simp only [SV.kp,S1.kp,SV.s.injEq]at h;split at h <;> cases h
 | tu xs=>simp [SV.kp]at h
 | un=>exact h
 | no=>exact h
theorem Ait {x:SV} {c:List Kl} (h:x.kp c=.un):x=.un:=by
 cases x <;> simp_all [SV.kp]
theorem Ach {a b:Oper} (h:H4 ops a b=true):(∀d,a.dst=some d->d∉H5 ops b)/\(∀d,a.dst=some d->b.dst≠some d)/\(∀d,b.dst=some d->d∉H5 ops a):=by
 simp only [H4,AjT]at h;refine⟨λd hd=>?_,λd hd=>?_,λd hd=>?_⟩
 .rw [hd]at h;simp only [AjT,Aj0]at h;simpa using h.1.1
 .rw [hd]at h;simp only [AjT,Aj0]at h;intro he;rw [he]at h;simp at h
 .rw [hd]at h;simp only [Aj0]at h;simpa using h.2
theorem AdE {o:Oper} {t:Nat} (h:Operand.tmp t∈o.op.operands.toList):t∈H5 ops o:=
 Alg _ (List.mem_filterMap.2 ⟨.tmp t,h,rfl⟩)
theorem SG {o:Oper} {j:Nat} {want:Bool} {g:Nat} (h:o.guard=some (j,want)) (hg:Ql ops j=some g):g∈H5 ops o:=
 List.mem_append_right _ (by rw [h];simp [hg])
structure Past (a b:Rec):Prop where
 whole:b.out.ks=[]\/((∀x,x∈a.ins->x.whole=true)/\∀x,x∈a.lg->x.whole=true)
 ins:∀x,x∈a.ins->x.safe b.out.ks=true
 x:a.out.x.safe b.out.ks=true
 lg:∀x,x∈a.lg->x.safe b.out.ks=true
 us:a.out.us.all (U.safe b.out.ks)=true
 hits:∀x,x∈a.lg->b.out.us.all (λu=>!u.hits x)=true
theorem UC {a b:Rec} (h:a.past b=true):Past a b:=by
 simp only [Rec.past,AjT,Ak2,List.isEmpty_iff,Aki (p:=SV.whole),Aki (p:=Lg.whole),Aki (p:=SV.safe b.out.ks),Aki (p:=Lg.safe b.out.ks)]at h;obtain ⟨⟨⟨⟨⟨h1,h2⟩,h3⟩,h4⟩,h5⟩,h6⟩:=h;rw [Aki]at h6;exact⟨h1,h2,h3,h4,h5,h6⟩
theorem Stp.move {S S':St} {r:Rec} (h:Stp E N ops S r) (hop:∀t,t∈H5 ops r.o->(∀x,x∈r.ins->x=S.sl t->S'.sl t=S.sl t)) (hg:∀t,t∈H5 ops r.o->((∃b,S.sl t=.s (.one (.v .bool b)))\/S.sl t=.un)->S'.sl t=S.sl t)
  (hlg:AdX S r.lg->Ag S S' r.lg):Stp E N ops S' r:=by
 have hold:∀y,Holds ops S r.o y->Holds ops S' r.o y:=by
  intro y hy;unfold Holds at hy ⊢;split
  .rename_i hgd;rw [hgd]at hy;exact hy
  .rename_i j want hgd;rw [hgd]at hy;obtain ⟨g,h1,⟨bb,h2,h3⟩ | ⟨h2,h3⟩⟩:=hy
   .exact⟨g,h1,.inl ⟨bb,by rw [hg g (SG hgd h1) (.inl ⟨bb,h2⟩),h2],h3⟩⟩
   .exact⟨g,h1,.inr ⟨by rw [hg g (SG hgd h1) (.inr h2),h2],h3⟩⟩
 obtain ⟨hd,h | ⟨h1,h2,h3,h4⟩⟩:=h
 .obtain ⟨h1,h2,h3⟩:=h;have hopn:∀x,x∈r.o.op.operands.toList->Cj S' x=Cj S x:=by
   intro x hx;cases x with
   | tmp t=>exact hop t (AdE hx) (S.sl t) (by rw [h3];exact Aj9.2 ⟨.tmp t,hx,rfl⟩) rfl
   | _=>rfl
  refine⟨hd,.inl ⟨hold _ h1,?_,?_⟩⟩
  .unfold Aay at h2 ⊢;rw [Aa4 E (Cj S') (Cj S) _ _ hopn];exact AdH S S' _ [] h2 (hlg (AfC S _ [] (λk off x hx=>by cases hx) h2))
  .rw [h3];exact AkM λx hx=>(hopn x hx).symm
 .exact⟨hd,.inr ⟨hold _ h1,h2,h3,h4⟩⟩
theorem Stp.swap {S:St} {p q:Rec} (hp:Stp E N ops S p) (hq:Stp E N ops (S.app p.o.dst p.out) q) (hs:H4 ops p.o q.o=true) (ha:p.apart q=true) :
  Stp E N ops S q/\Stp E N ops (S.app q.o.dst q.out) p/\(S.app p.o.dst p.out).app q.o.dst q.out=(S.app q.o.dst q.out).app p.o.dst p.out:=by
 obtain ⟨s1,s2,s3⟩:=Ach hs;simp only [Rec.apart,AjT]at ha;obtain ⟨⟨ha,hb⟩,hm⟩:=ha;have pa:=UC ha;have pb:=UC hb;refine⟨?_,?_,Af3 S _ _ _ _ s2 pa.x pb.x pa.us pb.us hm⟩
 .refine hq.move ?_ ?_ ?_
  .intro t ht x hx hxt;have e:=Su S p.o.dst p.out (λh=>s1 t h ht:p.o.dst≠some t);rw [e]at hxt ⊢;rcases pb.whole with h0 | ⟨h0,_⟩
   .rw [h0,SV.kp_nil]
   .have:=h0 x hx;rw [hxt]at this;exact(SV.kp_whole this).symm
  .intro t ht hb;have e:=Su S p.o.dst p.out (λh=>s1 t h ht:p.o.dst≠some t);rw [e]at hb ⊢;rcases hb with⟨bb,hb⟩ | hb
   .rw [Agx hb];rfl
   .rw [Ait hb];rfl
  .intro hsee l hl;have hh:=pb.hits l hl;cases l with
   | o k=>show(S.app p.o.dst p.out).ow k=S.ow k;rw [AbI,OY _ _ hh,D0]
   | m k=>show(S.app p.o.dst p.out).ms k=S.ms k;rw [Adh,OC _ _ hh,Du]
   | c k off l=>
    show(S.app p.o.dst p.out).mc k off=S.mc k off;have h1:=hsee k off l hl;rw [AbX,Pd _ _ hh,Di]at h1 ⊢;rcases pb.whole with h0 | ⟨_,h0⟩
    .rw [h0,Leaf.kp_nil]
    .have:=h0 _ hl;simp only [Lg.whole]at this;rw [<- h1]at this;exact Leaf.kp_whole this
 .refine hp.move ?_ ?_ ?_
  .intro t ht x hx hxt;have e:=Su S q.o.dst q.out (λh=>s3 t h ht:q.o.dst≠some t);rw [e];have:=pa.ins x hx;rw [hxt]at this;exact SV.kp_safe this
  .intro t ht hb;have e:=Su S q.o.dst q.out (λh=>s3 t h ht:q.o.dst≠some t);rcases hb with⟨bb,hb⟩ | hb
   .rw [e,hb];rfl
   .rw [e,hb];rfl
  .intro hsee l hl;have hh:=pa.hits l hl;cases l with
   | o k=>show S.ow k=(S.app q.o.dst q.out).ow k;rw [AbI,OY _ _ hh,D0]
   | m k=>show S.ms k=(S.app q.o.dst q.out).ms k;rw [Adh,OC _ _ hh,Du]
   | c k off l=>
    show S.mc k off=(S.app q.o.dst q.out).mc k off;have h1:=hsee k off l hl;have h2:=pa.lg _ hl;simp only [Lg.safe]at h2;rw [AbX,Pd _ _ hh,Di,h1,Leaf.kp_safe h2]
inductive Runs (E:Env) (N:Nat) (ops:Array Oper):List (Nat×Rec)->St->St->Prop
 | nil {S}:Runs E N ops [] S S
 | cons {i r l S S'}:Stp E N ops S r->Runs E N ops l (S.app r.o.dst r.out) S'->Runs E N ops ((i,r)::l) S S'
theorem Runs.front {q:Nat×Rec} {R2:List (Nat×Rec)}:∀(R1:List (Nat×Rec)) {S S':St},(∀p,p∈R1->H4 ops p.2.o q.2.o=true/\p.2.apart q.2=true)->Runs E N ops (R1++q::R2) S S'->Runs E N ops (q::(R1++R2)) S S'
 | [],_,_,_,h=>h
 | (i,p)::R1,S,S',ha,h=>by
  obtain ⟨qi,q⟩:=q;cases h with
  | cons h1 h2=>
   have:=Runs.front R1 (λp hp=>ha p (by simp [hp])) h2;cases this with
   | cons h3 h4=>
    obtain ⟨s1,s2⟩:=ha (i,p) Z;obtain ⟨k1,k2,k3⟩:=h1.swap h3 s1 s2;rw [k3]at h4;exact .cons k1 (.cons k2 h4)
theorem OP:∀(os:List Oper) (S S':St) (n:Nat),(TD E N ops os S).run=some S'->∃rs:List Rec,rs.map (·.o)=os/\Runs E N ops (Dz rs n) S S'
 | [],S,S',n,h=>by
  rw [TD]at h;simp only [Tr.run,AjN]at h;subst h;exact⟨[],rfl,.nil⟩
 | o::os,S,S',n,h=>by
  rw [TD]at h;simp only [run_bind,AjQ]at h;obtain ⟨⟨S1,r⟩,h1,h2⟩:=h;obtain ⟨e1,e2,e3⟩:=UB h1;subst e3;obtain ⟨rs,k1,k2⟩:=OP os _ S' (n+1) h2;exact⟨r::rs,by rw [Akw,k1,e1],.cons e2 (by rw [e1];exact k2)⟩
theorem T6:∀(os:List Oper) (S S':St) (acc rs:List Rec) (n:Nat),(Xq E N ops os S acc).run=some (S',rs)->∃rs':List Rec,rs=acc.reverse++rs'/\rs'.map (·.o)=os/\Runs E N ops (Dz rs' n) S S'
 | [],S,S',acc,rs,n,h=>by
  rw [Xq]at h;simp only [Tr.run,AjN,Prod.mk.injEq]at h;obtain ⟨h1,h2⟩:=h;subst h1 h2;exact⟨[],Z,rfl,.nil⟩
 | o::os,S,S',acc,rs,n,h=>by
  rw [Xq]at h;simp only [run_bind,AjQ]at h;obtain ⟨⟨S1,r⟩,h1,h2⟩:=h;obtain ⟨e1,e2,e3⟩:=UB h1;subst e3;obtain ⟨rs',k0,k1,k2⟩:=T6 os _ S' (r::acc) rs (n+1) h2;exact⟨r::rs',by rw [k0];simp,by rw [Akw,k1,e1],.cons e2 (by rw [e1];exact k2)⟩
end
end Go.V
namespace Go.V
def EnB (P:Program) (E:Env) (b:Base):Prop:=∀{S:St} {w:World} {c:Cc} {a:Act},Inv b S w c->(∀x,x∈b.fx->a.tmps.getD x.1 undef=x.2)->∀s p,WV E.en s=some p->
 (Instr.entry (a.eval (.tmp s))).run P w=.ok (.tuple #[.int .i64 p.1,.int .i64 p.2]) w
section
variable {P:Program} {E:Env} {b:Base} {N:Nat} {ops:Array Oper}
theorem Sim.skip {S:St} {a:Act} {w:World} (h:Sim b N S a w) (d:Option Nat) (hd:∀k,d=some k->k < N) (hdx:∀k,d=some k->∀p,p∈b.fx->p.1≠k):Sim b N (S.app d VB) (a.put d undef) w:=by
 obtain ⟨c,hi,hs,hfx⟩:=h;exact(Did.same (x:=.un) (v:=undef) hi rfl).sim hs d hd hfx hdx
theorem Stp.runs (hE:EnvOk P E) (hF:∀p,p∈b.fx->E.fx.contains p.1=true) (hG:EnB P E b) (hN:N < b.n1) {S:St} {r:Rec} (h:Stp E N ops S r) {a:Act} {w:World} (hs:Sim b N S a w) {K:Act->World->Prop} {Q:Exit->Act->World->Prop} (hK:∀a' w',Sim b N (S.app r.o.dst r.out) a' w'->K a' w') :
  if Region.wanted r.o (yielded ops a.tmps)then r.o.wp P a w K Q else K (a.put r.o.dst undef) w:=by
 obtain ⟨hd,h⟩:=h;have hdst:∀k,r.o.dst=some k->k < N:=by
  intro k hk;unfold Qm at hd;rw [hk]at hd;simp only [AjT,decide_eq_true_eq]at hd;exact hd.1
 have hdx:∀k,r.o.dst=some k->∀p,p∈b.fx->p.1≠k:=by
  intro k hk p hp he;unfold Qm at hd;rw [hk]at hd;simp only [AjT,Aj0]at hd;have:=hF p hp;rw [he,hd.2]at this;cases this
 have hw:∀y,Holds ops S r.o y->Region.wanted r.o (yielded ops a.tmps)=y:=by
  intro y hy;unfold Holds at hy;unfold Region.wanted;split at hy
  .rename_i hg;rw [hg];exact hy.symm
  .rename_i j want hg;obtain ⟨g,h1,h2⟩:=hy;rw [hg];simp only;obtain ⟨c,hi,hsl,_⟩:=hs;have h4:=hsl.ok g;rcases h2 with⟨bb,h2,h3⟩ | ⟨h2,h3⟩
   rotate_left
   .rw [h2]at h4;have h5:a.tmps.getD g undef=undef:=h4;have h7:yielded ops a.tmps j=none:=by
     unfold yielded;unfold Ql at h1;rw [h1];rw [Ak1]at h5;cases h8:a.tmps[g]? with
     | none=>simp [h8]
     | some v=>rw [h8]at h5;simp only [Akx]at h5;subst h5;simp [h8,undef]
    rw [h7,h3];rfl
   rw [h2]at h4;have h5:a.tmps.getD g undef=.bool bb:=Ep (AT h4);have h6:a.tmps[g]?=some (.bool bb):=by
    rw [Ak1]at h5;cases h7:a.tmps[g]? with
    | none=>rw [h7]at h5;cases h5
    | some v=>rw [h7]at h5;simp only [Akx]at h5;rw [h5]
   have h7:yielded ops a.tmps j=some bb:=by
    unfold yielded;unfold Ql at h1;rw [h1];simp [h6]
   rw [h7,h3];rfl
 rcases h with⟨h1,h2,_⟩ | ⟨h1,h2,_⟩
 .rw [hw true h1,AjS rfl];obtain ⟨c,hi,hsl,hfx⟩:=hs;have hev:=Afm S _ [] h2;refine Agq hE.ti hi hsl r.o (d:=r.o.dst.getD N) (by
   cases hk:r.o.dst with
   | none=>exact hN
   | some k=>exact Nat.lt_trans (hdst k hk) hN) (λfo f cs args ts out ho hfo hsz hc=>Ae5 hE hi hsl ho hfo hsz hc) (hG hi hfx) hev K Q λv w' hdid=>?_
  exact hK _ _ (hdid.sim hsl r.o.dst hdst hfx hdx)
 .rw [hw false h1];simp only [Aj4,Aku];refine hK _ _ ?_;rw [h2];exact hs.skip _ hdst hdx
theorem Runs.more (hE:EnvOk P E) (hF:∀p,p∈b.fx->E.fx.contains p.1=true) (hG:EnB P E b) (hN:N < b.n1) {rest:List Oper}:∀(rs:List Rec) (n:Nat) {S S':St} {a:Act} {w:World} {Q:Exit->Act->World->Prop},Runs E N ops (Dz rs n) S S'->Sim b N S a w->(∀a' w',Sim b N S' a' w'->wpList P ops Q rest a' w')->wpList P ops Q (rs.map (·.o)++rest) a w
 | [],n,S,S',a,w,Q,h,hs,hQ=>by
  cases h;exact hQ _ _ hs
 | r::rs,n,S,S',a,w,Q,h,hs,hQ=>by
  cases h with
  | cons h1 h2=>
   rw [Akw,AkB];refine wpList_step λK hK=>?_
   exact h1.runs hE hF hG hN hs λa' w' hs'=>hK _ _ (Runs.more hE hF hG hN rs (n+1) h2 hs' hQ)
theorem Runs.list (hE:EnvOk P E) (hF:∀p,p∈b.fx->E.fx.contains p.1=true) (hG:EnB P E b) (hN:N < b.n1) (rs:List Rec) (n:Nat) {S S':St} {a:Act} {w:World} {Q:Exit->Act->World->Prop} (h:Runs E N ops (Dz rs n) S S') (hs:Sim b N S a w) (hQ:∀a' w',Sim b N S' a' w'->Q .normal a' w'):wpList P ops Q (rs.map (·.o)) a w:=by
 have:=Runs.more hE hF hG hN (rest:=[]) rs n h hs hQ
 rwa [Aj2]at this
theorem RC:∀(os:List Oper) (acc:List Nat),(∀j,j < acc.length->(ahead os acc).getD j 0=acc.getD j 0)/\
  ∀j o,os[j]?=some o->∀i,((ahead os acc).getD (acc.length+j) 0).testBit i=true->∃e,e∈o.after.toList/\Region.binds .any e=true/\(e.on=i\/((ahead os acc).getD e.on 0).testBit i=true)
 | [],acc=>⟨λ_ _=>rfl,λj o h=>by simp at h⟩
 | o::os,acc=>by
  obtain ⟨h1,h2⟩:=RC os (acc++[KD acc o]);have e:ahead (o::os) acc=ahead os (acc++[KD acc o]):=rfl;have hpre:∀j,j < acc.length->(ahead os (acc++[KD acc o])).getD j 0=acc.getD j 0:=by
   intro j hj;rw [h1 j AjJ,AkD,AkG hj,AkD]
  rw [e];refine⟨hpre,λj o' ho i hi=>?_⟩;cases j with
  | zero=>
   simp only [Ak0,AjN]at ho;subst ho;have hv:(ahead os (acc++[KD acc o])).getD (acc.length+0) 0=KD acc o:=by
    rw [h1 _ Z,AkD];simp
   rw [hv]at hi;have key:∀(es:List Edge) (m:Nat),(es.foldl (λm e=>if Region.binds .any e then m ||| ((1 <<< e.on) ||| acc.getD e.on 0)else m) m).testBit i=true->
     m.testBit i=true\/∃e,e∈es/\Region.binds .any e=true/\(e.on=i\/(acc.getD e.on 0).testBit i=true):=by
    intro es
    induction es with
    | nil=>intro m h;exact .inl h
    | cons e es ih=>
     intro m h;rw [Alj]at h;rcases ih _ h with h | ⟨e',k1,k2,k3⟩
     .split at h
      .rename_i hb;rw [Nat.testBit_or,Nat.testBit_or,Nat.one_shiftLeft,Nat.testBit_two_pow]at h;simp only [Ak2,decide_eq_true_eq]at h;rcases h with h | h | h
       .exact .inl h
       .exact .inr ⟨e,Z,hb,.inl h⟩
       .exact .inr ⟨e,Z,hb,.inr h⟩
      .exact .inl h
     .exact .inr ⟨e',by simp [k1],k2,k3⟩
   rcases key _ 0 hi with h | ⟨e',k1,k2,k3⟩
   .simp at h
   .refine⟨e',k1,k2,k3.imp id λh=>?_⟩;by_cases he:e'.on < acc.length
    .rw [hpre _ he];exact h
    .rw [AkD,Aka O]at h;simp at h
  | succ j=>
   have:=h2 j o' (by simpa using ho) i (by rw [AjU,AjZ];rwa [(O:acc.length+1+j=acc.length+(j+1))]);exact this
theorem Ou:∀(os:List Oper) (n:Nat),N6 os n=true->∀j o,os[j]?=some o->∀e,e∈o.after.toList->Region.binds .any e=true->e.on < n+j
 | [],_,_,j,o,h=>by simp at h
 | o::os,n,hb,j,o',ho=>by
  simp only [N6,AjT,Aki]at hb;cases j with
  | zero=>
   simp only [Ak0,AjN]at ho;subst ho;intro e he hbd;have:=hb.1 e he;rw [hbd]at this;simpa using this
  | succ j=>
   intro e he hbd;have:=Ou os (n+1) hb.2 j o' (by simpa using ho) e he hbd;omega
theorem Us {bs:List Nat} {q:Nat×Rec} {R2:List (Nat×Rec)}:∀(R1:List (Nat×Rec)),H6 ops bs (R1++q::R2)=true->
  H6 ops bs (R1++R2)=true/\∀p,p∈R1->(bs.getD q.1 0).testBit p.1=true\/(H4 ops p.2.o q.2.o=true/\p.2.apart q.2=true)
 | [],h=>by
  obtain ⟨i,q⟩:=q;simp only [Akm,H6,AjT]at h;exact⟨h.2,λp hp=>by cases hp⟩
 | (i,p)::R1,h=>by
  simp only [AkB,H6,AjT,Aki]at h;obtain ⟨h1,h2⟩:=h;obtain ⟨k1,k2⟩:=Us R1 h2;refine⟨?_,λp' hp=>?_⟩
  .simp only [AkB,H6,AjT,Aki];refine⟨λx hx=>h1 x ?_,k1⟩;rcases AjV.1 hx with hx | hx
   .exact AjV.2 (.inl hx)
   .exact AjV.2 (.inr (AkT _ hx))
  .rcases Aj5.1 hp with rfl | hp
   .have:=h1 q (AjV.2 (.inr Z));simp only [Ak2,AjT]at this;exact this
   .exact k2 p' hp
structure Left (ops:Array Oper) (bs:List Nat) (R:List (Nat×Rec)) (listed:Array Bool):Prop where
 size:listed.size=ops.size
 lt:∀p,p∈R->p.1 < ops.size
 not:∀i,i < ops.size->(listed[i]?=some false↔i∈R.map (·.1))
 op:∀p,p∈R->ops[p.1]?=some p.2.o
 asc:(R.map (·.1)).Pairwise (· < ·)
 closed:∀j,listed[j]?=some true->∀i,(bs.getD j 0).testBit i=true->listed[i]?=some true
theorem UH (hE:EnvOk P E) (hF:∀p,p∈b.fx->E.fx.contains p.1=true) (hG:EnB P E b) (hN:N < b.n1) (bs:List Nat) (hbs:∀(j:Nat) o,ops[j]?=some o->∀i,(bs.getD j 0).testBit i=true->∃e,e∈o.after.toList/\Region.binds .any e=true/\(e.on=i\/(bs.getD e.on 0).testBit i=true))
  (hbk:∀(j:Nat) o,ops[j]?=some o->∀e,e∈o.after.toList->Region.binds .any e=true->e.on < j) {Q:Exit->Act->World->Prop} {S':St} (hQ:∀a' w',Sim b N S' a' w'->Q .normal a' w') :
  ∀(fuel:Nat) (R:List (Nat×Rec)) (listed:Array Bool) (S:St) (a:Act) (w:World),R.length=fuel->Runs E N ops R S S'->H6 ops bs R=true->Left ops bs R listed->Sim b N S a w->wpAny P .any ops Q fuel listed a w
 | 0,R,listed,S,a,w,hl,hr,_,hL,hs=>by
  obtain rfl:R=[]:=Akb hl;cases hr;refine⟨?_,hQ _ _ hs⟩;unfold Region.ready;rw [List.filter_eq_nil_iff];intro i hi;have hi':i < ops.size:=by simpa using hi
  have h1:=hL.not i hi';have h2:listed[i]?=some true:=by
   have h3:i < listed.size:=by rw [hL.size];exact hi'
   rw [Akp h3]at h1 ⊢;cases h4:listed[i]with
   | true=>rfl
   | false=>rw [h4]at h1;simp at h1
  have h5:listed.getD i true=true:=by rw [Ak1,h2];rfl
  rw [h5];simp
 | fuel+1,R,listed,S,a,w,hl,hr,hp,hL,hs=>by
  refine⟨λhnil=>?_,λi hi=>?_⟩
  .-- the first that is left is ready
   exfalso;cases R with
   | nil=>simp at hl
   | cons q R=>
    have hq:=hL.op q Z;have hqlt:=hL.lt q Z;have hin:q.1∈Region.ready .any ops listed:=by
     unfold Region.ready;rw [AlC];refine⟨by simpa using hqlt,?_⟩;have h1:=(hL.not q.1 hqlt).2 Z;rw [Ak1,h1,hq];simp only [Akx,AlH,Aj3,AkJ];rw [Array.all_eq_true'];intro e he;cases hbd:Region.binds .any e with
     | false=>rfl
     | true=>
      have hlt:=hbk q.1 _ hq e (Array.mem_toList_iff.2 he) hbd;have h3:e.on < listed.size:=by rw [hL.size];omega
      have h2:=hL.not e.on O;have h4:e.on∉(q::R).map (·.1):=by
       intro hm;have:=hL.asc;rw [Akw,List.pairwise_cons]at this;rcases Aj5.1 hm with hm | hm
       .have hm':e.on=q.1:=hm;omega
       .have h9:q.1 < e.on:=this.1 e.on hm;omega
      rw [Ak1];rw [Akp h3]at h2 ⊢;cases h5:listed[e.on]with
      | true=>rfl
      | false=>rw [h5]at h2;exact absurd (h2.1 rfl) h4
    rw [hnil]at hin;cases hin
  .unfold Region.ready at hi;rw [AlC]at hi;obtain ⟨hi1,hi2⟩:=hi;have hilt:i < ops.size:=by simpa using hi1
   simp only [AjT,Aj0]at hi2;obtain ⟨hn,hpre⟩:=hi2;have hlt:i < listed.size:=by rw [hL.size];exact hilt
   have hif:listed[i]?=some false:=by
    rw [Ak1,Akp hlt]at hn;rw [Akp hlt];simp only [Akx]at hn;rw [hn]
   obtain ⟨q,hq,hqi⟩:=Aj9.1 ((hL.not i hilt).1 hif);subst hqi;have hop:=hL.op q hq;rw [hop]at hpre;simp only [AkJ,Akx]at hpre;have hpre':∀e,e∈q.2.o.after.toList->Region.binds .any e=true->listed[e.on]?=some true:=by
    intro e he hbd;rw [Array.all_eq_true']at hpre;have:=hpre e (Array.mem_toList_iff.1 he);rw [hbd]at this;simp only [AkF,Ak3]at this;rw [Ak1]at this;cases h:listed[e.on]? with
    | none=>rw [h]at this;cases this
    | some x=>rw [h]at this;simp only [Akx]at this;rw [this]
   have hall:∀j,(bs.getD q.1 0).testBit j=true->listed[j]?=some true:=by
    intro j hj;obtain ⟨e,k1,k2,k3⟩:=hbs q.1 _ hop j hj;have:=hpre' e k1 k2;rcases k3 with k3 | k3
    .rw [<- k3];exact this
    .exact hL.closed e.on this j k3
   obtain ⟨R1,R2,rfl⟩:=List.append_of_mem hq;obtain ⟨p1,p2⟩:=Us R1 hp;have hfront:=Runs.front R1 (λp hp'=>by
    rcases p2 p hp' with h | h
    .have h1:=hall p.1 h;have h2:=(hL.not p.1 (hL.lt p (by simp [hp']))).2 (Aj9.2 ⟨p,by simp [hp'],rfl⟩);rw [h1]at h2;cases h2
    .exact h) hr
   obtain ⟨qi,r⟩:=q;cases hfront with
   | cons s1 s2=>
    unfold wpOp;rw [hop];simp only;have hrec:∀a' w',Sim b N (S.app r.o.dst r.out) a' w'->wpAny P .any ops Q fuel (listed.setIfInBounds qi true) a' w':=by
     intro a' w' hs';refine UH hE hF hG hN bs hbs hbk hQ fuel (R1++R2) _ _ a' w' ?_ s2 p1 ?_ hs'
     .simp only [AjU,Aj1]at hl ⊢;omega
     .have hasc:=hL.asc;rw [Akv,Akw,Alv,List.pairwise_cons]at hasc;obtain ⟨g1,⟨g2,g3⟩,g4⟩:=hasc;refine⟨by simp [hL.size],λp hp=>?_,λi hi=>?_,λp hp=>?_,?_,?_⟩
      .rcases AjV.1 hp with h | h
       .exact hL.lt p (by simp [h])
       .exact hL.lt p (by simp [h])
      .by_cases hiq:i=qi
       .subst hiq;rw [Alk hlt];simp only [AjN,Bool.true_eq_false,false_iff];rw [Akv];intro hm;rcases AjV.1 hm with hm | hm
        .have:=g4 i hm i Z;omega
        .have:=g2 i hm;omega
       .rw [AkX (Ne.symm hiq),hL.not i hi];simp [hiq]
      .rcases AjV.1 hp with h | h
       .exact hL.op p (by simp [h])
       .exact hL.op p (by simp [h])
      .rw [Akv,Alv];exact⟨g1,g3,λx hx y hy=>g4 x hx y (AkT _ hy)⟩
      .intro j hj i hi;have hsub:∀m:Nat,listed[m]?=some true->(listed.setIfInBounds qi true)[m]?=some true:=by
        intro m hm;by_cases hmq:m=qi
        .subst hmq;rw [Alk hlt]
        .rw [AkX (Ne.symm hmq)];exact hm
       by_cases hjq:j=qi
       .subst hjq;exact hsub i (hall i hi)
       .rw [AkX (Ne.symm hjq)]at hj;exact hsub i (hL.closed j hj i hi)
    have:=s1.runs (Q:=Q) hE hF hG hN hs hrec;split
    .rename_i hw;rw [AjS hw]at this;exact .inl this
    .rename_i hw;rw [AjR hw]at this;exact this
theorem Sim.drawn {S:St} {a:Act} {w:World} (h:Sim b N S a w):Sim b N S a { w with drawn:=w.drawn+1 }:=by
 obtain ⟨c,hi,hs,hfx⟩:=h;have hst:Step w { w with drawn:=w.drawn+1 } (λ_=>False):=⟨rfl,rfl,rfl,Akk _,λ_ _ _=>rfl⟩
 obtain ⟨c',_,_,h3,h4,_⟩:=hi.many (S':=S) (w':={ w with drawn:=w.drawn+1 }) (λ_=>none) [] [] [] (λk=>by simp) rfl (λk i _=>by rw [Leaf.kp_nil]) (λk o _ hk=>by rcases hk with hk | hk;cases hk;exact absurd rfl hk)
  (hst.mono λ_ h=>h.elim) (λk n hk=>by cases hk) (λk n hk=>by cases hk) (λk n k' n' _ hk=>by cases hk) (λ_ _ _ k n hk=>by cases hk) (λ_ _ _ _ _ _ _ k n hk=>by cases hk) (λ_ h=>by cases h)
 have hdid:Did b S c w ⟨.no,[],[]⟩ undef { w with drawn:=w.drawn+1 }:=⟨c',h3,h4,trivial⟩
 exact hdid.sim hs none (λk hk=>by cases hk) hfx (λk hk=>by cases hk)
theorem Io:∀(rs:List Rec) (n:Nat),(Dz rs n).map (·.1)=List.range' n rs.length
 | [],_=>rfl
 | r::rs,n=>by rw [Dz,Akw,Io rs (n+1),Aj1,List.range'_succ]
theorem QA:∀(rs:List Rec) (n:Nat) (p:Nat×Rec),p∈Dz rs n->n<=p.1/\rs[p.1 - n]?=some p.2
 | [],_,p,h=>by cases h
 | r::rs,n,p,h=>by
  rw [Dz]at h;rcases Aj5.1 h with rfl | h
  .simp
  .obtain ⟨h1,h2⟩:=QA rs (n+1) p h;refine⟨O,?_⟩;rw [(O:p.1 - n=(p.1 - (n+1))+1),AkU];exact h2
theorem Acd (hE:EnvOk P E) (hF:∀p,p∈b.fx->E.fx.contains p.1=true) (hG:EnB P E b) (hN:N < b.n1) {id:Nat} {draw:Bool} {S S':St} (h:(Kw E N ops draw S).run=some S') {a:Act} {w:World} (hs:Sim b N S a w) {Q:Exit->Act->World->Prop} (hQ:∀a' w',Sim b N S' a' w'->Q .normal a' w') :
  (Code.region id ops draw).wp P Q a w:=by
 unfold Kw at h;split at h
 .rename_i hd;subst hd;simp only [run_bind,AjQ]at h;obtain ⟨⟨S1,rs⟩,h1,h2⟩:=h;split at h2
  .rename_i hc;simp only [Tr.run,AjN]at h2;subst h2;simp only [AjT]at hc;obtain ⟨hc1,hc2⟩:=hc;obtain ⟨rs',k0,k1,k2⟩:=T6 ops.toList S S1 [] rs 0 h1;simp only [List.reverse_nil,Akm]at k0;subst k0;have hlen:rs.length=ops.size:=by rw [<- Akj (f:=(·.o)),k1];simp
   have hat:∀p,p∈Dz rs 0->ops[p.1]?=some p.2.o:=by
    intro p hp;obtain ⟨_,h4⟩:=QA rs 0 p hp;rw [AlD]at h4;have:(rs.map (·.o))[p.1]?=some p.2.o:=by rw [Akr,h4];rfl
    rw [k1,Aj6]at this;exact this
   refine wp_region_any hE.mix ?_;refine UH hE hF hG hN (ahead ops.toList []) (λj o ho i hi=>?_) (λj o ho e he hb=>?_) hQ ops.size (Dz rs 0) _ S a _ ?_ k2 hc1 ?_ hs.drawn
   .have:=(RC ops.toList []).2 j o (by rw [Aj6];exact ho) i (by simpa using hi);exact this
   .have:=Ou ops.toList 0 hc2 j o (by rw [Aj6];exact ho) e he hb;omega
   .rw [<- Akj (f:=(·.1)),Io];simp [hlen]
   .refine⟨Z,λp hp=>(Ald.1 (hat p hp)).1,λi hi=>?_,hat,?_,λj hj i hi=>?_⟩
    .rw [Io];simp only [List.mem_range'_1,All,Ake,true_and,hlen,hi,iff_true];rw [Akp (by simpa using hi)];simp
    .rw [Io];exact List.pairwise_lt_range'
    .have:=(Ald.1 hj)
     obtain ⟨h5,h6⟩:=this;simp at h6
  .simp [Tr.run]at h2
 .rename_i hd;have hd':draw=false:=by simpa using hd
  subst hd';obtain ⟨rs,k1,k2⟩:=OP ops.toList S S' 0 h;refine wp_region_list ?_;rw [<- k1];exact Runs.list hE hF hG hN rs 0 k2 hs hQ
end
end Go.V
namespace Go.V
open Go.ChangeMaps (setBlock)
theorem Inv.base {b b':Base} {S:St} {w w':World} {c:Cc} (h:Inv b S w c) (hK:KSame w w' (Kok b S c) (Kok b' S c)) (hO:∀g,AW S c g->w'.heap[g]?=w.heap[g]?)
  (hfr:∀g,AW S c g->b'.w0.heap.size<=g\/b'.O0 g) (hfix:∀g,g < b'.w0.heap.size->¬ b'.O0 g->w'.heap[g]?=b'.w0.heap[g]?)
  (hR:∀g cs e fr,AW S c g->b'.w0.heap[g]?=some (.cells cs e fr)->b.w0.heap[g]?=some (.cells cs e fr)\/w.heap[g]?=some (.cells cs e fr))
  (ho:w'.os=b'.w0.os) (ht:w'.tape=b'.w0.tape) (hp:w'.output=b'.w0.output) (hz:b'.w0.heap.size<=w'.heap.size) (hm:b'.ms=b.ms) (hn:b'.n1=b.n1) :
  Inv b' S w' c/\Stay S S c c w w' (Kok b S c) (Kok b' S c) []:=by
 have stay:Stay S S c c w w' (Kok b S c) (Kok b' S c) []:=
  Stay.of h (λk o ho=>.inr (.inl ⟨ho,rfl,λg hg=>hO g (.inr ⟨k,by rw [ho];simp,hg⟩)⟩)) (λk n hn=>.inr ⟨hn,rfl,rfl⟩) hK
 refine⟨⟨?_,?_,h.nd,h.oo,h.mm,h.mo,λg hg=>⟨AkI (h.fr g hg).1 hK.1,hfr g hg⟩,hfix,ho,ht,hp,hz,by rw [hm,hn];exact h.an,?_⟩,stay⟩
 .intro k n hk h0;obtain ⟨cs,e,fr,h1,h2,h3,h4,h5⟩:=h.ms k n hk h0;have how:AW S c (c.mb k):=.inl ⟨k,by rw [hk];simp,rfl⟩;refine⟨cs,e,fr,(hO _ how).trans h1,h2,h3,λi v hi hv=>?_,?_⟩
  .have:=stay.leaf (h4 i v hi hv)
   rwa [Leaf.kp_nil]at this
  .intro cs0 e0 fr0 h0';rcases hR _ _ _ _ how h0' with h6 | h6
   .exact h5 _ _ _ h6
   .rw [h1]at h6;injection h6 with h6
    injection h6 with a1 a2 a3
    subst a1 a2 a3;exact⟨rfl,rfl,rfl,λ_ _=>rfl⟩
 .intro k o hk;exact Rp.frame hK _ _ (h.ow k o hk) λg hg=>hO g (.inr ⟨k,by rw [hk];simp,hg⟩)
 .intro k hk;obtain ⟨xs,h1,h2⟩:=h.mp k hk;exact⟨xs,h1,h2.same (hO _ (.inl ⟨k,by rw [hk];simp,rfl⟩))⟩
theorem Stay.slots0 {S:St} {c:Cc} {w w':World} {K K':Nat->Prop} {N:Nat} {a:Act} (h:Stay S S c c w w' K K' []) (hs:Slots N S c w K a):Slots N S c w' K' a:=
 h.slots hs (λi=>(SV.kp_nil _).symm) none .no undef (λ_ h=>by cases h) trivial (λ_ _=>Iff.rfl) (λ_ _=>Iff.rfl)
open Classical in
noncomputable def reH (b:Base) (S:St) (c:Cc) (w:World) (o:Obj):Array Obj:=
 (Array.range (w.heap.size+1)).map λg=>if AW S c g then(b.w0.heap[g]?).getD (((w.heap.push o)[g]?).getD o)else((w.heap.push o)[g]?).getD o
section
variable {b:Base} {S:St} {c:Cc} {w:World} {o o':Obj}
theorem AeD:(reH b S c w o).size=w.heap.size+1:=by simp [reH]
theorem La {g:Nat} (hg:¬ AW S c g):(reH b S c w o)[g]?=(w.heap.push o)[g]?:=by
 unfold reH;rw [Array.getElem?_map];by_cases h:g < w.heap.size+1
 .rw [Akp (by simpa using h),AkJ,Array.getElem_range,AjR hg,Akp (by simpa using h)];rfl
 .rw [Al4 (by simpa using h),Al4 (by simpa using h)];rfl
theorem SE (hi:Inv b S w c) {g:Nat} (hg:AW S c g):(reH b S c w o)[g]?=some ((b.w0.heap[g]?).getD ((w.heap[g]?).getD o)):=by
 have hl:=(hi.fr g hg).1;unfold reH;rw [Array.getElem?_map,Akp AjJ,AkJ,Array.getElem_range,AjS hg,AlQ hl,Akp hl]
noncomputable def reB (hi:Inv b S w c) (o:Obj) (it:Nat):Base where
 w0:={ w with heap:=reH b S c w o }
 Ro g:=g < w.heap.size/\Kok b S c g
 O0 g:=AW S c g
 n1:=b.n1
 ms:=b.ms
 fx:=(it,.pointer (some ⟨w.heap.size,0,none⟩))::b.fx
 gl:=by
  have hg:=XY hi;refine⟨UG hg.1 λg h=>?_,λg h=>⟨⟨WB hg.1 h,hg.2 g h⟩,(hg.2 g h).2⟩⟩;show(reH b S c w o)[g]?=w.heap[g]?;have hl:=WB hg.1 h;rw [La (hg.2 g h).2,AlQ hl,Akp hl]
variable {hi:Inv b S w c} {it:Nat} {S':St} {c':Cc} {w' w'':World}
theorem DS:(reB hi o it).w0.heap.size=w.heap.size+1:=AeD
theorem OR (hi:Inv b S w c):¬ AW S c w.heap.size:=λh=>Nat.lt_irrefl _ (hi.fr _ h).1
theorem XV (h:Inv (reB hi o it) S' w' c') {g:Nat} (hg:g < w.heap.size) (hn:¬ AW S c g):w'.heap[g]?=w.heap[g]?:=by
 have h1:=h.fix g (by rw [DS];omega) hn;rw [h1];show(reH b S c w o)[g]?=_;rw [La hn,AlQ hg,Akp hg]
theorem Afo (h:Inv (reB hi o it) S' w' c'):w'.heap[w.heap.size]?=some o:=by
 have h1:=h.fix w.heap.size (by rw [DS];omega) (OR hi);rw [h1];show(reH b S c w o)[w.heap.size]?=_;rw [La (OR hi)];simp
theorem AeG (hi:Inv b S w c) (o:Obj) (it:Nat):Inv (reB hi o it) S (w.alloc o) c/\Stay S S c c w (w.alloc o) (Kok b S c) (Kok (reB hi o it) S c) []:=by
 have hh:(w.alloc o).heap=w.heap.push o:=rfl;have same:∀g,g < w.heap.size->(w.alloc o).heap[g]?=w.heap[g]?:=λg hg=>by
  rw [hh,AlQ hg,Akp hg]
 refine hi.base ⟨by rw [hh];simp,λg hg hl=>⟨same g hl,.inl ⟨hl,hg⟩,hg.2⟩⟩ (λg hg=>same g (hi.fr g hg).1) (λg hg=>.inr hg) (λg _ hn=>?_) (λg cs e fr hg h0=>?_) rfl rfl rfl (by rw [DS,hh];simp) rfl rfl
 .show _=(reH b S c w o)[g]?;rw [La hn];rfl
 .have h1:(reH b S c w o)[g]?=some (.cells cs e fr):=h0;rw [SE hi hg]at h1;injection h1 with h1
  cases h2:b.w0.heap[g]? with
  | some x=>rw [h2]at h1;left;rw [<- h1];rfl
  | none=>
   right;have hl:=(hi.fr g hg).1;rw [h2,Akp hl]at h1;rw [Akp hl,<- h1];rfl
theorem AhB {g:Nat} (h:Kok (reB hi o it) S' c' g):g≠w.heap.size:=by
 rintro rfl;rcases h.1 with h1 | h1 | h1
 .exact Nat.lt_irrefl _ h1.1
 .rw [DS]at h1;omega
 .exact OR hi h1
theorem Nf (h:Inv (reB hi o it) S' w' c') {g:Nat} (hg:AW S' c' g):w.heap.size+1<=g\/AW S c g:=by
 have:=(h.fr g hg).2
 rwa [DS]at this
theorem Afu (h:Inv (reB hi o it) S' w' c') (o':Obj) (hw:w''.heap=w'.heap.setIfInBounds w.heap.size o') (h1:w''.os=w'.os) (h2:w''.tape=w'.tape) (h3:w''.output=w'.output) :
  Inv (reB hi o' it) S' w'' c'/\Stay S' S' c' c' w' w'' (Kok (reB hi o it) S' c') (Kok (reB hi o' it) S' c') []:=by
 have hsz:=h.size;rw [DS]at hsz;have same:∀g,g≠w.heap.size->w''.heap[g]?=w'.heap[g]?:=λg hg=>by
  rw [hw,AkX (Ne.symm hg)]
 have hne:∀g,AW S' c' g->g≠w.heap.size:=by
  rintro g hg rfl;rcases Nf h hg with h4 | h4
  .omega
  .exact OR hi h4
 have hre:∀g,g≠w.heap.size->(reH b S c w o)[g]?=(reH b S c w o')[g]?:=by
  intro g hg;by_cases how:AW S c g
  .have hl:=(hi.fr g how).1;rw [SE hi how,SE hi how,Akp hl];rfl
  .rw [La how,La how];by_cases hl:g < w.heap.size
   .rw [AlQ hl,AlQ hl]
   .rw [Al4 AjJ,Al4 AjJ]
 refine h.base ⟨by rw [hw];simp,λg hg _=>⟨same g (AhB hg),?_,hg.2⟩⟩ (λg hg=>same g (hne g hg)) (λg hg=>?_) (λg hl hn=>?_) (λg cs e fr hg h0=>?_) (h1.trans h.os) (h2.trans h.tape) (h3.trans h.output) (by rw [DS,hw];simpa using hsz) rfl rfl
 .rcases hg.1 with h4 | h4 | h4
  .exact .inl h4
  .exact .inr (.inl (by rw [DS]at h4 ⊢;exact h4))
  .exact .inr (.inr h4)
 .rcases Nf h hg with h4 | h4
  .exact .inl (by rw [DS];exact h4)
  .exact .inr h4
 .rw [DS]at hl;by_cases hg:g=w.heap.size
  .subst hg;rw [hw,Alk O];show _=(reH b S c w o')[w.heap.size]?;rw [La (OR hi)];simp
  .rw [same g hg,h.fix g (by rw [DS];exact hl) hn];exact hre g hg
 .left;have h5:(reH b S c w o')[g]?=some (.cells cs e fr):=h0;show(reH b S c w o)[g]?=_;rw [hre g (hne g hg)];exact h5
theorem ZN (h:Inv (reB hi o it) S' w' c'):Inv b S' w' c'/\Stay S' S' c' c' w' w' (Kok (reB hi o it) S' c') (Kok b S' c') []:=by
 have hsz:=h.size;rw [DS]at hsz;have hs0:=hi.size;refine h.base ⟨Akk _,λg hg _=>⟨rfl,?_,hg.2⟩⟩ (λ_ _=>rfl) (λg hg=>?_) (λg hl hn=>?_) (λg cs e fr hg h0=>?_) (h.os.trans hi.os) (h.tape.trans hi.tape) (h.output.trans hi.output) O rfl rfl
 .rcases hg.1 with h4 | h4 | h4
  .exact h4.2.1
  .rw [DS]at h4;exact .inr (.inl O)
  .exact .inr ((hi.fr g h4).2)
 .rcases Nf h hg with h4 | h4
  .exact .inl O
  .exact(hi.fr g h4).2
 .have hno:¬ AW S c g:=λh4=>by
   rcases (hi.fr g h4).2 with h5 | h5
   .omega
   .exact hn h5
  rw [XV h O hno];exact hi.fix g hl hn
 .left;have hl:=BM h0;have how:AW S c g:=by
   rcases Nf h hg with h4 | h4
   .omega
   .exact h4
  show(reH b S c w o)[g]?=_;rw [SE hi how,h0];rfl
end
def ent (e:MapEntry):Int×Int:=(valOf e.key,valOf e.val)
theorem Wb:∀{es:List MapEntry} {xs:List (Int×Int)} {n:Nat},JU es xs n->es.map ent=xs/\(∀e,e∈es->n<=e.born/\e.born < n+es.length/\e.key=.int .i64 (ent e).1/\e.val=.int .i64 (ent e).2)/\(es.map (·.born)).Nodup
 | [],[],_,_=>⟨rfl,λ_ h=>(by cases h),List.nodup_nil⟩
 | e::es,p::xs,n,h=>by
  obtain ⟨rfl,h2⟩:=h;obtain ⟨k1,k2,k3⟩:=Wb h2;refine⟨by rw [Akw,k1];rfl,λe' he=>?_,?_⟩
  .rcases Aj5.1 he with rfl | he
   .exact⟨Akk _,Z,rfl,rfl⟩
   .obtain ⟨q1,q2,q3⟩:=k2 e' he;exact⟨O,by rw [Aj1];omega,q3⟩
  .rw [Akw,AkE];refine⟨λhm=>?_,k3⟩;obtain ⟨e',he,hb⟩:=Aj9.1 hm;have:=(k2 e' he).1;simp only at hb;omega
 | [],_::_,_,h=>h.elim
 | _::_,[],_,h=>h.elim
theorem QJ {α:Type} (f:α->Nat) (p q:α->Bool) (e:α):∀(l:List α),(l.map f).Nodup->e∈l->p e=true->(∀x,q x=(p x && !(f x == f e)))->(l.filter p).Perm (e::l.filter q)
 | [],_,he,_,_=>by cases he
 | x::l,hn,he,hp,hq=>by
  rw [Akw,AkE]at hn;by_cases hx:f x=f e
  .have hxe:e=x:=by
    rcases Aj5.1 he with h | h
    .exact h
    .exact absurd (Aj9.2 ⟨e,h,hx.symm⟩) hn.1
   subst hxe;have h1:q e=false:=by rw [hq];simp
   have h2:l.filter q=l.filter p:=List.filter_congr λy hy=>by
    rw [hq y];have:(f y == f e)=false:=by
     cases h:f y == f e with
     | false=>rfl
     | true=>exact absurd (Aj9.2 ⟨y,hy,beq_iff_eq.1 h⟩) hn.1
    rw [this];simp
   rw [List.filter_cons_of_pos hp,List.filter_cons_of_neg (by rw [h1];simp),h2]
  .have he':e∈l:=by
    rcases Aj5.1 he with h | h
    .exact absurd (by rw [h]) hx
    .exact h
   have ih:=QJ f p q e l hn.2 he' hp hq;have hxb:(f x == f e)=false:=by simpa using hx
   by_cases hpx:p x=true
   .have h1:q x=true:=by rw [hq,hpx,hxb];rfl
    rw [List.filter_cons_of_pos hpx,List.filter_cons_of_pos h1];exact(List.Perm.cons x ih).trans (List.Perm.swap e x _)
   .have h1:¬ q x=true:=by rw [hq];simp [hpx]
    rw [List.filter_cons_of_neg hpx,List.filter_cons_of_neg h1];exact ih
theorem Acc {es:Array MapEntry} {seen:Array Nat} {e:MapEntry} (hn:(es.toList.map (·.born)).Nodup) (he:e∈(leftOf es seen).toList) :
  ((leftOf es seen).toList.map ent).Perm (ent e::(leftOf es (seen.push e.born)).toList.map ent):=by
 obtain ⟨h1,h2⟩:=mem_left he;have:=QJ (·.born) (λx:MapEntry=>!seen.contains x.born) (λx=>!(seen.push e.born).contains x.born) e es.toList hn h1 (by rw [h2];rfl) (λx=>by rw [contains_push,Bool.not_or]);unfold leftOf;rw [Array.toList_filter,Array.toList_filter];exact this.map ent
theorem Y1 {E:Env} {N it:Nat} {cnd:Operand} {ops:List Oper} {p q:Nat} (h:RN E N it cnd ops=some (p,q)) :
  cnd=.tmp q/\p < N/\q < N/\p≠it/\q≠it/\E.fx.contains p=false/\E.fx.contains q=false/\∃ty1 ps1 af1 ty2 ps2 af2,ops=[⟨some p,.next (.tmp it) false,ty1,ps1,af1,none⟩,⟨some q,.extract (.tmp p) 0,ty2,ps2,af2,none⟩]:=by
 unfold RN at h;split at h
 .split at h
  .split at h
   .rename_i hc;obtain ⟨⟨h1,h2,h3,h4,h5,h6,h7⟩,h8,h9⟩:=hc;simp only [AjN,Prod.mk.injEq]at h;obtain ⟨e1,e2⟩:=h;subst h1 h2 e1 e2 h3;exact⟨rfl,h4,h5,h6,h7,h8,h9,_,_,_,_,_,_,rfl⟩
   .cases h
  .cases h
 .cases h
section
variable {P:Program} {E:Env} {N:Nat}
theorem Qi {b:Base} {S:St} {a:Act} {w:World} (h:Sim b N S a w) {d:Nat} (v:Value) (hd:d < N) (hx:∀p,p∈b.fx->p.1≠d):Sim b N (S.put d .no) (a.put (some d) v) w:=by
 obtain ⟨c,hi,hs,hfx⟩:=h;exact(Did.same (x:=.no) (v:=v) hi trivial).sim hs (some d) (λk hk=>by injection hk with hk;omega) hfx (λk hk p hp=>by injection hk with hk;rw [<- hk];exact hx p hp)
theorem Abk {b:Base} {S:St} {c:Cc} {w:World} {hi:Inv b S w c} {bm:Nat} {es:Array MapEntry} (hbm:¬ AW S c bm) (hes:w.heap[bm]?=some (.map es es.size)) {xs:List (Int×Int)} (hen:JU es.toList xs 0)
  {t:Tpl} {it p q id id2:Nat} {ops:Array Oper} {cnd:Operand} {d:Code} {x0 yf:t.D} {F:t.D->Int×Int->Option t.D} (hF':∀p,p∈b.fx->E.fx.contains p.1=true)
  (hnx:RN E N it cnd ops.toList=some (p,q)) (hF:Nl F xs x0=some yf)
  (hbody:∀(e:MapEntry) (seen:Array Nat),e∈es.toList->∀y y',F y (ent e)=some y'->∀a w',Sim (reB hi (.mapIter (some bm) es.size (seen.push e.born) es.size) it) N (((t.inj y).put p .no).put q .no) a w'->
   ∀Q:Exit->Act->World->Prop,(∀a' w',Sim (reB hi (.mapIter (some bm) es.size (seen.push e.born) es.size) it) N (t.inj y') a' w'->Q .normal a' w')->d.wp P Q a w')
  {a:Act} {w0:World} (hs:Sim (reB hi (.mapIter (some bm) es.size #[] es.size) it) N (t.inj x0) a w0) {Q:Exit->Act->World->Prop} (hQ:∀a' w',Sim b N (((t.inj yf).put p .no).put q .no) a' w'->Q (.exit id2) a' w') :
  (Code.loop (.seq (.region id ops false) (.seq (.cond cnd .skip (.exit id2)) d))).wp P Q a w0:=by
 obtain ⟨rfl,hpN,hqN,hpi,hqi,hpx,hqx,ty1,ps1,af1,ty2,ps2,af2,hops⟩:=Y1 hnx;obtain ⟨k1,k2,k3⟩:=Wb hen;have hborn:∀x∈es.toList,x.born < es.size:=λx hx=>by have:=(k2 x hx).2.1;simpa using this
 have hpb:∀x,x∈b.fx->x.1≠p:=λx hx he=>by have:=hF' x hx;rw [he,hpx]at this;cases this
 have hqb:∀x,x∈b.fx->x.1≠q:=λx hx he=>by have:=hF' x hx;rw [he,hqx]at this;cases this
 have hpb':∀o x,x∈(reB hi o it).fx->x.1≠p:=λo x hx=>by
  rcases Aj5.1 hx with rfl | hx
  .exact Ne.symm hpi
  .exact hpb x hx
 have hqb':∀o x,x∈(reB hi o it).fx->x.1≠q:=λo x hx=>by
  rcases Aj5.1 hx with rfl | hx
  .exact Ne.symm hqi
  .exact hqb x hx
 refine wp_loop_ghost (λn a w'=>∃(l:List (Int×Int)) (y:t.D) (seen:Array Nat) (c0:Nat),n=(leftOf es seen).size/\l.foldlM F x0=some y/\(l++(leftOf es seen).toList.map ent).Perm xs/\es.size<=c0/\
  Sim (reB hi (.mapIter (some bm) es.size seen c0) it) N (t.inj y) a w') _ ⟨[],x0,#[],es.size,rfl,rfl,?_,Akk _,hs⟩ ?_
 .rw [Akm,show leftOf es #[]=es by simp [leftOf],k1]
 rintro n a w' ⟨l,y,seen,c0,rfl,hl,hp,hc,hsim⟩;have hsim0:=hsim;obtain ⟨c',hi',hsl,hfx⟩:=hsim0;have hit:a.tmps.getD it undef=.pointer (some ⟨w.heap.size,0,none⟩):=hfx (it,_) (List.mem_cons_self ..);have hev:a.eval (.tmp it)=.pointer (some ⟨w.heap.size,0,none⟩):=hit;have hr:=Afo hi';have hm:w'.heap[bm]?=some (.map es es.size):=by rw [XV hi' (BM hes) hbm];exact hes
 refine wp_seq (wp_region_list ?_);rw [hops];refine wpList_step λK hK=>?_
 simp only [Region.wanted,Akh];have hsz:a.tmps.size=N:=hsl.n;have ev_put:∀(a:Act) (i:Nat) (v:Value),i < a.tmps.size->(a.put (some i) v).eval (.tmp i)=v:=by
  intro a i v h;show(a.tmps.setIfInBounds i v).getD i undef=v;simp [h]
 rcases run_next_at (P:=P) w' ty1 w.heap.size bm es.size c0 seen es es.size hr hm hborn hc with⟨h0,hrun⟩ | ⟨e,he,w1,hw1,hrun⟩
 .rw [<- hev]at hrun;refine Az (o:=⟨some p,.next (.tmp it) false,ty1,ps1,af1,none⟩) (post:=λv w2=>v=.tuple #[.bool false]/\w2=w') rfl ⟨_,_,hrun,rfl,rfl⟩ K _ ?_;rintro v w2 ⟨rfl,rfl⟩;refine hK _ _ (wpList_step λK hK=>?_);simp only [Region.wanted,Akh];refine Az (o:=⟨some q,.extract (.tmp p) 0,ty2,ps2,af2,none⟩) (s:=Instr.extract ((a.put (some p) (.tuple #[.bool false])).eval (.tmp p)) 0) (post:=λv w3=>v=.bool false/\w3=w2) rfl ⟨.bool false,w2,?_,rfl,rfl⟩ K _ ?_
  .rw [ev_put _ _ _ O];rfl
  rintro v w3 ⟨rfl,rfl⟩;refine hK _ _ ?_;refine wp_seq (wp_cond (t:=false) (ev_put _ _ _ (by simp [Act.put];omega)) ?_);simp only [Aj4,Aku];refine wp_exit ?_;have hll:l.Perm xs:=by
   rw [show leftOf es seen = #[] from Array.eq_empty_of_size_eq_zero h0]at hp;simpa using hp
  have hyf:y=yf:=by
   have:=SF hF l hll;rw [hl]at this;injection this
  subst hyf;obtain ⟨q1,q2⟩:=ZN hi';exact hQ _ _ (Qi (Qi ⟨c',q1,q2.slots0 hsl,λx hx=>hfx x (AkT _ hx)⟩ _ hpN hpb) _ hqN hqb)
 .rw [<- hev]at hrun;refine Az (o:=⟨some p,.next (.tmp it) false,ty1,ps1,af1,none⟩) (post:=λv w2=>v=.tuple #[.bool true,e.key,e.val]/\w2=setBlock w1 w.heap.size (.mapIter (some bm) es.size (seen.push e.born) es.size)) rfl ⟨_,_,hrun,rfl,rfl⟩ K _ ?_;rintro v w2 ⟨rfl,rfl⟩;refine hK _ _ (wpList_step λK hK=>?_);simp only [Region.wanted,Akh];refine Az (o:=⟨some q,.extract (.tmp p) 0,ty2,ps2,af2,none⟩) (s:=Instr.extract ((a.put (some p) (.tuple #[.bool true,e.key,e.val])).eval (.tmp p)) 0)
   (post:=λv w3=>v=.bool true/\w3=setBlock w1 w.heap.size (.mapIter (some bm) es.size (seen.push e.born) es.size)) rfl ⟨.bool true,_,?_,rfl,rfl⟩ K _ ?_
  .rw [ev_put _ _ _ O];rfl
  rintro v w3 ⟨rfl,rfl⟩;refine hK _ _ ?_;refine wp_seq (wp_cond (t:=true) (ev_put _ _ _ (by simp [Act.put];omega)) ?_);simp only [Akh];refine wp_skip ?_;have hw1':w1.heap=w'.heap/\w1.os=w'.os/\w1.tape=w'.tape/\w1.output=w'.output:=by rcases hw1 with rfl | rfl <;> exact⟨rfl,rfl,rfl,rfl⟩
  obtain ⟨q1,q2⟩:=Afu (w'':=setBlock w1 w.heap.size (.mapIter (some bm) es.size (seen.push e.born) es.size)) hi' (.mapIter (some bm) es.size (seen.push e.born) es.size) (by show w1.heap.setIfInBounds _ _=_;rw [hw1'.1]) hw1'.2.1 hw1'.2.2.1 hw1'.2.2.2;have hee:=(mem_left he).1;have hlp:=Acc k3 he;have hpe:(l++(ent e::(leftOf es (seen.push e.born)).toList.map ent)).Perm xs:=(List.Perm.append_left l hlp).symm.trans hp;have hall:=SF hF _ hpe;rw [List.foldlM_append,hl]at hall;simp only [Option.bind_eq_bind,AjM,List.foldlM_cons]at hall;obtain ⟨y',hy',-⟩:=AjQ.1 hall;refine hbody e seen hee y y' hy' _ _ (Qi (Qi ⟨c',q1,q2.slots0 hsl,hfx⟩ _ hpN (hpb' _)) _ hqN (hqb' _)) _ λa2 w2 hs2=>?_
  refine⟨_,left_shrinks es seen e he,l++[ent e],y',seen.push e.born,es.size,rfl,?_,?_,Akk _,hs2⟩
  .rw [List.foldlM_append,hl];simp only [Option.bind_eq_bind,AjM,List.foldlM_cons,List.foldlM_nil,hy'];rfl
  .rw [AjY];exact hpe
end
end Go.V