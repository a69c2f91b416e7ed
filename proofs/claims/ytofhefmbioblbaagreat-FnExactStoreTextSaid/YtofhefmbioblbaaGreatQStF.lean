import Derived.Test.YtofhefmbioblbaaGreatQStA
import Derived.Test.YtofhefmbioblbaaGreatQStB
import Derived.Test.YtofhefmbioblbaaGreatQStC
import Derived.Test.YtofhefmbioblbaaGreatQStE
import Derived.Deep.LoopGhost
import Derived.Below
import Derived.WalkKit
import Derived.ProofKit
import Derived.ChangeOld
import Derived.DataReads
set_option linter.unusedVariables false
set_option linter.unusedSimpArgs false
namespace Go.V
def Ex.out:Ex->Exit
 | .n=>.normal
 | .x id=>.exit id
 | .r=>.ret
section
variable {P:Program} {E:Env} {b:Base} {N:Nat}
theorem Kr {α:Type} {o:Option α} {x:α} (h:(Tr.opt o).run=some x):o=some x:=by
 cases o with
 | none=>simp [Tr.run]at h
 | some a=>simpa [Tr.run] using h
theorem Joins.ok:∀(J:Joins) {e e':Ex} {S S':St} {x:J.D},J.prj e S=some x->(J.inj x).run=some (e',S')->e=e'/\∀{a w},Sim b N S a w->Sim b N S' a w
 | [],e,e',S,S',x,_,_=>nomatch x
 | [t],e,e',S,S',x,h,h'=>by
  simp only [Joins.prj]at h;split at h
  .rename_i he;simp only [Joins.inj,Tr.run,AjN,Prod.mk.injEq]at h';obtain ⟨h1,h2⟩:=h';subst h2;exact⟨he.trans h1,λhs=>t.2.ok h hs⟩
  .cases h
 | t::u::l,e,e',S,S',x,h,h'=>by
  simp only [Joins.prj]at h;split at h
  .rename_i y hy;injection h with h
   subst h;split at hy
   .rename_i he;simp only [Joins.inj,Tr.run,AjN,Prod.mk.injEq]at h';obtain ⟨h1,h2⟩:=h';subst h2;exact⟨he.trans h1,λhs=>t.2.ok hy hs⟩
   .cases hy
  .split at h
   .rename_i y hy;injection h with h
    subst h;exact Joins.ok (u::l) hy h'
   .cases h
theorem LO {J:Joins} {t:Tr (Ex×St)} {e:Ex} {S':St} (h:(Lh J t).run=some (e,S')):∃S0,t.run=some (e,S0)/\∀{a w},Sim b N S0 a w->Sim b N S' a w:=by
 cases J with
 | nil=>exact⟨S',h,λhs=>hs⟩
 | cons j l=>
  simp only [Lh,C4,AjQ]at h;obtain ⟨x,hx,h⟩:=h;rw [run_bind,AjQ]at hx;obtain ⟨⟨e0,S0⟩,h1,h2⟩:=hx;obtain ⟨k1,k2⟩:=Joins.ok (b:=b) (N:=N) (j::l) (Kr h2) h;subst k1;exact⟨S0,h1,k2⟩
def BC (P:Program) (b:Base) (N:Nat) (c:Code) (S:St) (e:Ex) (S':St):Prop:=
 ∀{a:Act} {w:World} {Q:Exit->Act->World->Prop},Sim b N S a w->(∀a' w',Sim b N S' a' w'->Q e.out a' w')->c.wp P Q a w
theorem Aa9 {c:Code} {S S0 S':St} {e:Ex} (h:BC P b N c S e S0) (hw:∀{a w},Sim b N S0 a w->Sim b N S' a w):BC P b N c S e S':=
 λhs hQ=>h hs λa' w' hs'=>hQ a' w' (hw hs')
theorem then_out {e:Ex} {next:Act->World->Prop} {Q:Exit->Act->World->Prop} {a:Act} {w:World}:Exit.then next Q e.out a w↔(match e with | .n=>next a w | e=>Q e.out a w):=by
 cases e <;> exact Iff.rfl
theorem Ack {c d:Code} {S:St} {x y:Ann} {e:Ex} {S':St} (ih1:∀{ann S e S'},(AE E N ann c S).run=some (e,S')->BC P b N c S e S') (ih2:∀{ann S e S'},(AE E N ann d S).run=some (e,S')->BC P b N d S e S')
  (h:((AE E N x c S).bind λr=>match r.1 with | .n=>AE E N y d r.2 | e=>.ret (e,r.2)).run=some (e,S')):BC P b N (.seq c d) S e S':=by
 rw [run_bind,AjQ]at h;obtain ⟨⟨e1,S1⟩,h1,h2⟩:=h;intro a w Q hs hQ;refine wp_seq (ih1 h1 hs λa' w' hs'=>then_out.2 ?_);cases e1 with
 | n=>exact ih2 h2 hs' hQ
 | x id=>
  simp only [Tr.run,AjN,Prod.mk.injEq]at h2;obtain ⟨k1,k2⟩:=h2;subst k1 k2;exact hQ a' w' hs'
 | r=>
  simp only [Tr.run,AjN,Prod.mk.injEq]at h2;obtain ⟨k1,k2⟩:=h2;subst k1 k2;exact hQ a' w' hs'
theorem Aad {o:Operand} {c d:Code} {S:St} {t:Bool} {x y:Ann} {e:Ex} {S':St} (ih1:∀{ann S e S'},(AE E N ann c S).run=some (e,S')->BC P b N c S e S') (ih2:∀{ann S e S'},(AE E N ann d S).run=some (e,S')->BC P b N d S e S')
  (ho:Cj S o=.s (.one (.v .bool t))) (h:(Tr.br t (AE E N x c S) (AE E N y d S)).run=some (e,S')):BC P b N (.cond o c d) S e S':=by
 intro a w Q hs hQ;have hb:a.eval o=.bool t:=by
  obtain ⟨c,_,hsl,_⟩:=hs;have:=AD hsl o;rw [ho]at this;exact Ep (AT this)
 refine wp_cond hb ?_;simp only [Tr.run]at h;split at h
 .rename_i ht;rw [AjS ht];exact ih1 h hs hQ
 .rename_i ht;rw [AjR ht];exact ih2 h hs hQ
theorem Sn {α:Type} {e:Bool} {x y:Option α} {z:α} (h:Ij e x y=some z):y=some z/\(e=true->x=some z):=by
 unfold Ij at h;split at h
 .split at h
  .rename_i hxy;exact⟨h,λ_=>by rw [hxy];exact h⟩
  .cases h
 .rename_i he;exact⟨h,λh'=>absurd h' he⟩
theorem AdV {o:Operand} {c d:Code} {S:St} {q:Bool} {x y:Ann} {J:Joins} {z:J.D} {e:Ex} {S':St} (ih1:∀{ann S e S'},(AE E N ann c S).run=some (e,S')->BC P b N c S e S') (ih2:∀{ann S e S'},(AE E N ann d S).run=some (e,S')->BC P b N d S e S')
  (ho:Cj S o=.s (.one (.qn q))) (hz:Ij q ((AE E N x c S).bind λr=>Tr.opt (Joins.prj J r.1 r.2)).run ((AE E N y d S).bind λr=>Tr.opt (Joins.prj J r.1 r.2)).run=some z)
  (h:(J.inj z).run=some (e,S')):BC P b N (.cond o c d) S e S':=by
 obtain ⟨hB,hA⟩:=Sn hz;have side:∀{k:Code} {v:Ann},(∀{ann S e S'},(AE E N ann k S).run=some (e,S')->BC P b N k S e S')->((AE E N v k S).bind λr=>Tr.opt (Joins.prj J r.1 r.2)).run=some z->BC P b N k S e S':=by
  intro k v ih hk;rw [run_bind,AjQ]at hk;obtain ⟨⟨e1,S1⟩,h1,h2⟩:=hk;obtain ⟨k1,k2⟩:=Joins.ok (b:=b) (N:=N) J (Kr h2) h;subst k1;exact Aa9 (ih h1) k2
 intro a w Q hs hQ;obtain ⟨r,hb,hr⟩:∃r:Bool,a.eval o=.bool r/\(r=true->q=true):=by
  obtain ⟨c,_,hsl,_⟩:=hs;have:=AD hsl o;rw [ho]at this;exact this
 refine wp_cond hb ?_;split
 .rename_i hrt;exact side ih1 (hA (hr hrt)) hs hQ
 .exact side ih2 hB hs hQ
def Nx (P:Program) (E:Env) (b:Base) (N:Nat) (c:Code):Prop:=∀(ann:Ann) (S:St) (e:Ex) (S':St),(AE E N ann c S).run=some (e,S')->BC P b N c S e S'
def XN (P:Program) (N:Nat) (c:Code):Prop:=∀(E:Env) (b:Base),EnvOk P E->(∀p,p∈b.fx->E.fx.contains p.1=true)->EnB P E b->N < b.n1->Nx P E b N c
def Abt (P:Program) (N:Nat):Code->Prop
 | .seq c d | .cond _ c d=>XN P N c/\XN P N d/\Abt P N c/\Abt P N d
 | .block _ c | .loop c=>XN P N c/\Abt P N c
 | _=>True
theorem UV {k d:Code} {S:St} {v y:Ann} {J:Joins} {z:J.D} {e:Ex} {S':St} (hk:Nx P E b N k) (hd:Nx P E b N d)
  (hz:(((AE E N v k S).bind λp=>match p.1 with | .n=>AE E N y d p.2 | e=>.ret (e,p.2)).bind λt=>Tr.opt (Joins.prj J t.1 t.2)).run=some z) (h:(J.inj z).run=some (e,S'))
  {a:Act} {w:World} {Q:Exit->Act->World->Prop} (hs:Sim b N S a w) (hQ:∀a' w',Sim b N S' a' w'->Q e.out a' w'):k.wp P (Exit.then (λa w=>d.wp P Q a w) Q) a w:=by
 rw [run_bind,AjQ]at hz;obtain ⟨⟨e1,S1⟩,h1,h2⟩:=hz;obtain ⟨k1,k2⟩:=Joins.ok (b:=b) (N:=N) J (Kr h2) h;subst k1;rw [run_bind,AjQ]at h1;obtain ⟨⟨e3,S3⟩,h3,h4⟩:=h1;refine hk _ _ _ _ h3 hs λa' w' hs'=>then_out.2 ?_
 cases e3 with
 | n=>exact hd _ _ _ _ h4 hs' λa2 w2 hs2=>hQ a2 w2 (k2 hs2)
 | x id=>
  simp only [Tr.run,AjN,Prod.mk.injEq]at h4;obtain ⟨q1,q2⟩:=h4;subst q1 q2;exact hQ a' w' (k2 hs')
 | r=>
  simp only [Tr.run,AjN,Prod.mk.injEq]at h4;obtain ⟨q1,q2⟩:=h4;subst q1 q2;exact hQ a' w' (k2 hs')
theorem Af9 {o:Operand} {r c1 c2 d:Code} {S:St} {J:Joins} {xr xa xb y z:Ann} {e:Ex} {S':St} (hr:Nx P E b N r) (h1:Nx P E b N c1) (h2:Nx P E b N c2) (hd:Nx P E b N d)
  (h:(AE E N (.both J xr xa xb y z) (.seq (.seq r (.cond o c1 c2)) d) S).run=some (e,S')):BC P b N (.seq (.seq r (.cond o c1 c2)) d) S e S':=by
 rw [AE,run_bind,AjQ]at h;obtain ⟨⟨e1,S1⟩,h3,h4⟩:=h;intro a w Q hs hQ;refine wp_seq (wp_seq (hr _ _ _ _ h3 hs λa' w' hs'=>then_out.2 ?_));cases e1 with
 | x id=>
  simp only [Tr.run,AjN,Prod.mk.injEq]at h4;obtain ⟨q1,q2⟩:=h4;subst q1 q2;exact then_out (e:=.x id).2 (hQ a' w' hs')
 | r=>
  simp only [Tr.run,AjN,Prod.mk.injEq]at h4;obtain ⟨q1,q2⟩:=h4;subst q1 q2;exact then_out (e:=.r).2 (hQ a' w' hs')
 | n=>
  simp only at h4;split at h4
  .rename_i q ho;rw [C4,AjQ]at h4;obtain ⟨t,ht,h5⟩:=h4;obtain ⟨hB,hA⟩:=Sn ht;obtain ⟨g,hb,hg⟩:∃g:Bool,a'.eval o=.bool g/\(g=true->q=true):=by
    obtain ⟨c,_,hsl,_⟩:=hs';have:=AD hsl o;rw [ho]at this;exact this
   refine wp_cond hb ?_;split
   .rename_i hgt;exact UV h1 hd (hA (hg hgt)) h5 hs' hQ
   .exact UV h2 hd hB h5 hs' hQ
  .simp [Tr.run]at h4
theorem V4 {id:Nat} {c:Code} {S:St} {x:Ann} {e:Ex} {S':St} (ih1:∀{ann S e S'},(AE E N ann c S).run=some (e,S')->BC P b N c S e S')
  (h:((AE E N x c S).bind λr=>.ret (if r.1=.x id then .n else r.1,r.2)).run=some (e,S')):BC P b N (.block id c) S e S':=by
 rw [run_bind,AjQ]at h;obtain ⟨⟨e1,S1⟩,h1,h2⟩:=h;simp only [Tr.run,AjN,Prod.mk.injEq]at h2;obtain ⟨k1,k2⟩:=h2;subst k2;intro a w Q hs hQ;refine wp_block (ih1 h1 hs λa' w' hs'=>?_);have:=hQ a' w' hs';cases e1 with
 | n=>simp only [reduceCtorEq,Aku]at k1;subst k1;exact this
 | x id'=>
  by_cases hid:id'=id
  .subst hid;simp only [Akh]at k1;subst k1;simp only [Ex.out,Exit.inBlock,Akh];exact this
  .have:¬ (Ex.x id'=Ex.x id):=λh=>hid (by injection h)
   rw [AjR this]at k1;subst k1;simp only [Ex.out,Exit.inBlock,hid,Aku]
   assumption
 | r=>simp only [reduceCtorEq,Aku]at k1;subst k1;exact this
theorem Af7 {c:Code} {S:St} {t:Tpl} {J:Joins} {x:Ann} {e:Ex} {S':St} (ih1:∀{ann S e S'},(AE E N ann c S).run=some (e,S')->BC P b N c S e S') {x0:t.D} (hx:t.prj S=some x0)
  (h:(Tr.get (Joins.D J) (Ab (λy:t.D=>((AE E N x c (t.inj y)).bind λr=>match r.1 with
    | .n=>Tr.opt (match t.prj r.2 with | some z=>some (Sum.inl (β:=Joins.D J) z) | none=>none)
    | e=>Tr.opt (match J.prj e r.2 with | some z=>some (Sum.inr (α:=t.D) z) | none=>none)).run) x0) J.inj).run=some (e,S')):BC P b N (.loop c) S e S':=by
 rw [C4,AjQ]at h;obtain ⟨y,hy,h⟩:=h;obtain ⟨n0,hn0⟩:=(J4 _ _ _).1 hy;intro a w Q hs hQ;generalize hf:(λy:t.D=>((AE E N x c (t.inj y)).bind λr=>match r.1 with
    | .n=>Tr.opt (match t.prj r.2 with | some z=>some (Sum.inl (β:=Joins.D J) z) | none=>none)
    | e=>Tr.opt (match J.prj e r.2 with | some z=>some (Sum.inr (α:=t.D) z) | none=>none)).run)=f at hn0
 refine wp_loop_ghost (λn a w=>∃x,Sim b N (t.inj x) a w/\Ft f n x=some y) n0 ⟨x0,t.ok hx hs,hn0⟩ ?_;rintro n a w ⟨z,hz,hn⟩;cases n with
 | zero=>simp [Ft]at hn
 | succ n=>
  simp only [Ft]at hn;have hfz:f z=((AE E N x c (t.inj z)).bind λr=>match r.1 with
    | .n=>Tr.opt (match t.prj r.2 with | some z=>some (Sum.inl (β:=Joins.D J) z) | none=>none)
    | e=>Tr.opt (match J.prj e r.2 with | some z=>some (Sum.inr (α:=t.D) z) | none=>none)).run:=by rw [<- hf]
  cases hfv:f z with
  | none=>rw [hfv]at hn;cases hn
  | some v=>
   rw [hfv]at hn hfz;have hfz':=hfz.symm;rw [run_bind,AjQ]at hfz';obtain ⟨⟨e1,S1⟩,h1,h2⟩:=hfz';refine ih1 h1 hz λa' w' hs'=>then_out.2 ?_
   have other:∀e2,(Tr.opt (match J.prj e2 S1 with | some z=>some (Sum.inr (α:=t.D) z) | none=>none)).run=some v->Q e2.out a' w':=by
    intro e2 h2;have h3:=Kr h2;split at h3
    .rename_i z' hz';injection h3 with h3
     subst h3;simp only [AjN]at hn;subst hn;obtain ⟨k1,k2⟩:=Joins.ok (b:=b) (N:=N) J hz' h;subst k1;exact hQ a' w' (k2 hs')
    .cases h3
   cases e1 with
   | n=>
    have h3:=Kr h2;split at h3
    .rename_i z' hz';injection h3 with h3
     subst h3;exact⟨n,O,z',t.ok hz' hs',hn⟩
    .cases h3
   | x id=>exact other _ h2
   | r=>exact other _ h2
theorem AeE {b:Base} {S:St} {x0:Nat×Nat×List (Int×Int)} {ol:Option Oper} (h:(Wo E N S ol).run=some x0):∃ty x ty2 ps af,ol=some ⟨some x0.1,.range ty x,ty2,ps,af,none⟩/\x0.1 < N/\E.fx.contains x0.1=false/\E.ti ty=.map/\
  Cj S x=.s (.one (.mh x0.2.1))/\S.ms x0.2.1=some 0/\S.mc x0.2.1 0=.md x0.2.2:=by
 unfold Wo at h;split at h
 .split at h
  .rename_i hc;split at h
   .rename_i k ht hx;split at h
    .rename_i hk;split at h
     .rename_i xs hm;simp only [Tr.run,AjN]at h;subst h;exact⟨_,_,_,_,_,rfl,hc.1,hc.2,ht,hx,hk,hm⟩
     .simp [Tr.run]at h
    .simp [Tr.run]at h
   .simp [Tr.run]at h
  .simp [Tr.run]at h
 .simp [Tr.run]at h
theorem Ae2 {b:Base} (hE:EnvOk P E) (hF:∀p,p∈b.fx->E.fx.contains p.1=true) (hG:EnB P E b) (hN:N < b.n1) {t:Tpl} {y:Ann} {i1 i2 ib id2:Nat} {rops nops:Array Oper} {cnd:Operand} {d:Code} (hd:XN P N d) {S:St} {e:Ex} {S':St}
  (h:(AE E N (.mloop t y) (.seq (.region i1 rops false) (.block ib (.loop (.seq (.region i2 nops false) (.seq (.cond cnd .skip (.exit id2)) d))))) S).run=some (e,S')) :
  BC P b N (.seq (.region i1 rops false) (.block ib (.loop (.seq (.region i2 nops false) (.seq (.cond cnd .skip (.exit id2)) d))))) S e S':=by
 rw [AE,run_bind,AjQ]at h;obtain ⟨S1,h1,h⟩:=h;rw [run_bind,AjQ]at h;obtain ⟨⟨it,k,xs⟩,h2,h⟩:=h;obtain ⟨ty,ox,ty2,ps,af,hlast,hitN,hitx,hti,hox,hk,hmc⟩:=AeE (b:=b) h2;simp only at hlast hitN hitx hox hk hmc h;split at h
 .rename_i pq x0 hnx hx0;split at h
  .rename_i hid;subst hid;rw [C4,AjQ]at h;obtain ⟨yf,hperm,h⟩:=h;simp only [Tr.run,AjN,Prod.mk.injEq]at h;obtain ⟨rfl,rfl⟩:=h;obtain ⟨rs,hrs,hruns⟩:=OP _ _ _ 0 h1;intro a w Q hs hQ;refine wp_seq (wp_region_list ?_);have hsplit:rops.toList=rs.map (·.o)++[⟨some it,.range ty ox,ty2,ps,af,none⟩]:=by
    obtain ⟨ys,hys⟩:=List.getLast?_eq_some_iff.1 hlast;rw [hrs,hys,List.dropLast_concat]
   rw [hsplit];refine Runs.more hE hF hG hN rs 0 hruns hs λa1 w1 hs1=>?_
   obtain ⟨c,hi,hsl,hfx⟩:=hs1;refine wpList_step λK hK=>?_
   simp only [Region.wanted,Akh];obtain ⟨xs',hm1,hm2⟩:=hi.mp k hk;rw [hmc]at hm1;injection hm1 with hm1
   subst hm1;obtain ⟨es,hes,hen⟩:=hm2.en;obtain ⟨⟨kt,et,hu,_⟩,_⟩:=hE.ti.map hti;have hev:a1.eval ox=.map (some (c.mb k)):=by
    have:=AD hsl ox;rw [hox]at this;exact(AT this:LeafOk S1 c w1 (Kok b S1 c) (.mh k) _).2
   have hrun:=run_range_map w1 ty kt et (c.mb k) es es.size hu hes;rw [<- hev]at hrun;refine Az (o:=⟨some it,.range ty ox,ty2,ps,af,none⟩) (post:=λv w2=>v=.pointer (some ⟨w1.heap.size,0,none⟩)/\w2=w1.alloc (.mapIter (some (c.mb k)) es.size #[] es.size)) rfl ⟨_,_,hrun,rfl,rfl⟩ K _ ?_;rintro v w2 ⟨rfl,rfl⟩;refine hK _ _ ?_;obtain ⟨hi2,st2,hkk⟩:=hi.drop k;have hsl2:Slots N (S1.drop k) c w1 (Kok b (S1.drop k) c) a1:=Ka (st2.slots hsl (by intro i;exact G6 S1 [.m k] i) none .no undef (λ_ h=>by cases h) trivial (λ_ _=>Iff.rfl) (λ_ _=>Iff.rfl));have hbm:=(hkk 0 hk).2;obtain ⟨hi3,st3⟩:=AeG hi2 (.mapIter (some (c.mb k)) es.size #[] es.size) it;have hne:∀p,p∈b.fx->p.1≠it:=λp hp he=>by have:=hF p hp;rw [he,hitx]at this;cases this
   have hsim:Sim (reB hi2 (.mapIter (some (c.mb k)) es.size #[] es.size) it) N ((S1.drop k).put it .no) (a1.put (some it) (.pointer (some ⟨w1.heap.size,0,none⟩))) (w1.alloc (.mapIter (some (c.mb k)) es.size #[] es.size)):=by
    refine⟨c,Inv.put (S:=S1.drop k) rfl rfl rfl hi3,?_,?_⟩
    .rw [show Kok (reB hi2 (.mapIter (some (c.mb k)) es.size #[] es.size) it) ((S1.drop k).put it .no) c=Kok (reB hi2 (.mapIter (some (c.mb k)) es.size #[] es.size) it) (S1.drop k) c from Er rfl rfl];exact st3.slots hsl2 (λi=>(SV.kp_nil _).symm) (some it) .no _ (λq hq=>by injection hq with hq;omega) trivial (λl v=>Gi rfl rfl l v) (λl v=>I8 rfl rfl l v)
    .intro p hp;rcases Aj5.1 hp with rfl | hp
     .show(a1.tmps.setIfInBounds it _).getD it undef=_;simp [hsl.n,hitN]
     .exact AcZ hfx (λj hj p hp=>by injection hj with hj;rw [<- hj];exact hne p hp) p hp
   refine wp_block (Abk hbm hes hen hF hnx hperm ?_ (t.ok hx0 hsim) λa' w' hs'=>?_)
   .intro en seen hee z z' hz a2 w2 hs2 Q2 hQ2;rw [run_bind,AjQ]at hz;obtain ⟨⟨e1,S2⟩,hz1,hz2⟩:=hz;cases e1 with
    | n=>
     have hz3:=Kr hz2;refine hd { E with fx:=it::E.fx,en:=(it,ent en)::E.en } (reB hi2 (.mapIter (some (c.mb k)) es.size (seen.push en.born) es.size) it) ⟨hE.ti,hE.mix,hE.ca⟩ (λp hp=>?_) ?_ hN _ _ _ _ hz1 hs2 λa3 w3 hs3=>hQ2 _ _ (t.ok hz3 hs3)
     .rcases Aj5.1 hp with rfl | hp
      .simp
      .have:=hF p hp;simp only [List.contains_cons,this,Al8]
     .intro S4 w4 c4 a4 hi4 hfx4 s p hp;simp only [WV]at hp;split at hp
      .rename_i hse;subst hse;injection hp with hp
       subst hp;have hit:a4.eval (.tmp it)=.pointer (some ⟨w1.heap.size,0,none⟩):=hfx4 (it,_) (List.mem_cons_self ..);obtain ⟨k1,k2,k3⟩:=Wb hen;obtain ⟨_,_,k4,k5⟩:=k2 en hee;rw [hit,<- k4,<- k5];exact run_entry_at w4 w1.heap.size (c.mb k) es.size seen es es.size en (Afo hi4) (by rw [XV hi4 (BM hes) hbm];exact hes) hee k3
      .exact hG (ZN hi4).1 (λx hx=>hfx4 x (AkT _ hx)) s p hp
    | x id=>simp [Tr.run]at hz2
    | r=>simp [Tr.run]at hz2
   .simp only [Exit.inBlock,Akh];exact hQ _ _ hs'
  .simp [Tr.run]at h
 .simp [Tr.run]at h
theorem Adr (c:Code):XN P N c/\Abt P N c:=by
 have reg:∀{E:Env} {b:Base},EnvOk P E->(∀p,p∈b.fx->E.fx.contains p.1=true)->EnB P E b->N < b.n1->∀{id:Nat} {ops:Array Oper} {draw:Bool} {S:St} {e:Ex} {S':St},((Kw E N ops draw S).bind λS=>.ret (.n,S)).run=some (e,S')->BC P b N (.region id ops draw) S e S':=by
  intro E b hE hF hG hN id ops draw S e S' h;rw [run_bind,AjQ]at h;obtain ⟨S1,h1,h2⟩:=h;simp only [Tr.run,AjN,Prod.mk.injEq]at h2;obtain ⟨k1,k2⟩:=h2;subst k1 k2;intro a w Q hs hQ;exact Acd hE hF hG hN h1 hs hQ
 induction c with
 | skip=>
  refine⟨?_,trivial⟩;intro E b hE hF hG hN ann S e S' h;have:AE E N ann .skip S=.ret (.n,S):=by cases ann <;> rfl
  rw [this]at h;simp only [Tr.run,AjN,Prod.mk.injEq]at h;obtain ⟨k1,k2⟩:=h;subst k1 k2;intro a w Q hs hQ;exact wp_skip (hQ a w hs)
 | region id ops draw=>
  refine⟨?_,trivial⟩;intro E b hE hF hG hN ann S e S' h;cases ann with
  | reg J=>
   obtain ⟨S0,h1,h2⟩:=LO (b:=b) (N:=N) (show(Lh J ((Kw E N ops draw S).bind λS=>.ret (.n,S))).run=some (e,S') from h);exact Aa9 (reg hE hF hG hN h1) h2
  | _=>exact reg hE hF hG hN h
 | seq c d ih1 ih2=>
  refine⟨?_,ih1.1,ih2.1,ih1.2,ih2.2⟩;intro E b hE hF hG hN ann S e S' h;have i1:∀{ann S e S'},(AE E N ann c S).run=some (e,S')->BC P b N c S e S':=λh=>ih1.1 E b hE hF hG hN _ _ _ _ h
  have i2:∀{ann S e S'},(AE E N ann d S).run=some (e,S')->BC P b N d S e S':=λh=>ih2.1 E b hE hF hG hN _ _ _ _ h
  cases ann with
  | seq x y=>(intro a w Q hs hQ;exact Ack i1 i2 h hs hQ)
  | nil=>(intro a w Q hs hQ;exact Ack i1 i2 h hs hQ)
  | both J xr xa xb y z=>
   match c,ih1,h with
   | .seq r (.cond o c1 c2),ih1,h=>(intro a w Q hs hQ;exact Af9 (ih1.2.1 E b hE hF hG hN) (ih1.2.2.2.2.1 E b hE hF hG hN) (ih1.2.2.2.2.2.1 E b hE hF hG hN) (ih2.1 E b hE hF hG hN) h hs hQ)
   | .seq _ (.skip),_,h | .seq _ (.region ..),_,h | .seq _ (.seq ..),_,h | .seq _ (.block ..),_,h | .seq _ (.loop ..),_,h | .seq _ (.rangeFunc ..),_,h | .seq _ (.exit ..),_,h | .seq _ (.scope ..),_,h | .seq _ (.label ..),_,h | .seq _ (.goto ..),_,h | .seq _ (.ret),_,h | .seq _ (.refuse ..),_,h=>cases h
   | .skip,_,h | .region ..,_,h | .cond ..,_,h | .block ..,_,h | .loop ..,_,h | .rangeFunc ..,_,h | .exit ..,_,h | .scope ..,_,h | .label ..,_,h | .goto ..,_,h | .ret,_,h | .refuse ..,_,h=>cases h
  | mloop t y=>
   have hcd:∃i1 rops ib i2 nops cnd id2 d',c=.region i1 rops false/\d=.block ib (.loop (.seq (.region i2 nops false) (.seq (.cond cnd .skip (.exit id2)) d'))):=by
    cases c <;> try (cases h;done)
    rename_i i1 rops dr;cases dr <;> try (cases h;done)
    cases d <;> try (cases h;done)
    rename_i ib d;cases d <;> try (cases h;done)
    rename_i d;cases d <;> try (cases h;done)
    rename_i r d;cases r <;> try (cases h;done)
    rename_i i2 nops dr;cases dr <;> try (cases h;done)
    cases d <;> try (cases h;done)
    rename_i c d;cases c <;> try (cases h;done)
    rename_i cnd x y;cases x <;> try (cases h;done)
    cases y <;> try (cases h;done)
    exact⟨_,_,_,_,_,_,_,_,rfl,rfl⟩
   obtain ⟨i1',rops,ib,i2',nops,cnd,id2,d',rfl,rfl⟩:=hcd;intro a w Q hs hQ;exact Ae2 hE hF hG hN (ih2.2.2.2.2.2.2.2.1) h hs hQ
  | _=>cases h
 | cond o c d ih1' ih2'=>
  refine⟨?_,ih1'.1,ih2'.1,ih1'.2,ih2'.2⟩;intro E b hE hF hG hN ann S e S' h;have ih1:∀{ann S e S'},(AE E N ann c S).run=some (e,S')->BC P b N c S e S':=λh=>ih1'.1 E b hE hF hG hN _ _ _ _ h
  have ih2:∀{ann S e S'},(AE E N ann d S).run=some (e,S')->BC P b N d S e S':=λh=>ih2'.1 E b hE hF hG hN _ _ _ _ h
  cases ann with
  | cond J x y=>
   simp only [AE]at h;split at h
   .rename_i t ho;obtain ⟨S0,h1,h2⟩:=LO (b:=b) (N:=N) h
    (intro a w Q hs hQ;exact Aa9 (Aad ih1 ih2 ho h1) h2 hs hQ)
   .rename_i e0 ho;rw [C4,AjQ]at h;obtain ⟨z,hz,h⟩:=h
    (intro a w Q hs hQ;exact AdV ih1 ih2 ho hz h hs hQ)
   .cases h
  | nil=>
   simp only [AE]at h;split at h
   .rename_i t ho
    (intro a w Q hs hQ;exact Aad ih1 ih2 ho h hs hQ)
   .cases h
  | _=>cases h
 | block id c ih1'=>
  refine⟨?_,ih1'.1,ih1'.2⟩;intro E b hE hF hG hN ann S e S' h;have ih1:∀{ann S e S'},(AE E N ann c S).run=some (e,S')->BC P b N c S e S':=λh=>ih1'.1 E b hE hF hG hN _ _ _ _ h
  cases ann with
  | block J x=>
   obtain ⟨S0,h1,h2⟩:=LO (b:=b) (N:=N) h
   (intro a w Q hs hQ;exact Aa9 (V4 ih1 h1) h2 hs hQ)
  | nil=>(intro a w Q hs hQ;exact V4 ih1 h hs hQ)
  | _=>cases h
 | loop c ih1'=>
  refine⟨?_,ih1'.1,ih1'.2⟩;intro E b hE hF hG hN ann S e S' h;have ih1:∀{ann S e S'},(AE E N ann c S).run=some (e,S')->BC P b N c S e S':=λh=>ih1'.1 E b hE hF hG hN _ _ _ _ h
  cases ann with
  | loop t J x=>
   simp only [AE]at h;split at h
   .rename_i x0 hx
    (intro a w Q hs hQ;exact Af7 ih1 hx h hs hQ)
   .cases h
  | _=>cases h
 | exit id=>
  refine⟨?_,trivial⟩;intro E b hE hF hG hN ann S e S' h;have:AE E N ann (.exit id) S=.ret (.x id,S):=by cases ann <;> rfl
  rw [this]at h;simp only [Tr.run,AjN,Prod.mk.injEq]at h;obtain ⟨k1,k2⟩:=h;subst k1 k2;intro a w Q hs hQ;exact wp_exit (hQ a w hs)
 | ret=>
  refine⟨?_,trivial⟩;intro E b hE hF hG hN ann S e S' h;have:AE E N ann .ret S=.ret (.r,S):=by cases ann <;> rfl
  rw [this]at h;simp only [Tr.run,AjN,Prod.mk.injEq]at h;obtain ⟨k1,k2⟩:=h;subst k1 k2;intro a w Q hs hQ;exact wp_ret (hQ a w hs)
 | _=>
  refine⟨?_,trivial⟩;intro E b hE hF hG hN ann S e S' h;cases ann <;> cases h
theorem Ad8 {b:Base} (hE:EnvOk P E) (hF:∀p,p∈b.fx->E.fx.contains p.1=true) (hG:EnB P E b) (hN:N < b.n1) (c:Code) {ann:Ann} {S:St} {e:Ex} {S':St} (h:(AE E N ann c S).run=some (e,S')):BC P b N c S e S':=
 (Adr c).1 E b hE hF hG hN _ _ _ _ h
end
end Go.V
namespace Go.V
open Go.RowKit
section
variable {P:Program} {E:Env} {b:Base} {S:St} {c:Cc} {w:World}
theorem Nt (hi:Inv b S w c) {t:Ty} {l:Leaf} {v:Value} {y:Ae×List Nat} (hl:LeafOk S c w (Kok b S c) l v) (h:(Na t l).ev S=some y) :
  Ows S y.2/\∃G,ALOk w (Kok b S c) y.1 v G/\G.Nodup/\Cu c y.2 G:=by
 have hn:Ows S []:=λk hk=>(by cases hk)
 have hh:Cu c [] []:=λg hg=>(by cases hg)
 unfold Na at h;split at h
 .simp only [Tr.ev,AjN]at h;subst h;exact⟨hn,[],⟨hl,λ_=>rfl⟩,Z,hh⟩
 .obtain rfl:v=.slice none 0 0:=hl;split at h
  .simp only [Tr.ev,AjN]at h;subst h;refine⟨hn,[],⟨?_,λ_=>rfl⟩,Z,hh⟩;simp only [Rp];exact .inl ⟨trivial,trivial,trivial⟩
  .simp [Tr.ev]at h
 .rename_i k win;simp only [Af,AjQ,Tr.ev,AjN]at h;obtain ⟨o,ho,h⟩:=h;subst h;obtain ⟨h1,F',h2,h3,h4⟩:=HP hi hl ho;exact⟨λk' hk'=>(by simp only [AjX]at hk';subst hk';exact h1),F',⟨h2,λh=>(by simp [Ty.own]at h)⟩,h4,λg hg=>⟨k,Z,h3 g hg⟩⟩
 .simp [Tr.ev]at h
def Outs (S:St) (c:Cc) (gv G:List Nat):Prop:=Ows S gv/\(AJ gv=true->G.Nodup)/\Cu c gv G
theorem Outs.nil:Outs S c [] []:=⟨λk hk=>(by cases hk),λ_=>by simp,λg hg=>(by cases hg)⟩
theorem Outs.append (hi:Inv b S w c) {k l G H:List Nat} (h1:Outs S c k G) (h2:Outs S c l H):Outs S c (k++l) (G++H):=by
 refine⟨Cz h1.1 h2.1,λhu=>?_,λg hg=>?_⟩
 .obtain ⟨u1,u2,_⟩:=AQ hu;exact(CN hi h1.2.2 h2.2.2 h1.1 h2.1 hu (h1.2.1 u1) (h2.2.1 u2)).2
 .rcases AjV.1 hg with hg | hg
  .obtain ⟨k,h,h'⟩:=h1.2.2 g hg;exact⟨k,by simp [h],h'⟩
  .obtain ⟨k,h,h'⟩:=h2.2.2 g hg;exact⟨k,by simp [h],h'⟩
theorem O2 (hi:Inv b S w c):∀{ls:List Leaf} {ts:List Ty} {vs:List Value} {y:List Ae×List Nat},All2 (LeafOk S c w (Kok b S c)) ls vs->(Gm ts ls).ev S=some y->
  ∃G,FL (ALOk w (Kok b S c)) y.1 vs G/\Outs S c y.2 G
 | [],[],_,y,.nil,h=>by
  rw [Gm]at h;simp only [Tr.ev,AjN]at h;subst h;exact⟨[],⟨rfl,rfl⟩,Outs.nil⟩
 | l::ls,t::ts,_,y,.cons (b:=v) (bs:=vs) h1 h2,h=>by
  rw [Gm]at h;simp only [Af,AjQ,Tr.ev,AjN]at h;obtain ⟨y1,hy1,y2,hy2,rfl⟩:=h;obtain ⟨k1,G,k2,k3,k4⟩:=Nt hi h1 hy1;obtain ⟨H,m2,m3⟩:=O2 hi h2 hy2;exact⟨G++H,⟨v,vs,G,H,rfl,rfl,k2,m2⟩,Outs.append hi ⟨k1,λ_=>k3,k4⟩ m3⟩
 | [],_::_,_,_,_,h=>by simp [Gm,Tr.ev]at h
 | _::_,[],_,_,_,h=>by simp [Gm,Tr.ev]at h
theorem T2 (hi:Inv b S w c) {N M:Nat} (hN:b.n1=N+1) (hM:b.ms.length=M) {t:TypeId} {x:SV} {v:Value} {y:A1×List Nat} (hx:AO S c w (Kok b S c) x v) (h:(R7 E N M t x).ev S=some y) :
  ∃G,A1Ok w (Kok b S c) b.ms y.1 v G/\Outs S c y.2 G:=by
 unfold R7 at h;split at h
 .simp only [Af,AjQ,Tr.ev,AjN]at h;obtain ⟨z,hz,h⟩:=h;subst h;obtain ⟨k1,G,k2,k3,k4⟩:=Nt hi (AT hx) hz;exact⟨G,k2,k1,λ_=>k3,k4⟩
 .simp only [Af,AjQ,Tr.ev,AjN]at h;obtain ⟨z,hz,h⟩:=h;subst h;obtain ⟨vs,rfl,hx⟩:=hx;obtain ⟨G,k1,k2⟩:=O2 hi hx hz;exact⟨G,⟨vs,rfl,k1⟩,k2⟩
 .rename_i k off;split at h
  .rename_i hk;simp only [Tr.ev,AjN]at h;subst h;obtain ⟨n,hn,rfl⟩:=hx;have hlt:k - (N+1) < b.ms.length:=O
   have han:=hi.an (k - (N+1)) _ (AjP hlt);rw [hN,(O:N+1+(k - (N+1))=k)]at han;exact⟨[],⟨rfl,_,AjP hlt,by rw [han.1,han.2]⟩,Outs.nil⟩
  .simp [Tr.ev]at h
 .simp [Tr.ev]at h
theorem Yp {t:TypeId} {v u:Value} {w':World} (h:(Instr.loadAt t v).run P w=.ok u w'):(do loadVar t (<- asAddr v):Sem Value).run P w=.ok u w':=by
 unfold Instr.loadAt at h;cases v with
 | pointer o=>
  cases o with
  | some a=>simpa [asAddr,Instr.sureAddr] using h
  | none=>simp [Instr.sureAddr]at h
 | _=>simp [Instr.sureAddr]at h
def PZ (tmps:Array Value):ResultVar->Sem Value
 | .tmp t=>pure (tmps.getD t undef)
 | .cell a t=>do loadVar t (<- asAddr (tmps.getD a undef))
theorem NP (hT:TabOk P E.ti) {N M:Nat} (hN:b.n1=N+1) (hM:b.ms.length=M) {a:Act} (hi:Inv b S w c) (hs:Slots N S c w (Kok b S c) a):∀(rs:List ResultVar) (ts:List TypeId) {y:List A1×List Nat},(GO E N M S rs ts).ev S=some y->
  ∃vs G,(rs.mapM (PZ a.tmps)).run P w=.ok vs w/\FL (A1Ok w (Kok b S c) b.ms) y.1 vs G/\Outs S c y.2 G
 | [],[],y,h=>by
  rw [GO]at h;simp only [Tr.ev,AjN]at h;subst h;exact⟨[],[],Z,⟨rfl,rfl⟩,Outs.nil⟩
 | .tmp s::rs,t::ts,y,h=>by
  rw [GO]at h;simp only [Af,AjQ,Tr.ev,AjN]at h;obtain ⟨y1,hy1,y2,hy2,rfl⟩:=h;obtain ⟨G,k1,k2⟩:=T2 hi hN hM (hs.ok s) hy1;obtain ⟨vs,H,m1,m2,m3⟩:=NP hT hN hM hi hs rs ts hy2;refine⟨_::vs,G++H,?_,⟨_,vs,G,H,rfl,rfl,k1,m2⟩,Outs.append hi k2 m3⟩;simp only [List.mapM_cons,PZ,Sem.run_bind,Sem.run_pure,Result.andThen_ok,m1]
 | .cell s t'::rs,t::ts,y,h=>by
  rw [GO]at h;split at h
  .rename_i a1 cs ha hcs;split at h
   .simp [Tr.ev]at h
   .rename_i hne;rw [Af,AjQ]at h;obtain ⟨x,hx,h⟩:=h;simp only [Af,AjQ,Tr.ev,AjN]at h;obtain ⟨y1,hy1,y2,hy2,rfl⟩:=h;have hv:=hs.ok s;rw [ha]at hv;have hpos:0 < cs.length:=by
     cases cs with
     | nil=>simp at hne
     | cons _ _=>simp
    obtain ⟨u,k0,k1⟩:=Z3 (P:=P) hT hi hv hcs hx hpos;obtain ⟨G,k2,k3⟩:=T2 hi hN hM k1 hy1;obtain ⟨vs,H,m1,m2,m3⟩:=NP hT hN hM hi hs rs ts hy2;refine⟨u::vs,G++H,?_,⟨u,vs,G,H,rfl,rfl,k2,m2⟩,Outs.append hi k3 m3⟩;have hl:=Yp k0;rw [List.mapM_cons,Sem.run_bind];show((do loadVar t' (<- asAddr (a.tmps.getD s undef)):Sem Value).run P w).andThen _=_;rw [hl];simp only [Result.andThen_ok,Sem.run_bind,m1,Sem.run_pure]
  .simp [Tr.ev]at h
 | [],_::_,_,h=>by simp [GO,Tr.ev]at h
 | _::_,[],_,h=>by
  rename_i r _ _;cases r <;> simp [GO,Tr.ev]at h
theorem AaX (hi:Inv b S w c) {N M:Nat} (hN:b.n1=N+1) (hM:b.ms.length=M) {t:Ty} {l:Leaf} {v:Value} {y:Ae×List Nat} (hl:LeafOk S c w (Kok b S c) l v) (h:(PU N M t l).ev S=some y) :
  Ows S y.2/\∃G,ROk w (Kok b S c) b.ms y.1 v G/\G.Nodup/\Cu c y.2 G:=by
 unfold PU at h;split at h
 .rename_i k off;split at h
  .rename_i hk;simp only [Tr.ev,AjN]at h;subst h;obtain ⟨n,hn,rfl⟩:=hl;have hlt:k - (N+1) < b.ms.length:=O
   have han:=hi.an (k - (N+1)) _ (AjP hlt);rw [hN,(O:N+1+(k - (N+1))=k)]at han;refine⟨λk hk=>(by cases hk),[],.inr (.inl ⟨rfl,_,_,rfl,AjP hlt,by rw [<- han.1,<- han.2]⟩),Z,λg hg=>(by cases hg)⟩
  .simp [Tr.ev]at h
 .rename_i k;split at h
  .rename_i hk;simp only [Tr.ev,AjN]at h;subst h;obtain ⟨hn,rfl⟩:=hl;obtain ⟨_,_,es,hes,_⟩:=hi.mp _ hn;have hlt:k - (N+1) < b.ms.length:=O
   have han:=hi.an (k - (N+1)) _ (AjP hlt);rw [hN,(O:N+1+(k - (N+1))=k)]at han;refine⟨λk hk=>(by cases hk),[],.inr (.inr ⟨rfl,k - (N+1),_,?_,AjP hlt,by rw [<- han.1],es,es.size,by rw [<- han.1];exact hes⟩),Z,λg hg=>(by cases hg)⟩;show(⟨.mh,k - N⟩:Ae)=⟨.mh,k - (N+1)+1⟩
   rw [(O:k - N=k - (N+1)+1)]
  .simp [Tr.ev]at h
 .exact hl.elim
 .obtain ⟨k1,G,k2,k3,k4⟩:=Nt hi hl h;exact⟨k1,G,.inl k2,k3,k4⟩
theorem UY (hi:Inv b S w c) {N M:Nat} (hN:b.n1=N+1) (hM:b.ms.length=M) (k:Nat):∀(row:List Ae) (i:Nat) (vs:List Value) {y:List Ae×List Nat},vs.length=row.length->(∀j v,vs[j]?=some v->LeafOk S c w (Kok b S c) (S.mc k (i+j)) v)->(M2 N M k row i).ev S=some y->
  ∃G,FL (ROk w (Kok b S c) b.ms) y.1 vs G/\Outs S c y.2 G
 | [],i,vs,y,hl,_,h=>by
  rw [M2]at h;simp only [Tr.ev,AjN]at h;subst h;obtain rfl:vs=[]:=Akb hl;exact⟨[],⟨rfl,rfl⟩,Outs.nil⟩
 | r::row,i,[],y,hl,_,_=>by simp at hl
 | r::row,i,v::vs,y,hl,hc,h=>by
  rw [M2]at h;simp only [Tr.ev,Af,AjQ,AjN]at h;obtain ⟨y1,hy1,y2,hy2,rfl⟩:=h;obtain ⟨k1,G,k2,k3,k4⟩:=AaX hi hN hM (hc 0 v rfl) hy1;obtain ⟨H,m1,m2⟩:=UY hi hN hM k row (i+1) vs (by simpa using hl) (λj v hv=>by
   have:=hc (j+1) v (by simpa using hv)
   rwa [(O:i+(j+1)=i+1+j)]at this) hy2
  exact⟨G++H,⟨v,vs,G,H,rfl,rfl,k2,m1⟩,Outs.append hi ⟨k1,λ_=>k3,k4⟩ m2⟩
theorem RF (hi:Inv b S w c) {N M:Nat} (hN:b.n1=N+1) (hM:b.ms.length=M):∀(rows:List (List Ae)) (m:Nat) (gs:List (Nat×Nat)) {y:List (List Ae)×List Nat},gs.length=rows.length->(∀j g,gs[j]?=some g->b.ms[m+j]?=some g)->(∀r,r∈rows->r≠[])->(M6 N M rows m).ev S=some y->
  (∀j r,rows[j]?=some r->S.ms (N+1+m+j)=some (Rf r))/\y.1.map List.length=rows.map List.length/\∃G,RowsOk w (Kok b S c) b.ms gs y.1 G/\Outs S c y.2 G
 | [],m,gs,y,hl,_,_,h=>by
  rw [M6]at h;simp only [Tr.ev,AjN]at h;subst h;obtain rfl:gs=[]:=Akb hl;exact⟨λj r hj=>by simp at hj,rfl,[],⟨rfl,rfl⟩,Outs.nil⟩
 | r::rows,m,[],y,hl,_,_,_=>by simp at hl
 | r::rows,m,g::gs,y,hl,hg,hne,h=>by
  rw [M6]at h;simp only [Tr.ev]at h;split at h
  .rename_i hn;simp only [Tr.ev,Af,AjQ,AjN]at h;obtain ⟨y1,hy1,y2,hy2,rfl⟩:=h;have hgm:c.mb (N+1+m)=g.1/\c.mo (N+1+m)=g.2:=by rw [<- hN];exact hi.an m g (by have:=hg 0 g rfl;simpa using this)
   obtain ⟨q1,ql,H,m1,m2⟩:=RF hi hN hM rows (m+1) gs (by simpa using hl) (λj g' hg'=>by
    have:=hg (j+1) g' (by simpa using hg')
    rwa [(O:m+(j+1)=m+1+j)]at this) (λr hr=>hne r (by simp [hr])) hy2
   have hq:∀j r',(r::rows)[j]?=some r'->S.ms (N+1+m+j)=some (Rf r'):=by
    intro j r' hj;cases j with
    | zero=>
     simp only [Ak0,AjN]at hj;subst hj;rw [Alf,hn]
    | succ j=>
     have:=q1 j r' (by simpa using hj)
     rwa [(O:N+1+(m+1)+j=N+1+m+(j+1))]at this
   by_cases hmp:∃xs:List (Int×Int),r=[⟨.mp,xs⟩]
   .obtain ⟨xs,rfl⟩:=hmp;obtain ⟨ys,e1,e2⟩:=hi.mp _ hn;simp only [M2,Tr.ev,e1,PU,Af,AjM,AjN]at hy1;subst hy1;exact⟨hq,by simp [ql],H,⟨_,_,[],H,rfl,rfl,.inr ⟨ys,rfl,by rw [<- hgm.1];exact e2,rfl⟩,m1⟩,m2⟩
   have hlr:Rf r=r.length:=by
    unfold Rf;split
    .rename_i xs;exact absurd ⟨xs,rfl⟩ hmp
    .rfl
   rw [hlr]at hn;obtain ⟨cs,e,fr,h1,h2,h3,h4,_⟩:=hi.ms _ _ hn (List.length_pos_iff.2 (hne r Z));rw [hgm.2]at h2 h4;have hwl:((cs.toList.drop g.2).take r.length).length=r.length:=by
    rw [AjW,Akf,Alz (xs:=cs)];omega
   obtain ⟨G,k1,k2⟩:=UY hi hN hM (N+1+m) r 0 _ hwl (λj v hv=>by
    have hj:j < r.length:=by rw [<- hwl];exact(Akn.1 hv).1
    rw [Aj7 hj,Akt,Aj6]at hv;rw [Ake];exact h4 j v hj hv) hy1
   have hl1:y1.1.length=r.length:=by rw [<- hwl];exact k1.len.symm
   exact⟨hq,by simp [hl1,ql],G++H,⟨y1.1,y2.1,G,H,rfl,rfl,.inl ⟨cs,e,fr,by rw [<- hgm.1];exact h1,h3,O,by rw [hl1];exact k1⟩,m1⟩,Outs.append hi k2 m2⟩
  .simp [Tr.ev]at h
end
theorem AbP:∀(l:List (Nat×List Leaf)) (S:St),(l.map (·.1)).Nodup->(S.ups (l.map λp=>.ms p.1 p.2)).ow=S.ow/\(S.ups (l.map λp=>.ms p.1 p.2)).sl=S.sl/\
  (∀k,(S.ups (l.map λp=>.ms p.1 p.2)).ms k=match find l k with | some r=>some (JT r) | none=>S.ms k)/\∀k i,(S.ups (l.map λp=>.ms p.1 p.2)).mc k i=match find l k with | some r=>r.getD i .no | none=>S.mc k i
 | [],S,_=>⟨rfl,rfl,λ_=>rfl,λ_ _=>rfl⟩
 | p::l,S,h=>by
  rw [Akw,AkE]at h;obtain ⟨h1,h2,h3,h4⟩:=AbP l (S.up (.ms p.1 p.2)) h.2;obtain ⟨i0,row⟩:=p;refine⟨h1,h2,λk=>?_,λk i=>?_⟩
  .show((S.up (.ms i0 row)).ups (l.map λp=>.ms p.1 p.2)).ms k=_;rw [h3];simp only [find];by_cases hk:k=i0
   .subst hk;rw [Ie h.1,AjS rfl];simp [St.up]
   .rw [AjR hk];have:(S.up (.ms i0 row)).ms k=S.ms k:=by show(if k=i0 then _ else S.ms k)=_;rw [AjR hk]
    rw [this]
  .show((S.up (.ms i0 row)).ups (l.map λp=>.ms p.1 p.2)).mc k i=_;rw [h4];simp only [find];by_cases hk:k=i0
   .subst hk;rw [Ie h.1,AjS rfl];simp [St.up]
   .rw [AjR hk];have:(S.up (.ms i0 row)).mc k i=S.mc k i:=by show(if k=i0 then _ else S.mc k i)=_;rw [AjR hk]
    rw [this]
theorem Qw:∀(xs:List S1) (n:Nat) (S:St),(HS xs n S).ow=S.ow/\(HS xs n S).ms=S.ms/\(HS xs n S).mc=S.mc/\
  ∀i,(HS xs n S).sl i=if n<=i then(match xs[i - n]? with | some x=>.s x | none=>S.sl i)else S.sl i
 | [],n,S=>⟨rfl,rfl,rfl,λi=>by split <;> rfl⟩
 | x::xs,n,S=>by
  obtain ⟨h1,h2,h3,h4⟩:=Qw xs (n+1) (S.put n (.s x));refine⟨h1,h2,h3,λi=>?_⟩;show(HS xs (n+1) (S.put n (.s x))).sl i=_;rw [h4];by_cases hi:n+1<=i
  .rw [AjS hi,AjS O,(O:i - n=(i - (n+1))+1),AkU];have:(S.put n (.s x)).sl i=S.sl i:=by show(if i=n then _ else S.sl i)=_;rw [AjR O]
   rw [this]
  .rw [AjR hi];by_cases hin:i=n
   .subst hin;rw [AjS (Akk _),AlE];show(if i=i then SV.s x else S.sl i)=_;rw [AjS rfl];rfl
   .rw [AjR O];show(if i=n then _ else S.sl i)=_;rw [AjR hin]
theorem RowsOk.len {w:World} {K:Nat->Prop} {mk:List (Nat×Nat)}:∀{ms:List (Nat×Nat)} {rs F},RowsOk w K mk ms rs F->rs.length=ms.length
 | [],_,_,h=>by rw [h.1];rfl
 | _::_,_,_,⟨_,_,_,_,e1,_,_,h⟩=>by rw [e1];simp [RowsOk.len h]
theorem RowsOk.at {w:World} {K:Nat->Prop} {mk:List (Nat×Nat)}:∀{ms:List (Nat×Nat)} {rs F} {m:Nat} {g r},RowsOk w K mk ms rs F->ms[m]?=some g->rs[m]?=some r->∃F,RowOk w K mk g r F
 | [],_,_,_,_,_,_,h1,_=>by simp at h1
 | _::_,_,_,0,_,_,⟨_,_,F1,_,e1,_,h,_⟩,h1,h2=>by
  subst e1;simp only [Ak0,AjN]at h1 h2;subst h1 h2;exact⟨F1,h⟩
 | _::_,_,_,_+1,_,_,⟨_,_,_,_,e1,_,_,h⟩,h1,h2=>by
  subst e1;exact RowsOk.at h (by simpa using h1) (by simpa using h2)
theorem All2.map_right {α β:Type} {p:α->β->Prop} {as bs} (h:All2 p as bs) {i:Nat} {x:β} (hx:bs[i]?=some x):∃a,as[i]?=some a/\p a x:=by
 have hlt:i < as.length:=by rw [h.len];exact(Akn.1 hx).1
 obtain ⟨y,hy,hp⟩:=h.get (AjP hlt);rw [hx]at hy;injection hy with hy
 subst hy;exact⟨_,AjP hlt,hp⟩
theorem AeS {N:Nat} {as:List A1} {rows:List (List Ae)} {S:St} (h:Ns N as rows=some S):∀r,r∈rows->r≠[]:=by
 unfold Ns at h;split at h
 .split at h
  .rename_i hu;rw [AjT]at hu;intro r hr he;have:=Aki.1 hu.2 r hr;rw [he]at this;cases this
  .cases h
 .cases h
theorem AdF {N:Nat} {as:List A1} {rows:List (List Ae)} {S:St} (h:Ns N as rows=some S) {w:World} {vals:List Value} {Ro:Nat->Prop} {ms:List (Nat×Nat)} {F1 F2:List Nat} (hA:FL (A1Ok w Ro ms) as vals F1) (hR:RowsOk w Ro ms ms rows F2)
  (hnd:(ms.map (·.1)++(F1++F2)).Nodup) (hlt:∀g,g∈ms.map (·.1)++(F1++F2)->g < w.heap.size/\¬ Ro g) (hN:vals.length<=N) (fx:List (Nat×Value)) (hfx:∀p,p∈fx->vals[p.1]?=some p.2) (hgb:GlF w/\∀g,glo g->Ro g/\¬ g∈ms.map (·.1)++(F1++F2)) :
  Sim ⟨w,Ro,λg=>g∈ms.map (·.1)++(F1++F2),N+1,ms,fx,hgb⟩ N S ⟨vals.toArray++Array.replicate (N - vals.length) undef,[]⟩ w:=by
 unfold Ns at h;split at h
 .rename_i vs rs hv hr;split at h
  .rename_i hu;rw [AjT]at hu;obtain ⟨hu,hne⟩:=hu;injection h with h
   have hlen:=hR.len;generalize hK:(List.range rows.length).map (λm=>(N+1+m,0))=K at hv hr
   let mb:Nat->Nat:=λκ=>(ms.getD (κ - (N+1)) (0,0)).1
   let mo:Nat->Nat:=λκ=>(ms.getD (κ - (N+1)) (0,0)).2
   have hmb:K.map (loc mb mo)=ms:=by
    rw [<- hK,AkL,hlen];apply AkK;intro i;rw [Akr];by_cases hi:i < ms.length
    .rw [AlK hi];simp only [AkJ,Function.comp,loc,mb,mo];rw [AlI,AkD,AjP hi];rfl
    .rw [Aka (by simpa using Nat.le_of_not_lt hi),Aka O];rfl
   have hKn:(K.map (·.1)).Nodup:=by
    rw [<- hK,AkL];exact List.Pairwise.map _ (λa b h=>by simp only [Function.comp];omega) List.nodup_range
   have hK0:∀p,p∈K->p.2=0:=by
    intro p hp;rw [<- hK]at hp;obtain ⟨m,_,rfl⟩:=Aj9.1 hp;rfl
   rw [<- hmb]at hA hR;obtain ⟨n1,a1,a2⟩:=Ms K mb mo as _ hA hv;obtain ⟨b1,b2,b5,n2,b3,b4⟩:=Md K mb mo K rows _ hR hr;rw [hmb]at hA hR;have hall:=a1.append b3;have hnl:n1.length=vs.2.length:=a1.len;have hkeys:=BT hu;have hFn:(F1++F2).Nodup:=(Aj8.1 hnd).2.1;generalize hl:vs.2++rs.2=l at *;generalize hns:n1++n2=ns at *
   let news:Nat->Option New:=λk=>find ((l.map (·.1)).zip ns) k
   let c:Cc:=⟨mb,mo,λk=>match news k with | some n=>n.h | none=>undef,λk=>match news k with | some n=>n.F | none=>[]⟩
   obtain ⟨o1,o2,o3,o4⟩:=Ra l blank hkeys;have hq:(rs.1.map λp=>U.ms p.1.1 p.2)=(rs.1.map λp=>(p.1.1,p.2)).map λp=>U.ms p.1 p.2:=by rw [AkL];rfl
   rw [hq]at h;have hb1:(rs.1.map λp=>(p.1.1,p.2)).map (·.1)=K.map (·.1):=by rw [<- b1,AkL,AkL];rfl
   generalize hrs:(rs.1.map λp=>(p.1.1,p.2))=rs' at *;obtain ⟨m1,m2,m3,m4⟩:=AbP rs' (blank.ups (GU l)) (by rw [hb1];exact hKn);obtain ⟨p1,p2,p3,p4⟩:=Qw vs.1 0 ((blank.ups (GU l)).ups (rs'.map λp=>.ms p.1 p.2));have how:∀k,S.ow k=match news k with | some n=>some n.o | none=>none:=by
    intro k;rw [<- h,p1,m1,o4];have:=Pr hall k;refine Eq.trans ?_ this.symm;cases find l k <;> rfl
   have hms:∀k,S.ms k=match find rs' k with | some r=>some (JT r) | none=>none:=by
    intro k;rw [<- h,p2,m3,o1];rfl
   have hmc:∀k i,S.mc k i=match find rs' k with | some r=>r.getD i .no | none=>.no:=by
    intro k i;rw [<- h,p3,m4,o2];rfl
   have hsl:∀i,S.sl i=match vs.1[i]? with | some x=>.s x | none=>.no:=by
    intro i;rw [<- h,p4,AjS (All _),AlD,m2,o3];rfl
   have hHv:Hv S c l ns:=by
    intro k n hk;have hf:news k=some n:=De (by rw [List.map_fst_zip (by rw [hall.len];simp)];exact hkeys) hk;refine⟨by rw [how,hf],?_⟩;show(match news k with | some n=>n.h | none=>undef)=_;rw [hf]
   have hmsK:∀k,k∈K.map (·.1)↔S.ms k≠none:=by
    intro k;rw [hms];constructor
    .intro hk;rw [<- hb1]at hk;obtain ⟨p,hp,rfl⟩:=Aj9.1 hk;rw [De (by rw [hb1];exact hKn) hp];simp
    .intro hk;cases hf:find rs' k with
     | none=>rw [hf]at hk;exact absurd rfl hk
     | some r=>rw [<- hb1];exact Aj9.2 ⟨_,AI hf,rfl⟩
   have hnw:∀k,S.ow k≠none->∃n,news k=some n/\S.ow k=some n.o/\c.hv k=n.h/\c.F k=n.F:=by
    intro k hk;rw [how]at hk;cases hf:news k with
    | none=>rw [hf]at hk;exact absurd rfl hk
    | some n=>exact⟨n,rfl,by rw [how,hf],by show(match news k with | some n=>n.h | none=>undef)=_;rw [hf],by show(match news k with | some n=>n.F | none=>[])=_;rw [hf]⟩
   have hmbms:∀k,S.ms k≠none->c.mb k∈ms.map (·.1):=λk hk=>by
    rw [<- hmb,AkL];obtain ⟨p,hp,rfl⟩:=Aj9.1 ((hmsK k).2 hk);exact Aj9.2 ⟨p,hp,rfl⟩
   have hOw:∀g,AW S c g->g∈ms.map (·.1)++(F1++F2):=by
    rintro g (⟨k,hk,rfl⟩ | ⟨k,hk,hg⟩)
    .exact AjV.2 (.inl (hmbms k hk))
    .obtain ⟨n,k1,k2,k3,k4⟩:=hnw k hk;rw [k4]at hg;exact AjV.2 (.inr ((D9 hall k n k1).2.1 g hg))
   have hKok:∀g,g < w.heap.size->Ro g->Kok ⟨w,Ro,λg=>g∈ms.map (·.1)++(F1++F2),N+1,ms,fx,hgb⟩ S c g:=λg _ hg=>⟨.inl hg,λho=>(hlt g (hOw g ho)).2 hg⟩
   have hmsN:=(Aj8.1 hnd).1;have hdis:=(Aj8.1 hnd).2.2;have hne':∀r,r∈rows->r≠[]:=λr hr he=>by
    have:=Aki.1 hne r hr;rw [he]at this;cases this
   have hnl0:∀p,p∈rs.1->p.2≠[]:=λp hp he=>by
    have hm:p.2.length∈rows.map List.length:=by rw [<- b2];exact Aj9.2 ⟨p,hp,rfl⟩
    obtain ⟨r,hr,hrl⟩:=Aj9.1 hm;rw [he]at hrl;exact hne' r hr (Akb hrl)
   have hmap0:∀k,k∈K->∀es n,w.heap[mb k.1]?=some (.map es n)->S.ms k.1=some 0:=by
    intro k hk es n hh;rw [<- b1]at hk;obtain ⟨p,hp,rfl⟩:=Aj9.1 hk;rcases b5 p hp with⟨cs,e,fr,h1⟩ | ⟨xs,h1,_⟩
    .rw [hh]at h1;cases h1
    .have:find rs' p.1.1=some p.2:=De (by rw [hb1];exact hKn) (by rw [<- hrs];exact Aj9.2 ⟨p,hp,rfl⟩);rw [hms,this,h1];rfl
   have hmap1:∀k,S.ms k=some 0->∃xs,S.mc k 0=.md xs/\MapAt w (mb k) xs:=by
    intro k hn;rw [hms]at hn;cases hf:find rs' k with
    | none=>rw [hf]at hn;cases hn
    | some row=>
     rw [hf]at hn;simp only [AjN]at hn;have hfm:=AI hf;rw [<- hrs]at hfm;obtain ⟨⟨⟨k',o'⟩,row'⟩,hpm,hpe⟩:=Aj9.1 hfm;simp only [Prod.mk.injEq]at hpe;obtain ⟨rfl,rfl⟩:=hpe;obtain ⟨xs,rfl⟩:∃xs,row'=[.md xs]:=by
      unfold JT at hn;split at hn
      .exact⟨_,rfl⟩
      .exact absurd (Akb hn) (hnl0 _ hpm)
     have hb4:=b4 S c (Hv.right hnl (by have:=hHv;rwa [<- hl,<- hns]at this)) (λk hk=>(hmsK k.1).1 (Aj9.2 ⟨k,hk,rfl⟩)) (λ_ _=>⟨rfl,rfl⟩) hmap0 _ hpm;rcases hb4 with⟨cs,e,fr,h1,h2,hw3,h3⟩ | ⟨ys,h1,h2⟩
     .obtain ⟨u,_,h⟩:=h3.get (i:=0) (show [Leaf.md xs][0]?=some (.md xs) from rfl);exact h.elim
     .injection h1 with h1
      injection h1 with h1
      subst h1;exact⟨xs,by rw [hmc,hf];rfl,h2⟩
   refine⟨c,⟨?_,?_,?_,?_,?_,?_,?_,λ_ _ _=>rfl,rfl,rfl,rfl,Akk _,?_,hmap1⟩,⟨λi=>?_,?_,rfl⟩,?_⟩
   .intro k n hn hn0;have hk:S.ms k≠none:=by rw [hn];simp
    rw [hms]at hn;cases hf:find rs' k with
    | none=>rw [hf]at hn;cases hn
    | some row=>
     rw [hf]at hn;simp only [AjN]at hn;have hb:=hHv;rw [<- hl,<- hns]at hb;have hfm:=AI hf;rw [<- hrs]at hfm;obtain ⟨⟨⟨k',o'⟩,row'⟩,hpm,hpe⟩:=Aj9.1 hfm;simp only [Prod.mk.injEq]at hpe;obtain ⟨rfl,rfl⟩:=hpe;have ho':o'=0:=hK0 (k',o') (by rw [<- b1];exact Aj9.2 ⟨_,hpm,rfl⟩);subst ho';have hb4:=b4 S c (Hv.right hnl hb) (λk hk=>(hmsK k.1).1 (Aj9.2 ⟨k,hk,rfl⟩)) (λ_ _=>⟨rfl,rfl⟩) hmap0 _ hpm;rcases hb4 with⟨cs,e,fr,h1,h2,hw3,h3⟩ | ⟨xs,h1,_⟩
     rotate_left
     .simp only at h1;subst h1;simp only [JT]at hn;omega
     simp only [Alf]at hw3 h3;have hrl:JT row'=row'.length:=by
      unfold JT;split
      .rename_i xs;obtain ⟨u,_,h⟩:=h3.get (i:=0) (show [Leaf.md xs][0]?=some (.md xs) from rfl);exact h.elim
      .rfl
     rw [hrl]at hn;refine⟨cs,e,fr,h1,by rw [<- hn];exact hw3,h2,λi u hlt' hu=>?_,?_⟩
     rotate_left
     .intro cs0 e0 fr0 h0;have h1':=h1;rw [show w.heap[mb k']?=_ from h0]at h1';injection h1' with h1'
      injection h1' with x1 x2 x3
      subst x1 x2 x3;exact⟨rfl,rfl,rfl,λ_ _=>rfl⟩
     obtain ⟨lf,q1,q2⟩:=All2.map_right h3 (i:=i) (x:=u) (by rw [Aj7 O,Akt,Aj6];exact hu);rw [hmc,hf];simp only;rw [AkD,q1];exact LeafOk.mono hKok q2
   .intro k o ho;obtain ⟨n,k1,k2,k3,k4⟩:=hnw k (by rw [ho];simp);rw [ho]at k2;injection k2 with k2
    subst k2;rw [k3,k4];exact Rp.mono hKok _ _ (D9 hall k n k1).2.2.2
   .intro k hk;obtain ⟨n,k1,k2,k3,k4⟩:=hnw k hk;rw [k4];exact(D9 hall k n k1).2.2.1 hFn
   .intro k k' hne h1 h2 g hg;obtain ⟨n,k1,_,_,k4⟩:=hnw k h1;obtain ⟨n',q1,_,_,q4⟩:=hnw k' h2;rw [k4]at hg;rw [q4];exact Rk hall hFn k n k' n' hne k1 q1 g hg
   .intro k k' hne h1 h2 he;have h1':=(hmsK k).2 h1;have h2':=(hmsK k').2 h2;rw [<- hK]at h1' h2';rw [AkL]at h1' h2';obtain ⟨m,hm,rfl⟩:=Aj9.1 h1';obtain ⟨m',hm',rfl⟩:=Aj9.1 h2';have hm:=Als.1 hm;have hm':=Als.1 hm';have he':(ms.getD (N+1+m - (N+1)) (0,0)).1=(ms.getD (N+1+m' - (N+1)) (0,0)).1:=he;rw [AlI,AlI,AkD,AkD,AjP O,AjP O]at he';simp only [Akx]at he';have hpw:=List.pairwise_iff_getElem.1 hmsN;simp only [Akj,List.getElem_map]at hpw;rcases Nat.lt_trichotomy m m' with h | h | h
    .exact hpw m m' O O h he'
    .exact hne (by simp only [Function.comp,h])
    .exact hpw m' m O O h he'.symm
   .intro k k' h1 h2 hg;obtain ⟨n,k1,_,_,k4⟩:=hnw k' h2;rw [k4]at hg;exact hdis _ (hmbms k h1) _ ((D9 hall k' n k1).2.1 _ hg) rfl
   .intro g hg;have:=hOw g hg;exact⟨(hlt g this).1,.inr this⟩
   .intro m g hg;show(ms.getD (N+1+m - (N+1)) (0,0)).1=g.1/\(ms.getD (N+1+m - (N+1)) (0,0)).2=g.2;rw [AlI,AkD,hg];exact⟨rfl,rfl⟩
   .have hb:=hHv;rw [<- hl,<- hns]at hb;have hsv:=a2 S c (Hv.left hnl hb) (λk hk=>(hmsK k.1).1 (Aj9.2 ⟨k,hk,rfl⟩)) (λ_ _=>⟨rfl,rfl⟩);rw [hsl];cases hx:vs.1[i]? with
    | none=>trivial
    | some x=>
     obtain ⟨v,hv1,hv2⟩:=hsv.get hx;have hlt':i < vals.length:=(Akn.1 hv1).1;have:(vals.toArray++Array.replicate (N - vals.length) undef).getD i undef=v:=by
      rw [Ak1,Array.getElem?_append_left (by simpa using hlt'),List.getElem?_toArray,hv1];rfl
     rw [this];exact S1Ok.mono hKok hv2
   .simp only [Aly,AkW,Array.size_replicate];omega
   .intro p hp;have hp':=hfx p hp;rw [Ak1,Array.getElem?_append_left (by simpa using (Akn.1 hp').1),List.getElem?_toArray,hp'];rfl
  .cases h
 .cases h
theorem Qr {b:Base} {S:St} {c:Cc} {w:World} {N:Nat} {a:Act} (hi:Inv b S w c) (hs:Slots N S c w (Kok b S c) a) {vals:List Value}:∀(ln:List (Nat×Nat)) {y:List ((Nat×Nat)×Ae)×List Nat},
  (∀p,p∈ln->vals[p.1]?=some (a.tmps.getD p.1 undef))->(KG S ln).ev S=some y->∃G,LentOk w (Kok b S c) vals y.1 G/\Outs S c y.2 G
 | [],y,_,h=>by
  simp only [KG,Tr.ev,AjN]at h;subst h;exact⟨[],rfl,Outs.nil⟩
 | p::ps,y,hv,h=>by
  simp only [KG]at h;split at h
  .rename_i k hlf;simp only [Af,AjQ,Tr.ev,AjN]at h;obtain ⟨o,ho,y',hy',rfl⟩:=h;obtain ⟨G2,h1,h2⟩:=Qr hi hs ps (λq hq=>hv q (by simp [hq])) hy';have hvp:=hv p Z;obtain ⟨v,hval,hlk⟩:∃v,ED vals p=some v/\LeafOk S c w (Kok b S c) (.vw k [] none) v:=by
    unfold Adi at hlf;have hok:=hs.ok p.1;split at hlf
    .rename_i l hl;rw [hl]at hok;split at hlf
     .rename_i hp2;subst hlf;have hsl:LeafOk S c w (Kok b S c) (.vw k [] none) (a.tmps.getD p.1 undef):=hok;refine⟨_,?_,hsl⟩;obtain ⟨A,n,cap,e⟩:=Q6 hi hsl;unfold ED;rw [hvp,e];simp [hp2]
     .cases hlf
    .rename_i ls hl;rw [hl]at hok;obtain ⟨vs,e,hall⟩:=hok;rw [AkD]at hlf;cases hj:ls[p.2]? with
     | none=>rw [hj]at hlf;cases hlf
     | some l=>
      rw [hj]at hlf;simp only [Akx]at hlf;subst hlf;obtain ⟨v,q1,q2⟩:=hall.get hj;refine⟨v,?_,q2⟩;unfold ED;rw [hvp,e];simpa using q1
    .cases hlf
   obtain ⟨g1,F',g2,g3,g4⟩:=HP hi hlk ho;refine⟨F'++G2,⟨v,F',G2,rfl,hval,⟨g2,λh=>by simp [Ty.own]at h⟩,h1⟩,?_⟩;exact Outs.append hi (k:=[k]) ⟨λk' hk'=>(by simp only [AjX]at hk';subst hk';exact g1),λ_=>g4,λg hg=>⟨k,Z,g3 g hg⟩⟩ h2
  .simp [Tr.ev]at h
theorem Agk {P : Program} {E : Env} (hE : EnvOk P E) {f : FuncId} {fn : Func} {J : Joins} {ann : Ann} {ln : List (Nat × Nat)} {as : List A1} {rows : List (List Ae)} {r : Res} (hf : P.funcs[f]? = some fn) (hname : (fn.name == "runtime.NumGoroutine") = false)
  (h:(Abj E fn J ann ln as rows).run=some r):Cq P f as rows r:=by
 unfold Abj at h;split at h
 .rename_i c hb;split at h
  .rename_i hlen;obtain ⟨hlen,hln⟩:=hlen;rw [AjT]at hln;obtain ⟨hen,hln⟩:=hln;split at h
   .rename_i S hS;rw [run_bind,AjQ]at h;obtain ⟨⟨e,S1⟩,h1,h2⟩:=h;refine⟨⟨fn,hf,hname,by rw [hb];rfl⟩,?_⟩;intro w vals Ro ms F1 F2 hA hR hnd hlt hgl;have hgb:GlF w/\∀g,glo g->Ro g/\¬ g∈ms.map (·.1)++(F1++F2):=⟨hgl.1,λg hg=>⟨hgl.2 g hg,λho=>(hlt g ho).2 (hgl.2 g hg)⟩⟩
    have hvl:=hA.len;generalize hfx:(vals.zipIdx.filter λp=>E.fx.contains p.2).map (λp=>(p.2,p.1))=fx;have hfx1:∀i v,(i,v)∈fx↔vals[i]?=some v/\E.fx.contains i=true:=by
     intro i v;rw [<- hfx];simp only [Aj9,AlC,Prod.exists,Prod.mk.injEq];constructor
     .rintro ⟨x,j,⟨h1,h2⟩,rfl,rfl⟩;exact⟨by simpa using List.mk_mem_zipIdx_iff_getElem?.1 h1,h2⟩
     .rintro ⟨h1,h2⟩;exact⟨v,i,⟨List.mk_mem_zipIdx_iff_getElem?.2 (by simpa using h1),h2⟩,rfl,rfl⟩
    have hF:∀p,p∈fx->E.fx.contains p.1=true:=λp hp=>((hfx1 p.1 p.2).1 hp).2
    have hsim:=AdF hS hA hR hnd hlt O fx (λp hp=>((hfx1 p.1 p.2).1 hp).1) hgb;have hml:=hR.len;have hrne:=AeS hS;have hfin:∀a' w',Sim ⟨w,Ro,λg=>g∈ms.map (·.1)++(F1++F2),fn.ntmps+1,ms,fx,hgb⟩ fn.ntmps S1 a' w'->(XF E fn.ntmps fn rows ln S1).run=some r->
      a'.defers=[]/\∃v,(results fn a'.tmps).run P w'=.ok v w'/\∃v',Ending.returned v=.returned v'/\HU w Ro ms (F1++F2) vals r v' w':=by
     rintro a' w' ⟨c',hi,hsl,hafx⟩ hfi;refine⟨hsl.d,?_⟩;unfold XF at hfi;rw [run_bind,AjQ]at hfi;obtain ⟨⟨⟨y1,y2,y3⟩,lg⟩,g1,g2⟩:=hfi;split at g2
     .rename_i hu;simp only [Tr.run,AjN]at g2;subst g2;have g3:=Afm S1 _ [] g1;rw [Af,AjQ]at g3;obtain ⟨z1,hz1,g3⟩:=g3;rw [Af,AjQ]at g3;obtain ⟨z2,hz2,g3⟩:=g3;rw [Af,AjQ]at g3;obtain ⟨z3,hz3,g3⟩:=g3;simp only [Tr.ev,AjN,Prod.mk.injEq]at g3;obtain ⟨e1,e2,e3⟩:=g3;subst e1 e2 e3;obtain ⟨vs,G1,k1,k2,k3⟩:=NP (P:=P) hE.ti rfl hml.symm hi hsl _ _ hz1;obtain ⟨q0,ql,G2,q1,q2⟩:=RF hi rfl hml.symm rows 0 ms hml.symm (λj g hg=>by rw [Ake];exact hg) hrne hz2;obtain ⟨G3,r1,r2⟩:=Qr hi hsl (vals:=vals) ln (λp hp=>by
       have:=Aki.1 hln p hp;simp only [AjT,decide_eq_true_eq]at this;have hlv:p.1 < vals.length:=O
       have hm:=(hfx1 p.1 vals[p.1]).2 ⟨AjP hlv,this.1⟩;rw [hafx _ hm];exact AjP hlv) hz3
      have hout:=Outs.append hi k3 (Outs.append hi q2 r2);have hmsO:∀g,g∈ms.map (·.1)->∃k,S1.ms k≠none/\c'.mb k=g:=by
       intro g hg;obtain ⟨p,hp,rfl⟩:=Aj9.1 hg;obtain ⟨m,hm,hmg⟩:=Akq hp;have h3:ms[m]?=some p:=by rw [AjP hm,hmg]
       refine⟨fn.ntmps+1+m,?_,(hi.an m p h3).1⟩;have hm':m < rows.length:=O
       have:=q0 m _ (AjP hm');rw [Alf]at this;rw [this];simp
      have hGO:∀g,g∈G1++(G2++G3)->∃k,S1.ow k≠none/\g∈c'.F k:=by
       intro g hg;obtain ⟨k,h3,h4⟩:=hout.2.2 g hg;exact⟨k,hout.1 k h3,h4⟩
      have hKK:∀g,g < w'.heap.size->Kok ⟨w,Ro,λg=>g∈ms.map (·.1)++(F1++F2),fn.ntmps+1,ms,fx,hgb⟩ S1 c' g->((Ro g\/w.heap.size<=g\/g∈F1++F2)/\g∉ms.map (·.1)++(G1++(G2++G3))):=by
       rintro g _ ⟨h3,h4⟩;have hnm:g∉ms.map (·.1):=λhg=>by
        obtain ⟨k,h5,h6⟩:=hmsO g hg;exact h4 (.inl ⟨k,h5,h6⟩)
       refine⟨h3.imp id λh3=>h3.imp id λh3=>(AjV.1 h3).elim (λhg=>absurd hg hnm) id,λhg=>?_⟩;rcases AjV.1 hg with hg | hg
       .obtain ⟨k,h5,h6⟩:=hmsO g hg;exact h4 (.inl ⟨k,h5,h6⟩)
       .obtain ⟨k,h5,h6⟩:=hGO g hg;exact h4 (.inr ⟨k,h5,h6⟩)
      have hres:(results fn a'.tmps).run P w'=.ok (TJ vs) w':=by
       have he:results fn a'.tmps=(do let vs <- fn.results.mapM (PZ a'.tmps);pure (if h:vs.size=1 then vs[0]else .tuple vs)):=rfl;have hm:(fn.results.mapM (PZ a'.tmps)).run P w'=.ok vs.toArray w':=by
        rw [Array.mapM_eq_mapM_toList];simp [k1]
       rw [he];rw [Sem.run_bind,hm];simp only [Result.andThen_ok,Sem.run_pure]
       congr 1
       match vs with
       | []=>rfl
       | [v]=>rfl
       | _::_::_=>rfl
      refine⟨_,hres,_,rfl,vs,G1,G2,G3,rfl,k2.mono λ_ _ _ h=>A1Ok.mono hKK h,RowsOk.mono hKK q1,LentOk.mono hKK r1,?_,?_,?_,?_⟩
      .refine Aj8.2 ⟨(Aj8.1 hnd).1,hout.2.1 hu,?_⟩;rintro g hg g' hg' rfl;obtain ⟨k,h5,h6⟩:=hmsO g hg;obtain ⟨k',h7,h8⟩:=hGO g hg';exact hi.mo k k' h5 h7 (by rw [h6];exact h8)
      .intro g hg;obtain ⟨k,h5,h6⟩:=hGO g hg;obtain ⟨h7,h8⟩:=hi.fr g (.inr ⟨k,h5,h6⟩);refine⟨h7,?_⟩;rcases h8 with h8 | h8
       .exact .inr h8
       .rcases AjV.1 h8 with h8 | h8
        .obtain ⟨k',h9,h10⟩:=hmsO g h8;exact absurd h6 (h10 ▸ hi.mo k' k h9 h5)
        .exact .inl h8
      .exact⟨hi.os,hi.tape,hi.output,hi.size,λg hg hn=>hi.fix g hg hn⟩
      .refine⟨λm g es n hmg hes=>?_,λm g row cs e fr hmg hrow hcs=>?_⟩
       .have hm':m < rows.length:=by have:=(Akn.1 hmg).1;omega
        have hms1:=q0 m _ (AjP hm');rw [Alf]at hms1;rcases hR.at hmg (AjP hm')with⟨F,⟨cs,e,fr,h3,_⟩ | ⟨xs,h3,_⟩⟩
        .rw [hes]at h3;cases h3
        .rw [h3]at hms1;obtain ⟨ys,_,es',h4,_⟩:=hi.mp _ hms1;rw [(hi.an m g hmg).1]at h4;exact⟨es',_,h4⟩
       have hm':m < rows.length:=by have:=(Akn.1 hmg).1;omega
       have hms1:=q0 m _ (AjP hm');rw [Alf]at hms1;have hlr:Rf rows[m]=rows[m].length:=by
        unfold Rf;split
        .rename_i xs h3;rcases hR.at hmg (AjP hm')with⟨F,⟨cs,e,fr,_,_,_,h4⟩ | ⟨xs,_,⟨es,h5,_⟩,_⟩⟩
         .rw [h3]at h4;obtain ⟨v,vs',F1,F2,_,_,h5,_⟩:=h4;rcases h5 with h5 | ⟨_,_,_,h5,_⟩ | ⟨_,_,_,h5,_⟩
          .have:=h5.1;simp only [Rp]at this
          .cases h5
          .cases h5
         .rw [hcs]at h5;cases h5
        .rfl
       rw [hlr]at hms1;obtain ⟨cs',e',fr',a1,a2,a3,a4,a5⟩:=hi.ms _ _ hms1 (List.length_pos_iff.2 (hrne _ (Akc hm')));have han:=hi.an m g hmg;simp only at han;rw [han.1]at a1 a5;rw [han.2]at a5;obtain ⟨rfl,rfl,x3,x4⟩:=a5 cs e fr hcs;have hrl:row.length=rows[m].length:=by
        have:=congrArg (·[m]?) ql;simp only [Akr,hrow,AkJ,AjP hm',AjN]at this;exact this
       exact⟨cs',a1,x3.symm,λi hio=>x4 i O⟩
     .simp [Tr.run]at g2
    refine calls_of_wp hf hb ?_;rw [AkW];obtain ⟨S0,h0,hw⟩:=LO (b:=⟨w,Ro,λg=>g∈ms.map (·.1)++(F1++F2),fn.ntmps+1,ms,fx,hgb⟩) (N:=fn.ntmps) h1;rw [run_bind,AjQ]at h0;obtain ⟨⟨e0,S00⟩,h0,h00⟩:=h0;simp only [Tr.run,AjN,Prod.mk.injEq]at h00;obtain ⟨he,rfl⟩:=h00;refine Ad8 hE hF (λ_ _ s p hp=>by rw [List.isEmpty_iff.1 hen]at hp;cases hp) (b:=⟨w,Ro,λg=>g∈ms.map (·.1)++(F1++F2),fn.ntmps+1,ms,fx,hgb⟩) (Nat.lt_succ_self _) c h0 hsim λa' w' hs''=>?_
    have hs':=hw hs'';cases e0 with
    | n=>subst he;exact hfin a' w' hs' h2
    | r=>subst he;exact hfin a' w' hs' h2
    | x id=>subst he;simp [Tr.run]at h2
   .simp [Tr.run]at h
  .simp [Tr.run]at h
 .simp [Tr.run]at h
end Go.V
namespace Go.V
open Go.ChangeShapes Go.RowKit
theorem Add {P:Program} {f:FuncId} {as:List A1} {vals:List Value} {w:World} (h:Cq P f as [] ⟨[.one ⟨.bool,true⟩],[],[]⟩) (ha:FL (A1Ok w (λ_=>True) []) as vals []) (hg:GlF w) :
  Calls P f vals.toArray w λe w'=>e=.returned (.bool true)/\Below w.heap.size w w':=by
 refine Calls.mono (h.2 w vals (λ_=>True) [] [] [] ha ⟨rfl,rfl⟩ Z (λg hg=>by simp at hg) ⟨hg,λ_ _=>trivial⟩) ?_;rintro e w' ⟨v,rfl,vs,F1,F2,F3,rfl,h1,_,_,_,_,h5,_⟩;obtain ⟨u,us,G1,G2,rfl,_,h6,h7⟩:=h1;obtain ⟨rfl,_⟩:=h7;have:u=.bool true:=by
  have:=h6.1;simp only [Rp]at this;have h8:=this.1;injection h8
 subst this;exact⟨rfl,h5.os,h5.tape,h5.output,h5.size,λk hk=>h5.same k hk Z⟩
end Go.V
namespace Go.V
structure Ans where
 β:Type
 o:Option β
 g:β->Res
structure Kn where
 f:FuncId
 mv:List Nat
 ca:List A1->List (List Ae)->Option Ans
 fr:List (List Ty):=[]
def AhJ:List Kn->FuncId->List Nat
 | [],_=>[]
 | k::l,g=>if g=k.f then k.mv else AhJ l g
def AhM:List Kn->FuncId->List (List Ty)
 | [],_=>[]
 | k::l,g=>if g=k.f then k.fr else AhM l g
def TN:List Kn->FuncId->List A1->List (List Ae)->Tr Res
 | [],_,_,_=>.fail
 | k::l,g,as,rows=>if g=k.f then match k.ca as rows with
   | some a=>.get a.β a.o λy=>.ret (a.g y)
   | none=>TN l g as rows
  else TN l g as rows
def RT (ti:TypeId->TI) (l:List Kn) (fx:List Nat) (hn:List (Nat×List Ty):=[]) (kc:List (Nat×List (Nat×Nat)):=[]):Env:=⟨ti,AhJ l,AhM l,fx,TN l,hn,[],kc⟩
def Jg (P:Program) (k:Kn):Prop:=∀as rows a,k.ca as rows=some a->∀y,a.o=some y->Cq P k.f as rows (a.g y)
theorem Tj {P:Program}:∀(l:List Kn),(∀k∈l,Jg P k)->∀f as rows S r,(TN l f as rows).ev S=some r->Cq P f as rows r
 | [],_,f,as,rows,S,r,h=>by simp [TN,Tr.ev]at h
 | k::l,hk,f,as,rows,S,r,h=>by
  rw [TN]at h;split at h
  .rename_i hf;subst hf;split at h
   .rename_i a ha;simp only [Tr.ev,AjQ,AjN]at h;obtain ⟨y,hy,rfl⟩:=h;exact hk k Z as rows a ha y hy
   .exact Tj l (λk h=>hk k (by simp [h])) _ as rows S r h
  .exact Tj l (λk h=>hk k (by simp [h])) f as rows S r h
theorem X5 {P:Program} {ti:TypeId->TI} (ht:TabOk P ti) (hm:P.follows .mixedOrders=true) (l:List Kn) (fx:List Nat) (h:∀k∈l,Jg P k) (hn:List (Nat×List Ty):=[]) (kc:List (Nat×List (Nat×Nat)):=[]):EnvOk P (RT ti l fx hn kc):=
 ⟨ht,hm,λf as rows S r hr=>Tj l h f as rows S r hr⟩
def VI (P:Program):List TI->Nat->Bool
 | [],_=>true
 | x::l,n=>Mu P n x && VI P l (n+1)
theorem W0 {P:Program}:∀(l:List TI) (n:Nat),VI P l n=true->∀t,Mu P (n+t) (l.getD t .other)=true
 | [],n,_,t=>by simp [Mu]
 | x::l,n,h,t=>by
  simp only [VI,AjT]at h;cases t with
  | zero=>exact h.1
  | succ t=>have:=W0 l (n+1) h.2 t;rw [(O:n+(t+1)=n+1+t)];exact this
theorem AiD (P:Program) (l:List TI) (h:VI P l 0=true):TabOk P (λt=>l.getD t .other):=λt=>by
 have:=W0 l 0 h t;rwa [Ake]at this
inductive Ash where
 | one (t:Ty)
 | ag (ts:List Ty)
 | pl (m off:Nat)
 | rp (t:Ty) (off:Nat)
 | fv (f:FuncId) (cs:List (Nat×Nat))
inductive Esh where
 | v (t:Ty)
 | p (m off:Nat)
 | mk (m:Nat)
def tD:List Ty->Type
 | []=>Unit
 | t::ts=>t.D×tD ts
def cD:List Ty->Type->Type
 | [],R=>R
 | t::ts,R=>t.D->cD ts R
def cAp {R:Type}:(ts:List Ty)->cD ts R->tD ts->R
 | [],f,_=>f
 | _::ts,f,x=>cAp ts (f x.1) x.2
def Ash.D:Ash->Type
 | .one t=>t.D
 | .ag ts=>tD ts
 | .rp t _=>t.D
 | .pl _ _=>Unit
 | .fv _ _=>Unit
def Ash.F:Ash->Type->Type
 | .one t,R=>t.D->R
 | .ag ts,R=>cD ts R
 | .rp t _,R=>t.D->R
 | .pl _ _,R=>R
 | .fv _ _,R=>R
def Ash.ap {R:Type}:(a:Ash)->a.F R->a.D->R
 | .one _,f,x=>f x
 | .ag ts,f,x=>cAp ts f x
 | .rp _ _,f,x=>f x
 | .pl _ _,f,_=>f
 | .fv _ _,f,_=>f
def Esh.D:Esh->Type
 | .v t=>t.D
 | .p _ _=>Unit
 | .mk _=>Unit
def Esh.F:Esh->Type->Type
 | .v t,R=>t.D->R
 | .p _ _,R=>R
 | .mk _,R=>R
def Esh.ap {R:Type}:(a:Esh)->a.F R->a.D->R
 | .v _,f,x=>f x
 | .p _ _,f,_=>f
 | .mk _,f,_=>f
def aD:List Ash->Type
 | []=>Unit
 | a::as=>a.D×aD as
def aF:List Ash->Type->Type
 | [],R=>R
 | a::as,R=>a.F (aF as R)
def aAp {R:Type}:(as:List Ash)->aF as R->aD as->R
 | [],f,_=>f
 | a::as,f,x=>aAp as (a.ap f x.1) x.2
def eD:List Esh->Type
 | []=>Unit
 | a::as=>a.D×eD as
def eF:List Esh->Type->Type
 | [],R=>R
 | a::as,R=>a.F (eF as R)
def eAp {R:Type}:(as:List Esh)->eF as R->eD as->R
 | [],f,_=>f
 | a::as,f,x=>eAp as (a.ap f x.1) x.2
def rD:List (List Esh)->Type
 | []=>Unit
 | a::as=>eD a×rD as
def rF:List (List Esh)->Type->Type
 | [],R=>R
 | a::as,R=>eF a (rF as R)
def rAp {R:Type}:(as:List (List Esh))->rF as R->rD as->R
 | [],f,_=>f
 | a::as,f,x=>rAp as (eAp a f x.1) x.2
def lB:(ts:List Ty)->tD ts->List Ae
 | [],_=>[]
 | t::ts,x=>⟨t,x.1⟩::lB ts x.2
def Ash.B:(a:Ash)->a.D->A1
 | .one t,x=>.one ⟨t,x⟩
 | .ag ts,x=>.ag (lB ts x)
 | .rp t off,x=>.rp t x off
 | .pl m off,_=>.pl m off
 | .fv f cs,_=>.fv f cs
def aB:(as:List Ash)->aD as->List A1
 | [],_=>[]
 | a::as,x=>a.B x.1::aB as x.2
def Esh.B:(a:Esh)->a.D->Ae
 | .v t,x=>⟨t,x⟩
 | .p m off,_=>⟨.lp,(m,off)⟩
 | .mk m,_=>⟨.mh,m+1⟩
def eB:(as:List Esh)->eD as->List Ae
 | [],_=>[]
 | a::as,x=>a.B x.1::eB as x.2
def rB:(as:List (List Esh))->rD as->List (List Ae)
 | [],_=>[]
 | a::as,x=>eB a x.1::rB as x.2
def mL (t:Ty) (l:Ae):Option t.D:=if h:l.1=t then some (h ▸ l.2)else none
theorem VL {t:Ty} {l:Ae} {x:t.D} (h:mL t l=some x):l=⟨t,x⟩:=by
 obtain ⟨t',u⟩:=l;unfold mL at h;split at h
 .rename_i ht;dsimp only at ht;subst ht;injection h with h
  subst h;rfl
 .cases h
def lM:(ts:List Ty)->List Ae->Option (tD ts)
 | [],[]=>some ()
 | t::ts,l::ls=>match mL t l with
  | some y=>match lM ts ls with
   | some x=>some (y,x)
   | none=>none
  | none=>none
 | _,_=>none
def AeX (t:Ty):A1->Option t.D
 | .one l=>mL t l
 | _=>none
def mAg (ts:List Ty):A1->Option (tD ts)
 | .ag ls=>lM ts ls
 | _=>none
def mRp (t:Ty) (off:Nat):A1->Option t.D
 | .rp t' x off'=>if off'=off then mL t ⟨t',x⟩else none
 | _=>none
def mPl (m off:Nat):A1->Option Unit
 | .pl m' off'=>if m'=m/\off'=off then some ()else none
 | _=>none
def mFv (f:FuncId) (cs:List (Nat×Nat)):A1->Option Unit
 | .fv f' cs'=>if f'=f/\cs'=cs then some ()else none
 | _=>none
def Ash.M:(a:Ash)->A1->Option a.D
 | .one t=>AeX t
 | .ag ts=>mAg ts
 | .rp t off=>mRp t off
 | .pl m off=>mPl m off
 | .fv f cs=>mFv f cs
def aM:(as:List Ash)->List A1->Option (aD as)
 | [],[]=>some ()
 | a::as,l::ls=>match a.M l with
  | some x=>match aM as ls with
   | some y=>some (x,y)
   | none=>none
  | none=>none
 | _,_=>none
def mP (m off:Nat):Ae->Option Unit
 | ⟨.lp,q⟩=>if q=(m,off)then some ()else none
 | _=>none
def mM (m:Nat):Ae->Option Unit
 | ⟨.mh,q⟩=>if(q:Nat)=m+1 then some ()else none
 | _=>none
def Esh.M:(a:Esh)->Ae->Option a.D
 | .v t=>mL t
 | .p m off=>mP m off
 | .mk m=>mM m
def eM:(as:List Esh)->List Ae->Option (eD as)
 | [],[]=>some ()
 | a::as,l::ls=>match a.M l with
  | some x=>match eM as ls with
   | some y=>some (x,y)
   | none=>none
  | none=>none
 | _,_=>none
def rM:(as:List (List Esh))->List (List Ae)->Option (rD as)
 | [],[]=>some ()
 | a::as,l::ls=>match eM a l with
  | some x=>match rM as ls with
   | some y=>some (x,y)
   | none=>none
  | none=>none
 | _,_=>none
theorem Afn:∀(ts:List Ty) (ls:List Ae) (x:tD ts),lM ts ls=some x->ls=lB ts x
 | [],[],_,_=>rfl
 | t::ts,l::ls,x,h=>by
  unfold lM at h;split at h
  .rename_i u hu;split at h
   .rename_i y hy;injection h with h
    subst h;rw [VL hu,Afn ts ls y hy];rfl
   .cases h
  .cases h
 | [],_::_,_,h=>by simp [lM]at h
 | _::_,[],_,h=>by simp [lM]at h
theorem Ash.M_ok (a:Ash) (l:A1) (x:a.D) (h:a.M l=some x):l=a.B x:=by
 cases a with
 | one t=>
  replace h:AeX t l=some x:=h
  unfold AeX at h;split at h
  .exact congrArg A1.one (VL h)
  .cases h
 | ag ts=>
  replace h:mAg ts l=some x:=h
  unfold mAg at h;split at h
  .exact congrArg A1.ag (Afn ts _ x h)
  .cases h
 | rp t off=>
  replace h:mRp t off l=some x:=h
  unfold mRp at h;split at h
  .split at h
   .rename_i ho;subst ho;have:=VL h;injection this with e1 e2
    subst e1;obtain rfl:=eq_of_heq e2;rfl
   .cases h
  .cases h
 | pl m off=>
  replace h:mPl m off l=some x:=h
  unfold mPl at h;split at h
  .split at h
   .rename_i hm;obtain ⟨rfl,rfl⟩:=hm;rfl
   .cases h
  .cases h
 | fv f cs=>
  replace h:mFv f cs l=some x:=h
  unfold mFv at h;split at h
  .split at h
   .rename_i hm;obtain ⟨rfl,rfl⟩:=hm;rfl
   .cases h
  .cases h
theorem Afh:∀(as:List Ash) (ls:List A1) (x:aD as),aM as ls=some x->ls=aB as x
 | [],[],_,_=>rfl
 | a::as,l::ls,x,h=>by
  unfold aM at h;split at h
  .rename_i y hy;split at h
   .rename_i z hz;injection h with h
    subst h;rw [a.M_ok l y hy,Afh as ls z hz];rfl
   .cases h
  .cases h
 | [],_::_,_,h=>by simp [aM]at h
 | _::_,[],_,h=>by simp [aM]at h
theorem Esh.M_ok (a:Esh) (l:Ae) (x:a.D) (h:a.M l=some x):l=a.B x:=by
 cases a with
 | v t=>exact VL h
 | p m off=>
  replace h:mP m off l=some x:=h
  unfold mP at h;split at h
  .split at h
   .rename_i hq;rw [hq];rfl
   .cases h
  .cases h
 | mk m=>
  replace h:mM m l=some x:=h
  unfold mM at h;split at h
  .split at h
   .rename_i q hq;rw [show q=(m+1:Nat) from hq];rfl
   .cases h
  .cases h
theorem Afe:∀(as:List Esh) (ls:List Ae) (x:eD as),eM as ls=some x->ls=eB as x
 | [],[],_,_=>rfl
 | a::as,l::ls,x,h=>by
  unfold eM at h;split at h
  .rename_i y hy;split at h
   .rename_i z hz;injection h with h
    subst h;rw [a.M_ok l y hy,Afe as ls z hz];rfl
   .cases h
  .cases h
 | [],_::_,_,h=>by simp [eM]at h
 | _::_,[],_,h=>by simp [eM]at h
theorem Afi:∀(as:List (List Esh)) (ls:List (List Ae)) (x:rD as),rM as ls=some x->ls=rB as x
 | [],[],_,_=>rfl
 | a::as,l::ls,x,h=>by
  unfold rM at h;split at h
  .rename_i y hy;split at h
   .rename_i z hz;injection h with h
    subst h;rw [Afe a l y hy,Afi as ls z hz];rfl
   .cases h
  .cases h
 | [],_::_,_,h=>by simp [rM]at h
 | _::_,[],_,h=>by simp [rM]at h
theorem AdD (t:Ty) (x:t.D):mL t ⟨t,x⟩=some x:=by unfold mL;simp
theorem AgL:∀(ts:List Ty) (x:tD ts),lM ts (lB ts x)=some x
 | [],_=>rfl
 | t::ts,x=>by
  show(match mL t ⟨t,x.1⟩with | some y=>(match lM ts (lB ts x.2)with | some x=>some (y,x) | none=>none) | none=>none)=_;rw [AdD,AgL ts x.2];rfl
theorem Ash.M_B (a:Ash) (x:a.D):a.M (a.B x)=some x:=by
 cases a with
 | one t=>exact AdD t x
 | ag ts=>exact AgL ts x
 | rp t off=>
  show(if off=off then mL t ⟨t,x⟩else none)=some x;rw [AjS rfl];exact AdD t x
 | pl m off=>
  show(if m=m/\off=off then some ()else none)=some x;rw [AjS ⟨rfl,rfl⟩];rfl
 | fv f cs=>
  show(if f=f/\cs=cs then some ()else none)=some x;rw [AjS ⟨rfl,rfl⟩];rfl
theorem Ahg:∀(as:List Ash) (x:aD as),aM as (aB as x)=some x
 | [],_=>rfl
 | a::as,x=>by
  show(match a.M (a.B x.1)with | some y=>(match aM as (aB as x.2)with | some x=>some (y,x) | none=>none) | none=>none)=_;rw [a.M_B,Ahg as x.2];rfl
def kn {β:Type} (f:FuncId) (mv:List Nat) (as:List Ash) (rs:List (List Esh)) (fr:List (List Ty)) (G:aF as (rF rs (Option β))) (g:β->Res):Kn:=
 ⟨f,mv,λls rows=>match aM as ls with
  | some x=>match rM rs rows with
   | some y=>some ⟨β,rAp rs (aAp as G x) y,g⟩
   | none=>none
  | none=>none,fr⟩
theorem Ad6 {P:Program} {β:Type} {f:FuncId} {mv:List Nat} {as:List Ash} {rs:List (List Esh)} {fr:List (List Ty)} {G:aF as (rF rs (Option β))} {g:β->Res}
  (h:∀(x:aD as) (y:rD rs) (z:β),rAp rs (aAp as G x) y=some z->Cq P f (aB as x) (rB rs y) (g z)):Jg P (kn f mv as rs fr G g):=by
 intro args rows a ha z hz;simp only [kn]at ha;split at ha
 .rename_i x hx;split at ha
  .rename_i y hy;injection ha with ha
   subst ha;rw [Afh as args x hx,Afi rs rows y hy];exact h x y z hz
  .cases ha
 .cases ha
theorem Aij {P:Program} {E:Env} {β:Type} {f:FuncId} {fn:Func} {J:Joins} {ann:Ann} {ln:List (Nat×Nat)} {mv:List Nat} {as:List Ash} {rs:List (List Esh)} {fr:List (List Ty)} {G:aF as (rF rs (Option β))} {g:β->Res} (hE:EnvOk P E) (hf:P.funcs[f]?=some fn)
  (hn : (fn.name == "runtime.NumGoroutine") = false) (h : ∀ (x : aD as) (y : rD rs), (Abj E fn J ann ln (aB as x) (rB rs y)).run = (rAp rs (aAp as G x) y).bind fun z => some (g z)) : Jg P (kn f mv as rs fr G g) :=
 Ad6 λx y z hz=>Agk (J:=J) (ann:=ann) (ln:=ln) hE hf hn (by rw [h x y,hz];rfl)
theorem AfU {P:Program} {f:FuncId} {mv:List Nat} {as:List Ash} {fr:List (List Ty)} {G:aF as (Option Bool)} (h:Jg P (kn f mv as [] fr G λy=>⟨[.one ⟨.bool,y⟩],[],[]⟩)) (x:aD as) (hy:aAp as G x=some true):Cq P f (aB as x) [] ⟨[.one ⟨.bool,true⟩],[],[]⟩:=
 h (aB as x) [] ⟨Bool,aAp as G x,λy=>⟨[.one ⟨.bool,y⟩],[],[]⟩⟩ (by simp only [kn];rw [Ahg];rfl) true hy
def KnsOk (P:Program):List Kn->Prop
 | []=>True
 | k::l=>Jg P k/\KnsOk P l
theorem KnsOk.all {P:Program}:∀(l:List Kn),KnsOk P l->∀k∈l,Jg P k
 | [],_,_,h=>by cases h
 | k::l,⟨h1,h2⟩,k',h=>by
  rcases Aj5.1 h with rfl | h
  .exact h1
  .exact KnsOk.all l h2 k' h
theorem Aih {P:Program} {ti:TypeId->TI} (ht:TabOk P ti) (hm:P.follows .mixedOrders=true) (l:List Kn) (fx:List Nat) (hn:List (Nat×List Ty)) (kc:List (Nat×List (Nat×Nat))) (h:KnsOk P l):EnvOk P (RT ti l fx hn kc):=
 X5 ht hm l fx (KnsOk.all l h) hn kc
end Go.V
namespace Go.V
open Go.ChangeShapes Go.WideShapes Go.ChangeAt Go.RowKit
def Jj:(t:Ty)->t.D->Prop
 | .int k,n=>(Lit.int k n).wf=true
 | .str,s=>List.length s<=maxLen
 | .pair a b,x=>Jj a x.1/\Jj b x.2
 | .sl _ _ r,xs=>List.length xs<=maxLen/\∀x∈(show List r.D from xs),Jj r x
 | _,_=>True
def ON (ti:TypeId->TI):List Field->Option (List Ty)
 | []=>some []
 | f::fs=>match (ti f.type).cells,ON ti fs with
  | some a,some b=>some (a++b)
  | _,_=>none
def VG (ti:TypeId->TI):List Field->Nat->Bool
 | [],_=>true
 | f::fs,n=>f.offset == n && VG ti fs (n+(((ti f.type).cells).getD []).length)
def Jl (P:Program) (ti:TypeId->TI) (t:TypeId):TI->Bool
 | .slice e ts _=>decide ((ti e).cells=some ts)
 | .struct _ row _=>row.any Ty.isPt || match P.underlying t with
  | some (.struct fields)=>decide (ON ti fields.toList=some row) && VG ti fields.toList 0
  | _=>false
 | _=>true
def RZ (P:Program) (ti:TypeId->TI):List TI->Nat->Bool
 | [],_=>true
 | x::l,n=>Jl P ti n x && RZ P ti l (n+1)
theorem Uz {P:Program} {ti:TypeId->TI}:∀(l:List TI) (n:Nat),RZ P ti l n=true->∀t,Jl P ti (n+t) (l.getD t .other)=true
 | [],n,_,t=>by simp [Jl]
 | x::l,n,h,t=>by
  simp only [RZ,AjT]at h;cases t with
  | zero=>exact h.1
  | succ t=>have:=Uz l (n+1) h.2 t;rw [(O:n+(t+1)=n+1+t)];exact this
theorem AgV (P:Program) (l:List TI) (h:RZ P (λt=>l.getD t .other) l 0=true):∀t,Jl P (λt=>l.getD t .other) t (l.getD t .other)=true:=λt=>by
 have:=Uz l 0 h t;rwa [Ake]at this
section
variable {H:Type} {enc:TypeId×Value->H} {P:Program} {w:World} {ti:TypeId->TI}
abbrev Any:Nat->Prop:=λ_=>True
theorem Acp:∀(ts:List Ty) (ls:List Ae) (cs:List Value),ls.map (·.1)=ts.map Ty.frz->FL (ALOk w Any) ls cs []->(∀l∈ls,Jj l.1 l.2)->
  ∃x:(AR ts).frz.D,Rp w Any (AR ts).frz x cs []/\Jj (AR ts).frz x
 | [],ls,cs,h1,h2,_=>by
  obtain rfl:ls=[]:=by simpa using h1
  obtain ⟨rfl,_⟩:=h2;exact⟨(),⟨rfl,rfl⟩,trivial⟩
 | [t],ls,cs,h1,h2,h3=>by
  match ls,h1,h2,h3 with
  | [⟨t',x⟩],h1,h2,h3=>
   simp only [Akw,AlO,AlW,and_true]at h1;subst h1;obtain ⟨v,vs,F1,F2,rfl,e,k1,rfl,rfl⟩:=h2;obtain rfl:F1=[]:=by simpa using e.symm
   exact⟨x,k1.1,h3 ⟨t.frz,x⟩ Z⟩
 | t::u::ts,ls,cs,h1,h2,h3=>by
  match ls,h1,h2,h3 with
  | ⟨t',x⟩::ls,h1,h2,h3=>
   simp only [Akw,AlW]at h1;obtain ⟨e1,e2⟩:=h1;subst e1;obtain ⟨v,vs,F1,F2,rfl,e,k1,k2⟩:=h2;obtain ⟨rfl,rfl⟩:F1=[]/\F2=[]:=by simpa using e.symm
   obtain ⟨y,k3,k4⟩:=Acp (u::ts) ls vs (by simpa using e2) k2 (λl hl=>h3 l (by simp [hl]));exact⟨(x,y),⟨[v],vs,[],[],rfl,rfl,k1.1,k3⟩,h3 ⟨t.frz,x⟩ Z,k4⟩
theorem U9 (hT:TabOk P ti) (hT2:∀t,Jl P ti t (ti t)=true):∀(fuel:Nat) (t:TypeId) (cs:List Value) (ts:List Ty) {x:DataW H×List MemPlace},(ti t).cells=some ts->
  DataW.trod enc P w 0 (λ_=>true) true fuel t cs=some x->∃ls:List Ae,ls.map (·.1)=ts.map Ty.frz/\FL (ALOk w Any) ls cs []/\∀l∈ls,Jj l.1 l.2:=by
 intro fuel
 induction fuel with
 | zero=>intro t cs ts x _ h;simp [DataW.trod]at h
 | succ n ih=>
  intro t cs ts x hts h;cases ht:ti t with
  | cell u=>
   rw [ht]at hts;simp only [TI.cells,AjN]at hts;subst hts;obtain ⟨⟨d,hd,hdd⟩,_⟩:=hT.cell ht;cases u with
   | pt t=>cases d <;> simp [BR]at hdd
   | er=>cases d <;> simp [BR]at hdd
   | lp=>cases d <;> simp [BR]at hdd
   | mh=>cases d <;> simp [BR]at hdd
   | mp=>cases d <;> simp [BR]at hdd
   | int k=>
    cases d <;> simp [BR]at hdd;subst hdd;obtain ⟨m,rfl,_,hw⟩:=DataW.trod_int hd h;exact⟨[⟨.int k,m⟩],rfl,⟨_,[],[],[],rfl,rfl,⟨⟨rfl,rfl⟩,λ_=>rfl⟩,rfl,rfl⟩,λl hl=>by rw [AjX.1 hl];exact hw⟩
   | bool=>
    cases d <;> simp [BR]at hdd;obtain ⟨m,rfl,_⟩:=DataW.trod_bool hd h;exact⟨[⟨.bool,m⟩],rfl,⟨_,[],[],[],rfl,rfl,⟨⟨rfl,rfl⟩,λ_=>rfl⟩,rfl,rfl⟩,λl hl=>by rw [AjX.1 hl];exact trivial⟩
   | str=>
    cases d <;> simp [BR]at hdd;obtain ⟨⟨⟨s⟩⟩,rfl,_,hs⟩:=DataW.trod_string hd h;exact⟨[⟨.str,s⟩],rfl,⟨_,[],[],[],rfl,rfl,⟨⟨rfl,rfl⟩,λ_=>rfl⟩,rfl,rfl⟩,λl hl=>by rw [AjX.1 hl];exact(show List.length s<=maxLen by simpa [ByteArray.size] using hs)⟩
   | unit=>simp [BR]at hdd
   | pair a b=>simp [BR]at hdd
   | sl o e r=>simp [BR]at hdd
  | slice e ts' bytes=>
   rw [ht]at hts;simp only [TI.cells,AjN]at hts;subst hts;obtain ⟨hu,_,_,hlen,i,z,hi,hsz,_⟩:=hT.slice ht;have he:(ti e).cells=some ts':=by have:=hT2 t;rw [ht]at this;simpa [Jl] using this
   have hce:P.cellsOf e=ts'.length:=by simp [Program.cellsOf,hi,hsz]
   rcases DataW.trod_slice hu h with⟨rfl,_⟩ | ⟨a,len,cap,elems,rest,m,hfm,rfl,_,_,hl,hm,hel,hels,_⟩
   .refine⟨[⟨.sl false e (AR ts').frz,[]⟩],rfl,⟨_,[],[],[],rfl,rfl,⟨?_,λ_=>rfl⟩,rfl,rfl⟩,λl hl=>by rw [AjX.1 hl];exact⟨All _,λ_ h=>by cases h⟩⟩;exact⟨rfl,none,0,[],rfl,Akk _,⟨rfl,rfl⟩,.inl rfl⟩
   .obtain rfl:n=m:=O
    have key:∀q,q<=len->∃(xs:List (AR ts').frz.D) (ws:List Value),xs.length=q/\ws.length=q * ts'.length/\RpL (Rp w Any (AR ts').frz) xs ws []/\
      (∀j,j < ws.length->w.cell? (a.add j)=ws[j]?)/\(∀x∈xs,Jj (AR ts').frz x):=by
     intro q
     induction q with
     | zero=>intro _;exact⟨[],[],rfl,Z,⟨rfl,rfl⟩,λj hj=>by simp at hj,λ_ h=>by cases h⟩
     | succ q ihq=>
      intro hq;obtain ⟨xs,ws,h1,h2,h3,h4,h5⟩:=ihq O;have hq':=hels q O;rw [AjP O,AjQ]at hq';obtain ⟨cs',hcs,hy⟩:=hq';obtain ⟨ls,k1,k2,k3⟩:=ih e cs' ts' he hy;obtain ⟨x,k4,k5⟩:=Acp ts' ls cs' k1 k2 k3;obtain ⟨_,c2,c3⟩:=World.cells?_some hcs;refine⟨xs++[x],ws++cs',by simp [h1],?_,?_,?_,?_⟩
      .rw [AjU,h2,c2,hce,AlN]
      .have:=h3.append (show RpL (Rp w Any (AR ts').frz) [x] cs' [] from⟨cs',[],[],[],Z,rfl,k4,rfl,rfl⟩);simpa using this
      .intro j hj;by_cases hjw:j < ws.length
       .rw [h4 j hjw,AkG hjw]
       .rw [Aky O];have:=c3 (j - ws.length) (by rw [AjU]at hj;omega);rw [<- this]
        congr 1
        rw [hce,h2,Addr.add_add]
        congr 1;omega
      .intro y hy;rcases AjV.1 hy with hy | hy
       .exact h5 y hy
       .rw [AjX.1 hy];exact k5
    obtain ⟨xs,ws,h1,h2,h3,h4,h5⟩:=key len (Akk _);have hxl:List.length xs=len:=h1;refine⟨[⟨.sl false e (AR ts').frz,xs⟩],rfl,⟨_,[],[],[],rfl,rfl,⟨?_,λ_=>rfl⟩,rfl,rfl⟩,λl hl=>by rw [AjX.1 hl];exact⟨(O:List.length xs<=maxLen),h5⟩⟩;refine⟨rfl,some a,cap,ws,by rw [hxl],by rw [hxl];exact hl,h3,?_⟩;rcases AlU len with hz | hz
    .left;exact Akb (O:List.length xs=0)
    .right;refine⟨a,rfl,trivial,?_,h4⟩;have h0:=hels 0 hz;rw [AjP O,AjQ]at h0;obtain ⟨cs',hcs,_⟩:=h0;have:=World.cells?_block hcs (by rw [hce];exact hlen)
     rwa [Dn]at this
  | struct fs row eq=>
   rw [ht]at hts;simp only [TI.cells]at hts;split at hts
   .cases hts
   rename_i hnp;simp only [AjN]at hts;subst hts;obtain ⟨fields,hu,_,_,i,hi,hsz,_⟩:=hT.struct ht;have h2:=hT2 t;rw [ht]at h2;simp only [Jl,hu,Ak2,AjT,decide_eq_true_eq]at h2
   replace h2:=h2.resolve_left hnp
   obtain ⟨hr,ho⟩:=h2;obtain ⟨xs,m,hfm,_,hcl,hxl,hf⟩:=DataW.trod_struct hu h;obtain rfl:n=m:=O
   have hcl':cs.length=row.length:=by rw [hcl];simp [Program.cellsOf,hi,hsz]
   have key:∀(fl:List Field) (off:Nat) (row:List Ty),ON ti fl=some row->VG ti fl off=true->off+row.length=cs.length->
     (∀f∈fl,∃y,DataW.trod enc P w 0 (λ_=>true) true n f.type ((cs.drop f.offset).take (P.cellsOf f.type))=some y)->
     ∃ls:List Ae,ls.map (·.1)=row.map Ty.frz/\FL (ALOk w Any) ls (cs.drop off) []/\∀l∈ls,Jj l.1 l.2:=by
    intro fl
    induction fl with
    | nil=>
     intro off row h1 _ h3 _;simp only [ON,AjN]at h1;subst h1;simp only [Akl,Alf]at h3;exact⟨[],rfl,⟨by rw [h3];simp,rfl⟩,λ_ h=>by cases h⟩
    | cons f fl ihf=>
     intro off row h1 h2 h3 h4;simp only [ON]at h1;split at h1
     .rename_i a b ha hb;injection h1 with h1
      subst h1;simp only [VG,AjT,beq_iff_eq,ha,Akx]at h2;obtain ⟨ho,h2⟩:=h2;rw [AjU]at h3;obtain ⟨ls2,q1,q2,q3⟩:=ihf (off+a.length) b hb h2 O (λg hg=>h4 g (by simp [hg]));obtain ⟨y,hy⟩:=h4 f Z;obtain ⟨ls1,p1,p2,p3⟩:=ih _ _ a ha hy;obtain ⟨i',hi',hsz',_⟩:=IV hT (T4 ha);have hc:P.cellsOf f.type=a.length:=by simp [Program.cellsOf,hi',hsz']
      refine⟨ls1++ls2,by rw [Akv,Akv,p1,q1],?_,?_⟩
      .have:=p2.append q2;rw [ho,hc]at this;rw [<- Al2,AkH]at this;simpa using this
      .intro l hl;rcases AjV.1 hl with hl | hl
       .exact p3 l hl
       .exact q3 l hl
     .cases h1
   have:=key fields.toList 0 row hr ho O (λf hfm=>by
    obtain ⟨j,hj⟩:=List.getElem?_of_mem hfm;have hj':fields[j]?=some f:=by simpa using hj
    have hjl:j < fields.size:=(Ald.1 hj').1;rw [hf j f hj'];exact⟨_,AjP O⟩)
   simpa using this
  | ptr e=>rw [ht]at hts;cases hts
  | map=>rw [ht]at hts;cases hts
  | err=>rw [ht]at hts;cases hts
  | other=>rw [ht]at hts;cases hts
theorem Lv {t:Ty} {ts:List Ty}:∀{ls:List Ae},ls.map (·.1)=t::ts->∃(x:t.D) (ls':List Ae),ls=⟨t,x⟩::ls'/\ls'.map (·.1)=ts
 | ⟨t',x⟩::ls,h=>by
  simp only [Akw,AlW]at h;obtain ⟨rfl,h⟩:=h;exact⟨x,ls,rfl,h⟩
theorem AeP {ls:List Ae} (h:ls.map (·.1)=[]):ls=[]:=by simpa using h
theorem Aeu {r:Reach} {b0:Nat} (hT:TabOk P ti) (hT2:∀t,Jl P ti t (ti t)=true) {t:TypeId} {u:Ty} {v:Value} {d:DataW H} {ps:List MemPlace} (hts:(ti t).cells=some [u]) (hag:(ti t).isAgg=false)
  (hval:Value.okWide P w r b0 t v) (h:DataW.Trod enc P w 0 (λ_=>true) true t v d ps):∃x:u.frz.D,Jj u.frz x/\∀ms,A1Ok w Any ms (.one ⟨u.frz,x⟩) v []:=by
 obtain ⟨fuel,h⟩:=h;obtain ⟨ls,h1,h2,h3⟩:=U9 hT hT2 fuel t _ _ hts h
 match ls,h1,h2,h3 with
 | [⟨t',x⟩],h1,h2,h3=>
  simp only [Akw,AlO,AlW,and_true]at h1;subst h1;obtain ⟨v',vs,F1,F2,e1,e,k1,rfl,rfl⟩:=h2;obtain rfl:F1=[]:=by simpa using e.symm
  refine⟨x,h3 ⟨u.frz,x⟩ Z,λms=>?_⟩;have:v.cells = #[v']:=Array.toList_inj.1 e1;have hv:v=v':=by
   have h9:v.cells = #[v]:=by
    cases ht:ti t with
    | cell u'=>
     obtain ⟨⟨d',hd',hdd⟩,_⟩:=hT.cell ht;cases u' <;> cases d' <;> first
      | (simp [BR]at hdd;done)
      | (obtain ⟨n,rfl⟩:=okWide_int hd' hval;rfl)
      | (obtain ⟨n,rfl⟩:=okWide_bool hd' hval;rfl)
      | (obtain ⟨n,rfl⟩:=okWide_string hd' hval;rfl)
    | slice e ts' b=>
     obtain ⟨a,len,cap,rfl⟩:=okWide_slice (hT.slice ht).1 hval;rfl
    | struct fs row eq=>rw [ht]at hag;cases hag
    | ptr e=>rw [ht]at hts;cases hts
    | map=>rw [ht]at hts;cases hts
    | err=>rw [ht]at hts;cases hts
    | other=>rw [ht]at hts;cases hts
   rw [h9]at this;simpa using this
  subst hv;exact k1
theorem Af6 {r:Reach} {b0:Nat} (hT:TabOk P ti) (hT2:∀t,Jl P ti t (ti t)=true) {t:TypeId} {ts:List Ty} {v:Value} {d:DataW H} {ps:List MemPlace} (hts:(ti t).cells=some ts) (hag:(ti t).isAgg=true)
  (hval:Value.okWide P w r b0 t v) (h:DataW.Trod enc P w 0 (λ_=>true) true t v d ps):∃ls:List Ae,ls.map (·.1)=ts.map Ty.frz/\(∀l∈ls,Jj l.1 l.2)/\∀ms,A1Ok w Any ms (.ag ls) v []:=by
 obtain ⟨fuel,h⟩:=h;obtain ⟨ls,h1,h2,h3⟩:=U9 hT hT2 fuel t _ _ hts h;refine⟨ls,h1,h3,λms=>?_⟩;obtain ⟨i,_,_,⟨d',hd',hdd⟩,_⟩:=IV hT (T4 hts);rw [hag]at hdd;have:∃cs,v=.agg cs:=by
  cases d' <;> simp [Hu]at hdd <;> (simp only [Value.okWide,hd']at hval;obtain ⟨cs,h,_⟩:=hval;exact⟨cs,h⟩)
 obtain ⟨cs,rfl⟩:=this;exact⟨cs.toList,rfl,h2⟩
end
end Go.V
set_option maxRecDepth 100000
namespace Go.V.G
open Go.V
def pre (P:List (List UInt8)) (S:List Bool):Nat->Int
 | 0=>0
 | k+1=>pre P S k+(((P.getD k []).length:Nat):Int)+(if S.getD k false=true then 1 else 0)
def nK:List Atom->Nat
 | []=>0
 | .keep::l=>nK l+1
 | .ins _::l=>nK l
 | .drop::l=>nK l
theorem H8:∀a b:List Atom,nK (a++b)=nK a+nK b
 | [],b=>by simp [nK]
 | .keep::a,b=>by simp only [AkB,nK,H8 a b];omega
 | .ins _::a,b=>H8 a b
 | .drop::a,b=>H8 a b
theorem Acy:∀s:List UInt8,nK (s.map Atom.ins)=0
 | []=>rfl
 | _::s=>Acy s
theorem Adp (f:Bool):∀m:Nat,nK (List.replicate m (mk f))=if f=true then m else 0
 | 0=>by cases f <;> rfl
 | m+1=>by
  have:=Adp f m;rw [AkP];cases f
  .exact this
  .simp only [Akh]at this ⊢;show nK (.keep::_)=_;simp only [nK];rw [this]
theorem Some1.z {p:Prt} (h:Some1 p):0 < p.1->p.2.1=0:=by
 intro h0;have:=h.ne;unfold kd at this;split at this
 .rename_i h;exact h.2.1
 .split at this
  .rename_i h;omega
  .split at this
   .rename_i h;omega
   .exact absurd rfl this
theorem UJ:∀{c:List Prt},(∀p∈c,Some1 p)->tgt c=((Dp (Ac c)+nK (Ac c):Nat):Int)
 | [],_=>rfl
 | p::c,h=>by
  have ih:=UJ (c:=c) λq hq=>h q (by simp [hq])
  have h1:=h p Z;have k0:=h1.k;have d0:=h1.d;have z:=h1.z;show p.1+(p.2.2.length:Int)+tgt c=((Dp (pa p++Ac c)+nK (pa p++Ac c):Nat):Int)
  have e:nK (pa p)=p.1.toNat:=by
   rw [pa,H8,Acy,Adp,Ake];by_cases h0:0 < p.1
   .simp [h0,z h0]
   .simp [h0];omega
  rw [Ev,Aas,H8,e];omega
section
variable {B:Nat} {c:List Prt} (h:Sm B c) (hB:B<=1099511627000)
include h hB
end
end Go.V.G
set_option maxRecDepth 100000
namespace Go.V.G
open Go.V
theorem Dd {p:Prt} (h:kd p≠0):(∃a:Int,0 < a/\p=(a,0,[])/\kd p=1)\/(∃b:Int,0 < b/\p=(0,b,[])/\kd p=2)\/∃s:List UInt8,s≠[]/\p=(0,0,s)/\kd p=3:=by
 obtain ⟨a,b,s⟩:=p;unfold kd at h ⊢;by_cases h1:0 < a/\b=0/\s=[]
 .obtain ⟨g1,g2,g3⟩:=h1;subst g2 g3;left;exact⟨a,g1,rfl,by simp [g1]⟩
 by_cases h2:0 < b/\a=0/\s=[]
 .obtain ⟨g1,g2,g3⟩:=h2;subst g2 g3;right;left;exact⟨b,g1,rfl,by simp [g1]⟩
 by_cases h3:s≠[]/\a=0/\b=0
 .obtain ⟨g1,g2,g3⟩:=h3;subst g2 g3;right;right;exact⟨s,g1,rfl,by simp [g1]⟩
 rw [AjR h1,AjR h2,AjR h3]at h;exact absurd rfl h
def Fk (p:Prt):List Int:=[kd p,p.1+p.2.1+p.2.2.length]++Ay p.2.2
def enc (c:List Prt):List Int:=c.flatMap Fk
theorem TV:∀c:List Prt,(enc c).length=2 * c.length+BX c
 | []=>rfl
 | p::c=>by
  show(Fk p++enc c).length=_;rw [AjU,TV c];simp [Fk,Ay,BX];omega
theorem ID {c:List Prt} (hg:AG c=true) {p:Prt} (hp:p∈c):p.1+p.2.1+p.2.2.length<=120/\0<=p.1+p.2.1:=by
 obtain ⟨h1,h2,h3⟩:=Aq hg;have hs:=Bf h1;obtain ⟨i,hi,rfl⟩:=Akq hp;have n1:=Bq (l:=c.take i) λp h=>hs p (C9 h)
 have n2:=Ck (l:=c.take i) λp h=>hs p (C9 h)
 have n3:=Bq (l:=c.drop (i+1)) λp h=>hs p (CQ h)
 have n4:=Ck (l:=c.drop (i+1)) λp h=>hs p (CQ h)
 have a1:=K8 hi;have a2:=Po hi;have q:=hs _ hp;rcases Dd q.ne with⟨a,ha,e,_⟩ | ⟨b,hb,e,_⟩ | ⟨s,_,e,_⟩ <;> (rw [e]at a1 a2 ⊢;simp only [Akl]at a1 a2 ⊢;omega)
theorem AiL (p:Prt):IntKind.wrap .u8 (kd p)=kd p:=by
 apply wu8 <;> (unfold kd;split;omega;split;omega;split <;> omega)
section
variable {B:Nat} {c:List Prt} (h:Sm B c) (hB:B<=1099511627776) (hg:AG c=true)
include h hB hg
theorem Yx {i:Nat} (hlt:i < c.length):enc (c.take i)++[IntKind.wrap .u8 (kd c[i]),IntKind.wrap .u8 (IntKind.wrap .i64 ((IntKind.wrap .i64 (c[i].1+c[i].2.1))+(List.length c[i].2.2:Int)))]++Ay c[i].2.2=enc (c.take (i+1))/\
  (enc (c.take i)).length+2+(Ay c[i].2.2).length<=4398046511104:=by
 obtain ⟨h1,h2⟩:=ID hg (Akc hlt);rw [w64 (n:=c[i].1+c[i].2.1) O O,w64 O O,AiL,wu8 O O];constructor
 .rw [Akd hlt];simp only [enc,Ak6,Ak9,List.flatMap_nil,Aj2,Fk,AjY]
 .rw [TV];have h3:BX c=BX (c.take i)+BX (c.drop i):=by rw [<- DO,AkH]
  have:=h.len;have:=h.put;have:(Ay c[i].2.2).length=c[i].2.2.length:=by simp [Ay]
  rw [AjW];omega
theorem Aa1:L3 c=some (enc c):=by
 have hlen:=Ako h.len hB;unfold L3;have:Ab Gg ([],c,(List.length c:Int),0)=some (enc c):=by
  have:=An Gg (λk=>(enc (c.take k),c,(List.length c:Int),((k:Nat):Int))) c.length (enc c) (by
   intro i hlt;obtain ⟨e1,e2⟩:=Yx h hB hg hlt;have hi:(i:Int) < (List.length c:Int):=O
   have r1:∀x y:Int,Aa (List.length (enc (c.take i))+List.length [x,y]) 1=true:=λx y=>by simp [Aa];omega
   have r2:∀x y:Int,Aa (List.length (enc (c.take i)++[x,y])+List.length (Ay c[i].2.2)) 1=true:=λx y=>by simp [Aa];omega
   unfold Gg cK gX wI wB;simp only [hi,show(0:Int)<=(i:Int) from by omega,decide_true,Akh,AjO,AjP hlt,AjM,Lq,r1,r2,Ax hlen hlt];rw [show kd (c[i].1,c[i].2.1,c[i].2.2)=kd c[i] from rfl,e1]) (by simp [Gg,cK,gX,wI,wB])
  simpa [enc] using this
 rw [this];rfl
end
theorem Abd (s:List UInt8):AF (Ay s)=s:=by
 unfold AF Ay;rw [AkL]
 conv=>rhs;rw [<- List.map_id s]
 apply AkM;intro b _;show UInt8.ofNat (Int.toNat (b.toNat:Int))=b;rw [AjO];exact UInt8.ofNat_toNat
theorem NA (x y:Int) (r:List Int):(List.drop (Int.toNat 2) (x::y::r)).take (Int.toNat (List.length (x::y::r):Int) - Int.toNat 2)=r:=by
 simp only [AjO,show Int.toNat 2=2 from rfl,Aj1,AlM,AkR];exact AkA O
theorem AaC {out rest:List Int} {p:Prt} {l:List Prt} (hp:kd p≠0) (hsm:p.1+p.2.1+p.2.2.length<=120) (hl:l.length<=1099511627776):AA (Fk p++rest,l)=some (.inl (rest,l++[p])):=by
 have room:∀x:Prt,Aa (List.length l+List.length [x]) 32=true:=λx=>by simp [Aa];omega
 rcases Dd hp with⟨a,ha,rfl,hk⟩ | ⟨b,hb,rfl,hk⟩ | ⟨s,hs,rfl,hk⟩
 .have e:Fk (a,0,[])++rest=1::a::rest:=by simp [Fk,hk,Ay]
  have w:IntKind.wrap .i64 a=a:=by simp only [Akl]at hsm;exact w64 O O
  rw [e];unfold AA cK gX sX;dsimp only;rw [NA];have hl2:¬ ((List.length (1::a::rest):Int)) < 2:=by simp;omega
  have hl0:(0:Int) < ((List.length (1::a::rest):Int)):=by simp;omega
  have hl3:(2:Int)<=((List.length (1::a::rest):Int)):=by simp;omega
  have g0:(1::a::rest)[Int.toNat 0]?=some 1:=rfl;have g1:(1::a::rest)[Int.toNat 1]?=some a:=rfl;simp only [hl0,hl2,hl3,g0,g1,decide_true,decide_false,Akh,Aj4,Aku,AjM,AkZ,show(0:Int)<=1 from by omega,show(0:Int)<=2 from by omega,w,room]
 .have e:Fk (0,b,[])++rest=2::b::rest:=by simp [Fk,hk,Ay]
  have w:IntKind.wrap .i64 b=b:=by simp only [Akl]at hsm;exact w64 O O
  rw [e];unfold AA cK gX sX;dsimp only;rw [NA];have hl2:¬ ((List.length (2::b::rest):Int)) < 2:=by simp;omega
  have hl0:(0:Int) < ((List.length (2::b::rest):Int)):=by simp;omega
  have hl3:(2:Int)<=((List.length (2::b::rest):Int)):=by simp;omega
  have g0:(2::b::rest)[Int.toNat 0]?=some 2:=rfl;have g1:(2::b::rest)[Int.toNat 1]?=some b:=rfl;simp only [hl0,hl2,hl3,g0,g1,decide_true,decide_false,Akh,Aj4,Aku,AjM,AkZ,show(0:Int)<=1 from by omega,show(0:Int)<=2 from by omega,(O:¬ (2:Int)=1),w,room]
 .have hn:(Ay s).length=s.length:=by simp [Ay]
  have e:Fk (0,0,s)++rest=3::(s.length:Int)::(Ay s++rest):=by simp [Fk,hk]
  have w:IntKind.wrap .i64 (s.length:Int)=(s.length:Int):=by dsimp only at hsm;exact w64 O O
  rw [e];unfold AA cK gX sX;dsimp only;rw [NA];have hl2:¬ ((List.length (3::(s.length:Int)::(Ay s++rest)):Int)) < 2:=by simp;omega
  have hl0:(0:Int) < ((List.length (3::(s.length:Int)::(Ay s++rest)):Int)):=by simp;omega
  have hl3:(2:Int)<=((List.length (3::(s.length:Int)::(Ay s++rest)):Int)):=by simp;omega
  have g0:(3::(s.length:Int)::(Ay s++rest))[Int.toNat 0]?=some 3:=rfl;have g1:(3::(s.length:Int)::(Ay s++rest))[Int.toNat 1]?=some (s.length:Int):=rfl;have hle:(s.length:Int)<=(List.length (Ay s++rest):Int):=by rw [AjU,hn];omega
  have hge:(0:Int)<=(s.length:Int):=O
  have tk:(List.drop (Int.toNat 0) (Ay s++rest)).take (Int.toNat (s.length:Int) - Int.toNat 0)=Ay s:=by
   show(Ay s++rest).take (Int.toNat (s.length:Int) - 0)=_;rw [AlD,AjO,<- hn,List.take_left]
  have dr:(List.drop (Int.toNat (s.length:Int)) (Ay s++rest)).take (Int.toNat (List.length (Ay s++rest):Int) - Int.toNat (s.length:Int))=rest:=by
   rw [AjO,AjO,<- hn,List.drop_left];exact AkA (by rw [AjU];omega)
  simp only [hl0,hl2,hl3,g0,g1,decide_true,decide_false,Akh,Aj4,Aku,AjM,AkZ,show(0:Int)<=1 from by omega,show(0:Int)<=2 from by omega,(O:¬ (3:Int)=1),(O:¬ (3:Int)=2),w,hle,hge,tk,dr,Abd,room]
theorem AeU {B:Nat} {c:List Prt} (h:Sm B c) (hB:B<=1099511627776) (hg:AG c=true):E4 (enc c)=some (c,true):=by
 have hlen:=Ako h.len hB;obtain ⟨h1,h2,h3⟩:=Aq hg;have hs:=Bf h1;unfold E4;have:Ab AA (enc c,[])=some (.inl c):=by
  have:=An AA (λk=>(enc (c.drop k),c.take k)) c.length (.inl c) (by
   intro i hlt;have e:enc (c.drop i)=Fk c[i]++enc (c.drop (i+1)):=by rw [Aks hlt];rfl
   have hm:=Akc hlt;show AA (enc (c.drop i),c.take i)=_;rw [e,AaC (out:=[]) (hs _ hm).ne (ID hg hm).1 (by rw [AjW];omega),Akd hlt]) (by
   show AA (enc (c.drop c.length),c.take c.length)=_;rw [Alw,AkC];rfl)
  simpa using this
 rw [this,AjM];show Option.bind (E3 c) _=_;rw [OV h hB,hg];rfl
def FZ (l:List Prt):List Prt:=l.foldl B7 []
theorem QW {B:Nat} {l:List Prt} (h:Sm B l) (hB:B<=1099511627776) (a b:Int) (s:List UInt8) (hs:s.length<=1099511627776):Dv a b s l=some (B7 l (a,b,s)):=by
 unfold Dv B7 cK cZ wI;by_cases h0:((a,b,s):Prt)=(0,0,[])
 .obtain ⟨rfl,rfl,rfl⟩:a=0/\b=0/\s=[]:=by simpa using h0
  simp
 .rw [AjR h0,AjR (by simpa using h0)];have hroom:∀x:Prt,Aa (l.length + [x].length) 32=true:=λx=>by
   have:=h.len;simp [Aa];omega
  cases hg:l.getLast? with
  | none=>
   obtain rfl:l=[]:=by simpa using hg
   simp [Aa]
  | some q=>
   obtain ⟨n,hn,hq,hset⟩:=Q1 hg;have hqs:q.2.2.length<=B:=Ako (HL (Akz hq)) h.put;have e1:IntKind.wrap .i64 ((l.length:Int) - 1)=(n:Int):=by rw [hn,w64 O (by have:=h.len;omega)];omega
   have hpos:(0:Int) < (l.length:Int):=O
   have hlt:(n:Int) < (l.length:Int):=O
   have hge:(0:Int)<=(n:Int):=O
   have hst:∀x:Prt,(l.set n x)[n]?=some x:=λx=>Alh O
   simp only [e1,hpos,hlt,hge,decide_true,Akh,AjO,Ake,hq,AjM,O7];by_cases hk:kd q=kd (a,b,s)
   .have hk':(kd (q.1,q.2.1,q.2.2)=kd (a,b,s)):=hk;have hlen:q.2.2.length+s.length<=9223372036854775807:=O
    simp only [hk',hk,decide_true,Akh,e1,hlt,hge,AjO,hq,AjM,hst,List.set_set,hlen];rw [hset]
   .have hk':¬ (kd (q.1,q.2.1,q.2.2)=kd (a,b,s)):=hk;simp only [hk',hk,decide_false,Aku,Aj4,hroom,Akh,AjM]
theorem AfI:kd (0,0,[])=0:=by simp [kd]
theorem Xz:∀{c:List Prt},(∀p∈c,Some1 p)->(c.length:Int)<=src c+tgt c
 | [],_=>by simp [src,tgt]
 | p::c,h=>by
  have ih:=Xz (c:=c) λq hq=>h q (by simp [hq])
  have s:=h p Z;have k0:=s.k;have d0:=s.d;simp only [src,tgt,Aj1];rcases Dd s.ne with⟨a,ha,e,_⟩ | ⟨b,hb,e,_⟩ | ⟨t,ht,e,_⟩
  .rw [e];simp only;omega
  .rw [e];simp only;omega
  .rw [e];simp only;have:=List.length_pos_iff.2 ht;omega
theorem T7:∀{c:List Prt},(∀p∈c,Some1 p)->(BX c:Int)<=tgt c
 | [],_=>by simp [BX,tgt]
 | p::c,h=>by
  have ih:=T7 (c:=c) λq hq=>h q (by simp [hq])
  have k0:=(h p Z).k;simp only [BX,tgt];omega
theorem C5 {c:List Prt} (h:AG c=true):Sm 240 c:=by
 obtain ⟨h1,h2,h3⟩:=Aq h;have hs:=Bf h1;have:=Xz hs;have:=T7 hs;refine⟨O,O,λp hp=>?_⟩;have:=ID h hp;have k0:=(hs p hp).k;have d0:=(hs p hp).d;unfold I64;omega
end Go.V.G
set_option maxRecDepth 100000
namespace Go.V.G
open Go.V
def Fine (p:Prt):Prop:=p=(0,0,[])\/kd p≠0
theorem Fine.put (s:List UInt8):Fine (0,0,s):=by
 by_cases h:s=[]
 .subst h;exact .inl rfl
 .exact .inr (by simp [kd,h])
theorem Fine.keep {n:Int} (h:0<=n):Fine (n,0,[]):=by
 by_cases h0:n=0
 .subst h0;exact .inl rfl
 .have:0 < n:=O
  exact .inr (by simp [kd,this])
theorem Fine.drop {n:Int} (h:0<=n):Fine (0,n,[]):=by
 by_cases h0:n=0
 .subst h0;exact .inl rfl
 .have:0 < n:=O
  exact .inr (by simp [kd,this])
theorem MP:pa (0,0,[])=[]:=by simp [pa]
theorem Ho (s:List UInt8):pa (0,0,s)=s.map Atom.ins:=by simp [pa]
theorem FW {n:Int} (h:0<=n):pa (n,0,[])=List.replicate n.toNat .keep:=by
 by_cases h0:n=0
 .subst h0;rfl
 .have:0 < n:=O
  simp [pa,this,mk]
theorem G5 {n:Int} (h:0<=n):pa (0,n,[])=List.replicate n.toNat .drop:=by simp [pa,mk]
def P6 (k:Int) (l:List Prt):Int:=match l.getLast? with
 | some q=>kd q
 | none=>k
theorem Iu (k:Int):∀(a b:List Prt),okk k (a++b)=(okk k a && okk (P6 k a) b)
 | [],b=>by simp [okk,P6]
 | p::a,b=>by
  have this:P6 (kd p) a=P6 k (p::a):=by
   unfold P6;cases a with
   | nil=>rfl
   | cons q a=>
    rw [List.getLast?_cons_cons];cases h:(q::a).getLast? with
    | none=>simp at h
    | some x=>rfl
  show(_ && okk (kd p) (a++b))=((_ && okk (kd p) a) && okk _ b)
  rw [Iu (kd p) a b,this];simp only [AlT]
def AaY (l:List Prt):Prop:=src l<=1000000000/\tgt l<=1000000000
theorem Ace {q p:Prt} (hq:kd q≠0) (h:kd q=kd p) (b1:q.1+p.1<=1000000000) (b2:q.2.1+p.2.1<=1000000000) :
  kd (IntKind.wrap .i64 (q.1+p.1),IntKind.wrap .i64 (q.2.1+p.2.1),q.2.2++p.2.2)=kd q/\pa (IntKind.wrap .i64 (q.1+p.1),IntKind.wrap .i64 (q.2.1+p.2.1),q.2.2++p.2.2)=pa q++pa p:=by
 have hp:kd p≠0:=by rw [<- h];exact hq
 rcases Dd hq with⟨a,ha,e,k1⟩ | ⟨a,ha,e,k1⟩ | ⟨a,ha,e,k1⟩ <;> rcases Dd hp with⟨b,hb,e',k2⟩ | ⟨b,hb,e',k2⟩ | ⟨b,hb,e',k2⟩ <;> try (rw [k1,k2]at h;omega)
 .subst e e';dsimp only at b1 b2 ⊢;rw [w64 (n:=a+b) O O,show IntKind.wrap .i64 ((0:Int)+0)=0 from w64 O O];have:0 < a+b:=O
  refine⟨by simp [kd,this,ha],?_⟩;rw [Aj2,FW O,FW O,FW O,List.replicate_append_replicate]
  congr 1;omega
 .subst e e';dsimp only at b1 b2 ⊢;rw [w64 (n:=a+b) O O,show IntKind.wrap .i64 ((0:Int)+0)=0 from w64 O O];have:0 < a+b:=O
  refine⟨by simp [kd,this,ha],?_⟩;rw [Aj2,G5 O,G5 O,G5 O,List.replicate_append_replicate]
  congr 1;omega
 .subst e e';dsimp only at b1 b2 ⊢;rw [show IntKind.wrap .i64 ((0:Int)+0)=0 from w64 O O];refine⟨by simp [kd,ha],?_⟩;rw [Ho,Ho,Ho,Akv]
theorem Ab9 {l:List Prt} {p:Prt} (hl:okk 0 l=true) (hp:Fine p) (hb:AaY (l++[p])):okk 0 (B7 l p)=true/\Ac (B7 l p)=Ac l++pa p/\src (B7 l p)=src l+(p.1+p.2.1)/\tgt (B7 l p)=tgt l+(p.1+p.2.2.length):=by
 unfold B7;rcases hp with rfl | hp
 .simp [hl,MP]
 .have h0:p≠(0,0,[]):=λh=>hp (by rw [h];exact AfI)
  rw [AjR h0];have hs:=Bf hl;have sp:=Jf hp;have k0:=sp.k;have d0:=sp.d;cases hq:l.getLast? with
  | none=>
   obtain rfl:l=[]:=by simpa using hq
   simp [okk,hp,Ac,src,tgt]
  | some q=>
   obtain ⟨l',rfl⟩:=List.getLast?_eq_some_iff.1 hq;have sq:=hs q Z;have k1:=sq.k;have d1:=sq.d;have n1:=Bq (l:=l') λp h=>hs p (by simp [h])
   have n2:=Ck (l:=l') λp h=>hs p (by simp [h])
   have b1:=hb.1;have b2:=hb.2;simp only [Df,Dg,src,tgt]at b1 b2;rw [Iu]at hl;simp only [AjT]at hl;obtain ⟨hl1,hl2⟩:=hl;simp only;split
   .rename_i hk;obtain ⟨e1,e2⟩:=Ace sq.ne hk O O;rw [List.dropLast_concat];refine⟨?_,?_,?_,?_⟩
    .rw [Iu,hl1,Aj3];simp only [okk,e1]at hl2 ⊢;exact hl2
    .rw [IQ,IQ,AjY]
     congr 1
     show pa _++[]=(pa q++[])++pa p;rw [e2,Aj2,Aj2]
    .rw [Df,Df];simp only [src];rw [w64 (n:=q.1+p.1) O O,w64 (n:=q.2.1+p.2.1) O O];omega
    .rw [Dg,Dg];simp only [tgt,AjU];rw [w64 (n:=q.1+p.1) O O];omega
   .rename_i hk;refine⟨?_,?_,?_,?_⟩
    .rw [Iu,Iu,hl1,hl2];simp only [okk,P6,List.getLast?_append,List.getLast?_singleton,Option.some_or,Alm,Aj3,AjT,Aj0,decide_eq_false_iff_not];exact⟨hp,λh=>hk h.symm⟩
    .rw [IQ];simp [Ac]
    .rw [Df];simp [src]
    .rw [Dg];simp [tgt]
theorem QM {p:Prt} (h:Fine p):0<=p.1/\0<=p.2.1:=by
 rcases h with rfl | h
 .simp
 .exact⟨(Jf h).k,(Jf h).d⟩
theorem PL:∀{l:List Prt},(∀p∈l,Fine p)->0<=src l/\0<=tgt l
 | [],_=>by simp [src,tgt]
 | p::l,h=>by
  have h1:=QM (h p Z);have h2:=PL (l:=l) λq hq=>h q (by simp [hq])
  simp only [src,tgt];omega
theorem U6:∀(m l:List Prt),okk 0 l=true->(∀p∈m,Fine p)->AaY (l++m)->okk 0 (m.foldl B7 l)=true/\Ac (m.foldl B7 l)=Ac l++Ac m/\src (m.foldl B7 l)=src l+src m/\tgt (m.foldl B7 l)=tgt l+tgt m
 | [],l,hl,_,_=>by simp [hl,Ac,src,tgt]
 | p::m,l,hl,hm,hb=>by
  have hm':∀p∈m,Fine p:=λq hq=>hm q (by simp [hq])
  obtain ⟨g1,g2⟩:=PL hm';have b1:=hb.1;have b2:=hb.2;simp only [Df,Dg,src,tgt]at b1 b2;obtain ⟨h1,h2,h3,h4⟩:=Ab9 hl (hm p Z) ⟨by simp only [Df,src];omega,by simp only [Dg,tgt];omega⟩;rw [Alj];obtain ⟨k1,k2,k3,k4⟩:=U6 m (B7 l p) h1 hm' ⟨by rw [Df,h3];omega,by rw [Dg,h4];omega⟩;refine⟨k1,?_,?_,?_⟩
  .rw [k2,h2];simp [Ac]
  .rw [k3,h3];simp only [src];omega
  .rw [k4,h4];simp only [tgt];omega
theorem AbN {m:List Prt} (hm:∀p∈m,Fine p) (hb:AaY m):okk 0 (FZ m)=true/\Ac (FZ m)=Ac m/\src (FZ m)=src m/\tgt (FZ m)=tgt m:=by
 have:=U6 m [] rfl hm hb;simpa [FZ,Ac,src,tgt] using this
def hd:List Atom->Option Atom
 | []=>none
 | a::_=>some a
def ak:Atom->Int
 | .keep=>1
 | .drop=>2
 | .ins _=>3
theorem IW {p:Prt} (h:kd p≠0):∃a l,pa p=a::l/\ak a=kd p:=by
 rcases Dd h with⟨a,ha,rfl,k⟩ | ⟨a,ha,rfl,k⟩ | ⟨s,hs,rfl,k⟩
 .rw [FW O,k,(O:a.toNat=(a.toNat - 1)+1),AkP];exact⟨_,_,rfl,rfl⟩
 .rw [G5 O,k,(O:a.toNat=(a.toNat - 1)+1),AkP];exact⟨_,_,rfl,rfl⟩
 .rw [Ho,k];cases s with
  | nil=>exact absurd rfl hs
  | cons b s=>exact⟨_,_,rfl,rfl⟩
theorem Ab1 {p:Prt} (h:kd p≠0):∀a∈pa p,ak a=kd p:=by
 rcases Dd h with⟨a,ha,rfl,k⟩ | ⟨a,ha,rfl,k⟩ | ⟨s,hs,rfl,k⟩
 .rw [FW O,k];intro x hx;rw [Alt hx];rfl
 .rw [G5 O,k];intro x hx;rw [Alt hx];rfl
 .rw [Ho,k];intro x hx;obtain ⟨b,_,rfl⟩:=Aj9.1 hx;rfl
theorem Ag4 {p q:Prt} (hp:kd p≠0) (hq:kd q≠0) (h:pa p=pa q):p=q:=by
 obtain ⟨a,l,e1,k1⟩:=IW hp;obtain ⟨b,m,e2,k2⟩:=IW hq;have hk:kd p=kd q:=by
  rw [e1,e2]at h;injection h with h _
  rw [<- k1,<- k2,h]
 rcases Dd hp with⟨a,ha,rfl,j1⟩ | ⟨a,ha,rfl,j1⟩ | ⟨a,ha,rfl,j1⟩ <;> rcases Dd hq with⟨b,hb,rfl,j2⟩ | ⟨b,hb,rfl,j2⟩ | ⟨b,hb,rfl,j2⟩ <;> try (rw [j1,j2]at hk;omega)
 .rw [FW O,FW O]at h;have:=congrArg List.length h;simp only [AkY]at this;rw [(O:a=b)]
 .rw [G5 O,G5 O]at h;have:=congrArg List.length h;simp only [AkY]at this;rw [(O:a=b)]
 .rw [Ho,Ho]at h;have:a=b:=by
   have hi:∀x y:List UInt8,x.map Atom.ins=y.map Atom.ins->x=y:=by
    intro x
    induction x with
    | nil=>intro y hy;cases y with
     | nil=>rfl
     | cons=>simp at hy
    | cons u x ih=>intro y hy;cases y with
     | nil=>simp at hy
     | cons v y=>
      simp only [Akw,AlW,Atom.ins.injEq]at hy;rw [hy.1,ih y hy.2]
   exact hi a b h
  rw [this]
theorem AcH {k:Int}:∀(x y r t:List Atom),(∀a∈x,ak a=k)->(∀a∈y,ak a=k)->(∀a,hd r=some a->ak a≠k)->(∀a,hd t=some a->ak a≠k)->x++r=y++t->x=y/\r=t
 | [],[],r,t,_,_,_,_,h=>⟨rfl,h⟩
 | [],b::y,r,t,_,hy,hr,_,h=>by
  exfalso;simp only [Akm]at h;rw [h]at hr;exact hr b rfl (hy b Z)
 | a::x,[],r,t,hx,_,_,ht,h=>by
  exfalso;simp only [Akm]at h;rw [<- h]at ht;exact ht a rfl (hx a Z)
 | a::x,b::y,r,t,hx,hy,hr,ht,h=>by
  simp only [AkB,AlW]at h;obtain ⟨h1,h2⟩:=h;obtain ⟨h3,h4⟩:=AcH x y r t (λa h=>hx a (by simp [h])) (λa h=>hy a (by simp [h])) hr ht h2;exact⟨by rw [h1,h3],h4⟩
theorem Wn {k:Int} {c:List Prt} (h:okk k c=true):∀a,hd (Ac c)=some a->ak a≠k:=by
 intro a ha;cases c with
 | nil=>cases ha
 | cons p c=>
  simp only [okk,AjT,Aj0,decide_eq_false_iff_not]at h;obtain ⟨b,l,e,k1⟩:=IW h.1.1;have e2:Ac (p::c)=b::(l++Ac c):=by show pa p++Ac c=_;rw [e];rfl
  rw [e2]at ha;injection ha with ha
  rw [<- ha,k1];exact h.1.2
theorem Ma:∀{k j:Int} {c d:List Prt},okk k c=true->okk j d=true->Ac c=Ac d->c=d
 | k,j,[],[],_,_,_=>rfl
 | k,j,[],q::d,_,hd',h=>by
  exfalso;simp only [okk,AjT,Aj0,decide_eq_false_iff_not]at hd';obtain ⟨b,l,e,_⟩:=IW hd'.1.1;have:Ac (q::d)=b::(l++Ac d):=by show pa q++Ac d=_;rw [e];rfl
  rw [this]at h;cases h
 | k,j,p::c,[],hc,_,h=>by
  exfalso;simp only [okk,AjT,Aj0,decide_eq_false_iff_not]at hc;obtain ⟨b,l,e,_⟩:=IW hc.1.1;have:Ac (p::c)=b::(l++Ac c):=by show pa p++Ac c=_;rw [e];rfl
  rw [this]at h;cases h
 | k,j,p::c,q::d,hc,hd',h=>by
  simp only [okk,AjT,Aj0,decide_eq_false_iff_not]at hc hd';obtain ⟨⟨c1,c2⟩,c3⟩:=hc;obtain ⟨⟨d1,d2⟩,d3⟩:=hd';have e1:Ac (p::c)=pa p++Ac c:=rfl;have e2:Ac (q::d)=pa q++Ac d:=rfl;rw [e1,e2]at h;have hk:kd p=kd q:=by
   obtain ⟨a,l,f1,k1⟩:=IW c1;obtain ⟨b,m,f2,k2⟩:=IW d1;rw [f1,f2]at h;injection h with h _
   rw [<- k1,<- k2,h]
  obtain ⟨h1,h2⟩:=AcH (k:=kd p) _ _ _ _ (Ab1 c1) (λa ha=>by rw [hk];exact Ab1 d1 a ha) (Wn c3) (by rw [hk];exact Wn d3) h;rw [Ag4 c1 d1 h1,Ma c3 d3 h2]
end Go.V.G
set_option maxRecDepth 100000
namespace Go.V.G
open Go.V
def comp:List Atom->List Atom->List Atom
 | x,.ins b::y=>.ins b::comp x y
 | .drop::x,[]=>.drop::comp x []
 | .drop::x,.keep::y=>.drop::comp x (.keep::y)
 | .drop::x,.drop::y=>.drop::comp x (.drop::y)
 | .ins b::x,.keep::y=>.ins b::comp x y
 | .ins _::x,.drop::y=>comp x y
 | .keep::x,.keep::y=>.keep::comp x y
 | .keep::x,.drop::y=>.drop::comp x y
 | _,_=>[]
termination_by x y=>x.length+y.length
def ap:List Atom->List UInt8->List UInt8
 | .ins b::l,t=>b::ap l t
 | .keep::l,c::t=>c::ap l t
 | .drop::l,_::t=>ap l t
 | _,_=>[]
def nS:List Atom->Nat
 | []=>0
 | .ins _::l=>nS l
 | .keep::l=>nS l+1
 | .drop::l=>nS l+1
def nT:List Atom->Nat
 | []=>0
 | .ins _::l=>nT l+1
 | .keep::l=>nT l+1
 | .drop::l=>nT l
theorem CO:∀l:List Atom,nS l=(Ap l).length
 | []=>rfl
 | .ins _::l=>CO l
 | .keep::l=>by simp [nS,Ap,CO l]
 | .drop::l=>by simp [nS,Ap,CO l]
theorem HE:∀l:List Atom,nT l=Dp l+nK l
 | []=>rfl
 | .ins _::l=>by simp only [nT,Dp,nK,HE l];omega
 | .keep::l=>by simp only [nT,Dp,nK,HE l];omega
 | .drop::l=>by simp only [nT,Dp,nK,HE l]
theorem O9:∀(l:List Atom) (t:List UInt8),nS l=t.length->(ap l t).length=nT l
 | [],t,_=>by cases t <;> simp [ap,nT]
 | .ins b::l,t,h=>by simp only [ap,nT,Aj1];rw [O9 l t h]
 | .keep::l,c::t,h=>by simp only [ap,nT,Aj1];rw [O9 l t (by simpa [nS] using h)]
 | .drop::l,c::t,h=>by simp only [ap,nT];rw [O9 l t (by simpa [nS] using h)]
 | .keep::l,[],h=>by simp [nS]at h
 | .drop::l,[],h=>by simp [nS]at h
end Go.V.G
set_option maxRecDepth 100000
namespace Go.V.G
open Go.V
def Ah6:Option (Bool×Bool)->List Prt
 | some (true,true)=>[(1,0,[])]
 | some (false,true)=>[(0,1,[])]
 | _=>[]
def gap (first:Bool) (p q:List UInt8) (st:Option (Bool×Bool)):List Prt:=
 (if first=true then [(0,0,p),((q.length:Int),0,[])]else [((q.length:Int),0,[]),(0,0,p)])++Ah6 st
def AgX (first:Bool):List Bool->List (List UInt8)->List Bool->List (List UInt8)->List Prt
 | [],p::_,_,q::_=>gap first p q none
 | sx::Sx,p::Px,sy::Sy,q::Py=>gap first p q (some (sx,sy))++AgX first Sx Px Sy Py
 | _,_,_,_=>[]
theorem Br (l:List Atom):∃p ps,Aj l=p::ps/\ps.length=(Ap l).length:=by
 have h:=Es l
 match hp:Aj l,GK l with
 | p::ps,_=>rw [hp]at h;exact⟨p,ps,rfl,by simpa using h⟩
def rest (first:Bool) (Sx:List Bool) (Px:List (List UInt8)) (Sy:List Bool) (Py:List (List UInt8)) (k:Nat):List Prt:=AgX first (Sx.drop k) (Px.drop k) (Sy.drop k) (Py.drop k)
structure Rows (Sx:List Bool) (Px:List (List UInt8)) (Sy:List Bool) (Py:List (List UInt8)):Prop where
 s:Sx.length=Sy.length
 x:Px.length=Sx.length+1
 y:Py.length=Sy.length+1
 n:Sx.length<=1000
 px:∀p∈Px,p.length<=1000
 py:∀p∈Py,p.length<=1000
theorem one_I:I64 1/\I64 0:=by unfold I64;omega
end Go.V.G
set_option maxRecDepth 100000
namespace Go.V.G
open Go.V
theorem MM {c:List Prt} (h:∀p∈c,Some1 p):src c=(nS (Ac c):Int):=by rw [<- Id h,CO]
theorem Ik {c:List Prt} (h:∀p∈c,Some1 p):tgt c=(nT (Ac c):Int):=by rw [UJ h,HE]
theorem Aiv (p:Prt):nS (pa p)=(p.1+p.2.1).toNat:=by rw [CO,Nn,AkY]
theorem WL:∀{l:List Prt},(∀p∈l,Fine p)->src l=(nS (Ac l):Int)
 | [],_=>rfl
 | p::l,h=>by
  have ih:=WL (l:=l) λq hq=>h q (by simp [hq])
  have e:∀a b:List Atom,nS (a++b)=nS a+nS b:=λa b=>by rw [CO,CO,CO,CY,AjU]
  show p.1+p.2.1+src l=(nS (pa p++Ac l):Int)
  have:=QM (h p Z);rw [e,ih,Aiv];omega
theorem AcG (a b:List Atom):nT (a++b)=nT a+nT b:=by rw [HE,HE,HE,Ev,H8];omega
theorem XC:∀{l:List Prt},(∀p∈l,Fine p)->tgt l=(nT (Ac l):Int)
 | [],_=>rfl
 | p::l,h=>by
  have ih:=XC (l:=l) λq hq=>h q (by simp [hq])
  show p.1+(p.2.2.length:Int)+tgt l=(nT (pa p++Ac l):Int)
  rw [AcG,ih];rcases h p Z with rfl | hk
  .simp [MP,nT]
  .have:=Ik (c:=[p]) (λq hq=>by rw [AjX.1 hq];exact Jf hk);have e:Ac [p]=pa p:=by simp [Ac]
   rw [e]at this;simp only [tgt]at this;omega
def apply (t:List UInt8) (c:List Prt):List UInt8:=ap (Ac c) t
theorem L8:∀(x y:List Atom) (t:List UInt8),nS x<=t.length->ap (x++y) t=ap x (t.take (nS x))++ap y (t.drop (nS x))
 | [],y,t,_=>by cases t <;> simp [ap,nS]
 | .ins b::x,y,t,h=>by simp only [AkB,ap,nS];rw [L8 x y t h]
 | .keep::x,y,c::t,h=>by
  simp only [AkB,ap,nS,List.take_succ_cons,AlM];rw [L8 x y t (by simpa [nS] using h)]
 | .drop::x,y,c::t,h=>by
  simp only [AkB,ap,nS,List.take_succ_cons,AlM];rw [L8 x y t (by simpa [nS] using h)]
 | .keep::x,y,[],h=>by simp [nS]at h
 | .drop::x,y,[],h=>by simp [nS]at h
theorem Ahf (s:List UInt8):ap (s.map Atom.ins) []=s:=by
 induction s with
 | nil=>rfl
 | cons b s ih=>simp [ap,ih]
theorem Zq:∀(n:Nat) (t:List UInt8),t.length=n->ap (List.replicate n .keep) t=t
 | 0,[],_=>rfl
 | n+1,c::t,h=>by rw [AkP];simp only [ap];rw [Zq n t (by simpa using h)]
theorem Aaj:∀(n:Nat) (t:List UInt8),t.length=n->ap (List.replicate n .drop) t=[]
 | 0,[],_=>rfl
 | n+1,c::t,h=>by rw [AkP];simp only [ap];rw [Aaj n t (by simpa using h)]
theorem Aip {p:Prt} (h:kd p≠0) (t:List UInt8) (ht:t.length=(p.1+p.2.1).toNat):ap (pa p) t=t.take p.1.toNat++p.2.2:=by
 rcases Dd h with⟨a,ha,rfl,_⟩ | ⟨a,ha,rfl,_⟩ | ⟨s,hs,rfl,_⟩
 .simp only [Int.add_zero]at ht;rw [FW O,Zq _ t ht,Aj2,AkA AjL]
 .simp only [Int.zero_add]at ht;rw [G5 O,Aaj _ t ht];simp
 .have:t=[]:=Akb (by simpa using ht);subst this;rw [Ho,Ahf];simp
theorem SI {c:List Prt} (hg:AG c=true) {t:List UInt8} (ht:(t.length:Int)=src c):M0 t c=some (apply t c):=by
 have hs:=Bf (Aq hg).1;have sm:=C5 hg;have sle:=(Aq hg).2.1;have hlen:c.length<=1099511627776:=by have:=sm.len;omega
 unfold M0;have:Ab GG (t,([]:List UInt8),0,c,(List.length c:Int),0)=some (apply t c):=by
  have:=An GG (λk=>(t,ap (Ac (c.take k)) (t.take (nS (Ac (c.take k)))),src (c.take k),c,(List.length c:Int),((k:Nat):Int))) c.length (apply t c) (by
   intro i hlt;have p1:=hs _ (Akc hlt);have k0:=p1.k;have d0:=p1.d;have a1:=K8 hlt;have n1:=Bq (l:=c.take i) λp h=>hs p (C9 h)
   have n3:=Bq (l:=c.drop (i+1)) λp h=>hs p (CQ h)
   have psm:=ID hg (Akc hlt);have e0:=MM (c:=c.take i) λp h=>hs p (C9 h)
   have hi:(i:Int) < (List.length c:Int):=O
   have w1:IntKind.wrap .i64 (src (c.take i)+c[i].1)=src (c.take i)+c[i].1:=w64 O O;have w2:IntKind.wrap .i64 (c[i].1+c[i].2.1)=c[i].1+c[i].2.1:=w64 O O;have w3:IntKind.wrap .i64 (src (c.take i)+(c[i].1+c[i].2.1))=src (c.take i)+(c[i].1+c[i].2.1):=w64 O O;have g1:src (c.take i)<=src (c.take i)+c[i].1:=O
   have g2:src (c.take i)+c[i].1<=(List.length t:Int):=O
   have hnt:nS (Ac (c.take i))+(c[i].1+c[i].2.1).toNat<=t.length:=O
   have al:=O9 (Ac (c.take i)) (t.take (nS (Ac (c.take i)))) (by rw [AjW];omega);have tn:=Ik (c:=c.take i) λp h=>hs p (C9 h)
   have t3:=Po hlt;have t4:=Ck (l:=c.drop (i+1)) λp h=>hs p (CQ h)
   have tle:=(Aq hg).2.2;have hout:ap (Ac (c.take (i+1))) (t.take (nS (Ac (c.take (i+1)))))=ap (Ac (c.take i)) (t.take (nS (Ac (c.take i))))++(((t.drop (Int.toNat (src (c.take i)))).take (Int.toNat (src (c.take i)+c[i].1) - Int.toNat (src (c.take i))))++c[i].2.2):=by
    have e1:nS (Ac (c.take (i+1)))=nS (Ac (c.take i))+(c[i].1+c[i].2.1).toNat:=by
     rw [Ke hlt,CO,CY,AjU,<- CO,Nn,AkY]
    rw [e1,Ke hlt,L8 _ _ _ (by rw [AjW];omega),List.take_take,Al5 O]
    congr 1
    rw [List.drop_take,(O:nS (Ac (c.take i))+(c[i].1+c[i].2.1).toNat - nS (Ac (c.take i))=(c[i].1+c[i].2.1).toNat),
     Aip p1.ne _ (by rw [AjW,Akf];omega),List.take_take,Al5 O]
    rw [(O:Int.toNat (src (c.take i))=nS (Ac (c.take i))),(O:Int.toNat (src (c.take i)+c[i].1) - nS (Ac (c.take i))=c[i].1.toNat)]
   have r1:List.length ((t.drop (Int.toNat (src (c.take i)))).take (Int.toNat (src (c.take i)+c[i].1) - Int.toNat (src (c.take i))))+List.length c[i].2.2<=9223372036854775807:=by
    rw [AjW,Akf];omega
   have r2:List.length (ap (Ac (c.take i)) (t.take (nS (Ac (c.take i)))))+List.length ((((t:List UInt8).drop (Int.toNat (src (c.take i)))).take (Int.toNat (src (c.take i)+c[i].1) - Int.toNat (src (c.take i))):List UInt8)++c[i].2.2)<=9223372036854775807:=by
    rw [AjU,AjW,Akf,al];omega
   unfold GG cK gX sX wI;simp only [hi,show(0:Int)<=(i:Int) from by omega,decide_true,Akh,AjO,AjP hlt,AjM,w1,w2,w3,n1,g1,g2,AkZ,r1,r2,Ax hlen hlt,hout,NN hlt]) (by
   have e:nS (Ac c)=t.length:=by have:=MM hs;omega
   simp only [AkC];rw [e,AkC];simp [GG,cK,gX,sX,wI,apply])
  simpa [Ac,ap,src,nS] using this
 rw [this];rfl
end Go.V.G
set_option maxRecDepth 100000
namespace Go.V.G
open Go.V
def By:List Bool->List (List UInt8)->List Prt
 | [],p::_=>[(0,0,p)]
 | s::S,p::P=>(0,0,p)::(if s=true then(1,0,[])else(0,1,[]))::By S P
 | _,[]=>[]
theorem QG:∀(S:List Bool) (P:List (List UInt8)),∀r∈By S P,Fine r
 | [],[],r,h=>by cases h
 | [],p::_,r,h=>by rw [AjX.1 h];exact Fine.put _
 | _::_,[],r,h=>by cases h
 | s::S,p::P,r,h=>by
  rcases Aj5.1 h with rfl | h
  .exact Fine.put _
  rcases Aj5.1 h with rfl | h
  .cases s
   .exact Fine.drop O
   .exact Fine.keep O
  .exact QG S P r h
theorem Y6 (b:UInt8) {S:List Bool} {p:List UInt8} {P:List (List UInt8)}:Ac (By S ((b::p)::P))=.ins b::Ac (By S (p::P)):=by
 cases S with
 | nil=>simp [By,Ac,Ho]
 | cons s S=>simp [By,Ac,Ho]
theorem IB:∀l:List Atom,Ac (By (Ap l) (Aj l))=l
 | []=>by simp [By,Ap,Aj,Ac,MP]
 | .ins b::l=>by
  obtain ⟨p,ps,e,_⟩:=Br l;have ih:=IB l;show Ac (By (Ap l) (Bh b (Aj l)))=_;rw [e]at ih ⊢;show Ac (By (Ap l) ((b::p)::ps))=_;rw [Y6,ih]
 | .keep::l=>by
  have ih:=IB l;show pa (0,0,[])++(pa (1,0,[])++Ac (By (Ap l) (Aj l)))=_;rw [ih,MP,FW O];rfl
 | .drop::l=>by
  have ih:=IB l;show pa (0,0,[])++(pa (0,1,[])++Ac (By (Ap l) (Aj l)))=_;rw [ih,MP,G5 O];rfl
def inn:List Bool->List (List UInt8)->List UInt8->List UInt8
 | sc::Sc,_::q::Pc,b::s=>(if sc=true then [b]else [])++q++inn Sc (q::Pc) s
 | _,_,_=>[]
def Bv:List UInt8->List Bool->List (List UInt8)->List Bool->List (List UInt8)->List Bool×List (List UInt8)
 | be,sb::Sb,p::Pb,Sc,Pc=>
  if sb=true then
   let r:=Bv ((Pc.drop p.length).getD 1 []) Sb Pb ((Sc.drop p.length).drop 1) ((Pc.drop p.length).drop 1)
   ((Sc.drop p.length).getD 0 false::r.1,(be++inn Sc Pc p)::r.2)
  else
   let r:=Bv [] Sb Pb (Sc.drop p.length) (Pc.drop p.length)
   (false::r.1,(be++inn Sc Pc p)::r.2)
 | be,_,p::_,Sc,Pc=>([],[be++inn Sc Pc p])
 | _,_,[],_,_=>([],[])
def Dk:List Atom->List Atom
 | .ins _::l=>Dk l
 | l=>l
theorem Jp:∀l,Ap (Dk l)=Ap l
 | []=>rfl
 | .ins _::l=>Jp l
 | .keep::_=>rfl
 | .drop::_=>rfl
theorem Ri (l:List Atom):nS (Dk l)=nS l:=by rw [CO,CO,Jp]
theorem IM:∀l,Aj (Dk l)=[]::(Aj l).tail
 | []=>rfl
 | .ins b::l=>by
  obtain ⟨p,ps,e,_⟩:=Br l;show Aj (Dk l)=[]::(Bh b (Aj l)).tail;rw [IM l,e];rfl
 | .keep::_=>rfl
 | .drop::_=>rfl
theorem G7 (x:List Atom):∀y,comp x y=((Aj y).headD []).map Atom.ins++comp x (Dk y)
 | []=>rfl
 | .ins b::y=>by
  obtain ⟨p,ps,e,_⟩:=Br y;have ih:=G7 x y;rw [comp];show .ins b::comp x y=((Bh b (Aj y)).headD []).map Atom.ins++comp x (Dk y);rw [ih,e];rfl
 | .keep::_=>rfl
 | .drop::_=>rfl
theorem HK (q:List UInt8) (l:List Atom):Aj (q.map Atom.ins++l)=(q++(Aj l).headD [])::(Aj l).tail:=by
 obtain ⟨p,ps,e,_⟩:=Br l
 induction q with
 | nil=>rw [AlO,Akm,e];rfl
 | cons b q ih=>
  show Bh b (Aj (q.map Atom.ins++l))=_;rw [ih];rfl
theorem GF (q:List UInt8) (l:List Atom):Ap (q.map Atom.ins++l)=Ap l:=by rw [CY,OD];rfl
theorem MU:∀(Sc:List Bool) (Pc:List (List UInt8)),inn Sc Pc []=[]
 | [],_=>by simp [inn]
 | _::_,[]=>by simp [inn]
 | _::_,[_]=>by simp [inn]
 | _::_,_::_::_=>by simp [inn]
theorem Ji {sc:Bool} {Sc:List Bool} {r q:List UInt8} {Pc:List (List UInt8)} {b:UInt8} {s:List UInt8}:inn (sc::Sc) (r::q::Pc) (b::s)=(if sc=true then [b]else [])++q++inn Sc (q::Pc) s:=by rw [inn]
theorem Yd (be:List UInt8) (b:UInt8) {Sb:List Bool} {p:List UInt8} {Pb:List (List UInt8)} {sc:Bool} {Sc:List Bool} {r q:List UInt8} {Pc:List (List UInt8)} :
  Bv be Sb ((b::p)::Pb) (sc::Sc) (r::q::Pc)=Bv (be++(if sc=true then [b]else [])++q) Sb (p::Pb) Sc (q::Pc):=by
 cases Sb with
 | nil=>
  simp only [Bv,Ji,AjY]
 | cons sb Sb=>
  simp only [Bv,Ji,AjY,Aj1,AlM]
def front (be:List UInt8) (l:List Atom):List Bool×List (List UInt8):=(Ap l,(be++(Aj l).headD [])::(Aj l).tail)
theorem UN (be q:List UInt8) (l:List Atom):front be (q.map Atom.ins++l)=front (be++q) l:=by
 unfold front;rw [GF,HK];simp
theorem Ku:∀(x:List Atom) (be:List UInt8) (y:List Atom),nT x=nS y->Bv be (Ap x) (Aj x) (Ap y) (Aj y)=front be (comp x (Dk y))
 | [],be,y,h=>by
  have:Dk y=[]:=by
   have hn:nS (Dk y)=0:=by rw [Ri];exact h.symm
   match hs:Dk y with
   | []=>rfl
   | .ins b::l=>
    exfalso;have:=IM y;rw [hs]at this;obtain ⟨p,ps,e,_⟩:=Br l;simp only [Aj,e,Bh]at this;injection this with h1 _
    cases h1
   | .keep::l=>rw [hs]at hn;simp [nS]at hn
   | .drop::l=>rw [hs]at hn;simp [nS]at hn
  rw [this];simp [comp,front,Ap,Aj,Bv,inn]
 | .ins b::x,be,y,h=>by
  obtain ⟨p,ps,e,_⟩:=Br x;have hs:=Jp y;have hp:=IM y;have hn:nS (Dk y)=nT x+1:=by rw [Ri];exact h.symm
  have hpl:Aj y=(Aj y).headD []::(Aj y).tail:=by obtain ⟨a,as,e2,_⟩:=Br y;rw [e2];rfl
  match hy:Dk y,hn with
  | .ins c::l,_=>
   exfalso;rw [hy]at hp;obtain ⟨p',ps',e',_⟩:=Br l;simp only [Aj,e',Bh]at hp;injection hp with h1 _
   cases h1
  | [],hn=>simp [nS]at hn
  | .keep::l,hn=>
   rw [hy]at hs hp;simp only [Ap,Aj]at hs hp;injection hp with _ hp
   obtain ⟨q,qs,e3,_⟩:=Br l;have ih:=Ku x (be++[b]++q) l (by simpa [nS] using hn.symm);rw [comp];show Bv be (Ap x) (Bh b (Aj x)) (Ap y) (Aj y)=_;rw [<- hs,hpl,<- hp,e,e3];show Bv be (Ap x) ((b::p)::ps) (true::Ap l) (_::q::qs)=_;rw [Yd,AjS rfl,<- e3,<- e,ih];show _=front be (.ins b::comp x l);rw [G7 x l,e3];rw [show(Atom.ins b::(List.map Atom.ins ((q::qs).headD [])++comp x (Dk l)))=(b::q).map Atom.ins++comp x (Dk l) from rfl,UN];simp
  | .drop::l,hn=>
   rw [hy]at hs hp;simp only [Ap,Aj]at hs hp;injection hp with _ hp
   obtain ⟨q,qs,e3,_⟩:=Br l;have ih:=Ku x (be++[]++q) l (by simpa [nS] using hn.symm);rw [comp];show Bv be (Ap x) (Bh b (Aj x)) (Ap y) (Aj y)=_;rw [<- hs,hpl,<- hp,e,e3];show Bv be (Ap x) ((b::p)::ps) (false::Ap l) (_::q::qs)=_;rw [Yd,AjR Z,<- e3,<- e,ih];rw [G7 x l,e3,show((q::qs).headD [])=q from rfl,UN];simp
 | .keep::x,be,y,h=>by
  have hs:=Jp y;have hp:=IM y;have hn:nS (Dk y)=nT x+1:=by rw [Ri];exact h.symm
  have hpl:Aj y=(Aj y).headD []::(Aj y).tail:=by obtain ⟨a,as,e2,_⟩:=Br y;rw [e2];rfl
  match hy:Dk y,hn with
  | .ins c::l,_=>
   exfalso;rw [hy]at hp;obtain ⟨p',ps',e',_⟩:=Br l;simp only [Aj,e',Bh]at hp;injection hp with h1 _
   cases h1
  | [],hn=>simp [nS]at hn
  | .keep::l,hn=>
   rw [hy]at hs hp;simp only [Ap,Aj]at hs hp;injection hp with _ hp
   obtain ⟨q,qs,e3,_⟩:=Br l;have ih:=Ku x q l (by simpa [nS] using hn.symm);rw [comp];show Bv be (true::Ap x) ([]::Aj x) (Ap y) (Aj y)=_;rw [<- hs,hpl,<- hp,e3];simp only [Bv,Akh,Akl,AkR,List.getD_cons_zero,List.getD_cons_succ,AlM,inn,Aj2];rw [<- e3,ih];unfold front;simp only [Ap,Aj,List.headD_cons,List.tail_cons,Aj2];rw [G7 x l,e3,GF,HK];simp
  | .drop::l,hn=>
   rw [hy]at hs hp;simp only [Ap,Aj]at hs hp;injection hp with _ hp
   obtain ⟨q,qs,e3,_⟩:=Br l;have ih:=Ku x q l (by simpa [nS] using hn.symm);rw [comp];show Bv be (true::Ap x) ([]::Aj x) (Ap y) (Aj y)=_;rw [<- hs,hpl,<- hp,e3];simp only [Bv,Akh,Akl,AkR,List.getD_cons_zero,List.getD_cons_succ,AlM,inn,Aj2];rw [<- e3,ih];unfold front;simp only [Ap,Aj,List.headD_cons,List.tail_cons,Aj2];rw [G7 x l,e3,GF,HK];simp
 | .drop::x,be,y,h=>by
  have ih:=Ku x [] y h;have hc:comp (.drop::x) (Dk y)=.drop::comp x (Dk y):=by
   match hy:Dk y with
   | .ins c::l=>
    exfalso;have hp:=IM y;rw [hy]at hp;obtain ⟨p',ps',e',_⟩:=Br l;simp only [Aj,e',Bh]at hp;injection hp with h1 _
    cases h1
   | []=>rw [comp]
   | .keep::l=>rw [comp]
   | .drop::l=>rw [comp]
  rw [hc];show Bv be (false::Ap x) ([]::Aj x) (Ap y) (Aj y)=_;simp only [Bv,Aj4,Aku,Akl,AkR,MU,Aj2];rw [ih];unfold front;simp only [Ap,Aj,List.headD_cons,List.tail_cons,Aj2,Akm];obtain ⟨a,as,e2,_⟩:=Br (comp x (Dk y));rw [e2];rfl
theorem UR (x y:List Atom) (h:nT x=nS y):Bv ((Aj y).headD []) (Ap x) (Aj x) (Ap y) (Aj y)=(Ap (comp x y),Aj (comp x y)):=by
 rw [Ku x _ y h,G7 x y,GF,HK];rfl
end Go.V.G
set_option maxRecDepth 100000
namespace Go.V.G
open Go.V
def tot (P:List (List UInt8)):Nat:=(P.map List.length).sum
theorem Gt (p:List UInt8) (P:List (List UInt8)):tot (p::P)=p.length+tot P:=by simp [tot]
theorem Xv (P:List (List UInt8)):∀n,tot (P.drop n)<=tot P:=by
 induction P with
 | nil=>intro n;simp [tot]
 | cons p P ih=>
  intro n;cases n with
  | zero=>simp
  | succ n=>rw [AlM,Gt];have:=ih n;omega
theorem M5:∀{P:List (List UInt8)} {p:List UInt8},p∈P->p.length<=tot P
 | q::P,p,h=>by
  rw [Gt];rcases Aj5.1 h with rfl | h
  .omega
  .have:=M5 h;omega
def NY:List Bool->Nat
 | []=>0
 | b::l=>(if b=true then 1 else 0)+NY l
def rem (S:List Bool) (P:List (List UInt8)):Nat:=tot P+NY S
theorem KO:∀l:List Atom,tot (Aj l)=Dp l
 | []=>rfl
 | .ins b::l=>by
  obtain ⟨p,ps,e,_⟩:=Br l;have ih:=KO l;show tot (Bh b (Aj l))=Dp l+1;rw [e]at ih ⊢;simp only [Bh,Gt,Aj1]at ih ⊢;omega
 | .keep::l=>by show tot ([]::Aj l)=Dp l;rw [Gt,KO l];simp
 | .drop::l=>by show tot ([]::Aj l)=Dp l;rw [Gt,KO l];simp
theorem Jr:∀l:List Atom,NY (Ap l)=nK l
 | []=>rfl
 | .ins _::l=>Jr l
 | .keep::l=>by show 1+NY (Ap l)=nK l+1;rw [Jr l];omega
 | .drop::l=>by show 0+NY (Ap l)=nK l;rw [Jr l];omega
theorem Ah0 (l:List Atom):rem (Ap l) (Aj l)=nT l:=by rw [rem,KO,Jr,HE]
theorem Tk:∀(Sc:List Bool) (Pc:List (List UInt8)) (s:List UInt8),(inn Sc Pc s).length<=s.length+tot Pc.tail
 | [],_,s=>by simp [inn]
 | _::_,[],s=>by simp [inn]
 | _::_,[_],s=>by simp [inn]
 | _::_,_::_::_,[]=>by rw [MU];simp
 | sc::Sc,r::q::Pc,b::s=>by
  have ih:=Tk Sc (q::Pc) s;rw [Ji];simp only [AjU,Aj1,List.tail_cons,Gt]at ih ⊢;split <;> simp <;> omega
theorem Ru:∀(s:List UInt8) (Sc:List Bool) (Pc:List (List UInt8)) (b:UInt8) (h1:s.length < Sc.length) (h2:Pc.length=Sc.length+1),
  inn Sc Pc (s++[b])=inn Sc Pc s++((if Sc[s.length]=true then [b]else [])++Pc[s.length+1]' O)
 | [],sc::Sc,r::q::Pc,b,h1,h2=>by simp [Ji,MU]
 | [],sc::Sc,[],b,h1,h2=>by simp at h2
 | [],sc::Sc,[_],b,h1,h2=>by simp at h2
 | [],[],_,b,h1,h2=>by simp at h1
 | a::s,[],_,b,h1,h2=>by simp at h1
 | a::s,sc::Sc,[],b,h1,h2=>by simp at h2
 | a::s,sc::Sc,[_],b,h1,h2=>by simp at h2
 | a::s,sc::Sc,r::q::Pc,b,h1,h2=>by
  have ih:=Ru s Sc (q::Pc) b (by simpa using h1) (by simpa using h2);rw [AkB,Ji,Ji,ih];simp [AjY]
structure CR (Sb:List Bool) (Pb:List (List UInt8)) (Sc:List Bool) (Pc:List (List UInt8)):Prop where
 x:Pb.length=Sb.length+1
 y:Pc.length=Sc.length+1
 r:rem Sb Pb=Sc.length
 n:Sb.length<=1000
 m:Sc.length<=1000
 py:tot Pc<=1000
theorem Aed {S:List Bool} {P:List (List UInt8)} (h:P.length=S.length+1) {g:Nat} (hg:g < P.length):rem (S.drop g) (P.drop g)=P[g].length+(if h:g < S.length then(if S[g]=true then 1 else 0)else 0)+rem (S.drop (g+1)) (P.drop (g+1)):=by
 rw [Aks hg];by_cases hs:g < S.length
 .rw [Aks hs,dif_pos hs];simp only [rem,Gt,NY];omega
 .rw [dif_neg hs,Alx (O:S.length<=g),Alx (O:S.length<=g+1)];simp only [rem,Gt,NY];omega
section
variable {Sb:List Bool} {Pb:List (List UInt8)} {Sc:List Bool} {Pc:List (List UInt8)} (h:CR Sb Pb Sc Pc)
include h
theorem So {t:Nat} {g n g2:Int} {s text:List UInt8} {oS:List Bool} {oP:List (List UInt8)} (hs:t+s.length<=Sc.length) (ht:text.length<=1000) :
  Ab F6 ((t:Int),g,s,text,Pb,n,g2,(List.length s:Int),0,Sb,Sc,Pc,oS,oP) =
   some (((t+s.length:Nat):Int),g,text++inn (Sc.drop t) (Pc.drop t) s,Pb,n,g2,Sb,Sc,Pc,oS,oP):=by
 obtain ⟨hx,hy,hr,hn,hm,hpy⟩:=h;have:=An F6 (λi=>(((t+i:Nat):Int),g,s,text++inn (Sc.drop t) (Pc.drop t) (s.take i),Pb,n,g2,(List.length s:Int),((i:Nat):Int),Sb,Sc,Pc,oS,oP)) s.length
  (((t+s.length:Nat):Int),g,text++inn (Sc.drop t) (Pc.drop t) s,Pb,n,g2,Sb,Sc,Pc,oS,oP) (by
   intro i hi;have hti:t+i < Sc.length:=O
   have htp:t+i+1 < Pc.length:=O
   have hl:(s.take i).length=i:=by rw [AjW];omega
   have sn:=Ru (s.take i) (Sc.drop t) (Pc.drop t) s[i] (by rw [hl,Akf];omega) (by rw [Akf,Akf];omega);rw [<- Akd hi]at sn;simp only [hl,List.getElem_drop]at sn;have il:=Tk (Sc.drop t) (Pc.drop t) (s.take i);have tl:tot (Pc.drop t).tail<=tot Pc:=by rw [List.tail_drop];exact Xv _ _
   have pq:(Pc[t+i+1]).length<=tot Pc:=M5 (Akc htp);have e1:IntKind.wrap .i64 (((i:Nat):Int)+1)=((i+1:Nat):Int):=Ax (n:=s.length) O hi;have e2:IntKind.wrap .i64 (((t+i:Nat):Int)+1)=((t+i+1:Nat):Int):=Ax (n:=Sc.length) O hti;have g0:(0:Int)<=((t+i:Nat):Int):=O
   have g1:((t+i:Nat):Int) < (List.length Sc:Int):=O
   have g2':(0:Int)<=((i:Nat):Int):=O
   have g3:((i:Nat):Int)<=((i+1:Nat):Int):=O
   have g4:((i+1:Nat):Int)<=(List.length s:Int):=O
   have g5:((i:Nat):Int) < (List.length s:Int):=O
   have g6:((t+i+1:Nat):Int) < (List.length Pc:Int):=O
   have g7:(0:Int)<=((t+i+1:Nat):Int):=O
   have cut:(s.drop i).take (i+1 - i)=[s[i]]:=by rw [(O:i+1 - i=1),Aks hi];rfl
   have b1:List.length (text++inn (Sc.drop t) (Pc.drop t) (s.take i))+List.length [s[i]]<=9223372036854775807:=by rw [AjU];simp only [AjZ];omega
   have b2:∀z:List UInt8,z.length<=1->List.length (text++inn (Sc.drop t) (Pc.drop t) (s.take i)++z)+List.length (Pc[t+i+1])<=9223372036854775807:=λz hz=>by rw [AjU,AjU];omega
   unfold F6 cK cZ sX wI;simp only [g0,g1,g2',g3,g4,g5,e1,e2,decide_true,Akh,AjO,Ake,AjP hti,AjM,AkZ,cut,b1];cases hb:Sc[t+i]with
   | true=>
    rw [hb,AjS rfl]at sn;have b3:=b2 [s[i]] Z;simp only [Akh,AjM,e1,e2,g6,g7,decide_true,AjO,AjP htp,b3];simp only [sn,AjY,Ak4]
   | false=>
    rw [hb,AjR Z]at sn;have b3:=b2 [] Z;rw [Aj2]at b3;simp only [Aj4,Aku,AjM,e1,e2,g6,g7,decide_true,Akh,AjO,AjP htp,b3];simp only [sn,AjY,Ak4,Akm]) (by
   simp only [AkC];simp [F6,cK,cZ,sX,wI])
 simpa [MU] using this
theorem Aan {g t:Nat} (hg:g < Pb.length) (be:List UInt8) (ht:t+rem (Sb.drop g) (Pb.drop g)=Sc.length) :
  t+Pb[g].length<=Sc.length/\(g=Sb.length->Bv be (Sb.drop g) (Pb.drop g) (Sc.drop t) (Pc.drop t)=([],[be++inn (Sc.drop t) (Pc.drop t) Pb[g]]))/\
  ∀h1:g < Sb.length,(Sb[g]=false->t+Pb[g].length+rem (Sb.drop (g+1)) (Pb.drop (g+1))=Sc.length/\Bv be (Sb.drop g) (Pb.drop g) (Sc.drop t) (Pc.drop t) =
    (false::(Bv [] (Sb.drop (g+1)) (Pb.drop (g+1)) (Sc.drop (t+Pb[g].length)) (Pc.drop (t+Pb[g].length))).1,(be++inn (Sc.drop t) (Pc.drop t) Pb[g])::(Bv [] (Sb.drop (g+1)) (Pb.drop (g+1)) (Sc.drop (t+Pb[g].length)) (Pc.drop (t+Pb[g].length))).2))/\
   (Sb[g]=true->t+Pb[g].length+1+rem (Sb.drop (g+1)) (Pb.drop (g+1))=Sc.length/\∃(h2:t+Pb[g].length < Sc.length) (h3:t+Pb[g].length+1 < Pc.length),Bv be (Sb.drop g) (Pb.drop g) (Sc.drop t) (Pc.drop t) =
    (Sc[t+Pb[g].length]::(Bv Pc[t+Pb[g].length+1] (Sb.drop (g+1)) (Pb.drop (g+1)) (Sc.drop (t+Pb[g].length+1)) (Pc.drop (t+Pb[g].length+1))).1,
     (be++inn (Sc.drop t) (Pc.drop t) Pb[g])::(Bv Pc[t+Pb[g].length+1] (Sb.drop (g+1)) (Pb.drop (g+1)) (Sc.drop (t+Pb[g].length+1)) (Pc.drop (t+Pb[g].length+1))).2)):=by
 obtain ⟨hx,hy,hr,hn,hm,hpy⟩:=h;have rd:=Aed hx hg;rw [rd]at ht;refine⟨O,λhe=>?_,λh1=>⟨λhb=>⟨?_,?_⟩,λhb=>⟨?_,?_⟩⟩⟩
 .subst he;rw [Alw,Aks hg];simp [Bv]
 .simp only [h1,hb,Aj4,Aku,dif_pos]at ht;omega
 .rw [Aks hg,Aks h1,hb];simp only [Bv,Aj4,Aku,Al2]
 .simp only [h1,hb,Akh,dif_pos]at ht;omega
 .simp only [h1,hb,Akh,dif_pos]at ht;have h2:t+Pb[g].length < Sc.length:=O
  have h3:t+Pb[g].length+1 < Pc.length:=O
  refine⟨h2,h3,?_⟩;rw [Aks hg,Aks h1,hb];simp only [Bv,Akh,Al2];have e1:(Sc.drop (t+Pb[g].length)).getD 0 false=Sc[t+Pb[g].length]:=by rw [Aks h2];rfl
  have e2:(Pc.drop (t+Pb[g].length)).getD 1 []=Pc[t+Pb[g].length+1]:=by
   rw [Aks O,Aks h3];rfl
  rw [e1,e2]
theorem SR (be:List UInt8) (hbe:be.length<=1000):Ab KI (0,be,Pb,(List.length Pb:Int),0,Sb,Sc,Pc,[],[])=some (Bv be Sb Pb Sc Pc):=by
 refine Ok.eq (Ok.loop (λy=>y.2.2.1=Pb/\y.2.2.2.1=(List.length Pb:Int)/\y.2.2.2.2.2.1=Sb/\y.2.2.2.2.2.2.1=Sc/\y.2.2.2.2.2.2.2.1=Pc/\∃t g:Nat,y.1=(t:Int)/\y.2.2.2.2.1=(g:Int)/\g < Pb.length/\
   y.2.1.length<=1000/\t+rem (Sb.drop g) (Pb.drop g)=Sc.length/\y.2.2.2.2.2.2.2.2.1.length=g/\y.2.2.2.2.2.2.2.2.2.length=g/\
   (y.2.2.2.2.2.2.2.2.1++(Bv y.2.1 (Sb.drop g) (Pb.drop g) (Sc.drop t) (Pc.drop t)).1,y.2.2.2.2.2.2.2.2.2++(Bv y.2.1 (Sb.drop g) (Pb.drop g) (Sc.drop t) (Pc.drop t)).2)=Bv be Sb Pb Sc Pc) (λy=>((List.length Pb:Int) - y.2.2.2.2.1).toNat)
  ⟨rfl,rfl,rfl,rfl,rfl,0,0,rfl,rfl,by rw [h.x];omega,hbe,by have:=h.r;simpa using this,rfl,rfl,Z⟩ ?_)
 rintro ⟨t',be',pb,n,g',sb,sc,pc,oS,oP⟩ ⟨e1,e2,e3,e4,e5,t,g,e6,e7,hg,hbe',hrem,hoS,hoP,hf⟩;dsimp only at e1 e2 e3 e4 e5 e6 e7 hbe' hoS hoP hf;subst e1 e2 e3 e4 e5 e6 e7;have hCR:=h;obtain ⟨hx,hy,hr,hn,hm,hpy⟩:=h;obtain ⟨c1,c2,c3⟩:=Aan hCR hg be' hrem;unfold KI cK cZ wI;dsimp only;refine Ok.yes (by simpa using hg) ?_;have r16:∀z:List UInt8,Aa (List.length oP+List.length [z]) 16=true:=λz=>Nr O O
 have r1:∀z:Bool,Aa (List.length oS+List.length [z]) 1=true:=λz=>Nr O O
 have hin:=So hCR (g:=(g:Int)) (n:=(List.length pb:Int)) (g2:=(g:Int)) (text:=be') (oS:=oS) (oP:=oP) c1 hbe';refine Ok.bind (Q:=λv=>match v with
   | .inl y=>∃t2 be2 oS2 oP2,y=(((t2:Nat):Int),be2,pb,(List.length pb:Int),(g:Int),sb,sc,pc,oS2,oP2)/\g+1 < pb.length/\List.length be2<=1000/\t2+rem (sb.drop (g+1)) (pb.drop (g+1))=sc.length/\List.length oS2=g+1/\List.length oP2=g+1/\
     (oS2++(Bv be2 (sb.drop (g+1)) (pb.drop (g+1)) (sc.drop t2) (pc.drop t2)).1,oP2++(Bv be2 (sb.drop (g+1)) (pb.drop (g+1)) (sc.drop t2) (pc.drop t2)).2)=Bv be sb pb sc pc
   | .inr z=>z=Bv be sb pb sc pc) ?_ ?_
 .refine Ok.yes Z (Ok.yes (by simpa using hg) (Ok.bind_eq (r:=pb[g]) (by simp [AjP hg]) (Ok.bind_eq hin (Ok.yes (r16 _) ?_))));dsimp only;refine Ok.ite (λhq=>?_) λhq=>?_
  .have he:g=sb.length:=by
    have:(g:Int)=(List.length sb:Int):=by simpa using hq
    omega
   rw [c2 he]at hf;exact Ok.mk (by rw [<- hf,Aj2])
  .have hks:g < sb.length:=by
    have:¬ (g:Int)=(List.length sb:Int):=by simpa using hq
    omega
   refine Ok.yes Z (Ok.yes (by simpa using hks) (Ok.bind_eq (r:=sb[g]) (by simp [AjP hks]) ?_));cases hb:sb[g]with
   | false=>
    obtain ⟨k1,k2⟩:=(c3 hks).1 hb;rw [k2]at hf;refine Ok.yes Z (Ok.yes (r1 _) (Ok.mk ⟨_,_,_,_,rfl,O,Z,k1,by simp [hoS],by simp [hoP],?_⟩));rw [<- hf];simp
   | true=>
    obtain ⟨k1,k2,k3,k4⟩:=(c3 hks).2 hb;rw [k4]at hf;have e9:IntKind.wrap .i64 (((t+pb[g].length:Nat):Int)+1)=((t+pb[g].length+1:Nat):Int):=Ax (n:=sc.length) O k2;have hq2:(pc[t+pb[g].length+1]).length<=tot pc:=M5 (Akc k3);rw [e9];refine Ok.no Z (Ok.yes (decide_eq_true O) (Ok.yes (decide_eq_true O) (Ok.bind_eq (r:=sc[t+pb[g].length]) (by rw [Ake,AjO];exact AjP k2) (Ok.yes (r1 _)
     (Ok.yes (decide_eq_true O) (Ok.yes (decide_eq_true O) (Ok.bind_eq (r:=pc[t+pb[g].length+1]) (by rw [Ake,AjO];exact AjP k3) (Ok.mk ⟨_,_,_,_,rfl,O,O,k1,by simp [hoS],by simp [hoP],?_⟩))))))))
    rw [<- hf];simp
 rintro (y | z) hv
 .obtain ⟨t2,be2,oS2,oP2,rfl,k1,k2,k3,k4,k5,k6⟩:=hv;dsimp only;have e9:IntKind.wrap .i64 ((g:Int)+1)=((g+1:Nat):Int):=Ax (n:=pb.length) O hg;rw [e9];exact Ok.mk ⟨⟨rfl,rfl,rfl,rfl,rfl,t2,g+1,rfl,rfl,k1,k2,k3,k4,k5,k6⟩,AjL⟩
 .exact Ok.mk hv
end
end Go.V.G
set_option maxRecDepth 100000
namespace Go.V.G
open Go.V
def stP (S:List Bool) (k:Nat):List Prt:=match S[k]? with
 | some true=>[(1,0,[])]
 | some false=>[(0,1,[])]
 | none=>[]
theorem Qt {S:List Bool} {P:List (List UInt8)} (h:P.length=S.length+1) {k:Nat} (hk:k < P.length):By (S.drop k) (P.drop k)=(0,0,P[k])::(stP S k++By (S.drop (k+1)) (P.drop (k+1))):=by
 rw [Aks hk];by_cases hs:k < S.length
 .rw [Aks hs];simp only [By,stP,AjP hs];cases S[k] <;> rfl
 .rw [Alx (O:S.length<=k),Alx (O:S.length<=k+1),Alx (O:P.length<=k+1)];simp [By,stP,Aka (O:S.length<=k)]
structure PR (S:List Bool) (P:List (List UInt8)):Prop where
 x:P.length=S.length+1
 n:S.length<=1000
 p:∀q∈P,q.length<=1000
theorem Acu (l:List Prt):B7 l (0,0,[])=l:=by simp [B7]
theorem AaU {S:List Bool} {P:List (List UInt8)} (h:PR S P):Ok (If S P) λz=>z=FZ (By S P)/\Sm 4004004 z:=by
 unfold If;refine Ok.bind (Q:=λz=>z=FZ (By S P)/\Sm 4004004 z) ?_ (λz hz=>Ok.mk hz);refine Ok.loop (λy=>y.1=P/\y.2.1=(List.length P:Int)/\y.2.2.2.1=S/\∃k:Nat,y.2.2.1=(k:Int)/\k<=P.length/\Sm (k * 4000) y.2.2.2.2.2/\(By (S.drop k) (P.drop k)).foldl B7 y.2.2.2.2.2=FZ (By S P)) (λy=>((List.length P:Int) - y.2.2.1).toNat)
  ⟨rfl,rfl,rfl,0,rfl,All _,Sm.nil _,rfl⟩ ?_
 rintro ⟨p1,n,k',s,p2,o⟩ ⟨e1,e2,e3,k,e4,hk,ho,hf⟩;dsimp only at e1 e2 e3 e4 ho hf;subst e1 e2 e3 e4;obtain ⟨hx,hn,hp⟩:=h;have z:=one_I.2;unfold LS gX wI;dsimp only;refine Ok.ite (λhc=>?_) λhc=>?_
 .have hlt:k < p1.length:=by simpa using hc
  have lp:=hp _ (Akc hlt);rw [Qt hx hlt,Alj,Alr]at hf;refine Ok.yes Z (Ok.bind_eq (r:=p1[k]) (by simp [AjP hlt]) ?_);refine Ok.bind (Q:=λv=>v=((k:Int),p1,(List.length p1:Int),(k:Int),s,p2,B7 o (0,0,p1[k]))) ?_ ?_
  .refine Ok.ite (λhq=>Ok.bind_eq (QW ho O 0 0 _ O) (Ok.mk rfl)) λhq=>Ok.mk ?_
   have:p1[k]=[]:=by simpa using hq
   rw [this,Acu]
  rintro _ rfl;dsimp only;have so:Sm (k * 4000+1000) (B7 o (0,0,p1[k])):=Kx ho ⟨z,z⟩ O AjL;refine Ok.bind (Q:=λv=>v=(p1,(List.length p1:Int),(k:Int),s,p2,(stP s k).foldl B7 (B7 o (0,0,p1[k])))) ?_ ?_
  .refine Ok.ite (λhq=>Ok.mk ?_) λhq=>?_
   .have:k=s.length:=by
     have:(k:Int)=(List.length s:Int):=by simpa using hq
     omega
    simp [stP,this]
   .have hks:k < s.length:=by
     have:¬ (k:Int)=(List.length s:Int):=by simpa using hq
     omega
    refine Ok.yes Z (Ok.bind_eq (r:=s[k]) (by simp [AjP hks]) ?_);refine Ok.bind (Q:=λv=>v=(p1,(List.length p1:Int),(k:Int),s,p2,(stP s k).foldl B7 (B7 o (0,0,p1[k])))) ?_ (λv hv=>Ok.mk hv);simp only [stP,AjP hks];cases s[k]with
    | true=>exact Ok.yes rfl (Ok.bind_eq (QW so O 1 0 [] Z) (Ok.mk rfl))
    | false=>exact Ok.no Z (Ok.bind_eq (QW so O 0 1 [] Z) (Ok.mk rfl))
  rintro _ rfl;dsimp only;have so4:Sm ((k+1) * 4000) ((stP s k).foldl B7 (B7 o (0,0,p1[k]))):=by
   unfold stP;split
   .exact Kx (p:=(1,0,[])) (C:=(k+1) * 4000) so ⟨one_I.1,z⟩ O AjJ
   .exact Kx (p:=(0,1,[])) (C:=(k+1) * 4000) so ⟨z,one_I.1⟩ O AjJ
   .exact so.mono O
  exact Ok.mk ⟨⟨rfl,rfl,rfl,k+1,Ax (n:=p1.length) O hlt,O,so4,hf⟩,by rw [Ax (n:=p1.length) O hlt];dsimp only;omega⟩
 .have:k=p1.length:=by
   have:¬ ((k:Int) < (List.length p1:Int)):=by simpa using hc
   omega
  subst this;refine Ok.mk ⟨?_,ho.mono O⟩;rw [<- hf,Alw,Alx (O:s.length<=p1.length)];rfl
theorem Aby {S:List Bool} {P:List (List UInt8)} (h:PR S P):Ok (Lw S P) λz=>z=FZ (By S P)/\Sm 4004004 z:=by
 unfold Lw;refine Ok.bind (Q:=λz=>z=FZ (By S P)/\Sm 4004004 z) ?_ (λz hz=>Ok.mk hz);refine Ok.loop (λy=>y.2.1=P/\y.2.2.1=(List.length P:Int)/\y.2.2.2.2.1=S/\∃k:Nat,y.2.2.2.1=(k:Int)/\k<=P.length/\Sm (k * 4000) y.1/\(By (S.drop k) (P.drop k)).foldl B7 y.1=FZ (By S P)) (λy=>((List.length P:Int) - y.2.2.2.1).toNat)
  ⟨rfl,rfl,rfl,0,rfl,All _,Sm.nil _,rfl⟩ ?_
 rintro ⟨o,p1,n,k',s,p2⟩ ⟨e1,e2,e3,k,e4,hk,ho,hf⟩;dsimp only at e1 e2 e3 e4 ho hf;subst e1 e2 e3 e4;obtain ⟨hx,hn,hp⟩:=h;have z:=one_I.2;unfold Pw gX wI;dsimp only;refine Ok.ite (λhc=>?_) λhc=>?_
 .have hlt:k < p1.length:=by simpa using hc
  have lp:=hp _ (Akc hlt);rw [Qt hx hlt,Alj,Alr]at hf;have so:Sm (k * 4000+1000) (B7 o (0,0,p1[k])):=Kx ho ⟨z,z⟩ O AjL;refine Ok.yes Z (Ok.bind_eq (r:=p1[k]) (by simp [AjP hlt]) (Ok.bind_eq (Nq ho O 0 0 _ O) ?_));refine Ok.bind (Q:=λv=>v=((stP s k).foldl B7 (B7 o (0,0,p1[k])),p1,(List.length p1:Int),(k:Int),s,p2)) ?_ ?_
  .refine Ok.ite (λhq=>?_) λhq=>Ok.mk ?_
   .have hks:k < s.length:=by
     have:(k:Int) < (List.length s:Int):=by simpa using hq
     omega
    refine Ok.yes Z (Ok.bind_eq (r:=s[k]) (by simp [AjP hks]) ?_);refine Ok.bind (Q:=λv=>v=((stP s k).foldl B7 (B7 o (0,0,p1[k])),p1,(List.length p1:Int),(k:Int),s,p2)) ?_ (λv hv=>Ok.mk hv);simp only [stP,AjP hks];cases s[k]with
    | true=>exact Ok.yes rfl (Ok.bind_eq (Nq so O 1 0 [] Z) (Ok.mk rfl))
    | false=>exact Ok.no Z (Ok.bind_eq (Nq so O 0 1 [] Z) (Ok.mk rfl))
   .have:s.length<=k:=by
     have:¬ (k:Int) < (List.length s:Int):=by simpa using hq
     omega
    simp [stP,Aka this]
  rintro _ rfl;dsimp only;have so4:Sm ((k+1) * 4000) ((stP s k).foldl B7 (B7 o (0,0,p1[k]))):=by
   unfold stP;split
   .exact Kx (p:=(1,0,[])) (C:=(k+1) * 4000) so ⟨one_I.1,z⟩ O AjJ
   .exact Kx (p:=(0,1,[])) (C:=(k+1) * 4000) so ⟨z,one_I.1⟩ O AjJ
   .exact so.mono O
  exact Ok.mk ⟨⟨rfl,rfl,rfl,k+1,Ax (n:=p1.length) O hlt,O,so4,hf⟩,by rw [Ax (n:=p1.length) O hlt];dsimp only;omega⟩
 .have:k=p1.length:=by
   have:¬ ((k:Int) < (List.length p1:Int)):=by simpa using hc
   omega
  subst this;refine Ok.mk ⟨?_,ho.mono O⟩;rw [<- hf,Alw,Alx (O:s.length<=p1.length)];rfl
section
variable {Sb:List Bool} {Pb:List (List UInt8)} {Sc:List Bool} {Pc:List (List UInt8)} (h:CR Sb Pb Sc Pc)
include h
theorem RU {t g:Nat} {n g2:Int} {s text:List UInt8} {oS:List Bool} {oP:List (List UInt8)} (hs:t+s.length<=Sc.length) (ht:text.length<=1000) (hg:oP[g]?=some text) :
  Ab Fe ((t:Int),(g:Int),s,0,Pb,n,g2,Sb,Sc,Pc,oS,oP) =
   some (((t+s.length:Nat):Int),(g:Int),Pb,n,g2,Sb,Sc,Pc,oS,oP.set g (text++inn (Sc.drop t) (Pc.drop t) s)):=by
 obtain ⟨hx,hy,hr,hn,hm,hpy⟩:=h;have hgl:g < oP.length:=(Akn.1 hg).1;have h0:oP.set g text=oP:=by
  have:=(Akn.1 hg).2;rw [<- this];exact List.set_getElem_self hgl
 have:=An Fe (λi=>(((t+i:Nat):Int),(g:Int),s,((i:Nat):Int),Pb,n,g2,Sb,Sc,Pc,oS,oP.set g (text++inn (Sc.drop t) (Pc.drop t) (s.take i)))) s.length
  (((t+s.length:Nat):Int),(g:Int),Pb,n,g2,Sb,Sc,Pc,oS,oP.set g (text++inn (Sc.drop t) (Pc.drop t) s)) (by
   intro i hi;have hti:t+i < Sc.length:=O
   have htp:t+i+1 < Pc.length:=O
   have hl:(s.take i).length=i:=by rw [AjW];omega
   have sn:=Ru (s.take i) (Sc.drop t) (Pc.drop t) s[i] (by rw [hl,Akf];omega) (by rw [Akf,Akf];omega);rw [<- Akd hi]at sn;simp only [hl,List.getElem_drop]at sn;have il:=Tk (Sc.drop t) (Pc.drop t) (s.take i);have tl:tot (Pc.drop t).tail<=tot Pc:=by rw [List.tail_drop];exact Xv _ _
   have pq:(Pc[t+i+1]).length<=tot Pc:=M5 (Akc htp);have e1:IntKind.wrap .i64 (((i:Nat):Int)+1)=((i+1:Nat):Int):=Ax (n:=s.length) O hi;have e2:IntKind.wrap .i64 (((t+i:Nat):Int)+1)=((t+i+1:Nat):Int):=Ax (n:=Sc.length) O hti;have g0:(0:Int)<=((t+i:Nat):Int):=O
   have g1:((t+i:Nat):Int) < (List.length Sc:Int):=O
   have g2':(0:Int)<=((i:Nat):Int):=O
   have g3:((i:Nat):Int)<=((i+1:Nat):Int):=O
   have g4:((i+1:Nat):Int)<=(List.length s:Int):=O
   have g5:((i:Nat):Int) < (List.length s:Int):=O
   have g6:((t+i+1:Nat):Int) < (List.length Pc:Int):=O
   have g7:(0:Int)<=((t+i+1:Nat):Int):=O
   have g8:(0:Int)<=(g:Int):=O
   have cut:(s.drop i).take (i+1 - i)=[s[i]]:=by rw [(O:i+1 - i=1),Aks hi];rfl
   have b1:List.length (text++inn (Sc.drop t) (Pc.drop t) (s.take i))+List.length [s[i]]<=9223372036854775807:=by rw [AjU];simp only [AjZ];omega
   have b2:∀z:List UInt8,z.length<=1->List.length (text++inn (Sc.drop t) (Pc.drop t) (s.take i)++z)+List.length (Pc[t+i+1])<=9223372036854775807:=λz hz=>by rw [AjU,AjU];omega
   have gl:∀z,(g:Int) < (List.length (oP.set g z):Int):=λz=>by rw [AkQ];omega
   have gs:∀z,(oP.set g z)[g]?=some z:=λz=>Alh hgl
   unfold Fe cK cZ sX wI;simp only [g0,g1,g2',g3,g4,g5,g8,gl,gs,e1,e2,decide_true,Akh,AjO,Ake,AjP hti,AjM,AkZ,cut,b1,List.set_set];cases hb:Sc[t+i]with
   | true=>
    rw [hb,AjS rfl]at sn;have b3:=b2 [s[i]] Z;simp only [Akh,AjM,e1,e2,g6,g7,g8,gl,gs,decide_true,AjO,AjP htp,b3,List.set_set];simp only [sn,AjY,Ak4]
   | false=>
    rw [hb,AjR Z]at sn;have b3:=b2 [] Z;rw [Aj2]at b3;simp only [Aj4,Aku,AjM,e1,e2,g6,g7,g8,gl,gs,decide_true,Akh,AjO,AjP htp,b3,List.set_set];simp only [sn,AjY,Ak4,Akm]) (by
   simp only [AkC];simp [Fe,cK,cZ,sX,wI])
 simpa [MU,h0] using this
theorem TW (be:List UInt8) (hbe:be.length<=1000):Ab I1 (0,Pb,(List.length Pb:Int),0,Sb,Sc,Pc,[],be::List.replicate (Pb.length - 1) [])=some (Bv be Sb Pb Sc Pc):=by
 refine Ok.eq (Ok.loop (λy=>y.2.1=Pb/\y.2.2.1=(List.length Pb:Int)/\y.2.2.2.2.1=Sb/\y.2.2.2.2.2.1=Sc/\y.2.2.2.2.2.2.1=Pc/\∃(t g:Nat) (be2:List UInt8) (done:List (List UInt8)),y.1=(t:Int)/\y.2.2.2.1=(g:Int)/\g < Pb.length/\
   be2.length<=1000/\t+rem (Sb.drop g) (Pb.drop g)=Sc.length/\y.2.2.2.2.2.2.2.1.length=g/\done.length=g/\y.2.2.2.2.2.2.2.2=done++be2::List.replicate (Pb.length - 1 - g) []/\
   (y.2.2.2.2.2.2.2.1++(Bv be2 (Sb.drop g) (Pb.drop g) (Sc.drop t) (Pc.drop t)).1,done++(Bv be2 (Sb.drop g) (Pb.drop g) (Sc.drop t) (Pc.drop t)).2)=Bv be Sb Pb Sc Pc) (λy=>((List.length Pb:Int) - y.2.2.2.1).toNat)
  ⟨rfl,rfl,rfl,rfl,rfl,0,0,be,[],rfl,rfl,by rw [h.x];omega,hbe,by have:=h.r;simpa using this,rfl,rfl,Z,Z⟩ ?_)
 rintro ⟨t',pb,n,g',sb,sc,pc,oS,oP⟩ ⟨e1,e2,e3,e4,e5,t,g,be',done,e6,e7,hg,hbe',hrem,hoS,hdone,hoP,hf⟩;dsimp only at e1 e2 e3 e4 e5 e6 e7 hbe' hoS hoP hf;subst e1 e2 e3 e4 e5 e6 e7 hoP;have hCR:=h;obtain ⟨hx,hy,hr,hn,hm,hpy⟩:=h;obtain ⟨c1,c2,c3⟩:=Aan hCR hg be' hrem;unfold I1 cK cZ wI;dsimp only;refine Ok.yes (by simpa using hg) ?_;have r1:∀z:Bool,Aa (List.length oS+List.length [z]) 1=true:=λz=>Nr O O
 have hat:(done++be'::List.replicate (pb.length - 1 - g) ([]:List UInt8))[g]?=some be':=by rw [Aky O,hdone,AlE];rfl
 have hin:=RU hCR (g:=g) (n:=(List.length pb:Int)) (g2:=(g:Int)) (oS:=oS) c1 hbe' hat;have hset:(done++be'::List.replicate (pb.length - 1 - g) ([]:List UInt8)).set g (be'++inn (sc.drop t) (pc.drop t) pb[g])=done++(be'++inn (sc.drop t) (pc.drop t) pb[g])::List.replicate (pb.length - 1 - g) []:=by
  rw [List.set_append_right _ _ O,hdone,AlE];rfl
 rw [hset]at hin;refine Ok.bind (Q:=λv=>match v with
   | .inl y=>∃t2 be2 oS2 done2,y=(((t2:Nat):Int),pb,(List.length pb:Int),(g:Int),sb,sc,pc,oS2,done2++be2::List.replicate (pb.length - 1 - (g+1)) [])/\g+1 < pb.length/\List.length be2<=1000/\t2+rem (sb.drop (g+1)) (pb.drop (g+1))=sc.length/\List.length oS2=g+1/\List.length done2=g+1/\
     (oS2++(Bv be2 (sb.drop (g+1)) (pb.drop (g+1)) (sc.drop t2) (pc.drop t2)).1,done2++(Bv be2 (sb.drop (g+1)) (pb.drop (g+1)) (sc.drop t2) (pc.drop t2)).2)=Bv be sb pb sc pc
   | .inr z=>z=Bv be sb pb sc pc) ?_ ?_
 .refine Ok.yes (decide_eq_true O) (Ok.yes (by simpa using hg) (Ok.bind_eq (r:=pb[g]) (by simp [AjP hg]) (Ok.bind_eq hin ?_)));dsimp only;refine Ok.ite (λhq=>?_) λhq=>?_
  .have he:g=sb.length:=by
    have:(g:Int)=(List.length sb:Int):=by simpa using hq
    omega
   rw [c2 he]at hf;refine Ok.mk ?_;rw [<- hf,Aj2,(O:pb.length - 1 - g=0)];rfl
  .have hks:g < sb.length:=by
    have:¬ (g:Int)=(List.length sb:Int):=by simpa using hq
    omega
   have rep:List.replicate (pb.length - 1 - g) ([]:List UInt8)=[]::List.replicate (pb.length - 1 - (g+1)) []:=by rw [(O:pb.length - 1 - g=(pb.length - 1 - (g+1))+1),AkP]
   refine Ok.yes (decide_eq_true O) (Ok.yes (by simpa using hks) (Ok.bind_eq (r:=sb[g]) (by simp [AjP hks]) ?_));cases hb:sb[g]with
   | false=>
    obtain ⟨k1,k2⟩:=(c3 hks).1 hb;rw [k2]at hf;refine Ok.yes Z (Ok.yes (r1 _) (Ok.mk ⟨t+pb[g].length,[],oS++[false],done++[be'++inn (sc.drop t) (pc.drop t) pb[g]],?_,O,Z,k1,by simp [hoS],by simp [hdone],?_⟩))
    .rw [rep];simp
    .rw [<- hf];simp
   | true=>
    obtain ⟨k1,k2,k3,k4⟩:=(c3 hks).2 hb;rw [k4]at hf;have e9:IntKind.wrap .i64 (((t+pb[g].length:Nat):Int)+1)=((t+pb[g].length+1:Nat):Int):=Ax (n:=sc.length) O k2;have e10:IntKind.wrap .i64 ((g:Int)+1)=((g+1:Nat):Int):=Ax (n:=pb.length) O hg;have hq2:(pc[t+pb[g].length+1]).length<=tot pc:=M5 (Akc k3);have hlen:(done++(be'++inn (sc.drop t) (pc.drop t) pb[g])::List.replicate (pb.length - 1 - g) ([]:List UInt8)).length=pb.length:=by simp;omega
    have hget:(done++(be'++inn (sc.drop t) (pc.drop t) pb[g])::List.replicate (pb.length - 1 - g) ([]:List UInt8))[0+Int.toNat ((g+1:Nat):Int)]?=some []:=by
     rw [rep,AjO,Ake,Aky O,hdone,(O:g+1 - g=1)];rfl
    have hset2:(done++(be'++inn (sc.drop t) (pc.drop t) pb[g])::List.replicate (pb.length - 1 - g) ([]:List UInt8)).set (0+Int.toNat ((g+1:Nat):Int)) pc[t+pb[g].length+1]=(done++[be'++inn (sc.drop t) (pc.drop t) pb[g]])++pc[t+pb[g].length+1]::List.replicate (pb.length - 1 - (g+1)) []:=by
     rw [rep,AjO,Ake,List.set_append_right _ _ O,hdone,(O:g+1 - g=1)];simp
    rw [e9,e10];refine Ok.no Z (Ok.yes (decide_eq_true O) (Ok.yes (decide_eq_true O) (Ok.bind_eq (r:=sc[t+pb[g].length]) (by rw [Ake,AjO];exact AjP k2) (Ok.yes (r1 _)
     (Ok.yes (decide_eq_true O) (Ok.yes (decide_eq_true O) (Ok.bind_eq (r:=pc[t+pb[g].length+1]) (by rw [Ake,AjO];exact AjP k3)
      (Ok.yes (decide_eq_true O) (Ok.yes (decide_eq_true (by rw [hlen];omega)) (Ok.bind_eq hget (Ok.bind_eq hget (Ok.mk ⟨t+pb[g].length+1,pc[t+pb[g].length+1],oS++[sc[t+pb[g].length]],done++[be'++inn (sc.drop t) (pc.drop t) pb[g]],?_,O,O,k1,by simp [hoS],by simp [hdone],?_⟩))))))))))))
    .rw [hset2]
    .rw [<- hf];simp
 rintro (y | z) hv
 .obtain ⟨t2,be2,oS2,done2,rfl,k1,k2,k3,k4,k5,k6⟩:=hv;dsimp only;have e9:IntKind.wrap .i64 ((g:Int)+1)=((g+1:Nat):Int):=Ax (n:=pb.length) O hg;rw [e9];exact Ok.mk ⟨⟨rfl,rfl,rfl,rfl,rfl,t2,g+1,be2,done2,rfl,rfl,k1,k2,k3,k4,k5,rfl,k6⟩,AjL⟩
 .exact Ok.mk hv
end
end Go.V.G
set_option maxRecDepth 100000
namespace Go.V.G
open Go.V
theorem XD:∀(x y:List Atom),nT x=nS y->nS (comp x y)=nS x/\nT (comp x y)=nT y:=by
 intro x y
 induction x,y using comp.induct with
 | case1 x b y ih=>intro h;rw [comp];have:=ih h;simp only [nS,nT];omega
 | case2 x ih=>intro h;rw [comp];have:=ih h;simp only [nS,nT]at this ⊢;omega
 | case3 x y ih=>intro h;rw [comp];have:=ih h;simp only [nS,nT]at this ⊢;omega
 | case4 x y ih=>intro h;rw [comp];have:=ih h;simp only [nS,nT]at this ⊢;omega
 | case5 b x y ih=>intro h;rw [comp];have:=ih (by simpa [nS,nT] using h);simp only [nS,nT];omega
 | case6 b x y ih=>intro h;rw [comp];have:=ih (by simpa [nS,nT] using h);simp only [nS,nT];omega
 | case7 x y ih=>intro h;rw [comp];have:=ih (by simpa [nS,nT] using h);simp only [nS,nT];omega
 | case8 x y ih=>intro h;rw [comp];have:=ih (by simpa [nS,nT] using h);simp only [nS,nT];omega
 | case9 x y h1 h2 h3 h4 h5 h6 h7 h8=>
  intro g
  match x,y with
  | x,.ins b::y=>exact absurd rfl (h1 b y)
  | .drop::x,[]=>exact absurd rfl (h2 x rfl)
  | .drop::x,.keep::y=>exact absurd rfl (h3 x y rfl)
  | .drop::x,.drop::y=>exact absurd rfl (h4 x y rfl)
  | .ins b::x,.keep::y=>exact absurd rfl (h5 b x y rfl)
  | .ins b::x,.drop::y=>exact absurd rfl (h6 b x y rfl)
  | .keep::x,.keep::y=>exact absurd rfl (h7 x y rfl)
  | .keep::x,.drop::y=>exact absurd rfl (h8 x y rfl)
  | [],[]=>simp [comp,nS,nT]
  | .ins b::x,[]=>simp [nS,nT]at g
  | .keep::x,[]=>simp [nS,nT]at g
  | [],.keep::y=>simp [nS,nT]at g
  | [],.drop::y=>simp [nS,nT]at g
theorem AbD:∀(b c:List Atom) (a:List Atom),nT b=nS c->nT a=nS b->comp (comp a b) c=comp a (comp b c):=by
 intro b c
 induction b,c using comp.induct with
 | case1 b d c ih=>intro a h g;rw [comp,comp,comp,ih a h g]
 | case2 b ih=>
  intro a h g;rw [comp.eq_2 b]
  induction a with
  | nil=>simp [nS,nT]at g
  | cons u a iha=>
   cases u with
   | ins d=>rw [comp,comp];exact ih a h (by simpa [nS,nT] using g)
   | keep=>rw [comp,comp,comp,ih a h (by simpa [nS,nT] using g)]
   | drop=>rw [comp,comp,comp,iha (by simpa [nS,nT] using g)]
 | case3 b c ih=>
  intro a h g;rw [comp.eq_3 b c]
  induction a with
  | nil=>simp [nS,nT]at g
  | cons u a iha=>
   cases u with
   | ins d=>rw [comp,comp];exact ih a h (by simpa [nS,nT] using g)
   | keep=>rw [comp,comp,comp,ih a h (by simpa [nS,nT] using g)]
   | drop=>rw [comp,comp,comp,iha (by simpa [nS,nT] using g)]
 | case4 b c ih=>
  intro a h g;rw [comp.eq_4 b c]
  induction a with
  | nil=>simp [nS,nT]at g
  | cons u a iha=>
   cases u with
   | ins d=>rw [comp,comp];exact ih a h (by simpa [nS,nT] using g)
   | keep=>rw [comp,comp,comp,ih a h (by simpa [nS,nT] using g)]
   | drop=>rw [comp,comp,comp,iha (by simpa [nS,nT] using g)]
 | case5 d b c ih=>intro a h g;rw [comp.eq_5 d b c,comp,comp,comp,ih a (by simpa [nS,nT] using h) g]
 | case6 d b c ih=>intro a h g;rw [comp.eq_6 d b c,comp,comp];exact ih a (by simpa [nS,nT] using h) g
 | case7 b c ih=>
  intro a h g;rw [comp.eq_7 b c]
  induction a with
  | nil=>simp [nS,nT]at g
  | cons u a iha=>
   cases u with
   | ins d=>rw [comp,comp,comp,ih a (by simpa [nS,nT] using h) (by simpa [nS,nT] using g)]
   | keep=>rw [comp,comp,comp,ih a (by simpa [nS,nT] using h) (by simpa [nS,nT] using g)]
   | drop=>rw [comp,comp,comp,iha (by simpa [nS,nT] using g)]
 | case8 b c ih=>
  intro a h g;rw [comp.eq_8 b c]
  induction a with
  | nil=>simp [nS,nT]at g
  | cons u a iha=>
   cases u with
   | ins d=>rw [comp,comp,comp];exact ih a (by simpa [nS,nT] using h) (by simpa [nS,nT] using g)
   | keep=>rw [comp,comp,comp,ih a (by simpa [nS,nT] using h) (by simpa [nS,nT] using g)]
   | drop=>rw [comp,comp,comp,iha (by simpa [nS,nT] using g)]
 | case9 b c h1 h2 h3 h4 h5 h6 h7 h8=>
  intro a g gt
  match b,c with
  | b,.ins d::c=>exact absurd rfl (h1 d c)
  | .drop::b,[]=>exact absurd rfl (h2 b rfl)
  | .drop::b,.keep::c=>exact absurd rfl (h3 b c rfl)
  | .drop::b,.drop::c=>exact absurd rfl (h4 b c rfl)
  | .ins d::b,.keep::c=>exact absurd rfl (h5 d b c rfl)
  | .ins d::b,.drop::c=>exact absurd rfl (h6 d b c rfl)
  | .keep::b,.keep::c=>exact absurd rfl (h7 b c rfl)
  | .keep::b,.drop::c=>exact absurd rfl (h8 b c rfl)
  | [],[]=>
   have:comp [] []=[]:=by simp [comp]
   rw [this];have key:∀a:List Atom,comp (comp a []) []=comp a []:=by
    intro a
    induction a with
    | nil=>simp [comp]
    | cons u a ih=>
     cases u with
     | drop=>rw [comp,comp,ih]
     | keep=>simp [comp]
     | ins d=>simp [comp]
   exact key a
  | .ins d::b,[]=>simp [nS,nT]at g
  | .keep::b,[]=>simp [nS,nT]at g
  | [],.keep::c=>simp [nS,nT]at g
  | [],.drop::c=>simp [nS,nT]at g
end Go.V.G
set_option maxRecDepth 100000
namespace Go.V.G
open Go.V
theorem Kz {a b:List Prt} (ha:AG a=true) (hb:AG b=true) (h:tgt a=src b):nT (Ac a)=nS (Ac b)/\CR (Ap (Ac a)) (Aj (Ac a)) (Ap (Ac b)) (Aj (Ac b)):=by
 have sa:=Bf (Aq ha).1;have sb:=Bf (Aq hb).1;have la:=Id sa;have lb:=Id sb;have ta:=Ik sa;have tb:=Ik sb;have sb':=MM sb;have:=(Aq ha).2.1;have:=(Aq hb).2.1;have:=(Aq hb).2.2;have hn:nT (Ac a)=nS (Ac b):=O
 refine⟨hn,Es _,Es _,by rw [Ah0,hn,CO],O,O,?_⟩;rw [KO];rw [HE]at tb;omega
theorem We (l:List Atom):((Aj l).headD []).length<=Dp l:=by
 obtain ⟨p,ps,e,_⟩:=Br l;have:=ML l p (by rw [e];simp);rw [e];exact this
def AN (a b:List Prt):List Prt:=FZ (By (Ap (comp (Ac a) (Ac b))) (Aj (comp (Ac a) (Ac b))))
theorem Dw {a b:List Prt} (ha:AG a=true) (hb:AG b=true) (h:tgt a=src b) :
  AG (AN a b)=true/\Ac (AN a b)=comp (Ac a) (Ac b)/\src (AN a b)=src a/\tgt (AN a b)=tgt b:=by
 have sa:=Bf (Aq ha).1;have sb:=Bf (Aq hb).1;obtain ⟨hn,_⟩:=Kz ha hb h;obtain ⟨l1,l2⟩:=XD _ _ hn;have hf:=QG (Ap (comp (Ac a) (Ac b))) (Aj (comp (Ac a) (Ac b)));have he:=IB (comp (Ac a) (Ac b));have s1:=WL hf;have t1:=XC hf;rw [he]at s1 t1;have s2:=MM sa;have t2:=Ik sb;have:=(Aq ha).2.1;have:=(Aq hb).2.2;obtain ⟨k1,k2,k3,k4⟩:=AbN hf ⟨O,O⟩;refine⟨?_,by rw [<- he];exact k2,?_,?_⟩
 .unfold AG;rw [show okk 0 (AN a b)=true from k1,show src (AN a b)=src (By _ _) from k3,show tgt (AN a b)=tgt (By _ _) from k4];simp;omega
 .rw [show src (AN a b)=src (By _ _) from k3];omega
 .rw [show tgt (AN a b)=tgt (By _ _) from k4];omega
theorem Aab {a b:List Prt} (ha:AG a=true) (hb:AG b=true) (h:tgt a=src b):PR (Ap (comp (Ac a) (Ac b))) (Aj (comp (Ac a) (Ac b))):=by
 have sa:=Bf (Aq ha).1;have sb:=Bf (Aq hb).1;obtain ⟨hn,_⟩:=Kz ha hb h;obtain ⟨l1,l2⟩:=XD _ _ hn;have s2:=MM sa;have t2:=Ik sb;have:=(Aq ha).2.1;have:=(Aq hb).2.2;refine⟨Es _,by rw [<- CO];omega,λq hq=>?_⟩;have:=ML _ q hq;rw [HE]at l2;omega
theorem WQ {a b:List Prt} (ha:AG a=true) (hb:AG b=true) (h:tgt a=src b):LG a b=some (AN a b):=by
 have sa:=Bf (Aq ha).1;have sb:=Bf (Aq hb).1;have:=(Aq ha).2.1;have:=(Aq hb).2.1;have t2:=Ik sb;have:=(Aq hb).2.2;obtain ⟨hn,hCR⟩:=Kz ha hb h;have hl:=We (Ac b);rw [HE]at t2;unfold LG cK cZ;rw [UK (C5 ha) O sa O,UK (C5 hb) O sb O,AjM,AjM];obtain ⟨q,qs,e,_⟩:=Br (Ac b);have hlp:=SR hCR ((Aj (Ac b)).headD []) O;rw [UR _ _ hn]at hlp;refine Ok.eq (Ok.yes Z (Ok.yes (by rw [e];simp) (Ok.bind_eq (r:=(Aj (Ac b)).headD []) (by rw [e];rfl) (Ok.bind_eq hlp ?_))));refine(AaU (Aab ha hb h)).bind ?_;rintro _ ⟨rfl,_⟩;exact Ok.mk rfl
theorem XT {a b:List Prt} (ha:AG a=true) (hb:AG b=true) (h:tgt a=src b):Jt a b=some (AN a b):=by
 have sa:=Bf (Aq ha).1;have sb:=Bf (Aq hb).1;have:=(Aq ha).2.1;have:=(Aq hb).2.1;have t2:=Ik sb;have:=(Aq hb).2.2;obtain ⟨hn,hCR⟩:=Kz ha hb h;have hl:=We (Ac b);rw [HE]at t2;have hx:=hCR.x;have hnn:=hCR.n;unfold Jt cK cZ;rw [Uv (C5 ha) O sa O,Uv (C5 hb) O sb O,AjM,AjM];obtain ⟨q,qs,e,_⟩:=Br (Ac b);have hlp:=TW hCR ((Aj (Ac b)).headD []) O;rw [UR _ _ hn]at hlp;have rep:List.replicate (Int.toNat (List.length (Aj (Ac a)):Int)) ([]:List UInt8)=[]::List.replicate ((Aj (Ac a)).length - 1) []:=by
  rw [AjO,show(Aj (Ac a)).length=((Aj (Ac a)).length - 1)+1 by omega,AkP,Nat.add_sub_cancel]
 dsimp only;rw [rep];refine Ok.eq (Ok.yes Z (Ok.yes Z (Ok.yes (by simp [Aa];omega) (Ok.yes Z (Ok.yes (by rw [e];simp) (Ok.bind_eq (r:=(Aj (Ac b)).headD []) (by rw [e];rfl) (Ok.yes Z (Ok.yes Z (Ok.bind_eq (r:=[]) rfl (Ok.bind_eq (r:=[]) rfl (Ok.bind_eq hlp ?_)))))))))));obtain ⟨r,hr,rfl,_⟩:=Aby (Aab ha hb h);dsimp only;simp only [hr,AjM];exact Ok.mk rfl
theorem AeT (p:Prt):kd p=0\/kd p=1\/kd p=2\/kd p=3:=by
 unfold kd;split;omega;split;omega;split <;> omega
end Go.V.G
set_option maxRecDepth 100000
namespace Go.V.G
open Go.V
abbrev Rn:=Int×Int
def AL:List Rn->Int
 | []=>0
 | r::l=>r.2+AL l
def alt:Option Int->List Rn->Bool
 | _,[]=>true
 | p,r::l=>!(decide (p=some r.1)) && alt (some r.1) l
theorem Mc:∀a b:List Rn,AL (a++b)=AL a+AL b
 | [],b=>by simp [AL]
 | p::a,b=>by simp only [AkB,AL,Mc a b];omega
def Pos (l:List Rn):Prop:=∀q∈l,1<=q.2
theorem Pos.nil:Pos []:=λq h=>by cases h
theorem Pos.tail {r:Rn} {l:List Rn} (h:Pos (r::l)):Pos l:=λq hq=>h q (by simp [hq])
theorem DP:∀{l:List Rn},Pos l->0<=AL l
 | [],_=>AkZ _
 | r::l,h=>by
  have:=h r Z;have:=DP h.tail;simp only [AL];omega
theorem V8:∀{l:List Rn},Pos l->∀q∈l,q.2<=AL l
 | r::l,h,q,hq=>by
  have h1:=h r Z;have h2:=DP h.tail;rcases Aj5.1 hq with rfl | hq
  .simp only [AL];omega
  .have:=V8 h.tail q hq;simp only [AL];omega
theorem MZ:∀{l:List Rn},Pos l->(l.length:Int)<=AL l
 | [],_=>AkZ _
 | r::l,h=>by
  have:=h r Z;have:=MZ h.tail;simp only [AL,Aj1];omega
structure Rs (l:List Rn) (n:Int):Prop where
 pos:Pos l
 sum:AL l=n
 alt:alt none l=true
theorem Rs.nil:Rs [] 0:=⟨Pos.nil,rfl,rfl⟩
def VF (most:Int) (l:List Rn):Bool:=l.all λr=>decide (0<=r.1/\r.1<=most)
def grn (most:Int):Option Int->Int->List Rn->Bool
 | _,left,[]=>decide (left=0)
 | p,left,r::l=>(decide (0<=r.1/\r.1<=most) && (decide (1<=r.2/\r.2<=left) && !(decide (p=some r.1)))) && grn most (some r.1) (left - r.2) l
def AM (l:List Rn) (many most:Int):Bool:=(decide (0<=many/\many<=120) && decide (0<=most/\most<=60)) && grn most none many l
theorem ZC (most:Int):∀(l:List Rn) (p:Option Int) (left:Int),grn most p left l=true↔(VF most l=true/\Pos l/\AL l=left/\alt p l=true)
 | [],p,left=>by
  simp only [grn,decide_eq_true_eq,VF,List.all_nil,AL,G.alt,true_and];exact⟨λh=>⟨Pos.nil,h.symm,trivial⟩,λh=>h.2.1.symm⟩
 | r::l,p,left=>by
  have ih:=ZC most l (some r.1) (left - r.2);simp only [grn,AjT,decide_eq_true_eq,ih,VF,Ak8,AL,G.alt];constructor
  .rintro ⟨⟨h1,h2,h3⟩,h4,h5,h6,h7⟩;refine⟨⟨h1,h4⟩,λq hq=>?_,O,h3,h7⟩;rcases Aj5.1 hq with rfl | hq
   .exact h2.1
   .exact h5 q hq
  .rintro ⟨⟨h1,h4⟩,h5,h6,h3,h7⟩;have h8:=h5 r Z;have h9:=DP h5.tail;exact⟨⟨h1,⟨h8,O⟩,h3⟩,h4,h5.tail,O,h7⟩
theorem goodRuns_iff {l:List Rn} {many most:Int}:AM l many most=true↔((0<=many/\many<=120)/\(0<=most/\most<=60))/\VF most l=true/\Rs l many:=by
 simp only [AM,AjT,decide_eq_true_eq,ZC];constructor
 .rintro ⟨h,h1,h2,h3,h4⟩;exact⟨h,h1,h2,h3,h4⟩
 .rintro ⟨h,h1,h2⟩;exact⟨h,h1,h2.pos,h2.sum,h2.alt⟩
end Go.V.G
set_option maxRecDepth 100000
namespace Go.V.G
open Go.V
def idc (n:Int):List Prt:=if n=0 then []else [(n,0,[])]
theorem Xt {n:Int} (h0:0<=n) (h:n<=120):AG (idc n)=true/\Ac (idc n)=List.replicate n.toNat .keep/\src (idc n)=n/\tgt (idc n)=n:=by
 unfold idc;split
 .rename_i e;subst e;exact⟨rfl,rfl,rfl,rfl⟩
 .rename_i hn;have hp:0 < n:=O
  have hk:kd (n,0,[])=1:=by simp [kd,hp]
  refine⟨?_,?_,?_,?_⟩
  .simp [AG,okk,hk,src,tgt,h]
  .simp only [Ac,Ak9,List.flatMap_nil,Aj2];exact FW h0
  .simp [src]
  .simp [tgt]
theorem L6:∀y:List Atom,comp (List.replicate (nS y) .keep) y=y
 | []=>by simp [nS,comp]
 | .ins b::y=>by rw [nS,comp,L6 y]
 | .keep::y=>by rw [nS,AkP,comp,L6 y]
 | .drop::y=>by rw [nS,AkP,comp,L6 y]
theorem Tz {c:List Prt} (h:AG c=true):nS (Ac c)=(src c).toNat/\0<=src c/\src c<=120/\0<=tgt c/\tgt c<=120/\nT (Ac c)=(tgt c).toNat:=by
 obtain ⟨h1,h2,h3⟩:=Aq h;have hs:=Bf h1;have:=MM hs;have:=Ik hs;have:=Bq hs;have:=Ck hs;omega
theorem YH {c:List Prt} (h:AG c=true):AN (idc (src c)) c=c:=by
 obtain ⟨q1,q2,q3,q4,q5,q6⟩:=Tz h;obtain ⟨i1,i2,i3,i4⟩:=Xt q2 q3;obtain ⟨k1,k2,k3,k4⟩:=Dw i1 h i4;refine Ma (k:=0) (j:=0) (Aq k1).1 (Aq h).1 ?_;rw [k2,i2,<- q1,L6]
def chn:Int->List (List Prt)->Bool
 | _,[]=>true
 | n,c::cs=>(AG c && decide (src c=n)) && chn (tgt c) cs
def D5:Int->List (List Prt)->Int
 | n,[]=>n
 | _,c::cs=>D5 (tgt c) cs
theorem Nc:∀(n:Int) (a b:List (List Prt)),chn n (a++b)=(chn n a && chn (D5 n a) b)
 | _,[],b=>by simp [chn,D5]
 | n,c::a,b=>by simp only [AkB,chn,D5,Nc (tgt c) a b,AlT]
theorem Mz:∀(n:Int) (a b:List (List Prt)),D5 n (a++b)=D5 (D5 n a) b
 | _,[],b=>rfl
 | n,c::a,b=>Mz (tgt c) a b
theorem Fj {n:Int} {c:List Prt} {cs:List (List Prt)} (h:chn n (c::cs)=true):AG c=true/\src c=n/\chn (tgt c) cs=true:=by
 simp only [chn,AjT,decide_eq_true_eq]at h;exact⟨h.1.1,h.1.2,h.2⟩
theorem TO:∀{n:Int} {cs:List (List Prt)},chn n cs=true->0<=n->n<=120->0<=D5 n cs/\D5 n cs<=120
 | n,[],_,h0,h1=>⟨h0,h1⟩
 | n,c::cs,h,h0,h1=>by
  obtain ⟨k1,k2,k3⟩:=Fj h;obtain ⟨_,_,_,q4,q5,_⟩:=Tz k1;exact TO (n:=tgt c) k3 q4 q5
theorem TE:∀{n:Int} {cs:List (List Prt)},chn n cs=true->∀c∈cs,AG c=true
 | n,c::cs,h,x,hx=>by
  obtain ⟨k1,k2,k3⟩:=Fj h;rcases Aj5.1 hx with rfl | hx
  .exact k1
  .exact TE k3 x hx
theorem DU {n:Int} {cs:List (List Prt)} (h:chn n cs=true) (k:Nat):chn n (cs.take k)=true/\chn (D5 n (cs.take k)) (cs.drop k)=true:=by
 have:=Nc n (cs.take k) (cs.drop k);rw [AkH,h]at this;have:=this.symm
 rwa [AjT]at this
def txt (t:List UInt8) (cs:List (List Prt)):List UInt8:=cs.foldl (λt c=>apply t c) t
theorem Ab3 {t:List UInt8} {c:List Prt} (hg:AG c=true) (h:(t.length:Int)=src c):(((apply t c).length:Nat):Int)=tgt c:=by
 obtain ⟨q1,q2,q3,q4,q5,q6⟩:=Tz hg;have:=O9 (Ac c) t O;unfold apply;omega
theorem PT:∀{cs:List (List Prt)} {t:List UInt8},chn (t.length:Int) cs=true->(((txt t cs).length:Nat):Int)=D5 (t.length:Int) cs
 | [],t,_=>rfl
 | c::cs,t,h=>by
  obtain ⟨k1,k2,k3⟩:=Fj h;have hl:=Ab3 k1 k2.symm;show(((txt (apply t c) cs).length:Nat):Int)=D5 (tgt c) cs;rw [<- hl]at k3 ⊢;exact PT k3
def btw (n:Int) (cs:List (List Prt)):List Prt:=cs.foldl (λa c=>AN a c) (idc n)
theorem LM:∀{cs:List (List Prt)} {a:List Prt},AG a=true->chn (tgt a) cs=true->
  AG (cs.foldl (λa c=>AN a c) a)=true/\src (cs.foldl (λa c=>AN a c) a)=src a/\tgt (cs.foldl (λa c=>AN a c) a)=D5 (tgt a) cs
 | [],a,h,_=>⟨h,rfl,rfl⟩
 | c::cs,a,h,hc=>by
  obtain ⟨k1,k2,k3⟩:=Fj hc;obtain ⟨q1,q2,q3,q4⟩:=Dw h k1 k2.symm;rw [<- q4]at k3;obtain ⟨r1,r2,r3⟩:=LM q1 k3;exact⟨r1,by rw [Alj,r2,q3],by rw [Alj,r3,q4];rfl⟩
theorem VU {n:Int} {cs:List (List Prt)} (h:chn n cs=true) (h0:0<=n) (h1:n<=120):AG (btw n cs)=true/\src (btw n cs)=n/\tgt (btw n cs)=D5 n cs:=by
 obtain ⟨i1,i2,i3,i4⟩:=Xt h0 h1;obtain ⟨r1,r2,r3⟩:=LM i1 (by rw [i4];exact h);exact⟨r1,by rw [btw,r2,i3],by rw [btw,r3,i4]⟩
theorem Rr {n:Int} {c:List Prt} {cs:List (List Prt)} (h:chn n (c::cs)=true):btw n (c::cs)=cs.foldl (λa c=>AN a c) c:=by
 obtain ⟨k1,k2,k3⟩:=Fj h;subst k2;unfold btw;rw [Alj,YH k1]
def Fy (f:Int) (t:List UInt8) (r:List Rn) (cs:List (List Prt)):Bool:=
 decide (0<=f/\f<=60) && (decide ((t.length:Int)<=120) && (AM r (t.length:Int) f && (decide ((cs.length:Int)<=60 - f) && chn (t.length:Int) cs)))
structure GH (f:Int) (t:List UInt8) (r:List Rn) (cs:List (List Prt)):Prop where
 hf:0<=f/\f<=60
 ht:(t.length:Int)<=120
 hr:AM r (t.length:Int) f=true
 hn:(cs.length:Int)<=60 - f
 hc:chn (t.length:Int) cs=true
theorem goodH_iff {f:Int} {t:List UInt8} {r:List Rn} {cs:List (List Prt)}:Fy f t r cs=true↔GH f t r cs:=by
 simp only [Fy,AjT,decide_eq_true_eq];exact⟨λ⟨h1,h2,h3,h4,h5⟩=>⟨h1,h2,h3,h4,h5⟩,λ⟨h1,h2,h3,h4,h5⟩=>⟨h1,h2,h3,h4,h5⟩⟩
structure HB (t:List UInt8) (r:List Rn) (cs:List (List Prt)):Prop where
 ht:t.length<=1099511627776
 hr:r.length<=1099511627776
 hn:cs.length<=1099511627776
 hc:∀c∈cs,Sm 1099511627776 c
theorem GH.hb {f:Int} {t:List UInt8} {r:List Rn} {cs:List (List Prt)} (h:GH f t r cs):HB t r cs:=by
 have h1:=h.ht;have h2:=h.hn;have h3:=h.hf;obtain ⟨_,_,h6⟩:=goodRuns_iff.1 h.hr;have:=MZ h6.pos;rw [h6.sum]at this;exact⟨O,O,O,λc hc=>(C5 (TE h.hc c hc)).mono O⟩
end Go.V.G
set_option maxRecDepth 100000
namespace Go.V.G
open Go.V
def prv (l:List Rn) (i:Nat):Option Int:=if i=0 then none else(l[i - 1]?).map (·.1)
theorem XW {l:List Rn} {i:Nat} (h:i < l.length):prv l (i+1)=some l[i].1:=by simp [prv,AjP h]
theorem W5 {l:List Rn} {i:Nat} (h:i < l.length) (most left:Int) (p:Option Int):grn most p left (l.drop i)=((decide (0<=l[i].1/\l[i].1<=most) && (decide (1<=l[i].2/\l[i].2<=left) && !(decide (p=some l[i].1)))) && grn most (some l[i].1) (left - l[i].2) (l.drop (i+1))):=by
 rw [Aks h];rfl
theorem Ov {l:List Rn} (hl:l.length<=1099511627776) (many most:Int):Ip l many most=some (AM l many most):=by
 unfold Ip;refine Ok.eq (Ok.bind (Q:=λv=>v=(l,many,most,!(decide (0<=many/\many<=120) && decide (0<=most/\most<=60)))) ?_ ?_)
 .refine Ok.bind_eq (AH _ _ _) (Ok.ite (λh=>Ok.mk ?_) λh=>Ok.bind_eq (AH _ _ _) (Ok.mk ?_))
  .have h':decide (0<=many/\many<=120)=false:=by simpa only [Aj0] using h
   rw [h'];rfl
  .have h':decide (0<=many/\many<=120)=true:=by simpa only [Aj0,Ala] using h
   rw [h',Aj3]
 rintro _ rfl;dsimp only;refine Ok.ite (λhb=>Ok.mk ?_) λhb=>?_
 .have hb':(decide (0<=many/\many<=120) && decide (0<=most/\most<=60))=false:=by simpa only [Aj0] using hb
  unfold AM;rw [hb'];rfl
 have hb':(decide (0<=many/\many<=120) && decide (0<=most/\most<=60))=true:=by simpa only [Aj0,Ala] using hb
 have hg:AM l many most=grn most none many l:=by unfold AM;rw [hb',Aj3]
 rw [AjT,decide_eq_true_eq,decide_eq_true_eq]at hb';rw [hg];refine Ok.bind (Q:=λr=>match r with | .inl y=>decide (y.2=y.1)=grn most none many l | .inr b=>b=grn most none many l) ?_ (by rintro (y | b) hr <;> exact Ok.mk hr);refine Ok.loop (λy=>y.1=l/\y.2.1=many/\y.2.2.1=most/\(0<=y.2.2.2.1/\y.2.2.2.1<=many)/\y.2.2.2.2.1=l/\y.2.2.2.2.2.1=(l.length:Int)/\∃i:Nat,y.2.2.2.2.2.2=(i:Int)/\i<=l.length/\grn most none many l=grn most (prv l i) (many - y.2.2.2.1) (l.drop i))
  (λy=>((l.length:Int) - y.2.2.2.2.2.2).toNat) ⟨rfl,rfl,rfl,⟨Z,hb'.1.1⟩,rfl,rfl,0,rfl,All _,by simp [prv]⟩ ?_
 rintro ⟨l1,m1,s1,all,l2,n,i'⟩ ⟨e1,e2,e3,⟨h0,h1⟩,e4,e5,i,e6,hi,hk⟩;dsimp only at e1 e2 e3 h0 h1 e4 e5 e6 hk;subst e1 e2 e3 e4 e5 e6;unfold Oi gX wI;dsimp only;refine Ok.ite (λhc=>?_) λhc=>?_
 .have hlt:i < l2.length:=by simpa using hc
  have hge:l2[Int.toNat (i:Int)]?=some l2[i]:=by simp [hlt]
  refine Ok.yes Z (Ok.bind_eq hge ?_);refine Ok.bind (Q:=λv=>v=(l2,m1,s1,all,l2,(l2.length:Int),(i:Int),!(decide (0<=l2[i].1/\l2[i].1<=s1) && (decide (1<=l2[i].2/\l2[i].2<=120) && !(decide (prv l2 i=some l2[i].1)))),l2[i].1,l2[i].2)) ?_ ?_
  .refine Ok.bind_eq (AH _ _ _) (Ok.ite (λh=>Ok.mk ?_) λh=>Ok.bind_eq (AH _ _ _) (Ok.ite (λh2=>Ok.mk ?_) λh2=>?_))
   .have h':decide (0<=l2[i].1/\l2[i].1<=s1)=false:=by simpa only [Aj0] using h
    rw [h'];rfl
   .have h':decide (1<=l2[i].2/\l2[i].2<=120)=false:=by simpa only [Aj0] using h2
    rw [h',Alc,AlY];rfl
   .have h':decide (0<=l2[i].1/\l2[i].1<=s1)=true:=by simpa only [Aj0,Ala] using h
    have h2':decide (1<=l2[i].2/\l2[i].2<=120)=true:=by simpa only [Aj0,Ala] using h2
    rw [h',h2',Aj3,Aj3,Bool.not_not];refine Ok.ite (λhp=>?_) λhp=>Ok.mk ?_
    .have hp':0 < i:=by simpa using hp
     have e:IntKind.wrap .i64 ((i:Int) - 1)=((i - 1:Nat):Int):=by rw [w64 O O];omega
     have hl1:i - 1 < l2.length:=O
     refine Ok.yes (by simp [e]) (Ok.bind_eq (r:=l2[i - 1]) (by simp [e,AjP hl1]) (Ok.mk ?_));have hne:¬ i=0:=O
     simp [prv,hne,AjP hl1]
    .have:i=0:=by
      have:¬ (0:Int) < (i:Int):=by simpa using hp
      omega
     subst this;simp [prv]
  rintro _ rfl;dsimp only;rw [W5 hlt]at hk;refine Ok.ite (λhbad=>Ok.mk ?_) λhgood=>?_
  .dsimp only;rw [hk];have hbad':(decide (0<=l2[i].1/\l2[i].1<=s1) && (decide (1<=l2[i].2/\l2[i].2<=120) && !(decide (prv l2 i=some l2[i].1))))=false:=by simpa only [Aj0] using hbad
   by_cases q1:0<=l2[i].1/\l2[i].1<=s1
   .by_cases q3:prv l2 i=some l2[i].1
    .simp [q3]
    .have q2:¬ (1<=l2[i].2/\l2[i].2<=120):=by simpa [q1,q3] using hbad'
     have:¬ (1<=l2[i].2/\l2[i].2<=m1 - all):=O
     simp [this]
   .simp [q1]
  .have hgood':(decide (0<=l2[i].1/\l2[i].1<=s1) && (decide (1<=l2[i].2/\l2[i].2<=120) && !(decide (prv l2 i=some l2[i].1))))=true:=by simpa only [Aj0,Ala] using hgood
   rw [AjT,AjT,decide_eq_true_eq,decide_eq_true_eq]at hgood';obtain ⟨q1,q2,q3⟩:=hgood';have w:IntKind.wrap .i64 (all+l2[i].2)=all+l2[i].2:=w64 O O;rw [w];refine Ok.ite (λhbig=>Ok.mk ?_) λhfit=>Ok.mk ⟨⟨rfl,rfl,rfl,?_,rfl,rfl,i+1,Ax hl hlt,O,?_⟩,?_⟩
   .dsimp only;have:m1 < all+l2[i].2:=by simpa using hbig
    have:¬ (1<=l2[i].2/\l2[i].2<=m1 - all):=O
    rw [hk];simp [this]
   .have:¬ m1 < all+l2[i].2:=by simpa using hfit
    dsimp only;omega
   .have hf:¬ m1 < all+l2[i].2:=by simpa using hfit
    have q4:1<=l2[i].2/\l2[i].2<=m1 - all:=O
    dsimp only;rw [hk,XW hlt,q3];simp only [q1,q4,and_self,decide_true,Aj3]
    congr 1;omega
   .rw [Ax hl hlt];dsimp only;omega
 .have:i=l2.length:=by
   have:¬ ((i:Int) < (List.length l2:Int)):=by simpa using hc
   omega
  subst this;refine Ok.mk ?_;dsimp only;rw [hk,Alw,grn];exact decide_eq_decide.2 O
theorem On {l:List Rn} (hl:l.length<=1099511627776) (many most:Int):It l many most=some (AM l many most):=by
 unfold It;refine Ok.eq (Ok.bind (Q:=λv=>v=(l,many,most,!(decide (0<=many/\many<=120) && decide (0<=most/\most<=60)))) ?_ ?_)
 .refine Ok.bind_eq (Ca _ _ _) (Ok.ite (λh=>Ok.mk ?_) λh=>Ok.bind_eq (Ca _ _ _) (Ok.mk ?_))
  .have h':decide (0<=many/\many<=120)=false:=by simpa only [Aj0] using h
   rw [h'];rfl
  .have h':decide (0<=many/\many<=120)=true:=by simpa only [Aj0,Ala] using h
   rw [h',Aj3]
 rintro _ rfl;dsimp only;refine Ok.ite (λhb=>Ok.mk ?_) λhb=>?_
 .have hb':(decide (0<=many/\many<=120) && decide (0<=most/\most<=60))=false:=by simpa only [Aj0] using hb
  unfold AM;rw [hb'];rfl
 have hb':(decide (0<=many/\many<=120) && decide (0<=most/\most<=60))=true:=by simpa only [Aj0,Ala] using hb
 have hg:AM l many most=grn most none many l:=by unfold AM;rw [hb',Aj3]
 rw [AjT,decide_eq_true_eq,decide_eq_true_eq]at hb';rw [hg];refine Ok.bind (Q:=λr=>match r with | .inl y=>decide (y.2=y.1)=grn most none many l | .inr b=>b=grn most none many l) ?_ (by rintro (y | b) hr <;> exact Ok.mk hr);refine Ok.loop (λy=>y.1=l/\y.2.1=many/\y.2.2.1=most/\(0<=y.2.2.2.1/\y.2.2.2.1<=many)/\y.2.2.2.2.1=l/\y.2.2.2.2.2.1=(l.length:Int)/\∃i:Nat,y.2.2.2.2.2.2=(i:Int)/\i<=l.length/\grn most none many l=grn most (prv l i) (many - y.2.2.2.1) (l.drop i))
  (λy=>((l.length:Int) - y.2.2.2.2.2.2).toNat) ⟨rfl,rfl,rfl,⟨Z,hb'.1.1⟩,rfl,rfl,0,rfl,All _,by simp [prv]⟩ ?_
 rintro ⟨l1,m1,s1,all,l2,n,i'⟩ ⟨e1,e2,e3,⟨h0,h1⟩,e4,e5,i,e6,hi,hk⟩;dsimp only at e1 e2 e3 h0 h1 e4 e5 e6 hk;subst e1 e2 e3 e4 e5 e6;unfold Oh gX wI;dsimp only;have wm:IntKind.wrap .i64 (m1 - all)=m1 - all:=w64 O O;rw [wm];refine Ok.ite (λhc=>?_) λhc=>?_
 .have hlt:i < l2.length:=by simpa using hc
  have hge:l2[Int.toNat (i:Int)]?=some l2[i]:=by simp [hlt]
  refine Ok.yes Z (Ok.bind_eq hge ?_);refine Ok.bind (Q:=λv=>v=(l2,m1,s1,all,l2,(l2.length:Int),(i:Int),!(decide (0<=l2[i].1/\l2[i].1<=s1) && (decide (1<=l2[i].2/\l2[i].2<=m1 - all) && !(decide (prv l2 i=some l2[i].1)))),l2[i].1,l2[i].2)) ?_ ?_
  .refine Ok.bind_eq (Ca _ _ _) (Ok.ite (λh=>Ok.mk ?_) λh=>Ok.bind_eq (Ca _ _ _) (Ok.ite (λh2=>Ok.mk ?_) λh2=>?_))
   .have h':decide (0<=l2[i].1/\l2[i].1<=s1)=false:=by simpa only [Aj0] using h
    rw [h'];rfl
   .have h':decide (1<=l2[i].2/\l2[i].2<=m1 - all)=false:=by simpa only [Aj0] using h2
    rw [h',Alc,AlY];rfl
   .have h':decide (0<=l2[i].1/\l2[i].1<=s1)=true:=by simpa only [Aj0,Ala] using h
    have h2':decide (1<=l2[i].2/\l2[i].2<=m1 - all)=true:=by simpa only [Aj0,Ala] using h2
    rw [h',h2',Aj3,Aj3,Bool.not_not];refine Ok.ite (λhp=>?_) λhp=>Ok.mk ?_
    .have hp':0 < i:=by simpa using hp
     have e:IntKind.wrap .i64 ((i:Int) - 1)=((i - 1:Nat):Int):=by rw [w64 O O];omega
     have hl1:i - 1 < l2.length:=O
     refine Ok.yes (by simp [e]) (Ok.bind_eq (r:=l2[i - 1]) (by simp [e,AjP hl1]) (Ok.mk ?_));have hne:¬ i=0:=O
     simp [prv,hne,AjP hl1]
    .have:i=0:=by
      have:¬ (0:Int) < (i:Int):=by simpa using hp
      omega
     subst this;simp [prv]
  rintro _ rfl;dsimp only;rw [W5 hlt]at hk;refine Ok.ite (λhbad=>Ok.mk ?_) λhgood=>?_
  .dsimp only;rw [hk];have hbad':(decide (0<=l2[i].1/\l2[i].1<=s1) && (decide (1<=l2[i].2/\l2[i].2<=m1 - all) && !(decide (prv l2 i=some l2[i].1))))=false:=by simpa only [Aj0] using hbad
   rw [hbad',Alc]
  .have hgood':(decide (0<=l2[i].1/\l2[i].1<=s1) && (decide (1<=l2[i].2/\l2[i].2<=m1 - all) && !(decide (prv l2 i=some l2[i].1))))=true:=by simpa only [Aj0,Ala] using hgood
   rw [hgood',Aj3]at hk;rw [AjT,AjT,decide_eq_true_eq,decide_eq_true_eq]at hgood';obtain ⟨q1,q2,q3⟩:=hgood';have w:IntKind.wrap .i64 (all+l2[i].2)=all+l2[i].2:=w64 O O;rw [w];refine Ok.mk ⟨⟨rfl,rfl,rfl,AjL,rfl,rfl,i+1,Ax hl hlt,O,?_⟩,?_⟩
   .dsimp only;rw [hk,XW hlt]
    congr 1;omega
   .rw [Ax hl hlt];dsimp only;omega
 .have:i=l2.length:=by
   have:¬ ((i:Int) < (List.length l2:Int)):=by simpa using hc
   omega
  subst this;refine Ok.mk ?_;dsimp only;rw [hk,Alw,grn];exact decide_eq_decide.2 O
theorem Afb {n m b:Nat} (h:n+m<=1099511627776) (hb:b<=64):Aa (n+m) b=true:=by
 simp only [Aa,decide_eq_true_eq];have:(n+m) * b<=1099511627776 * 64:=Nat.mul_le_mul h hb;omega
end Go.V.G
set_option maxRecDepth 100000
namespace Go.V.G
open Go.V
theorem Xy {cs:List (List Prt)} {i:Nat} (h:i < cs.length) (n:Int):chn n (cs.drop i)=((AG cs[i] && decide (src cs[i]=n)) && chn (tgt cs[i]) (cs.drop (i+1))):=by
 rw [Aks h];rfl
theorem Xf {cs:List (List Prt)} (hn:cs.length<=1099511627776) (hs:∀c∈cs,Sm 1099511627776 c) (n:Int):LA n cs=some (chn n cs):=by
 unfold LA;refine Ok.eq (Ok.bind (Q:=λr=>match r with | .inl _=>chn n cs=true | .inr b=>b=chn n cs) ?_ (by
  rintro (y | b) hr
  .exact Ok.mk hr.symm
  .exact Ok.mk hr))
 refine Ok.loop (λy=>y.2.1=cs/\y.2.2.1=(cs.length:Int)/\∃i:Nat,y.2.2.2=(i:Int)/\i<=cs.length/\chn n cs=chn y.1 (cs.drop i)) (λy=>((cs.length:Int) - y.2.2.2).toNat) ⟨rfl,rfl,0,rfl,All _,rfl⟩ ?_;rintro ⟨m,cs',l,i'⟩ ⟨e1,e2,i,e3,hi,hk⟩;dsimp only at e1 e2 e3 hk;subst e1 e2 e3;unfold PK gX wI;dsimp only;refine Ok.ite (λhc=>?_) λhc=>?_
 .have hlt:i < cs'.length:=by simpa using hc
  have hge:cs'[Int.toNat (i:Int)]?=some cs'[i]:=by simp [hlt]
  refine Ok.yes Z (Ok.bind_eq hge (Ok.bind_eq (TH (hs _ (Akc hlt)) O) ?_));rw [Xy hlt]at hk;unfold Xp;cases hg:AG cs'[i]with
  | false=>
   rw [hg]at hk;refine Ok.bind_eq (r:=(0,cs',(cs'.length:Int),(i:Int),true)) Z (Ok.yes rfl (Ok.mk ?_));dsimp only;rw [hk];simp
  | true=>
   rw [hg]at hk;refine Ok.bind_eq (r:=(tgt cs'[i],cs',(cs'.length:Int),(i:Int),decide (¬ src cs'[i]=m))) Z ?_;dsimp only;refine Ok.ite (λhb=>Ok.mk ?_) λhb=>Ok.mk ⟨⟨rfl,rfl,i+1,Ax hn hlt,O,?_⟩,?_⟩
   .have:¬ src cs'[i]=m:=by simpa using hb
    dsimp only;rw [hk];simp [this]
   .have:src cs'[i]=m:=by simpa using hb
    dsimp only;rw [hk];simp [this]
   .rw [Ax hn hlt];dsimp only;omega
 .have:i=cs'.length:=by
   have:¬ ((i:Int) < (List.length cs':Int)):=by simpa using hc
   omega
  subst this;refine Ok.mk ?_;dsimp only;rw [hk,Alw];rfl
theorem Rj {t:List UInt8} {r:List Rn} {cs:List (List Prt)} (h:HB t r cs) (f:Int):Hw f t r cs=some (Fy f t r cs):=by
 unfold Hw Fy wI;refine Ok.eq (Ok.bind (Q:=λb=>b=_) ?_ (λb hb=>Ok.mk hb));refine Ok.bind_eq (AH _ _ _) (Ok.ite (λq1=>?_) λq1=>Ok.mk ?_)
 .have q1':0<=f/\f<=60:=by simpa using q1
  rw [show decide (0<=f/\f<=60)=true from q1,Aj3];refine Ok.ite (λq2=>Ok.bind_eq (Ov h.hr _ _) (Ok.ite (λq3=>?_) λq3=>Ok.mk ?_)) λq2=>Ok.mk ?_
  .rw [show decide ((t.length:Int)<=120)=true from q2,q3,Aj3,Aj3];rw [w64 (O:-9223372036854775808<=60 - f) O];refine Ok.ite (λq4=>Ok.bind_eq (Xf h.hn h.hc _) (Ok.mk ?_)) λq4=>Ok.mk ?_
   .rw [q4,Aj3]
   .have:decide ((cs.length:Int)<=60 - f)=false:=by simpa using q4
    rw [this,Alc]
  .have:AM r (t.length:Int) f=false:=by simpa using q3
   rw [this];simp
  .have:decide ((t.length:Int)<=120)=false:=by simpa using q2
   rw [this];simp
 .have:decide (0<=f/\f<=60)=false:=by simpa using q1
  rw [this];simp
theorem Ry {t:List UInt8} {r:List Rn} {cs:List (List Prt)} (h:HB t r cs) (f:Int):HF f t r cs=some (Fy f t r cs):=by
 have hn:=h.hn;unfold HF wI;refine Ok.eq (Ok.bind (Q:=λv=>v=(!(decide (0<=f/\f<=60) && (decide ((t.length:Int)<=120) && (AM r (t.length:Int) f && decide ((cs.length:Int)<=60 - f)))),f,t,r,cs)) ?_ ?_)
 .refine Ok.bind_eq (Ca _ _ _) (Ok.ite (λq1=>Ok.mk ?_) λq1=>Ok.ite (λq2=>Ok.mk ?_) λq2=>Ok.bind_eq (On h.hr _ _) (Ok.ite (λq3=>Ok.mk ?_) λq3=>Ok.mk ?_))
  .have:decide (0<=f/\f<=60)=false:=by simpa only [Aj0] using q1
   rw [this];rfl
  .have:¬ (t.length:Int)<=120:=by
     have:(120:Int) < (t.length:Int):=by simpa using q2
     omega
   simp [this]
  .have:AM r (t.length:Int) f=false:=by simpa only [Aj0] using q3
   rw [this];simp
  .have g1:0<=f/\f<=60:=by simpa using q1
   have g2:(t.length:Int)<=120:=by
    have:¬ (120:Int) < (t.length:Int):=by simpa using q2
    omega
   have g3:AM r (t.length:Int) f=true:=by simpa only [Aj0,Ala] using q3
   rw [w64 (O:-9223372036854775808<=60 - f) O,g3];simp only [g1,and_self,decide_true,g2,Aj3]
   congr 1
   by_cases hx:60 - f < (cs.length:Int)
   .have:¬ (cs.length:Int)<=60 - f:=O
    simp [hx,this]
   .have:(cs.length:Int)<=60 - f:=O
    simp [hx,this]
 rintro _ rfl;dsimp only;have split:Fy f t r cs=((decide (0<=f/\f<=60) && (decide ((t.length:Int)<=120) && (AM r (t.length:Int) f && decide ((cs.length:Int)<=60 - f)))) && chn (t.length:Int) cs):=by
  unfold Fy;simp only [AlT]
 rw [split];refine Ok.ite (λhb=>Ok.mk ?_) λhb=>?_
 .have:(decide (0<=f/\f<=60) && (decide ((t.length:Int)<=120) && (AM r (t.length:Int) f && decide ((cs.length:Int)<=60 - f))))=false:=by simpa only [Aj0] using hb
  rw [this];rfl
 have hb':(decide (0<=f/\f<=60) && (decide ((t.length:Int)<=120) && (AM r (t.length:Int) f && decide ((cs.length:Int)<=60 - f))))=true:=by simpa only [Aj0,Ala] using hb
 rw [hb',Aj3];have ht:(t.length:Int)<=120:=by simp only [AjT,decide_eq_true_eq]at hb';exact hb'.2.1
 refine Ok.bind (Q:=λr=>match r with | .inl _=>chn (t.length:Int) cs=true | .inr b=>b=chn (t.length:Int) cs) ?_ (by
  rintro (y | b) hr
  .exact Ok.mk hr.symm
  .exact Ok.mk hr)
 refine Ok.loop (λy=>y.2.1=cs/\y.2.2.1=(cs.length:Int)/\∃i:Nat,y.2.2.2=(i:Int)/\i<=cs.length/\chn (t.length:Int) cs=chn y.1 (cs.drop i)) (λy=>((cs.length:Int) - y.2.2.2).toNat) ⟨rfl,rfl,0,rfl,All _,rfl⟩ ?_;rintro ⟨m,cs',l,i'⟩ ⟨e1,e2,i,e3,hi,hk⟩;dsimp only at e1 e2 e3 hk;subst e1 e2 e3;unfold Lk gX wI;dsimp only;refine Ok.ite (λhc=>?_) λhc=>?_
 .have hlt:i < cs'.length:=by simpa using hc
  have hge:cs'[Int.toNat (i:Int)]?=some cs'[i]:=by simp [hlt]
  have sm:=h.hc _ (Akc hlt);refine Ok.yes Z (Ok.bind_eq hge ?_);rw [Xy hlt]at hk;cases hg:AG cs'[i]with
  | false=>
   rw [hg]at hk;refine Ok.bind_eq (r:=(cs',(cs'.length:Int),(i:Int),true,cs'[i])) (by rw [LT sm O,hg];rfl) (Ok.yes rfl (Ok.mk ?_));dsimp only;rw [hk];simp
  | true=>
   rw [hg]at hk;have ss:=Bf (Aq hg).1;have g2:=(Aq hg).2;refine Ok.bind_eq (r:=(cs',(cs'.length:Int),(i:Int),decide (¬ src cs'[i]=m),cs'[i])) (by rw [LT sm O,hg,AjM,AjR Z,Qu sm O ss O];rfl) ?_;dsimp only;refine Ok.ite (λhb=>Ok.mk ?_) λhb=>Ok.bind_eq (Yv sm O ss O) (Ok.mk ⟨⟨rfl,rfl,i+1,Ax hn hlt,O,?_⟩,?_⟩)
   .have:¬ src cs'[i]=m:=by simpa using hb
    dsimp only;rw [hk];simp [this]
   .have:src cs'[i]=m:=by simpa using hb
    dsimp only;rw [hk];simp [this]
   .rw [Ax hn hlt];dsimp only;omega
 .have:i=cs'.length:=by
   have:¬ ((i:Int) < (List.length cs':Int)):=by simpa using hc
   omega
  subst this;refine Ok.mk ?_;dsimp only;rw [hk,Alw];rfl
theorem Xu:K7=GG:=rfl
theorem AaT {c:List Prt} (hg:AG c=true) {t:List UInt8} (ht:(t.length:Int)=src c):HG t c=some (apply t c,true):=by
 have hs:=Bf (Aq hg).1;have sm:=C5 hg;have sle:=(Aq hg).2.1;have ha:=SI hg ht;unfold M0 at ha;rw [AjQ]at ha;obtain ⟨z,hz,he⟩:=ha;obtain rfl:z=apply t c:=Ak7 he;unfold HG;rw [LT sm O,hg,AjM,AjR Z,Qu sm O hs O,AjM,AjM,AjR (by simp [ht]),Xu];rw [hz];rfl
theorem Xl {t:List UInt8} {cs:List (List Prt)} {i:Nat} (h:i < cs.length):txt t (cs.take (i+1))=apply (txt t (cs.take i)) cs[i]:=by
 unfold txt;rw [Akd h,Alr];rfl
theorem XQ {n:Int} {cs:List (List Prt)} (h:chn n cs=true) {i:Nat} (hi:i < cs.length):AG cs[i]=true/\src cs[i]=D5 n (cs.take i)/\D5 n (cs.take (i+1))=tgt cs[i]:=by
 have h2:=(DU h i).2;rw [Aks hi]at h2;obtain ⟨k1,k2,k3⟩:=Fj h2;refine⟨k1,k2,?_⟩;rw [Akd hi,Mz];rfl
theorem Y8 {t:List UInt8} {cs:List (List Prt)} (hn:cs.length<=1099511627776) (hc:chn (t.length:Int) cs=true):Ab DB (t,cs,(cs.length:Int),0)=some (txt t cs):=by
 have:=An DB (λi=>(txt t (cs.take i),cs,(cs.length:Int),((i:Nat):Int))) cs.length (txt t cs) (by
  intro i hi;have hlt:((i:Nat):Int) < (cs.length:Int):=O
  obtain ⟨k1,k2,k3⟩:=XQ hc hi;have hl:=PT (DU hc i).1;unfold DB gX wI;simp only [hlt,decide_true,Akh,show(0:Int)<=((i:Nat):Int) from by omega,AjO,AjP hi,AjM,SI k1 (by rw [hl,k2]),Ax hn hi,Xl hi]) (by simp [DB,gX,wI])
 simpa [txt] using this
theorem Yl {t:List UInt8} {cs:List (List Prt)} (hn:cs.length<=1099511627776) (hc:chn (t.length:Int) cs=true):Ab Gh (t,cs,(cs.length:Int),0)=some (txt t cs):=by
 have:=An Gh (λi=>(txt t (cs.take i),cs,(cs.length:Int),((i:Nat):Int))) cs.length (txt t cs) (by
  intro i hi;have hlt:((i:Nat):Int) < (cs.length:Int):=O
  obtain ⟨k1,k2,k3⟩:=XQ hc hi;have hl:=PT (DU hc i).1;unfold Gh gX wI;simp only [hlt,decide_true,Akh,show(0:Int)<=((i:Nat):Int) from by omega,AjO,AjP hi,AjM,AaT k1 (by rw [hl,k2]),Ax hn hi,Xl hi]) (by simp [Gh,gX,wI])
 simpa [txt] using this
section
variable {f:Int} {t:List UInt8} {r:List Rn} {cs:List (List Prt)}
theorem PB (g:GH f t r cs) {x:Int} (h1:f<=x) (h2:x<=f+cs.length):DT f t r cs x=some (txt t (cs.take (x - f).toNat)):=by
 have:=g.hf;have:=g.hn;have w:IntKind.wrap .i64 (x - f)=x - f:=w64 O O;have hl:=Y8 (cs:=cs.take (x - f).toNat) (by rw [AjW];omega) (DU g.hc _).1;unfold DT sX wI;simp only [w,AkZ,decide_true,Akh,show(0:Int)<=x - f from by omega,(O:x - f<=(cs.length:Int)),Int.toNat_zero,AkR,AlD];rw [hl];rfl
theorem T5 (g:GH f t r cs) {x:Int} (h1:f<=x) (h2:x<=f+cs.length):JJ f t r cs x=some (txt t (cs.take (x - f).toNat)):=by
 have:=g.hf;have:=g.hn;have w:IntKind.wrap .i64 (x - f)=x - f:=w64 O O;have hl:=Yl (cs:=cs.take (x - f).toNat) (by rw [AjW];omega) (DU g.hc _).1;unfold JJ sX wI;simp only [w,AkZ,decide_true,Akh,show(0:Int)<=x - f from by omega,(O:x - f<=(cs.length:Int)),Int.toNat_zero,AkR,AlD];rw [hl];rfl
theorem AfH (g:GH f t r cs) (k:Nat):(((txt t (cs.take k)).length:Nat):Int)=D5 (t.length:Int) (cs.take k)/\0<=D5 (t.length:Int) (cs.take k)/\D5 (t.length:Int) (cs.take k)<=120:=
 ⟨PT (DU g.hc k).1,TO (DU g.hc k).1 O g.ht⟩
end
end Go.V.G
set_option maxRecDepth 100000
namespace Go.V.G
open Go.V
def Ad2 (xs:List (Int×Int)):Prop:=xs.length<=maxLen
def VO (xs:List (Int×Int)):Nat:=xs.length
def US (xs:List (Int×(Int×List UInt8))):Prop:=xs.length<=maxLen/\∀x∈xs,x.2.2.length<=maxLen
def AbQ (x:Int×(Int×List UInt8)):Nat:=x.2.2.length
def MS (xs:List (Int×(Int×List UInt8))):Nat:=xs.length+D4 AbQ xs
def YX (xs:List (List (Int×(Int×List UInt8)))):Prop:=xs.length<=maxLen/\∀x∈xs,US x
def OF (xs:List (List (Int×(Int×List UInt8)))):Nat:=xs.length+D4 MS xs
end Go.V.G
set_option maxRecDepth 100000
namespace Go.V.G
open Go.V
theorem n2:((2:Nat):Int)=2:=rfl
theorem n3:((3:Nat):Int)=3:=rfl
abbrev Hst:=Int×(List UInt8×(List (Int×Int)×List (List (Int×(Int×List UInt8)))))
def UI (h:Hst):Nat:=h.2.1.length+VO h.2.2.1+OF h.2.2.2
end Go.V.G
set_option maxRecDepth 100000
namespace Go.V.G
open Go.V
structure FitP (c:List Prt):Prop where
 l:US c
 i:∀p∈c,I64 p.1/\I64 p.2.1
structure FitH (t:List UInt8) (r:List Rn) (cs:List (List Prt)):Prop where
 ht:t.length<=maxLen
 hr:Ad2 r
 hc:YX cs
 hi:∀c∈cs,∀p∈c,I64 p.1/\I64 p.2.1
theorem Adu:∀c:List Prt,MS c=c.length+BX c
 | []=>rfl
 | p::c=>by
  have ih:=Adu c;simp only [MS,D4,AbQ,BX,Aj1]at ih ⊢;omega
theorem Zx {α:Type} {w:α->Nat} {B:Nat}:∀{xs:List α},(∀x∈xs,w x<=B)->D4 w xs<=xs.length * B
 | [],_=>by simp [D4]
 | x::xs,h=>by
  have ih:=Zx (xs:=xs) λy hy=>h y (by simp [hy])
  have:=h x Z;simp only [D4,Aj1,AlN];omega
theorem Ahz {c:List Prt} (h:AG c=true):MS c<=480:=by
 have:=C5 h;have:=this.len;have:=(C5 h).put;rw [Adu];omega
theorem Af2 {cs:List (List Prt)} (h:∀c∈cs,AG c=true) (hn:cs.length<=1000):OF cs<=1000000:=by
 have:=Zx (w:=MS) (B:=480) λc hc=>Ahz (h c hc)
 unfold OF;omega
theorem AhP {l:List Rn} {n m:Int} (h:AM l n m=true):VO l<=120:=by
 obtain ⟨h1,_,h6⟩:=goodRuns_iff.1 h;have:=MZ h6.pos;rw [h6.sum]at this;unfold VO;omega
theorem GH.w {f:Int} {t:List UInt8} {r:List Rn} {cs:List (List Prt)} (g:GH f t r cs):UI (f,t,r,cs)<=2000000:=by
 have:=g.ht;have:=g.hn;have:=g.hf;have h1:=Af2 (TE g.hc) O;have h2:=AhP g.hr;unfold UI;dsimp only;omega
end Go.V.G
set_option maxRecDepth 100000
namespace Go.V.G
open Go.V
abbrev EB (a:List Prt) (cs:List (List Prt)):List Prt:=cs.foldl (λa c=>AN a c) a
theorem Abl {a:List Prt} {cs:List (List Prt)} {i:Nat} (h:i < cs.length):EB a (cs.take (i+1))=AN (EB a (cs.take i)) cs[i]:=by
 unfold EB;rw [Akd h,Alr];rfl
theorem AdQ {a:List Prt} {cs:List (List Prt)} (ha:AG a=true) (hc:chn (tgt a) cs=true) {i:Nat} (hi:i < cs.length) :
  AG (EB a (cs.take i))=true/\AG cs[i]=true/\tgt (EB a (cs.take i))=src cs[i]:=by
 obtain ⟨k1,k2,k3⟩:=XQ hc hi;obtain ⟨r1,r2,r3⟩:=LM ha (DU hc i).1;exact⟨r1,k1,by rw [r3,k2]⟩
theorem YO {a:List Prt} {cs:List (List Prt)} (hn:cs.length<=1099511627776) (ha:AG a=true) (hc:chn (tgt a) cs=true):Ab FM (a,cs,(cs.length:Int),0)=some (EB a cs):=by
 have:=An FM (λi=>(EB a (cs.take i),cs,(cs.length:Int),((i:Nat):Int))) cs.length (EB a cs) (by
  intro i hi;have hlt:((i:Nat):Int) < (cs.length:Int):=O
  obtain ⟨k1,k2,k3⟩:=AdQ ha hc hi;unfold FM gX wI;simp only [hlt,decide_true,Akh,show(0:Int)<=((i:Nat):Int) from by omega,AjO,AjP hi,AjM,WQ k1 k2 k3,Ax hn hi,Abl hi]) (by simp [FM,gX,wI])
 simpa using this
theorem Ve {c:List Prt} {cs:List (List Prt)} (hn:cs.length<=1000000) (ha:AG c=true) (hc:chn (tgt c) cs=true):Ki (c::cs)=some (EB c cs):=by
 obtain ⟨r1,_⟩:=LM ha hc;have hr:Aa (List.length ([]:List Prt)+List.length (EB c cs)) 32=true:=Afb (by have:=(C5 r1).len;simpa using Ako this O) O;have hl:=YO O ha hc;unfold Ki cK gX sX;have e1:Int.toNat (((c::cs).length:Nat):Int) - Int.toNat 1=cs.length:=by simp
 have e2:(List.drop (Int.toNat 1) (c::cs)).take cs.length=cs:=by simp
 rw [e1,e2];exact Ok.eq (Ok.yes Z (Ok.bind_eq (r:=c) Z (Ok.yes Z (Ok.yes AjJ (Ok.yes Z (Ok.yes Z (Ok.bind_eq hl (Ok.yes hr (Ok.mk rfl)))))))))
section
variable {f:Int} {t:List UInt8} {r:List Rn} {cs:List (List Prt)}
def seg (cs:List (List Prt)) (a b:Int):List (List Prt):=(cs.drop a.toNat).take (b.toNat - a.toNat)
def Kk (t:List UInt8) (cs:List (List Prt)) (a:Int):Int:=D5 (t.length:Int) (cs.take a.toNat)
def BW (f:Int) (t:List UInt8) (cs:List (List Prt)) (a b:Int):List Prt:=btw (Kk t cs (a - f)) (seg cs (a - f) (b - f))
theorem Qg (g:GH f t r cs) (a b:Int):chn (Kk t cs a) (seg cs a b)=true:=(DU (DU g.hc a.toNat).2 _).1
theorem Z4 (g:GH f t r cs) {a b:Int} (h0:0<=a) (h1:a<=b):D5 (Kk t cs a) (seg cs a b)=Kk t cs b:=by
 unfold Kk seg;rw [<- Mz,<- List.take_add]
 congr 2;omega
theorem X3 (g:GH f t r cs) (a:Int):0<=Kk t cs a/\Kk t cs a<=120:=TO (DU g.hc _).1 O g.ht
theorem IK (g:GH f t r cs) {a b:Int} (h0:f<=a) (h1:a<=b):AG (BW f t cs a b)=true/\src (BW f t cs a b)=Kk t cs (a - f)/\tgt (BW f t cs a b)=Kk t cs (b - f):=by
 obtain ⟨k1,k2⟩:=X3 g (a - f);obtain ⟨r1,r2,r3⟩:=VU (Qg g (a - f) (b - f)) k1 k2;exact⟨r1,r2,by rw [BW,r3,Z4 g O O]⟩
theorem Acx (n:Int):RY n=some (idc n):=by
 unfold RY idc;by_cases h:n=0 <;> simp [h]
theorem Xg (g:GH f t r cs) {a b:Int} (h0:f<=a) (h1:a<=b) (h2:b<=f+cs.length):EE f t r cs a b=some (BW f t cs a b):=by
 have:=g.hf;have:=g.hn;have w1:IntKind.wrap .i64 (a - f)=a - f:=w64 O O;have w2:IntKind.wrap .i64 (b - f)=b - f:=w64 O O;unfold EE sX wI;by_cases hab:a=b
 .subst hab;rw [AjS Z,PB g h0 h2,AjM,(AfH g _).1,Acx,AjM];have e:seg cs (a - f) (a - f)=[]:=by simp [seg]
  rw [BW,e];rfl
 .have hlt:(a - f).toNat < cs.length:=O
  obtain ⟨c,ds,hds⟩:∃c ds,seg cs (a - f) (b - f)=c::ds:=by
   have:(seg cs (a - f) (b - f)).length≠0:=by unfold seg;rw [AjW,Akf];omega
   cases hsg:seg cs (a - f) (b - f)with
   | nil=>rw [hsg]at this;exact absurd rfl this
   | cons c ds=>exact⟨c,ds,rfl⟩
  have hch:=Qg g (a - f) (b - f);have hb:BW f t cs a b=EB c ds:=by unfold BW;rw [hds]at hch ⊢;exact Rr hch
  have hln:ds.length<=1000000:=by
   have h9:(seg cs (a - f) (b - f)).length<=cs.length:=by unfold seg;rw [AjW,Akf];omega
   rw [hds,Aj1]at h9;omega
  rw [hds]at hch;obtain ⟨k1,k2,k3⟩:=Fj hch;have hc:=Ve hln k1 k3;rw [AjR (by simpa using hab),w1,w2,hb];rw [show(List.drop (a - f).toNat cs).take ((b - f).toNat - (a - f).toNat)=c::ds from hds,hc];simp only [AjM,AkZ,decide_true,Akh,show(0:Int)<=a - f from by omega,(O:a - f<=b - f),(O:b - f<=(cs.length:Int))]
end
end Go.V.G
set_option maxRecDepth 100000
namespace Go.V.G
open Go.V
def Byt (l:List Int):Prop:=∀x∈l,0<=x/\x<=255
theorem Byt.append {a b:List Int} (h:Byt a) (k:Byt b):Byt (a++b):=λx hx=>(AjV.1 hx).elim (h x) (k x)
theorem Zf (s:List UInt8):Byt (Ay s):=λx hx=>by
 obtain ⟨b,_,rfl⟩:=Aj9.1 hx;have:=b.toNat_lt;omega
def Q5 (h x:Int):Int:=IntKind.wrap .u32 ((IntKind.wrap .u32 (((BitVec.ofInt (IntKind.bits .u32) h ^^^ BitVec.ofInt (IntKind.bits .u32) (IntKind.wrap .u32 x)).toNat:Int))) * 16777619)
theorem Agc (h x:Int):0<=Q5 h x/\Q5 h x < 4294967296:=by unfold Q5;rw [IntKind.wrap_u32];omega
theorem Af4 {h x:Int} (h0:0<=h) (h1:h < 4294967296) (x0:0<=x) (x1:x<=255) :
  Int.tmod (IntKind.wrap .u64 ((IntKind.wrap .u64 (((BitVec.ofInt (IntKind.bits .u64) h ^^^ BitVec.ofInt (IntKind.bits .u64) (IntKind.wrap .u64 x)).toNat:Int))) * 16777619)) 4294967296=Q5 h x:=by
 unfold Q5;obtain ⟨a,rfl⟩:=Akg h0;obtain ⟨b,rfl⟩:=Akg x0;have ha:a < 4294967296:=O
 have hb:b < 4294967296:=O
 have hx:=Nat.xor_lt_two_pow (n:=32) (O:a < 2 ^ 32) (O:b < 2 ^ 32);rw [Yf (n:=(b:Int)) O O,IntKind.wrap_u32 (b:Int),show(b:Int) % 4294967296=(b:Int) by omega];have e64:((BitVec.ofInt (IntKind.bits .u64) (a:Int) ^^^ BitVec.ofInt (IntKind.bits .u64) (b:Int)).toNat)=a ^^^ b:=by
  rw [BitVec.toNat_xor,BitVec.ofInt_natCast,BitVec.ofInt_natCast,BitVec.toNat_ofNat,BitVec.toNat_ofNat,show IntKind.bits .u64=64 from rfl,Al0 O,Al0 O]
 have e32:((BitVec.ofInt (IntKind.bits .u32) (a:Int) ^^^ BitVec.ofInt (IntKind.bits .u32) (b:Int)).toNat)=a ^^^ b:=by
  rw [BitVec.toNat_xor,BitVec.ofInt_natCast,BitVec.ofInt_natCast,BitVec.toNat_ofNat,BitVec.toNat_ofNat,show IntKind.bits .u32=32 from rfl,Al0 O,Al0 O]
 rw [e64,e32];generalize a ^^^ b=m at hx;rw [Yf (n:=(m:Int)) O O,IntKind.wrap_u32 (m:Int),show(m:Int) % 4294967296=(m:Int) by omega,Yf O O,IntKind.wrap_u32,Aln O]
def dig (h:Int) (b:List Int):Int:=b.foldl Q5 h
theorem XI {b:List Int} {h:Int} {i:Nat} (hi:i < b.length):dig h (b.take (i+1))=Q5 (dig h (b.take i)) b[i]:=by
 unfold dig;rw [Akd hi,Alr];rfl
theorem XB:∀(b:List Int) {h:Int},0<=h/\h < 4294967296->0<=dig h b/\dig h b < 4294967296
 | [],_,h=>h
 | x::b,h,_=>XB b (Agc h x)
theorem Qs {b:List Int} (hl:b.length<=1099511627776) (h:Int):K5 h b=some (dig h b):=by
 unfold K5;have:=An Hb (λi=>(dig h (b.take i),b,(b.length:Int),((i:Nat):Int))) b.length (dig h b) (by
  intro i hi;have hlt:((i:Nat):Int) < (b.length:Int):=O
  unfold Hb gX wI;simp only [hlt,decide_true,Akh,show(0:Int)<=((i:Nat):Int) from by omega,AjO,AjP hi,AjM,Ax hl hi,XI hi];rfl) (by simp [Hb,gX,wI])
 have e:Ab Hb (h,b,(b.length:Int),0)=some (dig h b):=by simpa [dig] using this
 rw [e];rfl
theorem Oj {b:List Int} (hl:b.length<=1099511627776):Iz b=some (dig 2166136261 b):=by
 unfold Iz;rw [Qs hl];rfl
theorem Om {b:List Int} (hl:b.length<=1099511627776) (hb:Byt b):Iq b=some (dig 2166136261 b):=by
 unfold Iq;have:=An FK (λi=>(dig 2166136261 (b.take i),b,(b.length:Int),((i:Nat):Int))) b.length (dig 2166136261 b) (by
  intro i hi;have hlt:((i:Nat):Int) < (b.length:Int):=O
  have hd:=XB (b.take i) (h:=2166136261) O;have hx:=hb _ (Akc hi);unfold FK cK gX wI;simp only [hlt,decide_true,Akh,show(0:Int)<=((i:Nat):Int) from by omega,AjO,AjP hi,AjM,show decide (¬ (4294967296:Int)=0)=true from rfl,Ax hl hi,XI hi,Af4 hd.1 hd.2 hx.1 hx.2]) (by simp [FK,cK,gX,wI])
 have e:Ab FK (2166136261,b,(b.length:Int),0)=some (dig 2166136261 b):=by simpa [dig] using this
 have hd:=XB b (h:=2166136261) O;rw [e,AjM,IntKind.wrap_u32]
 congr 1;omega
def Hj (d:Int):List Int:=[IntKind.wrap .u8 (Int.fdiv d (2 ^ (min (Int.toNat 24) (IntKind.bits .u32)))),IntKind.wrap .u8 (Int.fdiv d (2 ^ (min (Int.toNat 16) (IntKind.bits .u32)))),IntKind.wrap .u8 (Int.fdiv d (2 ^ (min (Int.toNat 8) (IntKind.bits .u32)))),IntKind.wrap .u8 d]
theorem UL (d:Int):Sa d=some (Hj d):=rfl
theorem AbL {c:List Prt} (h:AG c=true):(enc c).length<=720:=by
 have:=(C5 h).len;have:=(C5 h).put;rw [TV];omega
theorem Aat {c:List Prt} (hg:AG c=true):Byt (enc c):=λx hx=>by
 obtain ⟨p,hp,h⟩:=AlS.1 hx;obtain ⟨q1,q2⟩:=ID hg hp;have hk:=AeT p;simp only [Fk,AjV,Aj5,Al1,or_false]at h;rcases h with(rfl | rfl) | h
 .omega
 .omega
 .exact Zf _ x h
section
variable {f:Int} {t:List UInt8} {r:List Rn} {cs:List (List Prt)}
end
end Go.V.G
set_option maxRecDepth 100000
namespace Go.V.G
open Go.V
def Mb (d:List Int):List Int:=d++List.replicate (124 - d.length) 0
theorem I0 {d:List Int} (h:d.length<=124):(Mb d).length=124:=by unfold Mb;simp;omega
theorem T9 {d:List Int} (h:d.length<=124):K4 d 124=some (Mb d):=by
 unfold K4 Mb cK cZ wI;rw [w64 O O,iy O,(O:Int.toNat ((124:Int) - (d.length:Int))=124 - d.length),AjS (by simp only [Aa,decide_eq_true_eq,AkY];omega)]
theorem ST {d:List Int} (h:U8s d):U8s (Mb d):=λv hv=>by
 unfold Mb at hv;rcases AjV.1 hv with hv | hv
 .exact h v hv
 .rw [(List.mem_replicate.1 hv).2];omega
theorem Z2 (d:Int):U8s (Hj d):=λv hv=>by
 simp only [Hj,Aj5,Al1,or_false]at hv;rcases hv with rfl | rfl | rfl | rfl <;> exact SU _
def sgn (d:List Int):List Int:=d++Hj (dig 2166136261 d)
theorem AgE (d:List Int):(sgn d).length=d.length+4:=by unfold sgn Hj;simp
def QY (f hd ev r t:Int):List Int:=[83,84,82,49,f,hd,ev,0,0,r,0,t]
def Nk (f hd ev r t:Int):List Int:=sgn (Mb (QY f hd ev r t))
structure SupOk (f hd ev:Int) (r t:Nat):Prop where
 f:0<=f/\f<=hd
 h:hd<=60
 e:1<=ev/\ev<=30
 r:33<=r/\r<=159
 t:33<=t/\t<=159
theorem AeH (f hd ev r t:Int):(Nk f hd ev r t).length=128:=by unfold Nk;rw [AgE,I0 (by simp [QY])]
theorem ZS {f hd ev:Int} {r t:Nat} (h:SupOk f hd ev r t):U8s (QY f hd ev r t):=λv hv=>by
 have h1:=h.f;have h2:=h.h;have h3:=h.e;have h4:=h.r;have h5:=h.t;simp only [QY,Aj5,Al1,or_false]at hv;rcases hv with rfl | rfl | rfl | rfl | rfl | rfl | rfl | rfl | rfl | rfl | rfl | rfl <;> omega
theorem AgC {f hd ev:Int} {r t:Nat} (h:SupOk f hd ev r t):U8s (Nk f hd ev r t):=λv hv=>by
 unfold Nk sgn at hv;rcases AjV.1 hv with hv | hv
 .exact ST (ZS h) v hv
 .exact Z2 _ v hv
theorem Abr {f hd ev:Int} {r t:Nat} (h:SupOk f hd ev r t):EQ f hd ev (r:Int) (t:Int)=some (Nk f hd ev r t,true):=by
 have h1:=h.f;have h2:=h.h;have h3:=h.e;have h4:=h.r;have h5:=h.t;unfold EQ Ht JL cK;rw [iy h1.1,iy h1.2,decide_eq_true h2,AjM,AjM,AjR Z,AH,decide_eq_true h3,AjM,AjR Z,AH,decide_eq_true O,AjM,AjM,AjR Z,
  AH,decide_eq_true O,AjM,AjM,AjM]
 dsimp only;rw [AjR Z,AcU O,AcU O,AjM,AjM,wub (r:=f) O O,wub (r:=hd) O O,wub (r:=ev) O O,
  AjS (by simp [Aa]),AjS (by simp [Aa]),T9 Z,AjM,Oj (by rw [I0 Z];omega),AjM,UL,AjM,AjS (by
   simp only [Aa,decide_eq_true_eq];rw [I0 Z];simp [Hj])]
 rfl
theorem Abi {f hd ev:Int} {r t:Nat} (h:SupOk f hd ev r t):J3 f hd ev (r:Int) (t:Int)=some (Nk f hd ev r t):=by
 have h1:=h.f;have h2:=h.h;have h3:=h.e;have h4:=h.r;have h5:=h.t;unfold J3 cK cZ wI wB;simp only [wub (r:=f) O O,wub (r:=hd) O O,wub (r:=ev) O O,wub (r:=(r:Int)) O O,wub (r:=(t:Int)) O O,w8d (m:=r) O,w8d (m:=t) O];have e:IntKind.wrap .i64 (124 - (List.length [83,84,82,49,f,hd,ev,0,0,(r:Int),0,(t:Int)]:Int))=112:=by
  simp only [Aj1,Akl];rw [w64 O O];rfl
 rw [e,iy AjK,iy AjK,iy O,AjS (by simp [Aa])];have ep:[83,84,82,49,f,hd,ev,0,0,(r:Int),0,(t:Int)]++List.replicate (Int.toNat 112) 0=Mb (QY f hd ev r t):=rfl;rw [ep,Om (by rw [I0 (by simp [QY])];omega) (ST (ZS h)),AjM,iy O,iy O,iy O,AjS (by
  simp only [Aa,decide_eq_true_eq];rw [I0 (by simp [QY])];simp)]
 rfl
end Go.V.G
set_option maxRecDepth 100000
namespace Go.V.G
open Go.V
abbrev Wr:=Int×List Int
section
variable {b:Bls} {x y z d:List Int}
structure GrOk (n:Nat) (g:List Wr):Prop where
 len:g.length<=2100
 at_:∀w∈g,0<=w.1/\w.1 < (n:Int)
 hd:∀w∈g,w.2.length=128
 u8:∀w∈g,U8s w.2
end
end Go.V.G
set_option maxRecDepth 100000
namespace Go.V.G
open Go.V
def hdA (g:List Wr) (k:Nat):List Int:=[76,79,71,49,(g.length:Int)]++(g.take k).flatMap λw=>D7 w.1
theorem MD (g:List Wr) (k:Nat):(hdA g k).length<=5+2 * k:=by
 unfold hdA;have:((g.take k).flatMap λw=>D7 w.1).length=2 * (g.take k).length:=by
  generalize g.take k=l
  induction l with
  | nil=>rfl
  | cons a l ih=>rw [Ak9,AjU,ih];simp [D7];omega
 rw [AjU,this,AjW];simp only [Aj1,Akl];omega
def dat (g:List Wr) (k:Nat):List Int:=(g.take k).flatMap (·.2)
theorem Rg {g:List Wr} {k:Nat} {w:Wr} (h:g[k]?=some w):dat g (k+1)=dat g k++w.2:=by
 unfold dat;rw [CW h,Ak6];simp
theorem Xh {g:List Wr} {k:Nat} {w:Wr} (h:g[k]?=some w):hdA g (k+1)=hdA g k++D7 w.1:=by
 unfold hdA;rw [CW h,Ak6,AjY];simp
def hdH (g:List Wr):List Int:=Mb (hdA g g.length)
def Np (g:List Wr):List Int:=hdH g++Hj (dig (dig 2166136261 (hdH g)) (dat g g.length))
theorem AgQ (n:Int):U8s (D7 n):=λv hv=>by
 simp only [D7,Aj5,Al1,or_false]at hv;rcases hv with rfl | rfl <;> exact SU _
theorem Aca {g:List Wr} (h:g.length<=30):U8s (hdH g):=ST λv hv=>by
 unfold hdA at hv;rcases AjV.1 hv with hv | hv
 .simp only [Aj5,Al1,or_false]at hv;rcases hv with rfl | rfl | rfl | rfl | rfl <;> omega
 .obtain ⟨w,_,hw⟩:=AlS.1 hv;exact AgQ _ v hw
theorem I2 {g:List Wr} (h:g.length<=30):(hdH g).length=124:=I0 (by have:=MD g g.length;omega)
theorem Ady {g:List Wr} (h:g.length<=30):(Np g).length=128:=by unfold Np Hj;rw [AjU,I2 h];rfl
theorem Agi {g:List Wr} (h:g.length<=30):U8s (Np g):=λv hv=>by
 unfold Np at hv;rcases AjV.1 hv with hv | hv
 .exact Aca h v hv
 .exact Z2 _ v hv
theorem Z8 (h:Int) (a b:List Int):dig (dig h a) b=dig h (a++b):=by unfold dig;rw [Alr]
def nul:Wr:=(0,[])
def gw (g:List Wr) (k:Nat):Wr:=g[k]?.getD nul
theorem E2 {g:List Wr} {k:Nat} (h:k < g.length):g[k]?=some (gw g k):=by unfold gw;rw [AjP h];rfl
theorem Ta {n:Nat} {g:List Wr} (h:GrOk n g):∀k,k<=g.length->(dat g k).length=128 * k
 | 0,_=>rfl
 | k+1,hk=>by
  have hg:=E2 (g:=g) (k:=k) O;have:=h.hd _ (Akz hg);rw [Rg hg,AjU,Ta h k O,this];omega
theorem Ahm {n:Nat} {g:List Wr} (h:GrOk n g) (k:Nat):U8s (dat g k):=λv hv=>by
 obtain ⟨w,hw,hv⟩:=AlS.1 hv;exact h.u8 w (Alo hw) v hv
section
variable {n:Nat} {g:List Wr}
theorem Ad9 (hl:g.length<=30) (d:Int):Aa ((hdH g).length+(Hj d).length) 1=true:=by
 rw [I2 hl,show(Hj d).length=4 from rfl];rfl
theorem YD (h:GrOk n g) (hn:n<=160) (hl:g.length<=30):NE g=some (Np g):=by
 unfold NE cK wB;have h1:=An Hi (λk=>(g,hdA g k,g,(g.length:Int),((k:Nat):Int))) g.length (g,hdA g g.length) (λk hk=>by
   have hg:=E2 hk;have ha:=h.at_ _ (Akz hg);have hal:=MD g k;have hr:Aa ((hdA g k).length+(D7 (gw g k).1).length) 1=true:=by
    rw [show(D7 (gw g k).1).length=2 from rfl];simp only [Aa,decide_eq_true_eq];omega
   unfold Hi cK gX wI;dsimp only;rw [iy O,iy O,AjO,hg,AjM,Ags O,AjM,AjS hr,Ak O,Xh hg]) (by
   unfold Hi cK gX wI;dsimp only;rw [ino O])
 have e0:hdA g 0=[76,79,71,49,IntKind.wrap .u8 (g.length:Int)]:=by unfold hdA;rw [wub O O];rfl
 rw [<- e0,show Ab Hi (g,hdA g 0,g,(g.length:Int),0)=_ from h1,AjM];dsimp only;rw [T9 (by have:=MD g g.length;omega),AjM,show Mb (hdA g g.length)=hdH g from rfl,Oj (by rw [I2 hl];omega),AjM];have h2:=An He (λk=>(hdH g,dig (dig 2166136261 (hdH g)) (dat g k),g,(g.length:Int),((k:Nat):Int))) g.length (hdH g,dig (dig 2166136261 (hdH g)) (dat g g.length)) (λk hk=>by
   have hg:=E2 hk;have hd:=h.hd _ (Akz hg);unfold He gX wI;dsimp only;rw [iy O,iy O,AjO,hg,AjM,Qs O,AjM,Ak O,Rg hg,Z8]) (by
   unfold He gX wI;dsimp only;rw [ino O])
 have e1:dig (dig 2166136261 (hdH g)) (dat g 0)=dig 2166136261 (hdH g):=by
  generalize dig 2166136261 (hdH g)=q;unfold dat;rw [Al3];rfl
 have h3:Ab He (hdH g,dig (dig 2166136261 (hdH g)) (dat g 0),g,(g.length:Int),0)=some (hdH g,dig (dig 2166136261 (hdH g)) (dat g g.length)):=h2;rw [e1]at h3;rw [h3,AjM];dsimp only;rw [UL,AjM,AjS (Ad9 hl _)];rfl
theorem YV (h:GrOk n g) (hn:n<=160) (hl:g.length<=30):J1 g=some (Np g):=by
 have hal':=MD g g.length;unfold J1 cK cZ wI wB;have h1:=An FI (λk=>(g,hdA g k,g,(g.length:Int),((k:Nat):Int))) g.length (g,hdA g g.length) (λk hk=>by
   have hg:=E2 hk;have ha:=h.at_ _ (Akz hg);have hal:=MD g k;have hr:Aa ((hdA g k).length+(D7 (gw g k).1).length) 1=true:=by
    rw [show(D7 (gw g k).1).length=2 from rfl];simp only [Aa,decide_eq_true_eq];omega
   unfold FI cK gX wI wB;dsimp only;rw [iy O,iy O,AjO,hg,AjM,iy O,Ai9 O,show([IntKind.wrap .u8 ((gw g k).1 / 256),IntKind.wrap .u8 (gw g k).1]:List Int)=D7 (gw g k).1 from rfl,
    AjS hr,Ak O,Xh hg]) (by
   unfold FI cK gX wI wB;dsimp only;rw [ino O])
 have e0:hdA g 0=[76,79,71,49,IntKind.wrap .u8 (g.length:Int)]:=by unfold hdA;rw [wub O O];rfl
 rw [<- e0,show Ab FI (g,hdA g 0,g,(g.length:Int),0)=_ from h1,AjM];dsimp only;have ew:IntKind.wrap .i64 (124 - (((hdA g g.length).length:Nat):Int))=((124 - (hdA g g.length).length:Nat):Int):=by rw [w64 O O];omega
 rw [ew,iy O,AjO,show hdA g g.length++List.replicate (124 - (hdA g g.length).length) 0=hdH g from rfl,AjS (by simp only [Aa,decide_eq_true_eq,AkY];omega),
  AjS (by simp only [Aa,decide_eq_true_eq,Akl];rw [I2 hl];omega),Akm]
 have h2:=An FQ (λk=>(hdH g,hdH g++dat g k,g,(g.length:Int),((k:Nat):Int))) g.length (hdH g,hdH g++dat g g.length) (λk hk=>by
   have hg:=E2 hk;have hd:=h.hd _ (Akz hg);have hdl:=Ta h k O;have hhl:=I2 hl;unfold FQ cK gX wI;dsimp only;rw [iy O,iy O,AjO,hg,AjM,AjS (by simp only [Aa,decide_eq_true_eq,AjU];omega),Ak O,Rg hg,AjY]) (by
   unfold FQ cK gX wI;dsimp only;rw [ino O])
 have e1:hdH g++dat g 0=hdH g:=by unfold dat;simp
 rw [e1]at h2;have hdl:=Ta h g.length (Akk _);have hhl:=I2 hl;rw [show Ab FQ (hdH g,hdH g,g,(g.length:Int),0)=_ from h2,AjM];dsimp only;rw [Om (by rw [AjU];omega) (λv hv=>by
   rcases AjV.1 hv with hv | hv
   .exact Aca hl v hv
   .exact Ahm h _ v hv),AjM,iy O,iy O,iy O,AjS (by simp only [Aa,decide_eq_true_eq];rw [I2 hl];simp),<- Z8]
 rfl
theorem w3 {k:Nat} (h:k<=1048576):IntKind.wrap .i64 (3+(k:Int))=((3+k:Nat):Int):=by rw [w64 O O];omega
end
end Go.V.G