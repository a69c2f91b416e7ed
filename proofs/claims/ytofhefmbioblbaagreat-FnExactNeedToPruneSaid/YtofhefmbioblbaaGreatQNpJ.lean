import Derived.Test.YtofhefmbioblbaaGreatQNpA
import Derived.OrdersIn
import Derived.OrdersHeld
import Derived.AtR
import Derived.Laws.World
set_option linter.unusedVariables false
set_option linter.unusedSimpArgs false
namespace Go
section
variable {F:Fence} {n:Nat} {P:Program} {ops:Array Oper} {Q:Exit->Act->World->Prop} {md:Region.Mode} {S:World->Prop}
def OW (ops:Array Oper):Bool:=ops.all λo=>match o.op with | .defer _=>false | _=>true
theorem Hb (h:OW ops=true) (j:Nat) (o:Oper) (hj:ops[j]?=some o) (c:Call):o.op≠.defer c:=by
 intro e;unfold OW at h;rw [Array.all_eq_true]at h;obtain ⟨hlt,hv⟩:=ApS.1 hj;have:=h j hlt;rw [hv,e]at this;cases this
def YieldsIfF (P:Program) (ops:Array Oper) (S:World->Prop) (o:Oper) (v:Value) (a:Act):Prop:=YieldsIf P ops S o v a/\∀w,o.about P w a.eval=none
theorem YieldsIfF.wpOpIn {i:Nat} {o:Oper} {v:Value} {a:Act} (hd:∀c,o.op≠.defer c) (hi:ops[i]?=some o) (hy:YieldsIfF P ops S o v a)
  {K:Act->World->Prop} {w:World} (hS:S w) (h:K (a.put o.dst v) w):wpOpIn F n P ops Q i K a w:=by
 unfold Go.wpOpIn;simp only [hi];have hab:∀f,o.about P w a.eval=some f->F.fn f:=λf hf=>by rw [hy.2 w]at hf;cases hf
 rcases hy.1 with⟨hw,hv⟩ | ⟨hw,rfl⟩
 .simp only [hw,AoU,Oper.wpIn,Oper.semAt_eq _ _ _ hd,hv w hS,Oper.uponIn];exact⟨hab,h⟩
 .simp only [hw,AoO,Apa];exact⟨hab,h⟩
theorem YieldsIfF.of_same {o:Oper} {v:Value} {a a':Act} (hy:YieldsIfF P ops S o v a) (he:execOp a'.eval o=execOp a.eval o)
  (hw:Region.wanted o (yielded ops a'.tmps)=Region.wanted o (yielded ops a.tmps)) (hb:∀w,o.about P w a'.eval=o.about P w a.eval):YieldsIfF P ops S o v a':=
 ⟨hy.1.of_same he hw,λw=>by rw [hb w];exact hy.2 w⟩
theorem Abt {j:Nat} {oi oj:Oper} {v:Value} (hdj:∀c,oj.op≠.defer c) (hj:ops[j]?=some oj) (hap:oi.apart ops oj=true)
  (hsi:∀cs b,oi.op≠.select cs b) (hsj:∀cs b,oj.op≠.select cs b)
  (hQ:∀c a w,Q (.panic c) (a.put oi.dst v) w->Q (.panic c) a w) {K:Act->World->Prop} {a:Act} {w:World}
  (hy:YieldsIfF P ops S oi v a) (h:wpOpIn F n P ops Q j K (a.put oi.dst v) w) :
  wpOpIn F n P ops Q j (λa' w'=>YieldsIfF P ops S oi v a'/\K (a'.put oi.dst v) w') a w:=by
 obtain ⟨h1,h2,h3⟩:=Oper.apart_spec hap;have keep:∀(a:Act),YieldsIfF P ops S oi v a->∀u,YieldsIfF P ops S oi v (a.put oj.dst u):=λa hy u=>
  hy.of_same (execOp_put oi hsi a oj.dst u h3) (wanted_put oi a oj.dst u h3) (λw=>about_put oi w a oj.dst u h3)
 have keepD:∀d,YieldsIfF P ops S oi v { a with defers:=d::a.defers }:=λd=>hy.of_same rfl rfl (λ_=>rfl)
 unfold wpOpIn at *;simp only [hj]at *;rw [wanted_put oj a oi.dst v h1,about_put oj w a oi.dst v h1]at h;split
 .rename_i hw;simp only [hw,AoU]at h;unfold Oper.wpIn at *;rw [about_put oj w a oi.dst v h1]at h;refine⟨h.1,?_⟩;have h:=h.2;rw [Oper.semAt_eq _ _ _ hdj,execOp_put oj hsj a oi.dst v h1]at h;rw [Oper.semAt_eq _ _ _ hdj];generalize (execOp a.eval oj).run P w=r at *;cases r with
  | ok x w'=>
   cases x <;> simp only [Oper.uponIn]at h ⊢
   case value u=>exact⟨keep a hy u,by rw [<- Act.put_comm a v u h2];exact h⟩
   case skip=>exact⟨keep a hy _,by rw [<- Act.put_comm a v undef h2];exact h⟩
   case defer d=>
    refine⟨keep _ (keepD d) _,?_⟩;rw [<- Act.put_comm _ v undef h2,<- Act.put_defers];exact h
   case enter f args=>
    refine⟨h.1,CallsIn.mono h.2 λe w'' he=>?_⟩;cases e with
    | returned u=>exact⟨keep a hy u,by rw [<- Act.put_comm a v u h2];exact he⟩
    | panicked c=>exact hQ _ _ _ he
    | outgrown=>exact he
   case row row args=>exact⟨h.1,RowsIn.mono h.2 λu w'' he=>⟨keep a hy u,by rw [<- Act.put_comm a v u h2];exact he⟩⟩
   case round l f tmps assign body=>
    refine⟨h.1,RoundIn.mono h.2 λe w'' he=>?_⟩;cases e with
    | returned u=>exact⟨keep a hy u,by rw [<- Act.put_comm a v u h2];exact he⟩
    | panicked c=>exact hQ _ _ _ he
    | outgrown=>exact he
  | halt x w'=>
   cases x <;> simp only [Oper.uponIn]at h ⊢
   case panic u=>exact hQ _ _ _ h
 .rename_i hw;simp only [hw]at h;exact⟨h.1,keep a hy _,by rw [<- Act.put_comm a v undef h2];exact h.2⟩
def Fh (F:Fence) (n:Nat) (P:Program) (md:Region.Mode) (ops:Array Oper) (Q:Exit->Act->World->Prop) (S:World->Prop):Nat->Array Bool->Act->World->Prop
 | 0,listed,a,w=>Region.ready md ops listed=[]/\Q .normal a w
 | fuel+1,listed,a,w=>
  (Region.ready md ops listed=[]->Q .normal a w)/\
  ∀i∈Region.ready md ops listed,wpOpIn F n P ops Q i (λa' w'=>S w'/\Fh F n P md ops Q S fuel (listed.setIfInBounds i true) a' w') a w
theorem NE:∀(fuel:Nat) (listed:Array Bool) (a:Act) (w:World),Fh F n P md ops Q S fuel listed a w->wpAnyIn F n P md ops Q fuel listed a w
 | 0,_,_,_,h=>h
 | fuel+1,_,_,_,h=>⟨h.1,λi hi=>wpOpIn_mono (λa' w' h'=>NE fuel _ a' w' h'.2) (h.2 i hi)⟩
theorem YB {i:Nat} {oi:Oper} {v:Value} (hdf:OW ops=true) (hi:ops[i]?=some oi) (hsel:∀(j:Nat) (o:Oper) cs b,ops[j]?=some o->o.op≠.select cs b)
  (hQ:∀c a w,Q (.panic c) (a.put oi.dst v) w->Q (.panic c) a w) :
  ∀(fuel:Nat) (listed:Array Bool) (a:Act) (w:World),
   (∀j oj,ops[j]?=some oj->j≠i->listed.getD j true=false->(∀e∈oj.after,Region.binds md e=true->e.on≠i)->oi.apart ops oj=true)->
   i∈Region.ready md ops listed->YieldsIfF P ops S oi v a->S w->
   Fh F n P md ops Q S fuel (listed.setIfInBounds i true) (a.put oi.dst v) w->Fh F n P md ops Q S (fuel+1) listed a w:=by
 intro fuel
 induction fuel with
 | zero=>
  intro listed a w _ hr hy hS H;refine⟨λh=>(by rw [h]at hr;cases hr),λj hj=>?_⟩;by_cases hji:j=i
  .subst hji;exact hy.wpOpIn (Hb hdf _ _ hi) hi hS ⟨hS,H⟩
  .have:=ready_mono hj hji;rw [H.1]at this;cases this
 | succ fuel ih=>
  intro listed a w hfree hr hy hS H;refine⟨λh=>(by rw [h]at hr;cases hr),λj hj=>?_⟩;by_cases hji:j=i
  .subst hji;exact hy.wpOpIn (Hb hdf _ _ hi) hi hS ⟨hS,H⟩
  .have h1:=H.2 j (ready_mono hj hji);obtain ⟨hjun,oj,hoj,hall⟩:=mem_ready.1 hj;have hnot:∀e∈oj.after,Region.binds md e=true->e.on≠i:=λe he hb heq=>by
    have h1:=hall e he hb;have h0:=(mem_ready.1 hr).1;rw [heq]at h1;rcases Nat.lt_or_ge i listed.size with h' | h'
    .simp [h']at h0 h1;rw [h0]at h1;cases h1
    .simp [AqB h']at h1
   have h2:=Abt (Hb hdf _ _ hoj) hoj (hfree j oj hoj hji hjun hnot) (λcs b=>hsel i oi cs b hi) (λcs b=>hsel j oj cs b hoj) hQ hy h1;have hfree':∀k ok,ops[k]?=some ok->k≠i->(listed.setIfInBounds j true).getD k true=false->
     (∀e∈ok.after,Region.binds md e=true->e.on≠i)->oi.apart ops ok=true:=λk ok hk hki hun hno=>by
    refine hfree k ok hk hki ?_ hno;by_cases hjk:j=k
    .subst hjk;exact hjun
    .rw [getD_set_ne true hjk]at hun;exact hun
   refine wpOpIn_mono (λa' w' h3=>⟨h3.2.1,ih (listed.setIfInBounds j true) a' w' hfree' (ready_mono hr (Ne.symm hji)) h3.1 h3.2.1 ?_⟩) h2;rw [Array.setIfInBounds_comm _ _ hji];exact h3.2.2
theorem Dd (i:Nat) {oi:Oper} (v:Value) {fuel:Nat} {listed:Array Bool} {a:Act} {w:World} (hi:ops[i]?=some oi) (hdf:OW ops=true)
  (hs:Region.noSelect ops=true) (hf:Region.free md ops listed i=true) (hr:(Region.ready md ops listed).contains i=true)
  (hQ:∀c a w,Q (.panic c) (a.put oi.dst v) w->Q (.panic c) a w) (hy:YieldsIfF P ops S oi v a) (hS:S w)
  (h:Fh F n P md ops Q S fuel (listed.setIfInBounds i true) (a.put oi.dst v) w):Fh F n P md ops Q S (fuel+1) listed a w:=
 YB hdf hi (Region.noSelect_spec hs) hQ fuel listed a w (Region.free_spec hi hf) (by simpa using hr) hy hS h
theorem IdZ {rs:List Nat} {fuel:Nat} {listed:Array Bool} {a:Act} {w:World} (hr:Region.ready md ops listed=rs) (hne:rs≠[])
  (h:∀i∈rs,wpOpIn F n P ops Q i (λa' w'=>S w'/\Fh F n P md ops Q S fuel (listed.setIfInBounds i true) a' w') a w):Fh F n P md ops Q S (fuel+1) listed a w:=
 ⟨λh0=>absurd (hr ▸ h0) hne,hr ▸ h⟩
theorem Y4 {listed:Array Bool} {a:Act} {w:World} (hr:Region.ready md ops listed=[]) (h:Q .normal a w) :
  ∀fuel,Fh F n P md ops Q S fuel listed a w
 | 0=>⟨hr,h⟩
 | _+1=>⟨λ_=>h,by rw [hr];simp⟩
theorem G7 {i:Nat} {o:Oper} {K:Act->World->Prop} {a:Act} {w w':World} (v:Value) (hi:ops[i]?=some o) (hd:∀c,o.op≠.defer c) (hw:Region.wanted o (yielded ops a.tmps)=true)
  (hab:o.about P w a.eval=none) (h:(execOp a.eval o).run P w=.ok (.value v) w') (hK:K (a.put o.dst v) w'):wpOpIn F n P ops Q i K a w:=by
 unfold wpOpIn;rw [hi];simp only;rw [AoJ hw];unfold Oper.wpIn;rw [Oper.semAt_eq _ _ _ hd,h];exact⟨λf hf=>(by rw [hab]at hf;cases hf),hK⟩
theorem AbB {i:Nat} {o:Oper} {K:Act->World->Prop} {a:Act} {w w':World} (hi:ops[i]?=some o) (hd:∀c,o.op≠.defer c) (hw:Region.wanted o (yielded ops a.tmps)=true)
  (hab:o.about P w a.eval=none) (h:(execOp a.eval o).run P w=.ok .skip w') (hK:K (a.put o.dst undef) w'):wpOpIn F n P ops Q i K a w:=by
 unfold wpOpIn;rw [hi];simp only;rw [AoJ hw];unfold Oper.wpIn;rw [Oper.semAt_eq _ _ _ hd,h];exact⟨λf hf=>(by rw [hab]at hf;cases hf),hK⟩
theorem SU {id:Nat} {a:Act} {w:World} (S:World->Prop) (hm:P.follows .mixedOrders=true)
  (h:Fh F n P .any ops Q S ops.size (Array.replicate ops.size false) a w.drew):(Code.region id ops true).wpIn F n P Q a w:=
 wpIn_region_any hm (NE _ _ _ _ h)
end
end Go