import Derived.Test.YtofhefmbioblbaaGreatQNpA
import Derived.Test.YtofhefmbioblbaaGreatQNpC
import Derived.Test.YtofhefmbioblbaaGreatQNpE
import Derived.Maps.RangeRun
import Derived.Deep.LoopGhost
import Derived.Below
import Derived.WalkKit
import Derived.ProofKit
import Derived.ChangeOld
import Derived.DataReads
set_option linter.unusedVariables false
set_option linter.unusedSimpArgs false
namespace Go.V
open Go.ChangeMaps (setBlock)
theorem Inv.base {b b':Base} {S:St} {w w':World} {c:Cc} (h:Inv b S w c) (hK:KSame w w' (Kok b S c) (Kok b' S c)) (hO:∀g,A5 S c g->w'.heap[g]?=w.heap[g]?)
  (hfr:∀g,A5 S c g->b'.w0.heap.size<=g\/b'.O0 g) (hfix:∀g,g < b'.w0.heap.size->¬ b'.O0 g->w'.heap[g]?=b'.w0.heap[g]?)
  (hR:∀g cs e fr,A5 S c g->b'.w0.heap[g]?=some (.cells cs e fr)->b.w0.heap[g]?=some (.cells cs e fr)\/w.heap[g]?=some (.cells cs e fr))
  (ho:w'.os=b'.w0.os) (ht:w'.tape=b'.w0.tape) (hp:w'.output=b'.w0.output) (hz:b'.w0.heap.size<=w'.heap.size) (hm:b'.ms=b.ms) (hn:b'.n1=b.n1) :
  Inv b' S w' c/\Stay S S c c w w' (Kok b S c) (Kok b' S c) []:=by
 have stay:Stay S S c c w w' (Kok b S c) (Kok b' S c) []:=
  Stay.of h (λk o ho=>.inr (.inl ⟨ho,rfl,λg hg=>hO g (.inr ⟨k,by rw [ho];simp,hg⟩)⟩)) (λk n hn=>.inr ⟨hn,rfl,rfl⟩) hK
 refine⟨⟨?_,?_,h.nd,h.oo,h.mm,h.mo,λg hg=>⟨ApD (h.fr g hg).1 hK.1,hfr g hg⟩,hfix,ho,ht,hp,hz,by rw [hm,hn];exact h.an,?_⟩,stay⟩
 .intro k n hk h0;obtain ⟨cs,e,fr,h1,h2,h3,h4,h5⟩:=h.ms k n hk h0;have how:A5 S c (c.mb k):=.inl ⟨k,by rw [hk];simp,rfl⟩;refine⟨cs,e,fr,(hO _ how).trans h1,h2,h3,λi v hi hv=>?_,?_⟩
  .have:=stay.leaf (h4 i v hi hv)
   rwa [Leaf.kp_nil]at this
  .intro cs0 e0 fr0 h0';rcases hR _ _ _ _ how h0' with h6 | h6
   .exact h5 _ _ _ h6
   grind
 .intro k o hk;exact Rp.frame hK _ _ (h.ow k o hk) λg hg=>hO g (.inr ⟨k,by rw [hk];simp,hg⟩)
 .intro k hk;obtain ⟨xs,h1,h2⟩:=h.mp k hk;exact⟨xs,h1,h2.same (hO _ (.inl ⟨k,by rw [hk];simp,rfl⟩))⟩
theorem Stay.slots0 {S:St} {c:Cc} {w w':World} {K K':Nat->Prop} {N:Nat} {a:Act} (h:Stay S S c c w w' K K' []) (hs:Slots N S c w K a):Slots N S c w' K' a:=
 h.slots hs (λi=>(SV.kp_nil _).symm) none .no undef (λ_ h=>by cases h) trivial (λ_ _=>Iff.rfl) (λ_ _=>Iff.rfl)
open Classical in
noncomputable def reH (b:Base) (S:St) (c:Cc) (w:World) (o:Obj):Array Obj:=
 (Array.range (w.heap.size+1)).map λg=>if A5 S c g then(b.w0.heap[g]?).getD (((w.heap.push o)[g]?).getD o)else((w.heap.push o)[g]?).getD o
section
variable {b:Base} {S:St} {c:Cc} {w:World} {o o':Obj}
theorem AiF:(reH b S c w o).size=w.heap.size+1:=by simp [reH]
theorem Nc {g:Nat} (hg:¬ A5 S c g):(reH b S c w o)[g]?=(w.heap.push o)[g]?:=by
 unfold reH;rw [Array.getElem?_map];by_cases h:g < w.heap.size+1
 .rw [Apg (by simpa using h),Apz,Array.getElem_range,AoH hg,Apg (by simpa using h)];rfl
 .rw [AqB (by simpa using h),AqB (by simpa using h)];rfl
theorem Vn (hi:Inv b S w c) {g:Nat} (hg:A5 S c g):(reH b S c w o)[g]?=some ((b.w0.heap[g]?).getD ((w.heap[g]?).getD o)):=by
 have hl:=(hi.fr g hg).1;unfold reH;rw [Array.getElem?_map,Apg Aoz,Apz,Array.getElem_range,AoJ hg,Aqh hl,Apg hl]
noncomputable def reB (hi:Inv b S w c) (o:Obj) (it:Nat):Base where
 w0:={ w with heap:=reH b S c w o }
 Ro g:=g < w.heap.size/\Kok b S c g
 O0 g:=A5 S c g
 n1:=b.n1
 ms:=b.ms
 fx:=(it,.pointer (some ⟨w.heap.size,0,none⟩))::b.fx
 gl:=by
  have hg:=Aad hi;refine⟨X3 hg.1 λg h=>?_,λg h=>⟨⟨Z6 hg.1 h,hg.2 g h⟩,(hg.2 g h).2⟩⟩;show(reH b S c w o)[g]?=w.heap[g]?;have hl:=Z6 hg.1 h;rw [Nc (hg.2 g h).2,Aqh hl,Apg hl]
variable {hi:Inv b S w c} {it:Nat} {S':St} {c':Cc} {w' w'':World}
theorem Eh:(reB hi o it).w0.heap.size=w.heap.size+1:=AiF
theorem Rr (hi:Inv b S w c):¬ A5 S c w.heap.size:=λh=>Nat.lt_irrefl _ (hi.fr _ h).1
theorem Zx (h:Inv (reB hi o it) S' w' c') {g:Nat} (hg:g < w.heap.size) (hn:¬ A5 S c g):w'.heap[g]?=w.heap[g]?:=by
 have h1:=h.fix g (by rw [Eh];omega) hn;rw [h1];show(reH b S c w o)[g]?=_;rw [Nc hn,Aqh hg,Apg hg]
theorem AjA (h:Inv (reB hi o it) S' w' c'):w'.heap[w.heap.size]?=some o:=by
 have h1:=h.fix w.heap.size (by rw [Eh];omega) (Rr hi);rw [h1];show(reH b S c w o)[w.heap.size]?=_;rw [Nc (Rr hi)];simp
theorem AiI (hi:Inv b S w c) (o:Obj) (it:Nat):Inv (reB hi o it) S (w.alloc o) c/\Stay S S c c w (w.alloc o) (Kok b S c) (Kok (reB hi o it) S c) []:=by
 have hh:(w.alloc o).heap=w.heap.push o:=rfl;have same:∀g,g < w.heap.size->(w.alloc o).heap[g]?=w.heap[g]?:=λg hg=>by
  rw [hh,Aqh hg,Apg hg]
 refine hi.base ⟨by rw [hh];simp,λg hg hl=>⟨same g hl,.inl ⟨hl,hg⟩,hg.2⟩⟩ (λg hg=>same g (hi.fr g hg).1) (λg hg=>.inr hg) (λg _ hn=>?_) (λg cs e fr hg h0=>?_) rfl rfl rfl (by rw [Eh,hh];simp) rfl rfl
 .show _=(reH b S c w o)[g]?;rw [Nc hn];rfl
 .have h1:(reH b S c w o)[g]?=some (.cells cs e fr):=h0;rw [Vn hi hg]at h1;injection h1 with h1
  cases h2:b.w0.heap[g]? with
  | some x=>rw [h2]at h1;left;rw [<- h1];rfl
  | none=>
   right;have hl:=(hi.fr g hg).1;rw [h2,Apg hl]at h1;rw [Apg hl,<- h1];rfl
theorem Amm {g:Nat} (h:Kok (reB hi o it) S' c' g):g≠w.heap.size:=by
 rintro rfl;rcases h.1 with h1 | h1 | h1
 .exact Nat.lt_irrefl _ h1.1
 .rw [Eh]at h1;omega
 .exact Rr hi h1
theorem P5 (h:Inv (reB hi o it) S' w' c') {g:Nat} (hg:A5 S' c' g):w.heap.size+1<=g\/A5 S c g:=by
 have:=(h.fr g hg).2
 rwa [Eh]at this
theorem AjZ (h:Inv (reB hi o it) S' w' c') (o':Obj) (hw:w''.heap=w'.heap.setIfInBounds w.heap.size o') (h1:w''.os=w'.os) (h2:w''.tape=w'.tape) (h3:w''.output=w'.output) :
  Inv (reB hi o' it) S' w'' c'/\Stay S' S' c' c' w' w'' (Kok (reB hi o it) S' c') (Kok (reB hi o' it) S' c') []:=by
 have hsz:=h.size;rw [Eh]at hsz;have same:∀g,g≠w.heap.size->w''.heap[g]?=w'.heap[g]?:=λg hg=>by
  rw [hw,Ap6 (Ne.symm hg)]
 have hne:∀g,A5 S' c' g->g≠w.heap.size:=by
  rintro g hg rfl;rcases P5 h hg with h4 | h4
  .omega
  .exact Rr hi h4
 have hre:∀g,g≠w.heap.size->(reH b S c w o)[g]?=(reH b S c w o')[g]?:=by
  intro g hg;by_cases how:A5 S c g
  .have hl:=(hi.fr g how).1;rw [Vn hi how,Vn hi how,Apg hl];rfl
  .rw [Nc how,Nc how];by_cases hl:g < w.heap.size
   .rw [Aqh hl,Aqh hl]
   .rw [AqB Aoz,AqB Aoz]
 refine h.base ⟨by rw [hw];simp,λg hg _=>⟨same g (Amm hg),?_,hg.2⟩⟩ (λg hg=>same g (hne g hg)) (λg hg=>?_) (λg hl hn=>?_) (λg cs e fr hg h0=>?_) (h1.trans h.os) (h2.trans h.tape) (h3.trans h.output) (by rw [Eh,hw];simpa using hsz) rfl rfl
 .rcases hg.1 with h4 | h4 | h4
  .exact .inl h4
  .exact .inr (.inl (by rw [Eh]at h4 ⊢;exact h4))
  .exact .inr (.inr h4)
 .rcases P5 h hg with h4 | h4
  .exact .inl (by rw [Eh];exact h4)
  .exact .inr h4
 .rw [Eh]at hl;by_cases hg:g=w.heap.size
  .subst hg;rw [hw,Array.getElem?_setIfInBounds_self_of_lt O];show _=(reH b S c w o')[w.heap.size]?;rw [Nc (Rr hi)];simp
  .rw [same g hg,h.fix g (by rw [Eh];exact hl) hn];exact hre g hg
 .left;have h5:(reH b S c w o')[g]?=some (.cells cs e fr):=h0;show(reH b S c w o)[g]?=_;rw [hre g (hne g hg)];exact h5
theorem Ada (h:Inv (reB hi o it) S' w' c'):Inv b S' w' c'/\Stay S' S' c' c' w' w' (Kok (reB hi o it) S' c') (Kok b S' c') []:=by
 have hsz:=h.size;rw [Eh]at hsz;have hs0:=hi.size;refine h.base ⟨Ao4 _,λg hg _=>⟨rfl,?_,hg.2⟩⟩ (λ_ _=>rfl) (λg hg=>?_) (λg hl hn=>?_) (λg cs e fr hg h0=>?_) (h.os.trans hi.os) (h.tape.trans hi.tape) (h.output.trans hi.output) O rfl rfl
 .rcases hg.1 with h4 | h4 | h4
  .exact h4.2.1
  .rw [Eh]at h4;exact .inr (.inl O)
  .exact .inr ((hi.fr g h4).2)
 .rcases P5 h hg with h4 | h4
  .exact .inl O
  .exact(hi.fr g h4).2
 .have hno:¬ A5 S c g:=λh4=>by
   rcases (hi.fr g h4).2 with h5 | h5
   .omega
   .exact hn h5
  rw [Zx h O hno];exact hi.fix g hl hn
 .left;have hl:=B5 h0;have how:A5 S c g:=by
   rcases P5 h hg with h4 | h4
   .omega
   .exact h4
  show(reH b S c w o)[g]?=_;rw [Vn hi how,h0];rfl
end
def ent (e:MapEntry):Int×Int:=(valOf e.key,valOf e.val)
theorem Z9:∀{es:List MapEntry} {xs:List (Int×Int)} {n:Nat},Ly es xs n->es.map ent=xs/\(∀e,e∈es->n<=e.born/\e.born < n+es.length/\e.key=.int .i64 (ent e).1/\e.val=.int .i64 (ent e).2)/\(es.map (·.born)).Nodup
 | [],[],_,_=>⟨rfl,λ_ h=>(by cases h),List.nodup_nil⟩
 | e::es,p::xs,n,h=>by
  obtain ⟨rfl,h2⟩:=h;obtain ⟨k1,k2,k3⟩:=Z9 h2;refine⟨by rw [Apk,k1];rfl,λe' he=>?_,?_⟩
  .rcases AoY.1 he with rfl | he
   .exact⟨Ao4 _,Z,rfl,rfl⟩
   grind
  grind
 | [],_::_,_,h=>h.elim
 | _::_,[],_,h=>h.elim
theorem TB {α:Type} (f:α->Nat) (p q:α->Bool) (e:α):∀(l:List α),(l.map f).Nodup->e∈l->p e=true->(∀x,q x=(p x && !(f x == f e)))->(l.filter p).Perm (e::l.filter q)
 | [],_,he,_,_=>by cases he
 | x::l,hn,he,hp,hq=>by
  rw [Apk,ApB]at hn;by_cases hx:f x=f e
  .have hxe:e=x:=by
    grind
   have h2:l.filter q=l.filter p:=List.filter_congr λy hy=>by
    grind
   simp_all
  .have he':e∈l:=by
    grind
   have ih:=TB f p q e l hn.2 he' hp hq;by_cases hpx:p x=true
   .have h1:q x=true:=by grind
    rw [List.filter_cons_of_pos hpx,List.filter_cons_of_pos h1];exact(List.Perm.cons x ih).trans (List.Perm.swap e x _)
   grind
theorem Agx {es:Array MapEntry} {seen:Array Nat} {e:MapEntry} (hn:(es.toList.map (·.born)).Nodup) (he:e∈(leftOf es seen).toList) :
  ((leftOf es seen).toList.map ent).Perm (ent e::(leftOf es (seen.push e.born)).toList.map ent):=by
 obtain ⟨h1,h2⟩:=mem_left he;have:=TB (·.born) (λx:MapEntry=>!seen.contains x.born) (λx=>!(seen.push e.born).contains x.born) e es.toList hn h1 (by rw [h2];rfl) (λx=>by grind);unfold leftOf
 grind
theorem AbZ {E:Env} {N it:Nat} {cnd:Operand} {ops:List Oper} {p q:Nat} (h:Uq E N it cnd ops=some (p,q)) :
  cnd=.tmp q/\p < N/\q < N/\p≠it/\q≠it/\E.fx.contains p=false/\E.fx.contains q=false/\∃ty1 ps1 af1 ty2 ps2 af2,ops=[⟨some p,.next (.tmp it) false,ty1,ps1,af1,none⟩,⟨some q,.extract (.tmp p) 0,ty2,ps2,af2,none⟩]:=by
 unfold Uq at h
 grind
section
variable {P:Program} {E:Env} {N:Nat}
theorem SD {b:Base} {S:St} {a:Act} {w:World} (h:Sim b N S a w) {d:Nat} (v:Value) (hd:d < N) (hx:∀p,p∈b.fx->p.1≠d):Sim b N (S.put d .no) (a.put (some d) v) w:=by
 obtain ⟨c,hi,hs,hfx⟩:=h;exact(Did.same (x:=.no) (v:=v) hi trivial).sim hs (some d) (λk hk=>by grind) hfx (λk hk p hp=>by grind)
theorem Ad1 {b:Base} {S:St} {c:Cc} {w:World} {hi:Inv b S w c} {bm:Nat} {es:Array MapEntry} (hbm:¬ A5 S c bm) (hes:w.heap[bm]?=some (.map es es.size)) {xs:List (Int×Int)} (hen:Ly es.toList xs 0)
  {t:Tpl} {it p q id id2:Nat} {ops:Array Oper} {cnd:Operand} {d:Code} {x0 yf:t.D} {F:t.D->Int×Int->Option t.D} (hF':∀p,p∈b.fx->E.fx.contains p.1=true)
  (hnx:Uq E N it cnd ops.toList=some (p,q)) (hF:PK F xs x0=some yf)
  (hbody:∀(e:MapEntry) (seen:Array Nat),e∈es.toList->∀y y',F y (ent e)=some y'->∀a w',Sim (reB hi (.mapIter (some bm) es.size (seen.push e.born) es.size) it) N (((t.inj y).put p .no).put q .no) a w'->
   ∀Q:Exit->Act->World->Prop,(∀a' w',Sim (reB hi (.mapIter (some bm) es.size (seen.push e.born) es.size) it) N (t.inj y') a' w'->Q .normal a' w')->d.wp P Q a w')
  {a:Act} {w0:World} (hs:Sim (reB hi (.mapIter (some bm) es.size #[] es.size) it) N (t.inj x0) a w0) {Q:Exit->Act->World->Prop} (hQ:∀a' w',Sim b N (((t.inj yf).put p .no).put q .no) a' w'->Q (.exit id2) a' w') :
  (Code.loop (.seq (.region id ops false) (.seq (.cond cnd .skip (.exit id2)) d))).wp P Q a w0:=by
 obtain ⟨rfl,hpN,hqN,hpi,hqi,hpx,hqx,ty1,ps1,af1,ty2,ps2,af2,hops⟩:=AbZ hnx;obtain ⟨k1,k2,k3⟩:=Z9 hen;have hborn:∀x∈es.toList,x.born < es.size:=λx hx=>by have:=(k2 x hx).2.1;simpa using this
 have hpb:∀x,x∈b.fx->x.1≠p:=λx hx he=>by have:=hF' x hx;rw [he,hpx]at this;cases this
 have hqb:∀x,x∈b.fx->x.1≠q:=λx hx he=>by have:=hF' x hx;rw [he,hqx]at this;cases this
 have hpb':∀o x,x∈(reB hi o it).fx->x.1≠p:=λo x hx=>by
  rcases AoY.1 hx with rfl | hx
  .exact Ne.symm hpi
  .exact hpb x hx
 have hqb':∀o x,x∈(reB hi o it).fx->x.1≠q:=λo x hx=>by
  rcases AoY.1 hx with rfl | hx
  .exact Ne.symm hqi
  .exact hqb x hx
 refine wp_loop_ghost (λn a w'=>∃(l:List (Int×Int)) (y:t.D) (seen:Array Nat) (c0:Nat),n=(leftOf es seen).size/\l.foldlM F x0=some y/\(l++(leftOf es seen).toList.map ent).Perm xs/\es.size<=c0/\
  Sim (reB hi (.mapIter (some bm) es.size seen c0) it) N (t.inj y) a w') _ ⟨[],x0,#[],es.size,rfl,rfl,?_,Ao4 _,hs⟩ ?_
 .rw [Ao6,show leftOf es #[]=es by simp [leftOf],k1]
 rintro n a w' ⟨l,y,seen,c0,rfl,hl,hp,hc,hsim⟩;have hsim0:=hsim;obtain ⟨c',hi',hsl,hfx⟩:=hsim0;have hit:a.tmps.getD it undef=.pointer (some ⟨w.heap.size,0,none⟩):=hfx (it,_) (List.mem_cons_self ..);have hev:a.eval (.tmp it)=.pointer (some ⟨w.heap.size,0,none⟩):=hit;have hr:=AjA hi';have hm:w'.heap[bm]?=some (.map es es.size):=by rw [Zx hi' (B5 hes) hbm];exact hes
 refine wp_seq (wp_region_list ?_);rw [hops];refine wpList_step λK hK=>?_
 simp only [Region.wanted,AoU];have hsz:a.tmps.size=N:=hsl.n;have ev_put:∀(a:Act) (i:Nat) (v:Value),i < a.tmps.size->(a.put (some i) v).eval (.tmp i)=v:=by
  intro a i v h;show(a.tmps.setIfInBounds i v).getD i undef=v;simp [h]
 rcases run_next_at (P:=P) w' ty1 w.heap.size bm es.size c0 seen es es.size hr hm hborn hc with⟨h0,hrun⟩ | ⟨e,he,w1,hw1,hrun⟩
 .rw [<- hev]at hrun;refine AD (o:=⟨some p,.next (.tmp it) false,ty1,ps1,af1,none⟩) (post:=λv w2=>v=.tuple #[.bool false]/\w2=w') rfl ⟨_,_,hrun,rfl,rfl⟩ K _ ?_;rintro v w2 ⟨rfl,rfl⟩;refine hK _ _ (wpList_step λK hK=>?_);simp only [Region.wanted,AoU];refine AD (o:=⟨some q,.extract (.tmp p) 0,ty2,ps2,af2,none⟩) (s:=Instr.extract ((a.put (some p) (.tuple #[.bool false])).eval (.tmp p)) 0) (post:=λv w3=>v=.bool false/\w3=w2) rfl ⟨.bool false,w2,?_,rfl,rfl⟩ K _ ?_
  .rw [ev_put _ _ _ O];rfl
  rintro v w3 ⟨rfl,rfl⟩;refine hK _ _ ?_;refine wp_seq (wp_cond (t:=false) (ev_put _ _ _ (by simp [Act.put];omega)) ?_);simp only [AoO,Apa];refine wp_exit ?_;have hll:l.Perm xs:=by
   rw [show leftOf es seen = #[] from Array.eq_empty_of_size_eq_zero h0]at hp;simpa using hp
  have hyf:y=yf:=by
   have:=Vp hF l hll;rw [hl]at this;injection this
  subst hyf;obtain ⟨q1,q2⟩:=Ada hi';exact hQ _ _ (SD (SD ⟨c',q1,q2.slots0 hsl,λx hx=>hfx x (ApM _ hx)⟩ _ hpN hpb) _ hqN hqb)
 .rw [<- hev]at hrun;refine AD (o:=⟨some p,.next (.tmp it) false,ty1,ps1,af1,none⟩) (post:=λv w2=>v=.tuple #[.bool true,e.key,e.val]/\w2=setBlock w1 w.heap.size (.mapIter (some bm) es.size (seen.push e.born) es.size)) rfl ⟨_,_,hrun,rfl,rfl⟩ K _ ?_;rintro v w2 ⟨rfl,rfl⟩;refine hK _ _ (wpList_step λK hK=>?_);simp only [Region.wanted,AoU];refine AD (o:=⟨some q,.extract (.tmp p) 0,ty2,ps2,af2,none⟩) (s:=Instr.extract ((a.put (some p) (.tuple #[.bool true,e.key,e.val])).eval (.tmp p)) 0)
   (post:=λv w3=>v=.bool true/\w3=setBlock w1 w.heap.size (.mapIter (some bm) es.size (seen.push e.born) es.size)) rfl ⟨.bool true,_,?_,rfl,rfl⟩ K _ ?_
  .rw [ev_put _ _ _ O];rfl
  rintro v w3 ⟨rfl,rfl⟩;refine hK _ _ ?_;refine wp_seq (wp_cond (t:=true) (ev_put _ _ _ (by simp [Act.put];omega)) ?_);simp only [AoU];refine wp_skip ?_;have hw1':w1.heap=w'.heap/\w1.os=w'.os/\w1.tape=w'.tape/\w1.output=w'.output:=by rcases hw1 with rfl | rfl <;> exact⟨rfl,rfl,rfl,rfl⟩
  obtain ⟨q1,q2⟩:=AjZ (w'':=setBlock w1 w.heap.size (.mapIter (some bm) es.size (seen.push e.born) es.size)) hi' (.mapIter (some bm) es.size (seen.push e.born) es.size) (by show w1.heap.setIfInBounds _ _=_;rw [hw1'.1]) hw1'.2.1 hw1'.2.2.1 hw1'.2.2.2;have hee:=(mem_left he).1;have hlp:=Agx k3 he;have hpe:(l++(ent e::(leftOf es (seen.push e.born)).toList.map ent)).Perm xs:=(List.Perm.append_left l hlp).symm.trans hp;have hall:=Vp hF _ hpe;rw [List.foldlM_append,hl]at hall;simp only [Option.bind_eq_bind,AoC,List.foldlM_cons]at hall;obtain ⟨y',hy',-⟩:=AoG.1 hall;refine hbody e seen hee y y' hy' _ _ (SD (SD ⟨c',q1,q2.slots0 hsl,hfx⟩ _ hpN (hpb' _)) _ hqN (hqb' _)) _ λa2 w2 hs2=>?_
  refine⟨_,left_shrinks es seen e he,l++[ent e],y',seen.push e.born,es.size,rfl,?_,?_,Ao4 _,hs2⟩
  .rw [List.foldlM_append,hl];simp only [Option.bind_eq_bind,AoC,List.foldlM_cons,List.foldlM_nil,hy'];rfl
  .rw [AoN];exact hpe
end
end Go.V
namespace Go.V
def Ex.out:Ex->Exit
 | .n=>.normal
 | .x id=>.exit id
 | .r=>.ret
section
variable {P:Program} {E:Env} {b:Base} {N:Nat}
theorem Ml {α:Type} {o:Option α} {x:α} (h:(Tr.opt o).run=some x):o=some x:=by
 cases o with
 | none=>assumption
 | some a=>assumption
theorem Joins.ok:∀(J:Joins) {e e':Ex} {S S':St} {x:J.D},J.prj e S=some x->(J.inj x).run=some (e',S')->e=e'/\∀{a w},Sim b N S a w->Sim b N S' a w
 | [],e,e',S,S',x,_,_=>nomatch x
 | [t],e,e',S,S',x,h,h'=>by
  simp only [Joins.prj]at h;split at h
  .rename_i he;simp only [Joins.inj,Tr.run,AoD,Prod.mk.injEq]at h';obtain ⟨h1,h2⟩:=h';subst h2;exact⟨he.trans h1,λhs=>t.2.ok h hs⟩
  .cases h
 | t::u::l,e,e',S,S',x,h,h'=>by
  simp only [Joins.prj]at h;split at h
  .rename_i y hy;injection h with h
   subst h;split at hy
   .rename_i he;simp only [Joins.inj,Tr.run,AoD,Prod.mk.injEq]at h';obtain ⟨h1,h2⟩:=h';subst h2;exact⟨he.trans h1,λhs=>t.2.ok hy hs⟩
   .cases hy
  .split at h
   .rename_i y hy;injection h with h
    subst h;exact Joins.ok (u::l) hy h'
   .cases h
theorem NQ {J:Joins} {t:Tr (Ex×St)} {e:Ex} {S':St} (h:(Nb J t).run=some (e,S')):∃S0,t.run=some (e,S0)/\∀{a w},Sim b N S0 a w->Sim b N S' a w:=by
 cases J with
 | nil=>exact⟨S',h,λhs=>hs⟩
 | cons j l=>
  simp only [Nb,Dl,AoG]at h;obtain ⟨x,hx,h⟩:=h;rw [run_bind,AoG]at hx;obtain ⟨⟨e0,S0⟩,h1,h2⟩:=hx;obtain ⟨k1,k2⟩:=Joins.ok (b:=b) (N:=N) (j::l) (Ml h2) h
  grind
def BI (P:Program) (b:Base) (N:Nat) (c:Code) (S:St) (e:Ex) (S':St):Prop:=
 ∀{a:Act} {w:World} {Q:Exit->Act->World->Prop},Sim b N S a w->(∀a' w',Sim b N S' a' w'->Q e.out a' w')->c.wp P Q a w
theorem Ae0 {c:Code} {S S0 S':St} {e:Ex} (h:BI P b N c S e S0) (hw:∀{a w},Sim b N S0 a w->Sim b N S' a w):BI P b N c S e S':=
 λhs hQ=>h hs λa' w' hs'=>hQ a' w' (hw hs')
theorem then_out {e:Ex} {next:Act->World->Prop} {Q:Exit->Act->World->Prop} {a:Act} {w:World}:Exit.then next Q e.out a w↔(match e with | .n=>next a w | e=>Q e.out a w):=by
 cases e <;> exact Iff.rfl
theorem Ahl {c d:Code} {S:St} {x y:Ann} {e:Ex} {S':St} (ih1:∀{ann S e S'},(AJ E N ann c S).run=some (e,S')->BI P b N c S e S') (ih2:∀{ann S e S'},(AJ E N ann d S).run=some (e,S')->BI P b N d S e S')
  (h:((AJ E N x c S).bind λr=>match r.1 with | .n=>AJ E N y d r.2 | e=>.ret (e,r.2)).run=some (e,S')):BI P b N (.seq c d) S e S':=by
 rw [run_bind,AoG]at h;obtain ⟨⟨e1,S1⟩,h1,h2⟩:=h;intro a w Q hs hQ;refine wp_seq (ih1 h1 hs λa' w' hs'=>then_out.2 ?_);cases e1 with
 | n=>exact ih2 h2 hs' hQ
 | x id=>
  simp only [Tr.run,AoD,Prod.mk.injEq]at h2
  grind
 | r=>
  simp only [Tr.run,AoD,Prod.mk.injEq]at h2
  grind
theorem AcF {o:Operand} {c d:Code} {S:St} {t:Bool} {x y:Ann} {e:Ex} {S':St} (ih1:∀{ann S e S'},(AJ E N ann c S).run=some (e,S')->BI P b N c S e S') (ih2:∀{ann S e S'},(AJ E N ann d S).run=some (e,S')->BI P b N d S e S')
  (ho:Cu S o=.s (.one (.v .bool t))) (h:(Tr.br t (AJ E N x c S) (AJ E N y d S)).run=some (e,S')):BI P b N (.cond o c d) S e S':=by
 intro a w Q hs hQ;have hb:a.eval o=.bool t:=by
  obtain ⟨c,_,hsl,_⟩:=hs;have:=AI hsl o;rw [ho]at this;exact EK (AY this)
 refine wp_cond hb ?_;simp only [Tr.run]at h;split at h
 .rename_i ht;rw [AoJ ht];exact ih1 h hs hQ
 .rename_i ht;rw [AoH ht];exact ih2 h hs hQ
theorem VE {α:Type} {e:Bool} {x y:Option α} {z:α} (h:GW e x y=some z):y=some z/\(e=true->x=some z):=by
 unfold GW at h
 grind
theorem AhJ {o:Operand} {c d:Code} {S:St} {q:Bool} {x y:Ann} {J:Joins} {z:J.D} {e:Ex} {S':St} (ih1:∀{ann S e S'},(AJ E N ann c S).run=some (e,S')->BI P b N c S e S') (ih2:∀{ann S e S'},(AJ E N ann d S).run=some (e,S')->BI P b N d S e S')
  (ho:Cu S o=.s (.one (.qn q))) (hz:GW q ((AJ E N x c S).bind λr=>Tr.opt (Joins.prj J r.1 r.2)).run ((AJ E N y d S).bind λr=>Tr.opt (Joins.prj J r.1 r.2)).run=some z)
  (h:(J.inj z).run=some (e,S')):BI P b N (.cond o c d) S e S':=by
 obtain ⟨hB,hA⟩:=VE hz;have side:∀{k:Code} {v:Ann},(∀{ann S e S'},(AJ E N ann k S).run=some (e,S')->BI P b N k S e S')->((AJ E N v k S).bind λr=>Tr.opt (Joins.prj J r.1 r.2)).run=some z->BI P b N k S e S':=by
  intro k v ih hk;rw [run_bind,AoG]at hk;obtain ⟨⟨e1,S1⟩,h1,h2⟩:=hk;obtain ⟨k1,k2⟩:=Joins.ok (b:=b) (N:=N) J (Ml h2) h;subst k1;exact Ae0 (ih h1) k2
 intro a w Q hs hQ;obtain ⟨r,hb,hr⟩:∃r:Bool,a.eval o=.bool r/\(r=true->q=true):=by
  obtain ⟨c,_,hsl,_⟩:=hs;have:=AI hsl o;rw [ho]at this;exact this
 refine wp_cond hb ?_;split
 .rename_i hrt;exact side ih1 (hA (hr hrt)) hs hQ
 .exact side ih2 hB hs hQ
def Pk (P:Program) (E:Env) (b:Base) (N:Nat) (c:Code):Prop:=∀(ann:Ann) (S:St) (e:Ex) (S':St),(AJ E N ann c S).run=some (e,S')->BI P b N c S e S'
def Abo (P:Program) (N:Nat) (c:Code):Prop:=∀(E:Env) (b:Base),EnvOk P E->(∀p,p∈b.fx->E.fx.contains p.1=true)->EnB P E b->N < b.n1->Pk P E b N c
def Aey (P:Program) (N:Nat):Code->Prop
 | .seq c d | .cond _ c d=>Abo P N c/\Abo P N d/\Aey P N c/\Aey P N d
 | .block _ c | .loop c=>Abo P N c/\Aey P N c
 | _=>True
theorem XF {k d:Code} {S:St} {v y:Ann} {J:Joins} {z:J.D} {e:Ex} {S':St} (hk:Pk P E b N k) (hd:Pk P E b N d)
  (hz:(((AJ E N v k S).bind λp=>match p.1 with | .n=>AJ E N y d p.2 | e=>.ret (e,p.2)).bind λt=>Tr.opt (Joins.prj J t.1 t.2)).run=some z) (h:(J.inj z).run=some (e,S'))
  {a:Act} {w:World} {Q:Exit->Act->World->Prop} (hs:Sim b N S a w) (hQ:∀a' w',Sim b N S' a' w'->Q e.out a' w'):k.wp P (Exit.then (λa w=>d.wp P Q a w) Q) a w:=by
 rw [run_bind,AoG]at hz;obtain ⟨⟨e1,S1⟩,h1,h2⟩:=hz;obtain ⟨k1,k2⟩:=Joins.ok (b:=b) (N:=N) J (Ml h2) h;subst k1;rw [run_bind,AoG]at h1;obtain ⟨⟨e3,S3⟩,h3,h4⟩:=h1;refine hk _ _ _ _ h3 hs λa' w' hs'=>then_out.2 ?_
 cases e3 with
 | n=>exact hd _ _ _ _ h4 hs' λa2 w2 hs2=>hQ a2 w2 (k2 hs2)
 | x id=>
  simp only [Tr.run,AoD,Prod.mk.injEq]at h4
  grind
 | r=>
  simp only [Tr.run,AoD,Prod.mk.injEq]at h4
  grind
theorem Akr {o:Operand} {r c1 c2 d:Code} {S:St} {J:Joins} {xr xa xb y z:Ann} {e:Ex} {S':St} (hr:Pk P E b N r) (h1:Pk P E b N c1) (h2:Pk P E b N c2) (hd:Pk P E b N d)
  (h:(AJ E N (.both J xr xa xb y z) (.seq (.seq r (.cond o c1 c2)) d) S).run=some (e,S')):BI P b N (.seq (.seq r (.cond o c1 c2)) d) S e S':=by
 rw [AJ,run_bind,AoG]at h;obtain ⟨⟨e1,S1⟩,h3,h4⟩:=h;intro a w Q hs hQ;refine wp_seq (wp_seq (hr _ _ _ _ h3 hs λa' w' hs'=>then_out.2 ?_));cases e1 with
 | x id=>
  simp only [Tr.run,AoD,Prod.mk.injEq]at h4;obtain ⟨q1,q2⟩:=h4;subst q1 q2;exact then_out (e:=.x id).2 (hQ a' w' hs')
 | r=>
  simp only [Tr.run,AoD,Prod.mk.injEq]at h4;obtain ⟨q1,q2⟩:=h4;subst q1 q2;exact then_out (e:=.r).2 (hQ a' w' hs')
 | n=>
  simp only at h4;split at h4
  .rename_i q ho;rw [Dl,AoG]at h4;obtain ⟨t,ht,h5⟩:=h4;obtain ⟨hB,hA⟩:=VE ht;obtain ⟨g,hb,hg⟩:∃g:Bool,a'.eval o=.bool g/\(g=true->q=true):=by
    obtain ⟨c,_,hsl,_⟩:=hs';have:=AI hsl o;rw [ho]at this;exact this
   refine wp_cond hb ?_;split
   .rename_i hgt;exact XF h1 hd (hA (hg hgt)) h5 hs' hQ
   .exact XF h2 hd hB h5 hs' hQ
  .simp [Tr.run]at h4
theorem Y6 {id:Nat} {c:Code} {S:St} {x:Ann} {e:Ex} {S':St} (ih1:∀{ann S e S'},(AJ E N ann c S).run=some (e,S')->BI P b N c S e S')
  (h:((AJ E N x c S).bind λr=>.ret (if r.1=.x id then .n else r.1,r.2)).run=some (e,S')):BI P b N (.block id c) S e S':=by
 rw [run_bind,AoG]at h;obtain ⟨⟨e1,S1⟩,h1,h2⟩:=h;simp only [Tr.run,AoD,Prod.mk.injEq]at h2;obtain ⟨k1,k2⟩:=h2;subst k2;intro a w Q hs hQ;refine wp_block (ih1 h1 hs λa' w' hs'=>?_);have:=hQ a' w' hs';cases e1 with
 | n=>simp only [reduceCtorEq,Apa]at k1;subst k1;exact this
 | x id'=>
  by_cases hid:id'=id
  .subst hid;simp only [AoU]at k1;subst k1;simp only [Ex.out,Exit.inBlock,AoU];exact this
  .have:¬ (Ex.x id'=Ex.x id):=λh=>hid (by injection h)
   rw [AoH this]at k1;subst k1;simp only [Ex.out,Exit.inBlock,hid,Apa]
   assumption
 | r=>simp only [reduceCtorEq,Apa]at k1;subst k1;exact this
theorem Aj8 {c:Code} {S:St} {t:Tpl} {J:Joins} {x:Ann} {e:Ex} {S':St} (ih1:∀{ann S e S'},(AJ E N ann c S).run=some (e,S')->BI P b N c S e S') {x0:t.D} (hx:t.prj S=some x0)
  (h:(Tr.get (Joins.D J) (Ab (λy:t.D=>((AJ E N x c (t.inj y)).bind λr=>match r.1 with
    | .n=>Tr.opt (match t.prj r.2 with | some z=>some (Sum.inl (β:=Joins.D J) z) | none=>none)
    | e=>Tr.opt (match J.prj e r.2 with | some z=>some (Sum.inr (α:=t.D) z) | none=>none)).run) x0) J.inj).run=some (e,S')):BI P b N (.loop c) S e S':=by
 rw [Dl,AoG]at h;obtain ⟨y,hy,h⟩:=h;obtain ⟨n0,hn0⟩:=(LE _ _ _).1 hy;intro a w Q hs hQ;generalize hf:(λy:t.D=>((AJ E N x c (t.inj y)).bind λr=>match r.1 with
    | .n=>Tr.opt (match t.prj r.2 with | some z=>some (Sum.inl (β:=Joins.D J) z) | none=>none)
    | e=>Tr.opt (match J.prj e r.2 with | some z=>some (Sum.inr (α:=t.D) z) | none=>none)).run)=f at hn0
 refine wp_loop_ghost (λn a w=>∃x,Sim b N (t.inj x) a w/\Gl f n x=some y) n0 ⟨x0,t.ok hx hs,hn0⟩ ?_;rintro n a w ⟨z,hz,hn⟩;cases n with
 | zero=>simp [Gl]at hn
 | succ n=>
  simp only [Gl]at hn;have hfz:f z=((AJ E N x c (t.inj z)).bind λr=>match r.1 with
    | .n=>Tr.opt (match t.prj r.2 with | some z=>some (Sum.inl (β:=Joins.D J) z) | none=>none)
    | e=>Tr.opt (match J.prj e r.2 with | some z=>some (Sum.inr (α:=t.D) z) | none=>none)).run:=by rw [<- hf]
  cases hfv:f z with
  | none=>grind
  | some v=>
   rw [hfv]at hn hfz;have hfz':=hfz.symm;rw [run_bind,AoG]at hfz';obtain ⟨⟨e1,S1⟩,h1,h2⟩:=hfz';refine ih1 h1 hz λa' w' hs'=>then_out.2 ?_
   have other:∀e2,(Tr.opt (match J.prj e2 S1 with | some z=>some (Sum.inr (α:=t.D) z) | none=>none)).run=some v->Q e2.out a' w':=by
    intro e2 h2;have h3:=Ml h2;split at h3
    .rename_i z' hz';injection h3 with h3
     subst h3;simp only [AoD]at hn;subst hn;obtain ⟨k1,k2⟩:=Joins.ok (b:=b) (N:=N) J hz' h
     grind
    .cases h3
   cases e1 with
   | n=>
    have h3:=Ml h2;split at h3
    .rename_i z' hz';injection h3 with h3
     subst h3;exact⟨n,O,z',t.ok hz' hs',hn⟩
    .cases h3
   | x id=>grind
   | r=>grind
theorem Ah6 {b:Base} {S:St} {x0:Nat×Nat×List (Int×Int)} {ol:Option Oper} (h:(Zk E N S ol).run=some x0):∃ty x ty2 ps af,ol=some ⟨some x0.1,.range ty x,ty2,ps,af,none⟩/\x0.1 < N/\E.fx.contains x0.1=false/\E.ti ty=.map/\
  Cu S x=.s (.one (.mh x0.2.1))/\S.ms x0.2.1=some 0/\S.mc x0.2.1 0=.md x0.2.2:=by
 unfold Zk at h;split at h
 .split at h
  .rename_i hc;split at h
   .rename_i k ht hx;split at h
    .rename_i hk;split at h
     .rename_i xs hm;simp only [Tr.run,AoD]at h;subst h
      grind
     .simp [Tr.run]at h
    .simp [Tr.run]at h
   .simp [Tr.run]at h
  .simp [Tr.run]at h
 .simp [Tr.run]at h
theorem AiT {b:Base} (hE:EnvOk P E) (hF:∀p,p∈b.fx->E.fx.contains p.1=true) (hG:EnB P E b) (hN:N < b.n1) {t:Tpl} {y:Ann} {i1 i2 ib id2:Nat} {rops nops:Array Oper} {cnd:Operand} {d:Code} (hd:Abo P N d) {S:St} {e:Ex} {S':St}
  (h:(AJ E N (.mloop t y) (.seq (.region i1 rops false) (.block ib (.loop (.seq (.region i2 nops false) (.seq (.cond cnd .skip (.exit id2)) d))))) S).run=some (e,S')) :
  BI P b N (.seq (.region i1 rops false) (.block ib (.loop (.seq (.region i2 nops false) (.seq (.cond cnd .skip (.exit id2)) d))))) S e S':=by
 rw [AJ,run_bind,AoG]at h;obtain ⟨S1,h1,h⟩:=h;rw [run_bind,AoG]at h;obtain ⟨⟨it,k,xs⟩,h2,h⟩:=h;obtain ⟨ty,ox,ty2,ps,af,hlast,hitN,hitx,hti,hox,hk,hmc⟩:=Ah6 (b:=b) h2;simp only at hlast hitN hitx hox hk hmc h;split at h
 .rename_i pq x0 hnx hx0;split at h
  .rename_i hid;subst hid;rw [Dl,AoG]at h;obtain ⟨yf,hperm,h⟩:=h;simp only [Tr.run,AoD,Prod.mk.injEq]at h;obtain ⟨rfl,rfl⟩:=h;obtain ⟨rs,hrs,hruns⟩:=Rx _ _ _ 0 h1;intro a w Q hs hQ;refine wp_seq (wp_region_list ?_);have hsplit:rops.toList=rs.map (·.o)++[⟨some it,.range ty ox,ty2,ps,af,none⟩]:=by
    obtain ⟨ys,hys⟩:=Aql.1 hlast
    grind
   rw [hsplit];refine Runs.more hE hF hG hN rs 0 hruns hs λa1 w1 hs1=>?_
   obtain ⟨c,hi,hsl,hfx⟩:=hs1;refine wpList_step λK hK=>?_
   simp only [Region.wanted,AoU];obtain ⟨xs',hm1,hm2⟩:=hi.mp k hk;rw [hmc]at hm1;injection hm1 with hm1
   subst hm1;obtain ⟨es,hes,hen⟩:=hm2.en;obtain ⟨⟨kt,et,hu,_⟩,_⟩:=hE.ti.map hti;have hev:a1.eval ox=.map (some (c.mb k)):=by
    have:=AI hsl ox;rw [hox]at this;exact(AY this:LeafOk S1 c w1 (Kok b S1 c) (.mh k) _).2
   have hrun:=run_range_map w1 ty kt et (c.mb k) es es.size hu hes;rw [<- hev]at hrun;refine AD (o:=⟨some it,.range ty ox,ty2,ps,af,none⟩) (post:=λv w2=>v=.pointer (some ⟨w1.heap.size,0,none⟩)/\w2=w1.alloc (.mapIter (some (c.mb k)) es.size #[] es.size)) rfl ⟨_,_,hrun,rfl,rfl⟩ K _ ?_;rintro v w2 ⟨rfl,rfl⟩;refine hK _ _ ?_;obtain ⟨hi2,st2,hkk⟩:=hi.drop k;have hsl2:Slots N (S1.drop k) c w1 (Kok b (S1.drop k) c) a1:=LZ (st2.slots hsl (by intro i;rfl) none .no undef (λ_ h=>by cases h) trivial (λ_ _=>Iff.rfl) (λ_ _=>Iff.rfl));have hbm:=(hkk 0 hk).2;obtain ⟨hi3,st3⟩:=AiI hi2 (.mapIter (some (c.mb k)) es.size #[] es.size) it;have hne:∀p,p∈b.fx->p.1≠it:=λp hp he=>by grind
   have hsim:Sim (reB hi2 (.mapIter (some (c.mb k)) es.size #[] es.size) it) N ((S1.drop k).put it .no) (a1.put (some it) (.pointer (some ⟨w1.heap.size,0,none⟩))) (w1.alloc (.mapIter (some (c.mb k)) es.size #[] es.size)):=by
    refine⟨c,Inv.put (S:=S1.drop k) rfl rfl rfl hi3,?_,?_⟩
    .rw [show Kok (reB hi2 (.mapIter (some (c.mb k)) es.size #[] es.size) it) ((S1.drop k).put it .no) c=Kok (reB hi2 (.mapIter (some (c.mb k)) es.size #[] es.size) it) (S1.drop k) c from EZ rfl rfl];exact st3.slots hsl2 (λi=>(SV.kp_nil _).symm) (some it) .no _ (λq hq=>by grind) trivial (λl v=>Hs rfl rfl l v) (λl v=>Ac1 rfl rfl l v)
    .intro p hp;rcases AoY.1 hp with rfl | hp
     .show(a1.tmps.setIfInBounds it _).getD it undef=_;simp [hsl.n,hitN]
     .exact Agh hfx (λj hj p hp=>by grind) p hp
   refine wp_block (Ad1 hbm hes hen hF hnx hperm ?_ (t.ok hx0 hsim) λa' w' hs'=>?_)
   .intro en seen hee z z' hz a2 w2 hs2 Q2 hQ2;rw [run_bind,AoG]at hz;obtain ⟨⟨e1,S2⟩,hz1,hz2⟩:=hz;cases e1 with
    | n=>
     have hz3:=Ml hz2;refine hd { E with fx:=it::E.fx,en:=(it,ent en)::E.en } (reB hi2 (.mapIter (some (c.mb k)) es.size (seen.push en.born) es.size) it) ⟨hE.ti,hE.mix,hE.ca⟩ (λp hp=>?_) ?_ hN _ _ _ _ hz1 hs2 λa3 w3 hs3=>hQ2 _ _ (t.ok hz3 hs3)
     .rcases AoY.1 hp with rfl | hp
      .simp
      grind
     .intro S4 w4 c4 a4 hi4 hfx4 s p hp;simp only [Ze]at hp;split at hp
      .rename_i hse;subst hse;injection hp with hp
       subst hp;have hit:a4.eval (.tmp it)=.pointer (some ⟨w1.heap.size,0,none⟩):=hfx4 (it,_) (List.mem_cons_self ..);obtain ⟨k1,k2,k3⟩:=Z9 hen;obtain ⟨_,_,k4,k5⟩:=k2 en hee;rw [hit,<- k4,<- k5];exact run_entry_at w4 w1.heap.size (c.mb k) es.size seen es es.size en (AjA hi4) (by rw [Zx hi4 (B5 hes) hbm];exact hes) hee k3
      .exact hG (Ada hi4).1 (λx hx=>hfx4 x (ApM _ hx)) s p hp
    | x id=>simp [Tr.run]at hz2
    | r=>simp [Tr.run]at hz2
   .simp only [Exit.inBlock,AoU];exact hQ _ _ hs'
  .simp [Tr.run]at h
 .simp [Tr.run]at h
theorem Ag1 (c:Code):Abo P N c/\Aey P N c:=by
 have reg:∀{E:Env} {b:Base},EnvOk P E->(∀p,p∈b.fx->E.fx.contains p.1=true)->EnB P E b->N < b.n1->∀{id:Nat} {ops:Array Oper} {draw:Bool} {S:St} {e:Ex} {S':St},((Ms E N ops draw S).bind λS=>.ret (.n,S)).run=some (e,S')->BI P b N (.region id ops draw) S e S':=by
  intro E b hE hF hG hN id ops draw S e S' h;rw [run_bind,AoG]at h;obtain ⟨S1,h1,h2⟩:=h;simp only [Tr.run,AoD,Prod.mk.injEq]at h2;obtain ⟨k1,k2⟩:=h2;subst k1 k2;intro a w Q hs hQ;exact AgJ hE hF hG hN h1 hs hQ
 induction c with
 | skip=>
  refine⟨?_,trivial⟩;intro E b hE hF hG hN ann S e S' h;have:AJ E N ann .skip S=.ret (.n,S):=by rfl
  rw [this]at h;simp only [Tr.run,AoD,Prod.mk.injEq]at h;obtain ⟨k1,k2⟩:=h;subst k1 k2;intro a w Q hs hQ;exact wp_skip (hQ a w hs)
 | region id ops draw=>
  refine⟨?_,trivial⟩;intro E b hE hF hG hN ann S e S' h;cases ann with
  | reg J=>
   obtain ⟨S0,h1,h2⟩:=NQ (b:=b) (N:=N) (show(Nb J ((Ms E N ops draw S).bind λS=>.ret (.n,S))).run=some (e,S') from h);exact Ae0 (reg hE hF hG hN h1) h2
  | _=>exact reg hE hF hG hN h
 | seq c d ih1 ih2=>
  refine⟨?_,ih1.1,ih2.1,ih1.2,ih2.2⟩;intro E b hE hF hG hN ann S e S' h;have i1:∀{ann S e S'},(AJ E N ann c S).run=some (e,S')->BI P b N c S e S':=λh=>ih1.1 E b hE hF hG hN _ _ _ _ h
  have i2:∀{ann S e S'},(AJ E N ann d S).run=some (e,S')->BI P b N d S e S':=λh=>ih2.1 E b hE hF hG hN _ _ _ _ h
  cases ann with
  | seq x y=>(intro a w Q hs hQ;exact Ahl i1 i2 h hs hQ)
  | nil=>(intro a w Q hs hQ;exact Ahl i1 i2 h hs hQ)
  | both J xr xa xb y z=>
   match c,ih1,h with
   | .seq r (.cond o c1 c2),ih1,h=>(intro a w Q hs hQ;exact Akr (ih1.2.1 E b hE hF hG hN) (ih1.2.2.2.2.1 E b hE hF hG hN) (ih1.2.2.2.2.2.1 E b hE hF hG hN) (ih2.1 E b hE hF hG hN) h hs hQ)
   | .seq _ (.skip),_,h | .seq _ (.region ..),_,h | .seq _ (.seq ..),_,h | .seq _ (.block ..),_,h | .seq _ (.loop ..),_,h | .seq _ (.rangeFunc ..),_,h | .seq _ (.exit ..),_,h | .seq _ (.scope ..),_,h | .seq _ (.label ..),_,h | .seq _ (.goto ..),_,h | .seq _ (.ret),_,h | .seq _ (.refuse ..),_,h=>cases h
   | .skip,_,h | .region ..,_,h | .cond ..,_,h | .block ..,_,h | .loop ..,_,h | .rangeFunc ..,_,h | .exit ..,_,h | .scope ..,_,h | .label ..,_,h | .goto ..,_,h | .ret,_,h | .refuse ..,_,h=>cases h
  | mloop t y=>
   have hcd:∃i1 rops ib i2 nops cnd id2 d',c=.region i1 rops false/\d=.block ib (.loop (.seq (.region i2 nops false) (.seq (.cond cnd .skip (.exit id2)) d'))):=by
    cases c <;> try (cases h;done)
    rename_i i1 rops dr;cases dr <;> try (cases h;done)
    cases d <;> try (cases h;done)
    rename_i ib d;cases d <;> try (cases h;done)
    rename_i d;cases d <;> try (cases h;done)
    rename_i r d;cases r <;> try (cases h;done)
    rename_i i2 nops dr;cases dr <;> try (cases h;done)
    cases d <;> try (cases h;done)
    rename_i c d;cases c <;> try (cases h;done)
    rename_i cnd x y;cases x <;> try (cases h;done)
    cases y <;> try (cases h;done)
    simp
   obtain ⟨i1',rops,ib,i2',nops,cnd,id2,d',rfl,rfl⟩:=hcd;intro a w Q hs hQ;exact AiT hE hF hG hN (ih2.2.2.2.2.2.2.2.1) h hs hQ
  | _=>cases h
 | cond o c d ih1' ih2'=>
  refine⟨?_,ih1'.1,ih2'.1,ih1'.2,ih2'.2⟩;intro E b hE hF hG hN ann S e S' h;have ih1:∀{ann S e S'},(AJ E N ann c S).run=some (e,S')->BI P b N c S e S':=λh=>ih1'.1 E b hE hF hG hN _ _ _ _ h
  have ih2:∀{ann S e S'},(AJ E N ann d S).run=some (e,S')->BI P b N d S e S':=λh=>ih2'.1 E b hE hF hG hN _ _ _ _ h
  cases ann with
  | cond J x y=>
   simp only [AJ]at h;split at h
   .rename_i t ho;obtain ⟨S0,h1,h2⟩:=NQ (b:=b) (N:=N) h
    (intro a w Q hs hQ;exact Ae0 (AcF ih1 ih2 ho h1) h2 hs hQ)
   .rename_i e0 ho;rw [Dl,AoG]at h;obtain ⟨z,hz,h⟩:=h
    (intro a w Q hs hQ;exact AhJ ih1 ih2 ho hz h hs hQ)
   .cases h
  | nil=>
   simp only [AJ]at h;split at h
   .rename_i t ho
    (intro a w Q hs hQ;exact AcF ih1 ih2 ho h hs hQ)
   .cases h
  | _=>cases h
 | block id c ih1'=>
  refine⟨?_,ih1'.1,ih1'.2⟩;intro E b hE hF hG hN ann S e S' h;have ih1:∀{ann S e S'},(AJ E N ann c S).run=some (e,S')->BI P b N c S e S':=λh=>ih1'.1 E b hE hF hG hN _ _ _ _ h
  cases ann with
  | block J x=>
   obtain ⟨S0,h1,h2⟩:=NQ (b:=b) (N:=N) h
   (intro a w Q hs hQ;exact Ae0 (Y6 ih1 h1) h2 hs hQ)
  | nil=>(intro a w Q hs hQ;exact Y6 ih1 h hs hQ)
  | _=>cases h
 | loop c ih1'=>
  refine⟨?_,ih1'.1,ih1'.2⟩;intro E b hE hF hG hN ann S e S' h;have ih1:∀{ann S e S'},(AJ E N ann c S).run=some (e,S')->BI P b N c S e S':=λh=>ih1'.1 E b hE hF hG hN _ _ _ _ h
  cases ann with
  | loop t J x=>
   simp only [AJ]at h;split at h
   .rename_i x0 hx
    (intro a w Q hs hQ;exact Aj8 ih1 hx h hs hQ)
   .cases h
  | _=>cases h
 | exit id=>
  refine⟨?_,trivial⟩;intro E b hE hF hG hN ann S e S' h;have:AJ E N ann (.exit id) S=.ret (.x id,S):=by rfl
  rw [this]at h;simp only [Tr.run,AoD,Prod.mk.injEq]at h;obtain ⟨k1,k2⟩:=h;subst k1 k2;intro a w Q hs hQ;exact wp_exit (hQ a w hs)
 | ret=>
  refine⟨?_,trivial⟩;intro E b hE hF hG hN ann S e S' h;have:AJ E N ann .ret S=.ret (.r,S):=by rfl
  rw [this]at h;simp only [Tr.run,AoD,Prod.mk.injEq]at h;obtain ⟨k1,k2⟩:=h;subst k1 k2;intro a w Q hs hQ;exact wp_ret (hQ a w hs)
 | _=>
  refine⟨?_,trivial⟩;intro E b hE hF hG hN ann S e S' h;cases ann <;> cases h
theorem Ahv {b:Base} (hE:EnvOk P E) (hF:∀p,p∈b.fx->E.fx.contains p.1=true) (hG:EnB P E b) (hN:N < b.n1) (c:Code) {ann:Ann} {S:St} {e:Ex} {S':St} (h:(AJ E N ann c S).run=some (e,S')):BI P b N c S e S':=
 (Ag1 c).1 E b hE hF hG hN _ _ _ _ h
end
end Go.V
namespace Go.V
open Go.RowKit
section
variable {P:Program} {E:Env} {b:Base} {S:St} {c:Cc} {w:World}
theorem PQ (hi:Inv b S w c) {t:Ty} {l:Leaf} {v:Value} {y:Ae×List Nat} (hl:LeafOk S c w (Kok b S c) l v) (h:(OV t l).ev S=some y) :
  Ows S y.2/\∃G,ALOk w (Kok b S c) y.1 v G/\G.Nodup/\CK c y.2 G:=by
 have hn:Ows S []:=λk hk=>(by cases hk)
 have hh:CK c [] []:=λg hg=>(by cases hg)
 unfold OV at h;split at h
 .simp only [Tr.ev,AoD]at h;subst h;exact⟨hn,[],⟨hl,λ_=>rfl⟩,Z,hh⟩
 .obtain rfl:v=.slice none 0 0:=hl;split at h
  .simp only [Tr.ev,AoD]at h;subst h;refine⟨hn,[],⟨?_,λ_=>rfl⟩,Z,hh⟩;simp only [Rp];simp
  .simp [Tr.ev]at h
 .rename_i k win;simp only [Ak,AoG,Tr.ev,AoD]at h;obtain ⟨o,ho,h⟩:=h;subst h;obtain ⟨h1,F',h2,h3,h4⟩:=IT hi hl ho;exact⟨λk' hk'=>(by grind),F',⟨h2,λh=>(by simp [Ty.own]at h)⟩,h4,λg hg=>⟨k,Z,h3 g hg⟩⟩
 .simp [Tr.ev]at h
def Outs (S:St) (c:Cc) (gv G:List Nat):Prop:=Ows S gv/\(AO gv=true->G.Nodup)/\CK c gv G
theorem Outs.nil:Outs S c [] []:=⟨λk hk=>(by cases hk),λ_=>by simp,λg hg=>(by cases hg)⟩
theorem Outs.append (hi:Inv b S w c) {k l G H:List Nat} (h1:Outs S c k G) (h2:Outs S c l H):Outs S c (k++l) (G++H):=by
 refine⟨CM h1.1 h2.1,λhu=>?_,λg hg=>?_⟩
 .obtain ⟨u1,u2,_⟩:=AU hu;exact(C5 hi h1.2.2 h2.2.2 h1.1 h2.1 hu (h1.2.1 u1) (h2.2.1 u2)).2
 .rcases AoK.1 hg with hg | hg
  .obtain ⟨k,h,h'⟩:=h1.2.2 g hg;grind
  .obtain ⟨k,h,h'⟩:=h2.2.2 g hg;grind
theorem RK (hi:Inv b S w c):∀{ls:List Leaf} {ts:List Ty} {vs:List Value} {y:List Ae×List Nat},All2 (LeafOk S c w (Kok b S c)) ls vs->(Hp ts ls).ev S=some y->
  ∃G,FL (ALOk w (Kok b S c)) y.1 vs G/\Outs S c y.2 G
 | [],[],_,y,.nil,h=>by
  rw [Hp]at h;simp only [Tr.ev,AoD]at h;subst h;exact⟨[],⟨rfl,rfl⟩,Outs.nil⟩
 | l::ls,t::ts,_,y,.cons (b:=v) (bs:=vs) h1 h2,h=>by
  rw [Hp]at h;simp only [Ak,AoG,Tr.ev,AoD]at h;obtain ⟨y1,hy1,y2,hy2,rfl⟩:=h;obtain ⟨k1,G,k2,k3,k4⟩:=PQ hi h1 hy1;obtain ⟨H,m2,m3⟩:=RK hi h2 hy2;exact⟨G++H,⟨v,vs,G,H,rfl,rfl,k2,m2⟩,Outs.append hi ⟨k1,λ_=>k3,k4⟩ m3⟩
 | [],_::_,_,_,_,h=>by simp [Hp,Tr.ev]at h
 | _::_,[],_,_,_,h=>by simp [Hp,Tr.ev]at h
theorem Xt (hi:Inv b S w c) {N M:Nat} (hN:b.n1=N+1) (hM:b.ms.length=M) {t:TypeId} {x:SV} {v:Value} {y:A1×List Nat} (hx:AX S c w (Kok b S c) x v) (h:(Vt E N M t x).ev S=some y) :
  ∃G,A1Ok w (Kok b S c) b.ms y.1 v G/\Outs S c y.2 G:=by
 unfold Vt at h;split at h
 .simp only [Ak,AoG,Tr.ev,AoD]at h;obtain ⟨z,hz,h⟩:=h;subst h;obtain ⟨k1,G,k2,k3,k4⟩:=PQ hi (AY hx) hz;exact⟨G,k2,k1,λ_=>k3,k4⟩
 .simp only [Ak,AoG,Tr.ev,AoD]at h;obtain ⟨z,hz,h⟩:=h;subst h;obtain ⟨vs,rfl,hx⟩:=hx;obtain ⟨G,k1,k2⟩:=RK hi hx hz;exact⟨G,⟨vs,rfl,k1⟩,k2⟩
 .rename_i k off;split at h
  .rename_i hk;simp only [Tr.ev,AoD]at h;subst h;obtain ⟨n,hn,rfl⟩:=hx;have hlt:k - (N+1) < b.ms.length:=O
   have han:=hi.an (k - (N+1)) _ (AoF hlt);rw [hN,(O:N+1+(k - (N+1))=k)]at han;exact⟨[],⟨rfl,_,AoF hlt,by grind⟩,Outs.nil⟩
  .simp [Tr.ev]at h
 .simp [Tr.ev]at h
theorem AbE {t:TypeId} {v u:Value} {w':World} (h:(Instr.loadAt t v).run P w=.ok u w'):(do loadVar t (<- asAddr v):Sem Value).run P w=.ok u w':=by
 unfold Instr.loadAt at h;cases v with
 | pointer o=>
  cases o with
  | some a=>assumption
  | none=>simp [Instr.sureAddr]at h
 | _=>simp [Instr.sureAddr]at h
def SC (tmps:Array Value):ResultVar->Sem Value
 | .tmp t=>pure (tmps.getD t undef)
 | .cell a t=>do loadVar t (<- asAddr (tmps.getD a undef))
theorem Qi (hT:TabOk P E.ti) {N M:Nat} (hN:b.n1=N+1) (hM:b.ms.length=M) {a:Act} (hi:Inv b S w c) (hs:Slots N S c w (Kok b S c) a):∀(rs:List ResultVar) (ts:List TypeId) {y:List A1×List Nat},(HY E N M S rs ts).ev S=some y->
  ∃vs G,(rs.mapM (SC a.tmps)).run P w=.ok vs w/\FL (A1Ok w (Kok b S c) b.ms) y.1 vs G/\Outs S c y.2 G
 | [],[],y,h=>by
  rw [HY]at h;simp only [Tr.ev,AoD]at h;subst h;exact⟨[],[],Z,⟨rfl,rfl⟩,Outs.nil⟩
 | .tmp s::rs,t::ts,y,h=>by
  rw [HY]at h;simp only [Ak,AoG,Tr.ev,AoD]at h;obtain ⟨y1,hy1,y2,hy2,rfl⟩:=h;obtain ⟨G,k1,k2⟩:=Xt hi hN hM (hs.ok s) hy1;obtain ⟨vs,H,m1,m2,m3⟩:=Qi hT hN hM hi hs rs ts hy2;refine⟨_::vs,G++H,?_,⟨_,vs,G,H,rfl,rfl,k1,m2⟩,Outs.append hi k2 m3⟩;simp only [List.mapM_cons,SC,Sem.run_bind,Sem.run_pure,Result.andThen_ok,m1]
 | .cell s t'::rs,t::ts,y,h=>by
  rw [HY]at h;split at h
  .rename_i a1 cs ha hcs;split at h
   .simp [Tr.ev]at h
   .rename_i hne;rw [Ak,AoG]at h;obtain ⟨x,hx,h⟩:=h;simp only [Ak,AoG,Tr.ev,AoD]at h;obtain ⟨y1,hy1,y2,hy2,rfl⟩:=h;have hv:=hs.ok s;rw [ha]at hv;have hpos:0 < cs.length:=by
     grind
    obtain ⟨u,k0,k1⟩:=AdO (P:=P) hT hi hv hcs hx hpos;obtain ⟨G,k2,k3⟩:=Xt hi hN hM k1 hy1;obtain ⟨vs,H,m1,m2,m3⟩:=Qi hT hN hM hi hs rs ts hy2;refine⟨u::vs,G++H,?_,⟨u,vs,G,H,rfl,rfl,k2,m2⟩,Outs.append hi k3 m3⟩;have hl:=AbE k0;rw [List.mapM_cons,Sem.run_bind];show((do loadVar t' (<- asAddr (a.tmps.getD s undef)):Sem Value).run P w).andThen _=_
    simp_all
  .simp [Tr.ev]at h
 | [],_::_,_,h=>by simp [HY,Tr.ev]at h
 | _::_,[],_,h=>by
  rename_i r _ _;cases r <;> simp [HY,Tr.ev]at h
theorem AeB (hi:Inv b S w c) {N M:Nat} (hN:b.n1=N+1) (hM:b.ms.length=M) {t:Ty} {l:Leaf} {v:Value} {y:Ae×List Nat} (hl:LeafOk S c w (Kok b S c) l v) (h:(Su N M t l).ev S=some y) :
  Ows S y.2/\∃G,ROk w (Kok b S c) b.ms y.1 v G/\G.Nodup/\CK c y.2 G:=by
 unfold Su at h;split at h
 .rename_i k off;split at h
  .rename_i hk;simp only [Tr.ev,AoD]at h;subst h;obtain ⟨n,hn,rfl⟩:=hl;have hlt:k - (N+1) < b.ms.length:=O
   have han:=hi.an (k - (N+1)) _ (AoF hlt);rw [hN,(O:N+1+(k - (N+1))=k)]at han;refine⟨λk hk=>(by cases hk),[],.inr (.inl ⟨rfl,_,_,rfl,AoF hlt,by grind⟩),Z,λg hg=>(by cases hg)⟩
  .simp [Tr.ev]at h
 .rename_i k;split at h
  .rename_i hk;simp only [Tr.ev,AoD]at h;subst h;obtain ⟨hn,rfl⟩:=hl;obtain ⟨_,_,es,hes,_⟩:=hi.mp _ hn;have hlt:k - (N+1) < b.ms.length:=O
   have han:=hi.an (k - (N+1)) _ (AoF hlt);rw [hN,(O:N+1+(k - (N+1))=k)]at han;refine⟨λk hk=>(by cases hk),[],.inr (.inr ⟨rfl,k - (N+1),_,?_,AoF hlt,by grind,es,es.size,by grind⟩),Z,λg hg=>(by cases hg)⟩
   grind
  .simp [Tr.ev]at h
 .exact hl.elim
 .obtain ⟨k1,G,k2,k3,k4⟩:=PQ hi hl h;exact⟨k1,G,.inl k2,k3,k4⟩
theorem XC (hi:Inv b S w c) {N M:Nat} (hN:b.n1=N+1) (hM:b.ms.length=M) (k:Nat):∀(row:List Ae) (i:Nat) (vs:List Value) {y:List Ae×List Nat},vs.length=row.length->(∀j v,vs[j]?=some v->LeafOk S c w (Kok b S c) (S.mc k (i+j)) v)->(Ph N M k row i).ev S=some y->
  ∃G,FL (ROk w (Kok b S c) b.ms) y.1 vs G/\Outs S c y.2 G
 | [],i,vs,y,hl,_,h=>by
  rw [Ph]at h;simp only [Tr.ev,AoD]at h;subst h;obtain rfl:vs=[]:=Ao1 hl;exact⟨[],⟨rfl,rfl⟩,Outs.nil⟩
 | r::row,i,[],y,hl,_,_=>by simp at hl
 | r::row,i,v::vs,y,hl,hc,h=>by
  rw [Ph]at h;simp only [Tr.ev,Ak,AoG,AoD]at h;obtain ⟨y1,hy1,y2,hy2,rfl⟩:=h;obtain ⟨k1,G,k2,k3,k4⟩:=AeB hi hN hM (hc 0 v rfl) hy1;obtain ⟨H,m1,m2⟩:=XC hi hN hM k row (i+1) vs (by grind) (λj v hv=>by
   have:=hc (j+1) v (by grind)
   grind) hy2
  exact⟨G++H,⟨v,vs,G,H,rfl,rfl,k2,m1⟩,Outs.append hi ⟨k1,λ_=>k3,k4⟩ m2⟩
theorem UJ (hi:Inv b S w c) {N M:Nat} (hN:b.n1=N+1) (hM:b.ms.length=M):∀(rows:List (List Ae)) (m:Nat) (gs:List (Nat×Nat)) {y:List (List Ae)×List Nat},gs.length=rows.length->(∀j g,gs[j]?=some g->b.ms[m+j]?=some g)->(∀r,r∈rows->r≠[])->(OY N M rows m).ev S=some y->
  (∀j r,rows[j]?=some r->S.ms (N+1+m+j)=some (TH r))/\y.1.map List.length=rows.map List.length/\∃G,RowsOk w (Kok b S c) b.ms gs y.1 G/\Outs S c y.2 G
 | [],m,gs,y,hl,_,_,h=>by
  rw [OY]at h;simp only [Tr.ev,AoD]at h;subst h;obtain rfl:gs=[]:=Ao1 hl;exact⟨λj r hj=>by simp at hj,rfl,[],⟨rfl,rfl⟩,Outs.nil⟩
 | r::rows,m,[],y,hl,_,_,_=>by simp at hl
 | r::rows,m,g::gs,y,hl,hg,hne,h=>by
  rw [OY]at h;simp only [Tr.ev]at h;split at h
  .rename_i hn;simp only [Tr.ev,Ak,AoG,AoD]at h;obtain ⟨y1,hy1,y2,hy2,rfl⟩:=h;have hgm:c.mb (N+1+m)=g.1/\c.mo (N+1+m)=g.2:=by rw [<- hN];exact hi.an m g (by have:=hg 0 g rfl;omega)
   obtain ⟨q1,ql,H,m1,m2⟩:=UJ hi hN hM rows (m+1) gs (by grind) (λj g' hg'=>by
    have:=hg (j+1) g' (by grind)
    grind) (λr hr=>hne r (by simp [hr])) hy2
   have hq:∀j r',(r::rows)[j]?=some r'->S.ms (N+1+m+j)=some (TH r'):=by
    grind
   by_cases hmp:∃xs:List (Int×Int),r=[⟨.mp,xs⟩]
   .obtain ⟨xs,rfl⟩:=hmp;obtain ⟨ys,e1,e2⟩:=hi.mp _ hn;simp only [Ph,Tr.ev,e1,Su,Ak,AoC,AoD]at hy1;subst hy1;exact⟨hq,by simp [ql],H,⟨_,_,[],H,rfl,rfl,.inr ⟨ys,rfl,by grind,rfl⟩,m1⟩,m2⟩
   have hlr:TH r=r.length:=by
    unfold TH
    grind
   rw [hlr]at hn;obtain ⟨cs,e,fr,h1,h2,h3,h4,_⟩:=hi.ms _ _ hn (Aqs.2 (hne r Z));have hwl:((cs.toList.drop g.2).take r.length).length=r.length:=by
    grind
   obtain ⟨G,k1,k2⟩:=XC hi hN hM (N+1+m) r 0 _ hwl (λj v hv=>by
    grind) hy1
   have hl1:y1.1.length=r.length:=by rw [<- hwl];exact k1.len.symm
   exact⟨hq,by grind,G++H,⟨y1.1,y2.1,G,H,rfl,rfl,.inl ⟨cs,e,fr,by grind,h3,O,by grind⟩,m1⟩,Outs.append hi k2 m2⟩
  .simp [Tr.ev]at h
end
theorem AgW:∀(l:List (Nat×List Leaf)) (S:St),(l.map (·.1)).Nodup->(S.ups (l.map λp=>.ms p.1 p.2)).ow=S.ow/\(S.ups (l.map λp=>.ms p.1 p.2)).sl=S.sl/\
  (∀k,(S.ups (l.map λp=>.ms p.1 p.2)).ms k=match find l k with | some r=>some (Lz r) | none=>S.ms k)/\∀k i,(S.ups (l.map λp=>.ms p.1 p.2)).mc k i=match find l k with | some r=>r.getD i .no | none=>S.mc k i
 | [],S,_=>⟨rfl,rfl,λ_=>rfl,λ_ _=>rfl⟩
 | p::l,S,h=>by
  rw [Apk,ApB]at h;obtain ⟨h1,h2,h3,h4⟩:=AgW l (S.up (.ms p.1 p.2)) h.2;obtain ⟨i0,row⟩:=p;refine⟨h1,h2,λk=>?_,λk i=>?_⟩
  .show((S.up (.ms i0 row)).ups (l.map λp=>.ms p.1 p.2)).ms k=_;rw [h3];simp only [find];by_cases hk:k=i0
   .subst hk;rw [Jh h.1,AoJ rfl];simp [St.up]
   .rw [AoH hk];have:(S.up (.ms i0 row)).ms k=S.ms k:=by show(if k=i0 then _ else S.ms k)=_;grind
    rw [this]
  .show((S.up (.ms i0 row)).ups (l.map λp=>.ms p.1 p.2)).mc k i=_;rw [h4];simp only [find];by_cases hk:k=i0
   .subst hk;rw [Jh h.1,AoJ rfl];simp [St.up]
   .rw [AoH hk];have:(S.up (.ms i0 row)).mc k i=S.mc k i:=by show(if k=i0 then _ else S.mc k i)=_;grind
    rw [this]
theorem Tm:∀(xs:List S1) (n:Nat) (S:St),(IZ xs n S).ow=S.ow/\(IZ xs n S).ms=S.ms/\(IZ xs n S).mc=S.mc/\
  ∀i,(IZ xs n S).sl i=if n<=i then(match xs[i - n]? with | some x=>.s x | none=>S.sl i)else S.sl i
 | [],n,S=>⟨rfl,rfl,rfl,λi=>by split <;> rfl⟩
 | x::xs,n,S=>by
  obtain ⟨h1,h2,h3,h4⟩:=Tm xs (n+1) (S.put n (.s x));refine⟨h1,h2,h3,λi=>?_⟩;show(IZ xs (n+1) (S.put n (.s x))).sl i=_;rw [h4];by_cases hi:n+1<=i
  .rw [AoJ hi,AoJ O,(O:i - n=(i - (n+1))+1),List.getElem?_cons_succ];have:(S.put n (.s x)).sl i=S.sl i:=by show(if i=n then _ else S.sl i)=_;grind
   rw [this]
  .rw [AoH hi];by_cases hin:i=n
   .subst hin;rw [AoJ (Ao4 _),Nat.sub_self];show(if i=i then SV.s x else S.sl i)=_;simp
   .rw [AoH O];show(if i=n then _ else S.sl i)=_
    grind
theorem RowsOk.len {w:World} {K:Nat->Prop} {mk:List (Nat×Nat)}:∀{ms:List (Nat×Nat)} {rs F},RowsOk w K mk ms rs F->rs.length=ms.length
 | [],_,_,h=>by rw [h.1];rfl
 | _::_,_,_,⟨_,_,_,_,e1,_,_,h⟩=>by rw [e1];simp [RowsOk.len h]
theorem RowsOk.at {w:World} {K:Nat->Prop} {mk:List (Nat×Nat)}:∀{ms:List (Nat×Nat)} {rs F} {m:Nat} {g r},RowsOk w K mk ms rs F->ms[m]?=some g->rs[m]?=some r->∃F,RowOk w K mk g r F
 | [],_,_,_,_,_,_,h1,_=>by simp at h1
 | _::_,_,_,0,_,_,⟨_,_,F1,_,e1,_,h,_⟩,h1,h2=>by
  grind
 | _::_,_,_,_+1,_,_,⟨_,_,_,_,e1,_,_,h⟩,h1,h2=>by
  subst e1;exact RowsOk.at h (by simpa using h1) (by grind)
theorem All2.map_right {α β:Type} {p:α->β->Prop} {as bs} (h:All2 p as bs) {i:Nat} {x:β} (hx:bs[i]?=some x):∃a,as[i]?=some a/\p a x:=by
 have hlt:i < as.length:=by rw [h.len];grind
 obtain ⟨y,hy,hp⟩:=h.get (AoF hlt)
 grind
theorem Ah3 {N:Nat} {as:List A1} {rows:List (List Ae)} {S:St} (h:Pw N as rows=some S):∀r,r∈rows->r≠[]:=by
 unfold Pw at h
 grind
theorem AhS {N:Nat} {as:List A1} {rows:List (List Ae)} {S:St} (h:Pw N as rows=some S) {w:World} {vals:List Value} {Ro:Nat->Prop} {ms:List (Nat×Nat)} {F1 F2:List Nat} (hA:FL (A1Ok w Ro ms) as vals F1) (hR:RowsOk w Ro ms ms rows F2)
  (hnd:(ms.map (·.1)++(F1++F2)).Nodup) (hlt:∀g,g∈ms.map (·.1)++(F1++F2)->g < w.heap.size/\¬ Ro g) (hN:vals.length<=N) (fx:List (Nat×Value)) (hfx:∀p,p∈fx->vals[p.1]?=some p.2) (hgb:GlF w/\∀g,glo g->Ro g/\¬ g∈ms.map (·.1)++(F1++F2)) :
  Sim ⟨w,Ro,λg=>g∈ms.map (·.1)++(F1++F2),N+1,ms,fx,hgb⟩ N S ⟨vals.toArray++Array.replicate (N - vals.length) undef,[]⟩ w:=by
 unfold Pw at h;split at h
 .rename_i vs rs hv hr;split at h
  .rename_i hu;rw [AoI]at hu;obtain ⟨hu,hne⟩:=hu;injection h with h
   have hlen:=hR.len;generalize hK:(List.range rows.length).map (λm=>(N+1+m,0))=K at hv hr
   let mb:Nat->Nat:=λκ=>(ms.getD (κ - (N+1)) (0,0)).1
   let mo:Nat->Nat:=λκ=>(ms.getD (κ - (N+1)) (0,0)).2
   have hmb:K.map (loc mb mo)=ms:=by
    rw [<- hK,ApF,hlen];apply Apq
    grind
   have hKn:(K.map (·.1)).Nodup:=by
    grind
   have hK0:∀p,p∈K->p.2=0:=by
    grind
   rw [<- hmb]at hA hR;obtain ⟨n1,a1,a2⟩:=Of K mb mo as _ hA hv;obtain ⟨b1,b2,b5,n2,b3,b4⟩:=Oa K mb mo K rows _ hR hr;rw [hmb]at hA hR;have hall:=a1.append b3;have hnl:n1.length=vs.2.length:=a1.len;have hkeys:=Cr hu;have hFn:(F1++F2).Nodup:=(Apc.1 hnd).2.1;generalize hl:vs.2++rs.2=l at *;generalize hns:n1++n2=ns at *
   let news:Nat->Option New:=λk=>find ((l.map (·.1)).zip ns) k
   let c:Cc:=⟨mb,mo,λk=>match news k with | some n=>n.h | none=>undef,λk=>match news k with | some n=>n.F | none=>[]⟩
   obtain ⟨o1,o2,o3,o4⟩:=TX l blank hkeys;have hq:(rs.1.map λp=>U.ms p.1.1 p.2)=(rs.1.map λp=>(p.1.1,p.2)).map λp=>U.ms p.1 p.2:=by simp
   rw [hq]at h;have hb1:(rs.1.map λp=>(p.1.1,p.2)).map (·.1)=K.map (·.1):=by rw [<- b1,ApF,ApF];rfl
   generalize hrs:(rs.1.map λp=>(p.1.1,p.2))=rs' at *;obtain ⟨m1,m2,m3,m4⟩:=AgW rs' (blank.ups (HI l)) (by grind);obtain ⟨p1,p2,p3,p4⟩:=Tm vs.1 0 ((blank.ups (HI l)).ups (rs'.map λp=>.ms p.1 p.2));have how:∀k,S.ow k=match news k with | some n=>some n.o | none=>none:=by
    intro k;rw [<- h,p1,m1,o4];have:=Rh hall k;refine Eq.trans ?_ this.symm;cases find l k <;> rfl
   have hms:∀k,S.ms k=match find rs' k with | some r=>some (Lz r) | none=>none:=by
    intro k;rw [<- h,p2,m3,o1];rfl
   have hmc:∀k i,S.mc k i=match find rs' k with | some r=>r.getD i .no | none=>.no:=by
    intro k i;rw [<- h,p3,m4,o2];rfl
   have hsl:∀i,S.sl i=match vs.1[i]? with | some x=>.s x | none=>.no:=by
    intro i;rw [<- h,p4,AoJ (ApP _),Nat.sub_zero,m2,o3];rfl
   have hHv:Hv S c l ns:=by
    intro k n hk;have hf:news k=some n:=DX (by rw [List.map_fst_zip (by rw [hall.len];simp)];exact hkeys) hk
    grind
   have hmsK:∀k,k∈K.map (·.1)↔S.ms k≠none:=by
    intro k;rw [hms];constructor
    .intro hk;rw [<- hb1]at hk;obtain ⟨p,hp,rfl⟩:=Ao0.1 hk;rw [DX (by grind) hp];simp
    .intro hk;cases hf:find rs' k with
     | none=>grind
     | some r=>rw [<- hb1];exact Ao0.2 ⟨_,AM hf,rfl⟩
   have hnw:∀k,S.ow k≠none->∃n,news k=some n/\S.ow k=some n.o/\c.hv k=n.h/\c.F k=n.F:=by
    grind
   have hmbms:∀k,S.ms k≠none->c.mb k∈ms.map (·.1):=λk hk=>by
    rw [<- hmb,ApF];obtain ⟨p,hp,rfl⟩:=Ao0.1 ((hmsK k).2 hk)
    grind
   have hOw:∀g,A5 S c g->g∈ms.map (·.1)++(F1++F2):=by
    rintro g (⟨k,hk,rfl⟩ | ⟨k,hk,hg⟩)
    .grind
    .obtain ⟨n,k1,k2,k3,k4⟩:=hnw k hk;rw [k4]at hg;exact AoK.2 (.inr ((EC hall k n k1).2.1 g hg))
   have hKok:∀g,g < w.heap.size->Ro g->Kok ⟨w,Ro,λg=>g∈ms.map (·.1)++(F1++F2),N+1,ms,fx,hgb⟩ S c g:=λg _ hg=>⟨.inl hg,λho=>(hlt g (hOw g ho)).2 hg⟩
   have hmsN:=(Apc.1 hnd).1;have hdis:=(Apc.1 hnd).2.2;have hne':∀r,r∈rows->r≠[]:=λr hr he=>by
    grind
   have hnl0:∀p,p∈rs.1->p.2≠[]:=λp hp he=>by
    have hm:p.2.length∈rows.map List.length:=by grind
    grind
   have hmap0:∀k,k∈K->∀es n,w.heap[mb k.1]?=some (.map es n)->S.ms k.1=some 0:=by
    intro k hk es n hh;rw [<- b1]at hk;obtain ⟨p,hp,rfl⟩:=Ao0.1 hk;rcases b5 p hp with⟨cs,e,fr,h1⟩ | ⟨xs,h1,_⟩
    .grind
    .have:find rs' p.1.1=some p.2:=DX (by grind) (by grind);rw [hms,this,h1];rfl
   have hmap1:∀k,S.ms k=some 0->∃xs,S.mc k 0=.md xs/\MapAt w (mb k) xs:=by
    intro k hn;rw [hms]at hn;cases hf:find rs' k with
    | none=>grind
    | some row=>
     rw [hf]at hn;simp only [AoD]at hn;have hfm:=AM hf;rw [<- hrs]at hfm;obtain ⟨⟨⟨k',o'⟩,row'⟩,hpm,hpe⟩:=Ao0.1 hfm;simp only [Prod.mk.injEq]at hpe;obtain ⟨rfl,rfl⟩:=hpe;obtain ⟨xs,rfl⟩:∃xs,row'=[.md xs]:=by
      unfold Lz at hn
      grind
     have hb4:=b4 S c (Hv.right hnl (by grind)) (λk hk=>(hmsK k.1).1 (Ao0.2 ⟨k,hk,rfl⟩)) (λ_ _=>⟨rfl,rfl⟩) hmap0 _ hpm;rcases hb4 with⟨cs,e,fr,h1,h2,hw3,h3⟩ | ⟨ys,h1,h2⟩
     .obtain ⟨u,_,h⟩:=h3.get (i:=0) (show [Leaf.md xs][0]?=some (.md xs) from rfl);exact h.elim
     grind
   refine⟨c,⟨?_,?_,?_,?_,?_,?_,?_,λ_ _ _=>rfl,rfl,rfl,rfl,Ao4 _,?_,hmap1⟩,⟨λi=>?_,?_,rfl⟩,?_⟩
   .intro k n hn hn0;have hk:S.ms k≠none:=by rw [hn];simp
    rw [hms]at hn;cases hf:find rs' k with
    | none=>grind
    | some row=>
     rw [hf]at hn;simp only [AoD]at hn;have hb:=hHv;rw [<- hl,<- hns]at hb;have hfm:=AM hf;rw [<- hrs]at hfm;obtain ⟨⟨⟨k',o'⟩,row'⟩,hpm,hpe⟩:=Ao0.1 hfm;simp only [Prod.mk.injEq]at hpe;obtain ⟨rfl,rfl⟩:=hpe;have ho':o'=0:=hK0 (k',o') (by grind);subst ho';have hb4:=b4 S c (Hv.right hnl hb) (λk hk=>(hmsK k.1).1 (Ao0.2 ⟨k,hk,rfl⟩)) (λ_ _=>⟨rfl,rfl⟩) hmap0 _ hpm;rcases hb4 with⟨cs,e,fr,h1,h2,hw3,h3⟩ | ⟨xs,h1,_⟩
     rotate_left
     .simp only at h1;subst h1;simp only [Lz]at hn;omega
     simp only [Aqf]at hw3 h3;have hrl:Lz row'=row'.length:=by
      unfold Lz;split
      .rename_i xs;obtain ⟨u,_,h⟩:=h3.get (i:=0) (show [Leaf.md xs][0]?=some (.md xs) from rfl);exact h.elim
      .rfl
     rw [hrl]at hn;refine⟨cs,e,fr,h1,by grind,h2,λi u hlt' hu=>?_,?_⟩
     rotate_left
     .intro cs0 e0 fr0 h0
      grind
     obtain ⟨lf,q1,q2⟩:=All2.map_right h3 (i:=i) (x:=u) (by grind);rw [hmc,hf];simp only;rw [ApG,q1];exact LeafOk.mono hKok q2
   .intro k o ho;obtain ⟨n,k1,k2,k3,k4⟩:=hnw k (by rw [ho];simp);rw [ho]at k2;injection k2 with k2
    subst k2;rw [k3,k4];exact Rp.mono hKok _ _ (EC hall k n k1).2.2.2
   .intro k hk;obtain ⟨n,k1,k2,k3,k4⟩:=hnw k hk;rw [k4];exact(EC hall k n k1).2.2.1 hFn
   .intro k k' hne h1 h2 g hg;obtain ⟨n,k1,_,_,k4⟩:=hnw k h1;obtain ⟨n',q1,_,_,q4⟩:=hnw k' h2;rw [k4]at hg;rw [q4];exact Ug hall hFn k n k' n' hne k1 q1 g hg
   .intro k k' hne h1 h2 he;have h1':=(hmsK k).2 h1;have h2':=(hmsK k').2 h2;rw [<- hK]at h1' h2';rw [ApF]at h1' h2';obtain ⟨m,hm,rfl⟩:=Ao0.1 h1';obtain ⟨m',hm',rfl⟩:=Ao0.1 h2';have hm:=Aqw.1 hm;have hm':=Aqw.1 hm';have he':(ms.getD (N+1+m - (N+1)) (0,0)).1=(ms.getD (N+1+m' - (N+1)) (0,0)).1:=he;rw [Nat.add_sub_cancel_left,Nat.add_sub_cancel_left,ApG,ApG,AoF O,AoF O]at he';simp only [Apo]at he';have hpw:=List.pairwise_iff_getElem.1 hmsN;simp only [Ao9,List.getElem_map]at hpw
    grind
   .intro k k' h1 h2 hg;obtain ⟨n,k1,_,_,k4⟩:=hnw k' h2;rw [k4]at hg;exact hdis _ (hmbms k h1) _ ((EC hall k' n k1).2.1 _ hg) rfl
   .grind
   .grind
   .have hb:=hHv;rw [<- hl,<- hns]at hb;have hsv:=a2 S c (Hv.left hnl hb) (λk hk=>(hmsK k.1).1 (Ao0.2 ⟨k,hk,rfl⟩)) (λ_ _=>⟨rfl,rfl⟩);rw [hsl];cases hx:vs.1[i]? with
    | none=>trivial
    | some x=>
     obtain ⟨v,hv1,hv2⟩:=hsv.get hx;have hlt':i < vals.length:=(Apt.1 hv1).1;have:(vals.toArray++Array.replicate (N - vals.length) undef).getD i undef=v:=by
      rw [Ap1,Array.getElem?_append_left O,List.getElem?_toArray,hv1];rfl
     rw [this];exact S1Ok.mono hKok hv2
   .grind
   .intro p hp;have hp':=hfx p hp;rw [Ap1,Array.getElem?_append_left (by grind),List.getElem?_toArray,hp'];rfl
  .cases h
 .cases h
theorem S5 {b:Base} {S:St} {c:Cc} {w:World} {N:Nat} {a:Act} (hi:Inv b S w c) (hs:Slots N S c w (Kok b S c) a) {vals:List Value}:∀(ln:List (Nat×Nat)) {y:List ((Nat×Nat)×Ae)×List Nat},
  (∀p,p∈ln->vals[p.1]?=some (a.tmps.getD p.1 undef))->(M1 S ln).ev S=some y->∃G,LentOk w (Kok b S c) vals y.1 G/\Outs S c y.2 G
 | [],y,_,h=>by
  simp only [M1,Tr.ev,AoD]at h;subst h;exact⟨[],rfl,Outs.nil⟩
 | p::ps,y,hv,h=>by
  simp only [M1]at h;split at h
  .rename_i k hlf;simp only [Ak,AoG,Tr.ev,AoD]at h;obtain ⟨o,ho,y',hy',rfl⟩:=h;obtain ⟨G2,h1,h2⟩:=S5 hi hs ps (λq hq=>hv q (by simp [hq])) hy';have hvp:=hv p Z;obtain ⟨v,hval,hlk⟩:∃v,Fe vals p=some v/\LeafOk S c w (Kok b S c) (.vw k [] none) v:=by
    unfold Afz at hlf;have hok:=hs.ok p.1;split at hlf
    .rename_i l hl;rw [hl]at hok;split at hlf
     .rename_i hp2;subst hlf;have hsl:LeafOk S c w (Kok b S c) (.vw k [] none) (a.tmps.getD p.1 undef):=hok;refine⟨_,?_,hsl⟩;obtain ⟨A,n,cap,e⟩:=Ui hi hsl;unfold Fe
      grind
     .cases hlf
    .rename_i ls hl;rw [hl]at hok;obtain ⟨vs,e,hall⟩:=hok;rw [ApG]at hlf;cases hj:ls[p.2]? with
     | none=>grind
     | some l=>
      rw [hj]at hlf;simp only [Apo]at hlf;subst hlf;obtain ⟨v,q1,q2⟩:=hall.get hj;refine⟨v,?_,q2⟩;unfold Fe
      grind
    .cases hlf
   obtain ⟨g1,F',g2,g3,g4⟩:=IT hi hlk ho;refine⟨F'++G2,⟨v,F',G2,rfl,hval,⟨g2,λh=>by simp [Ty.own]at h⟩,h1⟩,?_⟩;exact Outs.append hi (k:=[k]) ⟨λk' hk'=>(by grind),λ_=>g4,λg hg=>⟨k,Z,g3 g hg⟩⟩ h2
  .simp [Tr.ev]at h
theorem AjN {P : Program} {E : Env} (hE : EnvOk P E) {f : FuncId} {fn : Func} {J : Joins} {ann : Ann} {ln : List (Nat × Nat)} {as : List A1} {rows : List (List Ae)} {r : Res} (hf : P.funcs[f]? = some fn) (hname : (fn.name == "runtime.NumGoroutine") = false)
  (h:(Aeg E fn J ann ln as rows).run=some r):B6 P f as rows r:=by
 unfold Aeg at h;split at h
 .rename_i c hb;split at h
  .rename_i hlen;obtain ⟨hlen,hln⟩:=hlen;rw [AoI]at hln;obtain ⟨hen,hln⟩:=hln;split at h
   .rename_i S hS;rw [run_bind,AoG]at h;obtain ⟨⟨e,S1⟩,h1,h2⟩:=h;refine⟨⟨fn,hf,hname,by rw [hb];rfl⟩,?_⟩;intro w vals Ro ms F1 F2 hA hR hnd hlt hgl;have hgb:GlF w/\∀g,glo g->Ro g/\¬ g∈ms.map (·.1)++(F1++F2):=⟨hgl.1,λg hg=>⟨hgl.2 g hg,λho=>(hlt g ho).2 (hgl.2 g hg)⟩⟩
    have hvl:=hA.len;generalize hfx:(vals.zipIdx.filter λp=>E.fx.contains p.2).map (λp=>(p.2,p.1))=fx;have hfx1:∀i v,(i,v)∈fx↔vals[i]?=some v/\E.fx.contains i=true:=by
     intro i v;rw [<- hfx];simp only [Ao0,Aqe,Prod.exists,Prod.mk.injEq];constructor
     .grind
     .rintro ⟨h1,h2⟩;exact⟨v,i,⟨List.mk_mem_zipIdx_iff_getElem?.2 O,h2⟩,rfl,rfl⟩
    have hF:∀p,p∈fx->E.fx.contains p.1=true:=λp hp=>((hfx1 p.1 p.2).1 hp).2
    have hsim:=AhS hS hA hR hnd hlt O fx (λp hp=>((hfx1 p.1 p.2).1 hp).1) hgb;have hml:=hR.len;have hrne:=Ah3 hS;have hfin:∀a' w',Sim ⟨w,Ro,λg=>g∈ms.map (·.1)++(F1++F2),fn.ntmps+1,ms,fx,hgb⟩ fn.ntmps S1 a' w'->(ZM E fn.ntmps fn rows ln S1).run=some r->
      a'.defers=[]/\∃v,(results fn a'.tmps).run P w'=.ok v w'/\∃v',Ending.returned v=.returned v'/\IY w Ro ms (F1++F2) vals r v' w':=by
     rintro a' w' ⟨c',hi,hsl,hafx⟩ hfi;refine⟨hsl.d,?_⟩;unfold ZM at hfi;rw [run_bind,AoG]at hfi;obtain ⟨⟨⟨y1,y2,y3⟩,lg⟩,g1,g2⟩:=hfi;split at g2
     .rename_i hu;simp only [Tr.run,AoD]at g2;subst g2;have g3:=Ajt S1 _ [] g1;rw [Ak,AoG]at g3;obtain ⟨z1,hz1,g3⟩:=g3;rw [Ak,AoG]at g3;obtain ⟨z2,hz2,g3⟩:=g3;rw [Ak,AoG]at g3;obtain ⟨z3,hz3,g3⟩:=g3;simp only [Tr.ev,AoD,Prod.mk.injEq]at g3;obtain ⟨e1,e2,e3⟩:=g3;subst e1 e2 e3;obtain ⟨vs,G1,k1,k2,k3⟩:=Qi (P:=P) hE.ti rfl hml.symm hi hsl _ _ hz1;obtain ⟨q0,ql,G2,q1,q2⟩:=UJ hi rfl hml.symm rows 0 ms hml.symm (λj g hg=>by grind) hrne hz2;obtain ⟨G3,r1,r2⟩:=S5 hi hsl (vals:=vals) ln (λp hp=>by
       have:=Apb.1 hln p hp
       simp_all) hz3
      have hout:=Outs.append hi k3 (Outs.append hi q2 r2);have hmsO:∀g,g∈ms.map (·.1)->∃k,S1.ms k≠none/\c'.mb k=g:=by
       intro g hg;obtain ⟨p,hp,rfl⟩:=Ao0.1 hg;obtain ⟨m,hm,hmg⟩:=Ao3 hp;have h3:ms[m]?=some p:=by grind
       refine⟨fn.ntmps+1+m,?_,(hi.an m p h3).1⟩
       simp_all
      have hGO:∀g,g∈G1++(G2++G3)->∃k,S1.ow k≠none/\g∈c'.F k:=by
       intro g hg;obtain ⟨k,h3,h4⟩:=hout.2.2 g hg;exact⟨k,hout.1 k h3,h4⟩
      have hKK:∀g,g < w'.heap.size->Kok ⟨w,Ro,λg=>g∈ms.map (·.1)++(F1++F2),fn.ntmps+1,ms,fx,hgb⟩ S1 c' g->((Ro g\/w.heap.size<=g\/g∈F1++F2)/\g∉ms.map (·.1)++(G1++(G2++G3))):=by
       rintro g _ ⟨h3,h4⟩;have hnm:g∉ms.map (·.1):=λhg=>by
        obtain ⟨k,h5,h6⟩:=hmsO g hg;exact h4 (.inl ⟨k,h5,h6⟩)
       refine⟨h3.imp id λh3=>h3.imp id λh3=>(AoK.1 h3).elim (λhg=>absurd hg hnm) id,λhg=>?_⟩;rcases AoK.1 hg with hg | hg
       .grind
       .obtain ⟨k,h5,h6⟩:=hGO g hg;exact h4 (.inr ⟨k,h5,h6⟩)
      have hres:(results fn a'.tmps).run P w'=.ok (WE vs) w':=by
       have he:results fn a'.tmps=(do let vs <- fn.results.mapM (SC a'.tmps);pure (if h:vs.size=1 then vs[0]else .tuple vs)):=rfl;have hm:(fn.results.mapM (SC a'.tmps)).run P w'=.ok vs.toArray w':=by
        rw [Array.mapM_eq_mapM_toList];simp [k1]
       rw [he];rw [Sem.run_bind,hm];simp only [Result.andThen_ok,Sem.run_pure]
       congr 1
       match vs with
       | []=>rfl
       | [v]=>rfl
       | _::_::_=>rfl
      refine⟨_,hres,_,rfl,vs,G1,G2,G3,rfl,k2.mono λ_ _ _ h=>A1Ok.mono hKK h,RowsOk.mono hKK q1,LentOk.mono hKK r1,?_,?_,?_,?_⟩
      .refine Apc.2 ⟨(Apc.1 hnd).1,hout.2.1 hu,?_⟩;rintro g hg g' hg' rfl;obtain ⟨k,h5,h6⟩:=hmsO g hg;obtain ⟨k',h7,h8⟩:=hGO g hg';exact hi.mo k k' h5 h7 (by grind)
      .intro g hg;obtain ⟨k,h5,h6⟩:=hGO g hg;obtain ⟨h7,h8⟩:=hi.fr g (.inr ⟨k,h5,h6⟩);refine⟨h7,?_⟩;rcases h8 with h8 | h8
       .exact .inr h8
       .rcases AoK.1 h8 with h8 | h8
        .obtain ⟨k',h9,h10⟩:=hmsO g h8;exact absurd h6 (h10 ▸ hi.mo k' k h9 h5)
        grind
      .exact⟨hi.os,hi.tape,hi.output,hi.size,λg hg hn=>hi.fix g hg hn⟩
      .refine⟨λm g es n hmg hes=>?_,λm g row cs e fr hmg hrow hcs=>?_⟩
       .have hm':m < rows.length:=by grind
        have hms1:=q0 m _ (AoF hm');rw [Aqf]at hms1;rcases hR.at hmg (AoF hm')with⟨F,⟨cs,e,fr,h3,_⟩ | ⟨xs,h3,_⟩⟩
        .grind
        .rw [h3]at hms1;obtain ⟨ys,_,es',h4,_⟩:=hi.mp _ hms1;rw [(hi.an m g hmg).1]at h4
         grind
       have hm':m < rows.length:=by grind
       have hms1:=q0 m _ (AoF hm');rw [Aqf]at hms1;have hlr:TH rows[m]=rows[m].length:=by
        unfold TH;split
        .rename_i xs h3;rcases hR.at hmg (AoF hm')with⟨F,⟨cs,e,fr,_,_,_,h4⟩ | ⟨xs,_,⟨es,h5,_⟩,_⟩⟩
         .rw [h3]at h4;obtain ⟨v,vs',F1,F2,_,_,h5,_⟩:=h4;rcases h5 with h5 | ⟨_,_,_,h5,_⟩ | ⟨_,_,_,h5,_⟩
          .have:=h5.1;simp only [Rp]at this
          .cases h5
          .cases h5
         grind
        .rfl
       rw [hlr]at hms1;obtain ⟨cs',e',fr',a1,a2,a3,a4,a5⟩:=hi.ms _ _ hms1 (Aqs.2 (hrne _ (AoR hm')));have han:=hi.an m g hmg;simp only at han;rw [han.1]at a1 a5;rw [han.2]at a5;obtain ⟨rfl,rfl,x3,x4⟩:=a5 cs e fr hcs;have hrl:row.length=rows[m].length:=by
        have:=congrArg (·[m]?) ql
        grind
       grind
     .simp [Tr.run]at g2
    refine calls_of_wp hf hb ?_;rw [Apn];obtain ⟨S0,h0,hw⟩:=NQ (b:=⟨w,Ro,λg=>g∈ms.map (·.1)++(F1++F2),fn.ntmps+1,ms,fx,hgb⟩) (N:=fn.ntmps) h1;rw [run_bind,AoG]at h0;obtain ⟨⟨e0,S00⟩,h0,h00⟩:=h0;simp only [Tr.run,AoD,Prod.mk.injEq]at h00;obtain ⟨he,rfl⟩:=h00;refine Ahv hE hF (λ_ _ s p hp=>by rw [List.isEmpty_iff.1 hen]at hp;cases hp) (b:=⟨w,Ro,λg=>g∈ms.map (·.1)++(F1++F2),fn.ntmps+1,ms,fx,hgb⟩) (Nat.lt_succ_self _) c h0 hsim λa' w' hs''=>?_
    have hs':=hw hs'';cases e0 with
    | n=>subst he;exact hfin a' w' hs' h2
    | r=>subst he;exact hfin a' w' hs' h2
    | x id=>subst he;simp [Tr.run]at h2
   .simp [Tr.run]at h
  .simp [Tr.run]at h
 .simp [Tr.run]at h
end Go.V
namespace Go.V
open Go.ChangeShapes Go.RowKit
theorem Ahk {P:Program} {f:FuncId} {as:List A1} {vals:List Value} {w:World} (h:B6 P f as [] ⟨[.one ⟨.bool,true⟩],[],[]⟩) (ha:FL (A1Ok w (λ_=>True) []) as vals []) (hg:GlF w) :
  Calls P f vals.toArray w λe w'=>e=.returned (.bool true)/\Below w.heap.size w w':=by
 refine Calls.mono (h.2 w vals (λ_=>True) [] [] [] ha ⟨rfl,rfl⟩ Z (λg hg=>by simp at hg) ⟨hg,λ_ _=>trivial⟩) ?_;rintro e w' ⟨v,rfl,vs,F1,F2,F3,rfl,h1,_,_,_,_,h5,_⟩;obtain ⟨u,us,G1,G2,rfl,_,h6,h7⟩:=h1;obtain ⟨rfl,_⟩:=h7;have:u=.bool true:=by
  have:=h6.1;simp only [Rp]at this;have h8:=this.1;injection h8
 subst this;exact⟨rfl,h5.os,h5.tape,h5.output,h5.size,λk hk=>h5.same k hk Z⟩
end Go.V
namespace Go.V
structure Ans where
 β:Type
 o:Option β
 g:β->Res
structure Kn where
 f:FuncId
 mv:List Nat
 ca:List A1->List (List Ae)->Option Ans
 fr:List (List Ty):=[]
def Amb:List Kn->FuncId->List Nat
 | [],_=>[]
 | k::l,g=>if g=k.f then k.mv else Amb l g
def AlH:List Kn->FuncId->List (List Ty)
 | [],_=>[]
 | k::l,g=>if g=k.f then k.fr else AlH l g
def VP:List Kn->FuncId->List A1->List (List Ae)->Tr Res
 | [],_,_,_=>.fail
 | k::l,g,as,rows=>if g=k.f then match k.ca as rows with
   | some a=>.get a.β a.o λy=>.ret (a.g y)
   | none=>VP l g as rows
  else VP l g as rows
def Ux (ti:TypeId->TI) (l:List Kn) (fx:List Nat) (hn:List (Nat×List Ty):=[]) (kc:List (Nat×List (Nat×Nat)):=[]):Env:=⟨ti,Amb l,AlH l,fx,VP l,hn,[],kc⟩
def JX (P:Program) (k:Kn):Prop:=∀as rows a,k.ca as rows=some a->∀y,a.o=some y->B6 P k.f as rows (a.g y)
theorem WU {P:Program}:∀(l:List Kn),(∀k∈l,JX P k)->∀f as rows S r,(VP l f as rows).ev S=some r->B6 P f as rows r
 | [],_,f,as,rows,S,r,h=>by simp [VP,Tr.ev]at h
 | k::l,hk,f,as,rows,S,r,h=>by
  rw [VP]at h;split at h
  .rename_i hf;subst hf;split at h
   .rename_i a ha;simp only [Tr.ev,AoG,AoD]at h;obtain ⟨y,hy,rfl⟩:=h;exact hk k Z as rows a ha y hy
   .exact WU l (λk h=>hk k (by simp [h])) _ as rows S r h
  .exact WU l (λk h=>hk k (by simp [h])) f as rows S r h
theorem Zp {P:Program} {ti:TypeId->TI} (ht:TabOk P ti) (hm:P.follows .mixedOrders=true) (l:List Kn) (fx:List Nat) (h:∀k∈l,JX P k) (hn:List (Nat×List Ty):=[]) (kc:List (Nat×List (Nat×Nat)):=[]):EnvOk P (Ux ti l fx hn kc):=
 ⟨ht,hm,λf as rows S r hr=>WU l h f as rows S r hr⟩
def YQ (P:Program):List TI->Nat->Bool
 | [],_=>true
 | x::l,n=>OF P n x && YQ P l (n+1)
theorem Abd {P:Program}:∀(l:List TI) (n:Nat),YQ P l n=true->∀t,OF P (n+t) (l.getD t .other)=true
 | [],n,_,t=>by simp [OF]
 | x::l,n,h,t=>by
  simp only [YQ,AoI]at h;cases t with
  | zero=>exact h.1
  | succ t=>have:=Abd l (n+1) h.2 t;rw [(O:n+(t+1)=n+1+t)];exact this
theorem Ane (P:Program) (l:List TI) (h:YQ P l 0=true):TabOk P (λt=>l.getD t .other):=λt=>by
 have:=Abd l 0 h t;rwa [AoS]at this
inductive Ash where
 | one (t:Ty)
 | ag (ts:List Ty)
 | pl (m off:Nat)
 | rp (t:Ty) (off:Nat)
 | fv (f:FuncId) (cs:List (Nat×Nat))
inductive Esh where
 | v (t:Ty)
 | p (m off:Nat)
 | mk (m:Nat)
def tD:List Ty->Type
 | []=>Unit
 | t::ts=>t.D×tD ts
def cD:List Ty->Type->Type
 | [],R=>R
 | t::ts,R=>t.D->cD ts R
def cAp {R:Type}:(ts:List Ty)->cD ts R->tD ts->R
 | [],f,_=>f
 | _::ts,f,x=>cAp ts (f x.1) x.2
def Ash.D:Ash->Type
 | .one t=>t.D
 | .ag ts=>tD ts
 | .rp t _=>t.D
 | .pl _ _=>Unit
 | .fv _ _=>Unit
def Ash.F:Ash->Type->Type
 | .one t,R=>t.D->R
 | .ag ts,R=>cD ts R
 | .rp t _,R=>t.D->R
 | .pl _ _,R=>R
 | .fv _ _,R=>R
def Ash.ap {R:Type}:(a:Ash)->a.F R->a.D->R
 | .one _,f,x=>f x
 | .ag ts,f,x=>cAp ts f x
 | .rp _ _,f,x=>f x
 | .pl _ _,f,_=>f
 | .fv _ _,f,_=>f
def Esh.D:Esh->Type
 | .v t=>t.D
 | .p _ _=>Unit
 | .mk _=>Unit
def Esh.F:Esh->Type->Type
 | .v t,R=>t.D->R
 | .p _ _,R=>R
 | .mk _,R=>R
def Esh.ap {R:Type}:(a:Esh)->a.F R->a.D->R
 | .v _,f,x=>f x
 | .p _ _,f,_=>f
 | .mk _,f,_=>f
def aD:List Ash->Type
 | []=>Unit
 | a::as=>a.D×aD as
def aF:List Ash->Type->Type
 | [],R=>R
 | a::as,R=>a.F (aF as R)
def aAp {R:Type}:(as:List Ash)->aF as R->aD as->R
 | [],f,_=>f
 | a::as,f,x=>aAp as (a.ap f x.1) x.2
def eD:List Esh->Type
 | []=>Unit
 | a::as=>a.D×eD as
def eF:List Esh->Type->Type
 | [],R=>R
 | a::as,R=>a.F (eF as R)
def eAp {R:Type}:(as:List Esh)->eF as R->eD as->R
 | [],f,_=>f
 | a::as,f,x=>eAp as (a.ap f x.1) x.2
def rD:List (List Esh)->Type
 | []=>Unit
 | a::as=>eD a×rD as
def rF:List (List Esh)->Type->Type
 | [],R=>R
 | a::as,R=>eF a (rF as R)
def rAp {R:Type}:(as:List (List Esh))->rF as R->rD as->R
 | [],f,_=>f
 | a::as,f,x=>rAp as (eAp a f x.1) x.2
def lB:(ts:List Ty)->tD ts->List Ae
 | [],_=>[]
 | t::ts,x=>⟨t,x.1⟩::lB ts x.2
def Ash.B:(a:Ash)->a.D->A1
 | .one t,x=>.one ⟨t,x⟩
 | .ag ts,x=>.ag (lB ts x)
 | .rp t off,x=>.rp t x off
 | .pl m off,_=>.pl m off
 | .fv f cs,_=>.fv f cs
def aB:(as:List Ash)->aD as->List A1
 | [],_=>[]
 | a::as,x=>a.B x.1::aB as x.2
def Esh.B:(a:Esh)->a.D->Ae
 | .v t,x=>⟨t,x⟩
 | .p m off,_=>⟨.lp,(m,off)⟩
 | .mk m,_=>⟨.mh,m+1⟩
def eB:(as:List Esh)->eD as->List Ae
 | [],_=>[]
 | a::as,x=>a.B x.1::eB as x.2
def rB:(as:List (List Esh))->rD as->List (List Ae)
 | [],_=>[]
 | a::as,x=>eB a x.1::rB as x.2
def mL (t:Ty) (l:Ae):Option t.D:=if h:l.1=t then some (h ▸ l.2)else none
theorem YL {t:Ty} {l:Ae} {x:t.D} (h:mL t l=some x):l=⟨t,x⟩:=by
 obtain ⟨t',u⟩:=l;unfold mL at h;split at h
 .rename_i ht;dsimp only at ht;subst ht;injection h with h
  subst h;rfl
 .cases h
def lM:(ts:List Ty)->List Ae->Option (tD ts)
 | [],[]=>some ()
 | t::ts,l::ls=>match mL t l with
  | some y=>match lM ts ls with
   | some x=>some (y,x)
   | none=>none
  | none=>none
 | _,_=>none
def Aiu (t:Ty):A1->Option t.D
 | .one l=>mL t l
 | _=>none
def mAg (ts:List Ty):A1->Option (tD ts)
 | .ag ls=>lM ts ls
 | _=>none
def mRp (t:Ty) (off:Nat):A1->Option t.D
 | .rp t' x off'=>if off'=off then mL t ⟨t',x⟩else none
 | _=>none
def mPl (m off:Nat):A1->Option Unit
 | .pl m' off'=>if m'=m/\off'=off then some ()else none
 | _=>none
def mFv (f:FuncId) (cs:List (Nat×Nat)):A1->Option Unit
 | .fv f' cs'=>if f'=f/\cs'=cs then some ()else none
 | _=>none
def Ash.M:(a:Ash)->A1->Option a.D
 | .one t=>Aiu t
 | .ag ts=>mAg ts
 | .rp t off=>mRp t off
 | .pl m off=>mPl m off
 | .fv f cs=>mFv f cs
def aM:(as:List Ash)->List A1->Option (aD as)
 | [],[]=>some ()
 | a::as,l::ls=>match a.M l with
  | some x=>match aM as ls with
   | some y=>some (x,y)
   | none=>none
  | none=>none
 | _,_=>none
def mP (m off:Nat):Ae->Option Unit
 | ⟨.lp,q⟩=>if q=(m,off)then some ()else none
 | _=>none
def mM (m:Nat):Ae->Option Unit
 | ⟨.mh,q⟩=>if(q:Nat)=m+1 then some ()else none
 | _=>none
def Esh.M:(a:Esh)->Ae->Option a.D
 | .v t=>mL t
 | .p m off=>mP m off
 | .mk m=>mM m
def eM:(as:List Esh)->List Ae->Option (eD as)
 | [],[]=>some ()
 | a::as,l::ls=>match a.M l with
  | some x=>match eM as ls with
   | some y=>some (x,y)
   | none=>none
  | none=>none
 | _,_=>none
def rM:(as:List (List Esh))->List (List Ae)->Option (rD as)
 | [],[]=>some ()
 | a::as,l::ls=>match eM a l with
  | some x=>match rM as ls with
   | some y=>some (x,y)
   | none=>none
  | none=>none
 | _,_=>none
theorem Ajw:∀(ts:List Ty) (ls:List Ae) (x:tD ts),lM ts ls=some x->ls=lB ts x
 | [],[],_,_=>rfl
 | t::ts,l::ls,x,h=>by
  unfold lM at h;split at h
  .rename_i u hu;split at h
   .rename_i y hy;injection h with h
    subst h;rw [YL hu,Ajw ts ls y hy];rfl
   .cases h
  .cases h
 | [],_::_,_,h=>by simp [lM]at h
 | _::_,[],_,h=>by simp [lM]at h
theorem Ash.M_ok (a:Ash) (l:A1) (x:a.D) (h:a.M l=some x):l=a.B x:=by
 cases a with
 | one t=>
  replace h:Aiu t l=some x:=h
  unfold Aiu at h;split at h
  .exact congrArg A1.one (YL h)
  .cases h
 | ag ts=>
  replace h:mAg ts l=some x:=h
  unfold mAg at h;split at h
  .exact congrArg A1.ag (Ajw ts _ x h)
  .cases h
 | rp t off=>
  replace h:mRp t off l=some x:=h
  unfold mRp at h;split at h
  .split at h
   .rename_i ho;subst ho;have:=YL h;injection this with e1 e2
    subst e1;obtain rfl:=eq_of_heq e2;rfl
   .cases h
  .cases h
 | pl m off=>
  replace h:mPl m off l=some x:=h
  unfold mPl at h;split at h
  .split at h
   .rename_i hm;obtain ⟨rfl,rfl⟩:=hm;rfl
   .cases h
  .cases h
 | fv f cs=>
  replace h:mFv f cs l=some x:=h
  unfold mFv at h;split at h
  .split at h
   .rename_i hm;obtain ⟨rfl,rfl⟩:=hm;rfl
   .cases h
  .cases h
theorem Ajq:∀(as:List Ash) (ls:List A1) (x:aD as),aM as ls=some x->ls=aB as x
 | [],[],_,_=>rfl
 | a::as,l::ls,x,h=>by
  unfold aM at h;split at h
  .rename_i y hy;split at h
   .rename_i z hz;injection h with h
    subst h;rw [a.M_ok l y hy,Ajq as ls z hz];rfl
   .cases h
  .cases h
 | [],_::_,_,h=>by simp [aM]at h
 | _::_,[],_,h=>by simp [aM]at h
theorem Esh.M_ok (a:Esh) (l:Ae) (x:a.D) (h:a.M l=some x):l=a.B x:=by
 cases a with
 | v t=>exact YL h
 | p m off=>
  replace h:mP m off l=some x:=h
  unfold mP at h;split at h
  .split at h
   .rename_i hq;rw [hq];rfl
   .cases h
  .cases h
 | mk m=>
  replace h:mM m l=some x:=h
  unfold mM at h;split at h
  .split at h
   .rename_i q hq;rw [show q=(m+1:Nat) from hq];rfl
   .cases h
  .cases h
theorem Aju:∀(as:List Esh) (ls:List Ae) (x:eD as),eM as ls=some x->ls=eB as x
 | [],[],_,_=>rfl
 | a::as,l::ls,x,h=>by
  unfold eM at h;split at h
  .rename_i y hy;split at h
   .rename_i z hz;injection h with h
    subst h;rw [a.M_ok l y hy,Aju as ls z hz];rfl
   .cases h
  .cases h
 | [],_::_,_,h=>by simp [eM]at h
 | _::_,[],_,h=>by simp [eM]at h
theorem Ajv:∀(as:List (List Esh)) (ls:List (List Ae)) (x:rD as),rM as ls=some x->ls=rB as x
 | [],[],_,_=>rfl
 | a::as,l::ls,x,h=>by
  unfold rM at h;split at h
  .rename_i y hy;split at h
   .rename_i z hz;injection h with h
    subst h;rw [Aju a l y hy,Ajv as ls z hz];rfl
   .cases h
  .cases h
 | [],_::_,_,h=>by simp [rM]at h
 | _::_,[],_,h=>by simp [rM]at h
theorem Ail (t:Ty) (x:t.D):mL t ⟨t,x⟩=some x:=by unfold mL;simp
theorem Amx:∀(ts:List Ty) (x:tD ts),lM ts (lB ts x)=some x
 | [],_=>rfl
 | t::ts,x=>by
  show(match mL t ⟨t,x.1⟩with | some y=>(match lM ts (lB ts x.2)with | some x=>some (y,x) | none=>none) | none=>none)=_;rw [Ail,Amx ts x.2];rfl
theorem Ash.M_B (a:Ash) (x:a.D):a.M (a.B x)=some x:=by
 cases a with
 | one t=>exact Ail t x
 | ag ts=>exact Amx ts x
 | rp t off=>
  show(if off=off then mL t ⟨t,x⟩else none)=some x;rw [AoJ rfl];exact Ail t x
 | pl m off=>
  show(if m=m/\off=off then some ()else none)=some x;rw [AoJ ⟨rfl,rfl⟩];rfl
 | fv f cs=>
  show(if f=f/\cs=cs then some ()else none)=some x;rw [AoJ ⟨rfl,rfl⟩];rfl
theorem AlQ:∀(as:List Ash) (x:aD as),aM as (aB as x)=some x
 | [],_=>rfl
 | a::as,x=>by
  show(match a.M (a.B x.1)with | some y=>(match aM as (aB as x.2)with | some x=>some (y,x) | none=>none) | none=>none)=_;rw [a.M_B,AlQ as x.2];rfl
def kn {β:Type} (f:FuncId) (mv:List Nat) (as:List Ash) (rs:List (List Esh)) (fr:List (List Ty)) (G:aF as (rF rs (Option β))) (g:β->Res):Kn:=
 ⟨f,mv,λls rows=>match aM as ls with
  | some x=>match rM rs rows with
   | some y=>some ⟨β,rAp rs (aAp as G x) y,g⟩
   | none=>none
  | none=>none,fr⟩
theorem Ahy {P:Program} {β:Type} {f:FuncId} {mv:List Nat} {as:List Ash} {rs:List (List Esh)} {fr:List (List Ty)} {G:aF as (rF rs (Option β))} {g:β->Res}
  (h:∀(x:aD as) (y:rD rs) (z:β),rAp rs (aAp as G x) y=some z->B6 P f (aB as x) (rB rs y) (g z)):JX P (kn f mv as rs fr G g):=by
 intro args rows a ha z hz;simp only [kn]at ha;split at ha
 .rename_i x hx;split at ha
  .rename_i y hy;injection ha with ha
   subst ha;rw [Ajq as args x hx,Ajv rs rows y hy];exact h x y z hz
  .cases ha
 .cases ha
theorem AmQ {P:Program} {E:Env} {β:Type} {f:FuncId} {fn:Func} {J:Joins} {ann:Ann} {ln:List (Nat×Nat)} {mv:List Nat} {as:List Ash} {rs:List (List Esh)} {fr:List (List Ty)} {G:aF as (rF rs (Option β))} {g:β->Res} (hE:EnvOk P E) (hf:P.funcs[f]?=some fn)
  (hn : (fn.name == "runtime.NumGoroutine") = false) (h : ∀ (x : aD as) (y : rD rs), (Aeg E fn J ann ln (aB as x) (rB rs y)).run = (rAp rs (aAp as G x) y).bind fun z => some (g z)) : JX P (kn f mv as rs fr G g) :=
 Ahy λx y z hz=>AjN (J:=J) (ann:=ann) (ln:=ln) hE hf hn (by rw [h x y,hz];rfl)
theorem Akj {P:Program} {f:FuncId} {mv:List Nat} {as:List Ash} {fr:List (List Ty)} {G:aF as (Option Bool)} (h:JX P (kn f mv as [] fr G λy=>⟨[.one ⟨.bool,y⟩],[],[]⟩)) (x:aD as) (hy:aAp as G x=some true):B6 P f (aB as x) [] ⟨[.one ⟨.bool,true⟩],[],[]⟩:=
 h (aB as x) [] ⟨Bool,aAp as G x,λy=>⟨[.one ⟨.bool,y⟩],[],[]⟩⟩ (by simp only [kn];rw [AlQ];rfl) true hy
def KnsOk (P:Program):List Kn->Prop
 | []=>True
 | k::l=>JX P k/\KnsOk P l
theorem KnsOk.all {P:Program}:∀(l:List Kn),KnsOk P l->∀k∈l,JX P k
 | [],_,_,h=>by cases h
 | k::l,⟨h1,h2⟩,k',h=>by
  rcases AoY.1 h with rfl | h
  .exact h1
  .exact KnsOk.all l h2 k' h
theorem Am5 {P:Program} {ti:TypeId->TI} (ht:TabOk P ti) (hm:P.follows .mixedOrders=true) (l:List Kn) (fx:List Nat) (hn:List (Nat×List Ty)) (kc:List (Nat×List (Nat×Nat))) (h:KnsOk P l):EnvOk P (Ux ti l fx hn kc):=
 Zp ht hm l fx (KnsOk.all l h) hn kc
end Go.V
namespace Go.V
open Go.ChangeShapes Go.WideShapes Go.ChangeAt Go.RowKit
def Kf:(t:Ty)->t.D->Prop
 | .int k,n=>(Lit.int k n).wf=true
 | .str,s=>List.length s<=maxLen
 | .pair a b,x=>Kf a x.1/\Kf b x.2
 | .sl _ _ r,xs=>List.length xs<=maxLen/\∀x∈(show List r.D from xs),Kf r x
 | _,_=>True
def Q5 (ti:TypeId->TI):List Field->Option (List Ty)
 | []=>some []
 | f::fs=>match (ti f.type).cells,Q5 ti fs with
  | some a,some b=>some (a++b)
  | _,_=>none
def YP (ti:TypeId->TI):List Field->Nat->Bool
 | [],_=>true
 | f::fs,n=>f.offset == n && YP ti fs (n+(((ti f.type).cells).getD []).length)
def KP (P:Program) (ti:TypeId->TI) (t:TypeId):TI->Bool
 | .slice e ts _=>decide ((ti e).cells=some ts)
 | .struct _ row _=>row.any Ty.isPt || match P.underlying t with
  | some (.struct fields)=>decide (Q5 ti fields.toList=some row) && YP ti fields.toList 0
  | _=>false
 | _=>true
def UM (P:Program) (ti:TypeId->TI):List TI->Nat->Bool
 | [],_=>true
 | x::l,n=>KP P ti n x && UM P ti l (n+1)
theorem XB {P:Program} {ti:TypeId->TI}:∀(l:List TI) (n:Nat),UM P ti l n=true->∀t,KP P ti (n+t) (l.getD t .other)=true
 | [],n,_,t=>by simp [KP]
 | x::l,n,h,t=>by
  simp only [UM,AoI]at h;cases t with
  | zero=>exact h.1
  | succ t=>have:=XB l (n+1) h.2 t;rw [(O:n+(t+1)=n+1+t)];exact this
theorem AkV (P:Program) (l:List TI) (h:UM P (λt=>l.getD t .other) l 0=true):∀t,KP P (λt=>l.getD t .other) t (l.getD t .other)=true:=λt=>by
 have:=XB l 0 h t;rwa [AoS]at this
section
variable {H:Type} {enc:TypeId×Value->H} {P:Program} {w:World} {ti:TypeId->TI}
abbrev Any:Nat->Prop:=λ_=>True
theorem Ags:∀(ts:List Ty) (ls:List Ae) (cs:List Value),ls.map (·.1)=ts.map Ty.frz->FL (ALOk w Any) ls cs []->(∀l∈ls,Kf l.1 l.2)->
  ∃x:(AW ts).frz.D,Rp w Any (AW ts).frz x cs []/\Kf (AW ts).frz x
 | [],ls,cs,h1,h2,_=>by
  obtain rfl:ls=[]:=by simpa using h1
  obtain ⟨rfl,_⟩:=h2;exact⟨(),⟨rfl,rfl⟩,trivial⟩
 | [t],ls,cs,h1,h2,h3=>by
  match ls,h1,h2,h3 with
  | [⟨t',x⟩],h1,h2,h3=>
   simp only [Apk,AqC,Aqm,and_true]at h1;subst h1;obtain ⟨v,vs,F1,F2,rfl,e,k1,rfl,rfl⟩:=h2;obtain rfl:F1=[]:=by simpa using e.symm
   exact⟨x,k1.1,h3 ⟨t.frz,x⟩ Z⟩
 | t::u::ts,ls,cs,h1,h2,h3=>by
  match ls,h1,h2,h3 with
  | ⟨t',x⟩::ls,h1,h2,h3=>
   simp only [Apk,Aqm]at h1;obtain ⟨e1,e2⟩:=h1;subst e1;obtain ⟨v,vs,F1,F2,rfl,e,k1,k2⟩:=h2;obtain ⟨rfl,rfl⟩:F1=[]/\F2=[]:=by simpa using e.symm
   obtain ⟨y,k3,k4⟩:=Ags (u::ts) ls vs (by simpa using e2) k2 (λl hl=>h3 l (by simp [hl]));exact⟨(x,y),⟨[v],vs,[],[],rfl,rfl,k1.1,k3⟩,h3 ⟨t.frz,x⟩ Z,k4⟩
theorem Xq (hT:TabOk P ti) (hT2:∀t,KP P ti t (ti t)=true):∀(fuel:Nat) (t:TypeId) (cs:List Value) (ts:List Ty) {x:DataW H×List MemPlace},(ti t).cells=some ts->
  DataW.trod enc P w 0 (λ_=>true) true fuel t cs=some x->∃ls:List Ae,ls.map (·.1)=ts.map Ty.frz/\FL (ALOk w Any) ls cs []/\∀l∈ls,Kf l.1 l.2:=by
 intro fuel
 induction fuel with
 | zero=>intro t cs ts x _ h;simp [DataW.trod]at h
 | succ n ih=>
  intro t cs ts x hts h;cases ht:ti t with
  | cell u=>
   rw [ht]at hts;simp only [TI.cells,AoD]at hts;subst hts;obtain ⟨⟨d,hd,hdd⟩,_⟩:=hT.cell ht;cases u with
   | pt t=>cases d <;> simp [BY]at hdd
   | er=>cases d <;> simp [BY]at hdd
   | lp=>cases d <;> simp [BY]at hdd
   | mh=>cases d <;> simp [BY]at hdd
   | mp=>cases d <;> simp [BY]at hdd
   | int k=>
    cases d <;> simp [BY]at hdd;subst hdd;obtain ⟨m,rfl,_,hw⟩:=DataW.trod_int hd h;exact⟨[⟨.int k,m⟩],rfl,⟨_,[],[],[],rfl,rfl,⟨⟨rfl,rfl⟩,λ_=>rfl⟩,rfl,rfl⟩,λl hl=>by rw [AoZ.1 hl];exact hw⟩
   | bool=>
    cases d <;> simp [BY]at hdd;obtain ⟨m,rfl,_⟩:=DataW.trod_bool hd h;exact⟨[⟨.bool,m⟩],rfl,⟨_,[],[],[],rfl,rfl,⟨⟨rfl,rfl⟩,λ_=>rfl⟩,rfl,rfl⟩,λl hl=>by rw [AoZ.1 hl];exact trivial⟩
   | str=>
    cases d <;> simp [BY]at hdd;obtain ⟨⟨⟨s⟩⟩,rfl,_,hs⟩:=DataW.trod_string hd h;exact⟨[⟨.str,s⟩],rfl,⟨_,[],[],[],rfl,rfl,⟨⟨rfl,rfl⟩,λ_=>rfl⟩,rfl,rfl⟩,λl hl=>by rw [AoZ.1 hl];exact(show List.length s<=maxLen by simpa [ByteArray.size] using hs)⟩
   | unit=>simp [BY]at hdd
   | pair a b=>simp [BY]at hdd
   | sl o e r=>simp [BY]at hdd
  | slice e ts' bytes=>
   rw [ht]at hts;simp only [TI.cells,AoD]at hts;subst hts;obtain ⟨hu,_,_,hlen,i,z,hi,hsz,_⟩:=hT.slice ht;have he:(ti e).cells=some ts':=by have:=hT2 t;rw [ht]at this;simpa [KP] using this
   have hce:P.cellsOf e=ts'.length:=by simp [Program.cellsOf,hi,hsz]
   rcases DataW.trod_slice hu h with⟨rfl,_⟩ | ⟨a,len,cap,elems,rest,m,hfm,rfl,_,_,hl,hm,hel,hels,_⟩
   .refine⟨[⟨.sl false e (AW ts').frz,[]⟩],rfl,⟨_,[],[],[],rfl,rfl,⟨?_,λ_=>rfl⟩,rfl,rfl⟩,λl hl=>by rw [AoZ.1 hl];exact⟨ApP _,λ_ h=>by cases h⟩⟩;exact⟨rfl,none,0,[],rfl,Ao4 _,⟨rfl,rfl⟩,.inl rfl⟩
   .obtain rfl:n=m:=O
    have key:∀q,q<=len->∃(xs:List (AW ts').frz.D) (ws:List Value),xs.length=q/\ws.length=q * ts'.length/\RpL (Rp w Any (AW ts').frz) xs ws []/\
      (∀j,j < ws.length->w.cell? (a.add j)=ws[j]?)/\(∀x∈xs,Kf (AW ts').frz x):=by
     intro q
     induction q with
     | zero=>intro _;exact⟨[],[],rfl,Z,⟨rfl,rfl⟩,λj hj=>by simp at hj,λ_ h=>by cases h⟩
     | succ q ihq=>
      intro hq;obtain ⟨xs,ws,h1,h2,h3,h4,h5⟩:=ihq O;have hq':=hels q O;rw [AoF O,AoG]at hq';obtain ⟨cs',hcs,hy⟩:=hq';obtain ⟨ls,k1,k2,k3⟩:=ih e cs' ts' he hy;obtain ⟨x,k4,k5⟩:=Ags ts' ls cs' k1 k2 k3;obtain ⟨_,c2,c3⟩:=World.cells?_some hcs;refine⟨xs++[x],ws++cs',by simp [h1],?_,?_,?_,?_⟩
      .rw [AoM,h2,c2,hce,Nat.succ_mul]
      .have:=h3.append (show RpL (Rp w Any (AW ts').frz) [x] cs' [] from⟨cs',[],[],[],Z,rfl,k4,rfl,rfl⟩);simpa using this
      .intro j hj;by_cases hjw:j < ws.length
       .rw [h4 j hjw,ApH hjw]
       .rw [Apw O];have:=c3 (j - ws.length) (by rw [AoM]at hj;omega);rw [<- this]
        congr 1
        rw [hce,h2,Addr.add_add]
        congr 1;omega
      .intro y hy;rcases AoK.1 hy with hy | hy
       .exact h5 y hy
       .rw [AoZ.1 hy];exact k5
    obtain ⟨xs,ws,h1,h2,h3,h4,h5⟩:=key len (Ao4 _);have hxl:List.length xs=len:=h1;refine⟨[⟨.sl false e (AW ts').frz,xs⟩],rfl,⟨_,[],[],[],rfl,rfl,⟨?_,λ_=>rfl⟩,rfl,rfl⟩,λl hl=>by rw [AoZ.1 hl];exact⟨(O:List.length xs<=maxLen),h5⟩⟩;refine⟨rfl,some a,cap,ws,by rw [hxl],by rw [hxl];exact hl,h3,?_⟩;rcases Nat.eq_zero_or_pos len with hz | hz
    .left;exact Ao1 (O:List.length xs=0)
    .right;refine⟨a,rfl,trivial,?_,h4⟩;have h0:=hels 0 hz;rw [AoF O,AoG]at h0;obtain ⟨cs',hcs,_⟩:=h0;have:=World.cells?_block hcs (by rw [hce];exact hlen)
     rwa [DG]at this
  | struct fs row eq=>
   rw [ht]at hts;simp only [TI.cells]at hts;split at hts
   .cases hts
   rename_i hnp;simp only [AoD]at hts;subst hts;obtain ⟨fields,hu,_,_,i,hi,hsz,_⟩:=hT.struct ht;have h2:=hT2 t;rw [ht]at h2;simp only [KP,hu,Aqc,AoI,decide_eq_true_eq]at h2
   replace h2:=h2.resolve_left hnp
   obtain ⟨hr,ho⟩:=h2;obtain ⟨xs,m,hfm,_,hcl,hxl,hf⟩:=DataW.trod_struct hu h;obtain rfl:n=m:=O
   have hcl':cs.length=row.length:=by rw [hcl];simp [Program.cellsOf,hi,hsz]
   have key:∀(fl:List Field) (off:Nat) (row:List Ty),Q5 ti fl=some row->YP ti fl off=true->off+row.length=cs.length->
     (∀f∈fl,∃y,DataW.trod enc P w 0 (λ_=>true) true n f.type ((cs.drop f.offset).take (P.cellsOf f.type))=some y)->
     ∃ls:List Ae,ls.map (·.1)=row.map Ty.frz/\FL (ALOk w Any) ls (cs.drop off) []/\∀l∈ls,Kf l.1 l.2:=by
    intro fl
    induction fl with
    | nil=>
     intro off row h1 _ h3 _;simp only [Q5,AoD]at h1;subst h1;simp only [Apd,Aqf]at h3;exact⟨[],rfl,⟨by rw [h3];simp,rfl⟩,λ_ h=>by cases h⟩
    | cons f fl ihf=>
     intro off row h1 h2 h3 h4;simp only [Q5]at h1;split at h1
     .rename_i a b ha hb;injection h1 with h1
      subst h1;simp only [YP,AoI,beq_iff_eq,ha,Apo]at h2;obtain ⟨ho,h2⟩:=h2;rw [AoM]at h3;obtain ⟨ls2,q1,q2,q3⟩:=ihf (off+a.length) b hb h2 O (λg hg=>h4 g (by simp [hg]));obtain ⟨y,hy⟩:=h4 f Z;obtain ⟨ls1,p1,p2,p3⟩:=ih _ _ a ha hy;obtain ⟨i',hi',hsz',_⟩:=Kz hT (XJ ha);have hc:P.cellsOf f.type=a.length:=by simp [Program.cellsOf,hi',hsz']
      refine⟨ls1++ls2,by rw [Ape,Ape,p1,q1],?_,?_⟩
      .have:=p2.append q2;rw [ho,hc]at this;rw [<- Aqz,Apm]at this;simpa using this
      .intro l hl;rcases AoK.1 hl with hl | hl
       .exact p3 l hl
       .exact q3 l hl
     .cases h1
   have:=key fields.toList 0 row hr ho O (λf hfm=>by
    obtain ⟨j,hj⟩:=List.getElem?_of_mem hfm;have hj':fields[j]?=some f:=by simpa using hj
    have hjl:j < fields.size:=(ApS.1 hj').1;rw [hf j f hj'];exact⟨_,AoF O⟩)
   simpa using this
  | ptr e=>rw [ht]at hts;cases hts
  | map=>rw [ht]at hts;cases hts
  | err=>rw [ht]at hts;cases hts
  | other=>rw [ht]at hts;cases hts
theorem NO {t:Ty} {ts:List Ty}:∀{ls:List Ae},ls.map (·.1)=t::ts->∃(x:t.D) (ls':List Ae),ls=⟨t,x⟩::ls'/\ls'.map (·.1)=ts
 | ⟨t',x⟩::ls,h=>by
  simp only [Apk,Aqm]at h;obtain ⟨rfl,h⟩:=h;exact⟨x,ls,rfl,h⟩
theorem Air {ls:List Ae} (h:ls.map (·.1)=[]):ls=[]:=by simpa using h
theorem Ahz {r:Reach} {b0:Nat} (hT:TabOk P ti) (hT2:∀t,KP P ti t (ti t)=true) {t:TypeId} {u:Ty} {v:Value} {d:DataW H} {ps:List MemPlace} (hts:(ti t).cells=some [u]) (hag:(ti t).isAgg=false)
  (hval:Value.okWide P w r b0 t v) (h:DataW.Trod enc P w 0 (λ_=>true) true t v d ps):∃x:u.frz.D,Kf u.frz x/\∀ms,A1Ok w Any ms (.one ⟨u.frz,x⟩) v []:=by
 obtain ⟨fuel,h⟩:=h;obtain ⟨ls,h1,h2,h3⟩:=Xq hT hT2 fuel t _ _ hts h
 match ls,h1,h2,h3 with
 | [⟨t',x⟩],h1,h2,h3=>
  simp only [Apk,AqC,Aqm,and_true]at h1;subst h1;obtain ⟨v',vs,F1,F2,e1,e,k1,rfl,rfl⟩:=h2;obtain rfl:F1=[]:=by simpa using e.symm
  refine⟨x,h3 ⟨u.frz,x⟩ Z,λms=>?_⟩;have:v.cells = #[v']:=Array.toList_inj.1 e1;have hv:v=v':=by
   have h9:v.cells = #[v]:=by
    cases ht:ti t with
    | cell u'=>
     obtain ⟨⟨d',hd',hdd⟩,_⟩:=hT.cell ht;cases u' <;> cases d' <;> first
      | (simp [BY]at hdd;done)
      | (obtain ⟨n,rfl⟩:=okWide_int hd' hval;rfl)
      | (obtain ⟨n,rfl⟩:=okWide_bool hd' hval;rfl)
      | (obtain ⟨n,rfl⟩:=okWide_string hd' hval;rfl)
    | slice e ts' b=>
     obtain ⟨a,len,cap,rfl⟩:=okWide_slice (hT.slice ht).1 hval;rfl
    | struct fs row eq=>rw [ht]at hag;cases hag
    | ptr e=>rw [ht]at hts;cases hts
    | map=>rw [ht]at hts;cases hts
    | err=>rw [ht]at hts;cases hts
    | other=>rw [ht]at hts;cases hts
   rw [h9]at this;simpa using this
  subst hv;exact k1
theorem AjB {r:Reach} {b0:Nat} (hT:TabOk P ti) (hT2:∀t,KP P ti t (ti t)=true) {t:TypeId} {ts:List Ty} {v:Value} {d:DataW H} {ps:List MemPlace} (hts:(ti t).cells=some ts) (hag:(ti t).isAgg=true)
  (hval:Value.okWide P w r b0 t v) (h:DataW.Trod enc P w 0 (λ_=>true) true t v d ps):∃ls:List Ae,ls.map (·.1)=ts.map Ty.frz/\(∀l∈ls,Kf l.1 l.2)/\∀ms,A1Ok w Any ms (.ag ls) v []:=by
 obtain ⟨fuel,h⟩:=h;obtain ⟨ls,h1,h2,h3⟩:=Xq hT hT2 fuel t _ _ hts h;refine⟨ls,h1,h3,λms=>?_⟩;obtain ⟨i,_,_,⟨d',hd',hdd⟩,_⟩:=Kz hT (XJ hts);rw [hag]at hdd;have:∃cs,v=.agg cs:=by
  cases d' <;> simp [IB]at hdd <;> (simp only [Value.okWide,hd']at hval;obtain ⟨cs,h,_⟩:=hval;exact⟨cs,h⟩)
 obtain ⟨cs,rfl⟩:=this;exact⟨cs.toList,rfl,h2⟩
end
end Go.V
set_option maxRecDepth 100000
namespace Go.V.G
open Go.V
def pre (P:List (List UInt8)) (S:List Bool):Nat->Int
 | 0=>0
 | k+1=>pre P S k+(((P.getD k []).length:Nat):Int)+(if S.getD k false=true then 1 else 0)
def nK:List Atom->Nat
 | []=>0
 | .keep::l=>nK l+1
 | .ins _::l=>nK l
 | .drop::l=>nK l
theorem Je:∀a b:List Atom,nK (a++b)=nK a+nK b
 | [],b=>by simp [nK]
 | .keep::a,b=>by simp only [Apj,nK,Je a b];omega
 | .ins _::a,b=>Je a b
 | .drop::a,b=>Je a b
theorem AgR:∀s:List UInt8,nK (s.map Atom.ins)=0
 | []=>rfl
 | _::s=>AgR s
theorem Ahf (f:Bool):∀m:Nat,nK (List.replicate m (mk f))=if f=true then m else 0
 | 0=>by cases f <;> rfl
 | m+1=>by
  have:=Ahf f m;cases f
  .exact this
  .simp only [AoU]at this ⊢;show nK (.keep::_)=_;simp only [nK];rw [this]
theorem Some1.z {p:Prt} (h:Some1 p):0 < p.1->p.2.1=0:=by
 have:=h.ne;unfold kd at this;omega
theorem XM:∀{c:List Prt},(∀p∈c,Some1 p)->tgt c=((DI (Ac c)+nK (Ac c):Nat):Int)
 | [],_=>rfl
 | p::c,h=>by
  have ih:=XM (c:=c) λq hq=>h q (by simp [hq])
  have h1:=h p Z;have k0:=h1.k;have d0:=h1.d;have z:=h1.z;show p.1+(p.2.2.length:Int)+tgt c=((DI (pa p++Ac c)+nK (pa p++Ac c):Nat):Int)
  have e:nK (pa p)=p.1.toNat:=by
   rw [pa,Je,AgR,Ahf,AoS]
   grind
  rw [E2,Acy,Je,e];omega
section
variable {B:Nat} {c:List Prt} (h:Sm B c) (hB:B<=1099511627000)
include h hB
end
end Go.V.G
set_option maxRecDepth 100000
namespace Go.V.G
open Go.V
theorem Dx {p:Prt} (h:kd p≠0):(∃a:Int,0 < a/\p=(a,0,[])/\kd p=1)\/(∃b:Int,0 < b/\p=(0,b,[])/\kd p=2)\/∃s:List UInt8,s≠[]/\p=(0,0,s)/\kd p=3:=by
 obtain ⟨a,b,s⟩:=p;unfold kd at h ⊢
 grind
def Gk (p:Prt):List Int:=[kd p,p.1+p.2.1+p.2.2.length]++AA p.2.2
def enc (c:List Prt):List Int:=c.flatMap Gk
theorem WH:∀c:List Prt,(enc c).length=2 * c.length+B8 c
 | []=>rfl
 | p::c=>by
  show(Gk p++enc c).length=_;rw [AoM,WH c];simp [Gk,AA,B8];omega
theorem JL {c:List Prt} (hg:AK c=true) {p:Prt} (hp:p∈c):p.1+p.2.1+p.2.2.length<=120/\0<=p.1+p.2.1:=by
 obtain ⟨h1,h2,h3⟩:=Aq hg;have hs:=A9 h1;obtain ⟨i,hi,rfl⟩:=Ao3 hp;have n1:=AV (l:=c.take i) λp h=>hs p (Co h)
 have n2:=Cg (l:=c.take i) λp h=>hs p (Co h)
 have n3:=AV (l:=c.drop (i+1)) λp h=>hs p (CC h)
 have n4:=Cg (l:=c.drop (i+1)) λp h=>hs p (CC h)
 have a1:=JC hi;have a2:=QR hi;have q:=hs _ hp;rcases Dx q.ne with⟨a,ha,e,_⟩ | ⟨b,hb,e,_⟩ | ⟨s,_,e,_⟩ <;> (rw [e]at a1 a2 ⊢;simp only [Apd]at a1 a2 ⊢;omega)
theorem AmT (p:Prt):IntKind.wrap .u8 (kd p)=kd p:=by
 apply wu8 <;> (unfold kd;split;omega;split;omega;split <;> omega)
section
variable {B:Nat} {c:List Prt} (h:Sm B c) (hB:B<=1099511627776) (hg:AK c=true)
include h hB hg
theorem Acr {i:Nat} (hlt:i < c.length):enc (c.take i)++[IntKind.wrap .u8 (kd c[i]),IntKind.wrap .u8 (IntKind.wrap .i64 ((IntKind.wrap .i64 (c[i].1+c[i].2.1))+(List.length c[i].2.2:Int)))]++AA c[i].2.2=enc (c.take (i+1))/\
  (enc (c.take i)).length+2+(AA c[i].2.2).length<=4398046511104:=by
 obtain ⟨h1,h2⟩:=JL hg (AoR hlt);rw [w64 (n:=c[i].1+c[i].2.1) O O,w64 O O,AmT,wu8 O O];constructor
 .rw [AoL hlt];simp only [enc,ApY,Ap9,List.flatMap_nil,AoW,Gk,AoN]
 .rw [WH];have h3:B8 c=B8 (c.take i)+B8 (c.drop i):=by rw [<- Ef,Apm]
  have:=h.len;have:=h.put;have:(AA c[i].2.2).length=c[i].2.2.length:=by simp [AA]
  grind
theorem AeC:NP c=some (enc c):=by
 have hlen:=Ao2 h.len hB;unfold NP;have:Ab Hh ([],c,(List.length c:Int),0)=some (enc c):=by
  have:=Af Hh (λk=>(enc (c.take k),c,(List.length c:Int),((k:Nat):Int))) c.length (enc c) (by
   intro i hlt;obtain ⟨e1,e2⟩:=Acr h hB hg hlt;have hi:(i:Int) < (List.length c:Int):=O
   have r1:∀x y:Int,Aa (List.length (enc (c.take i))+List.length [x,y]) 1=true:=λx y=>by simp [Aa];omega
   have r2:∀x y:Int,Aa (List.length (enc (c.take i)++[x,y])+List.length (AA c[i].2.2)) 1=true:=λx y=>by simp [Aa];omega
   unfold Hh cK gX wI wB;simp only [hi,show(0:Int)<=(i:Int) from by omega,decide_true,AoU,AoE,AoF hlt,AoC,NL,r1,r2,Ao hlen hlt]
   grind) (by simp [Hh,cK,gX,wI,wB])
  assumption
 grind
end
theorem Ae6 (s:List UInt8):AL (AA s)=s:=by
 unfold AL AA;rw [ApF]
 conv=>rhs;rw [<- List.map_id s]
 apply Aps;simp
theorem Sj (x y:Int) (r:List Int):(List.drop (Int.toNat 2) (x::y::r)).take (Int.toNat (List.length (x::y::r):Int) - Int.toNat 2)=r:=by
 grind
theorem Ad5 {out rest:List Int} {p:Prt} {l:List Prt} (hp:kd p≠0) (hsm:p.1+p.2.1+p.2.2.length<=120) (hl:l.length<=1099511627776):AG (Gk p++rest,l)=some (.inl (rest,l++[p])):=by
 have room:∀x:Prt,Aa (List.length l+List.length [x]) 32=true:=λx=>by simp [Aa];omega
 rcases Dx hp with⟨a,ha,rfl,hk⟩ | ⟨b,hb,rfl,hk⟩ | ⟨s,hs,rfl,hk⟩
 .have e:Gk (a,0,[])++rest=1::a::rest:=by simp [Gk,hk,AA]
  have w:IntKind.wrap .i64 a=a:=by simp only [Apd]at hsm;exact w64 O O
  rw [e];unfold AG cK gX sX
  grind
 .have e:Gk (0,b,[])++rest=2::b::rest:=by simp [Gk,hk,AA]
  have w:IntKind.wrap .i64 b=b:=by simp only [Apd]at hsm;exact w64 O O
  rw [e];unfold AG cK gX sX;dsimp only;rw [Sj]
  grind
 .have hn:(AA s).length=s.length:=by simp [AA]
  have e:Gk (0,0,s)++rest=3::(s.length:Int)::(AA s++rest):=by simp [Gk,hk]
  have w:IntKind.wrap .i64 (s.length:Int)=(s.length:Int):=by dsimp only at hsm;exact w64 O O
  rw [e];unfold AG cK gX sX;dsimp only;rw [Sj];have hl2:¬ ((List.length (3::(s.length:Int)::(AA s++rest)):Int)) < 2:=by simp;omega
  have hl0:(0:Int) < ((List.length (3::(s.length:Int)::(AA s++rest)):Int)):=by simp;omega
  have hl3:(2:Int)<=((List.length (3::(s.length:Int)::(AA s++rest)):Int)):=by simp;omega
  have g0:(3::(s.length:Int)::(AA s++rest))[Int.toNat 0]?=some 3:=rfl;have g1:(3::(s.length:Int)::(AA s++rest))[Int.toNat 1]?=some (s.length:Int):=rfl;have hle:(s.length:Int)<=(List.length (AA s++rest):Int):=by grind
  have hge:(0:Int)<=(s.length:Int):=O
  have tk:(List.drop (Int.toNat 0) (AA s++rest)).take (Int.toNat (s.length:Int) - Int.toNat 0)=AA s:=by
   simp_all
  have dr:(List.drop (Int.toNat (s.length:Int)) (AA s++rest)).take (Int.toNat (List.length (AA s++rest):Int) - Int.toNat (s.length:Int))=rest:=by
   rw [AoE,AoE,<- hn,List.drop_left];simp
  simp only [hl0,hl2,hl3,g0,g1,decide_true,decide_false,AoU,AoO,Apa,AoC,ApI,show(0:Int)<=1 from by omega,show(0:Int)<=2 from by omega,(O:¬ (3:Int)=1),(O:¬ (3:Int)=2),w,hle,hge,tk,dr,Ae6,room]
theorem AhG {B:Nat} {c:List Prt} (h:Sm B c) (hB:B<=1099511627776) (hg:AK c=true):Fs (enc c)=some (c,true):=by
 have hlen:=Ao2 h.len hB;obtain ⟨h1,h2,h3⟩:=Aq hg;have hs:=A9 h1;unfold Fs;have:Ab AG (enc c,[])=some (.inl c):=by
  have:=Af AG (λk=>(enc (c.drop k),c.take k)) c.length (.inl c) (by
   intro i hlt;have e:enc (c.drop i)=Gk c[i]++enc (c.drop (i+1)):=by rw [Aph hlt];rfl
   have hm:=AoR hlt;show AG (enc (c.drop i),c.take i)=_;rw [e,Ad5 (out:=[]) (hs _ hm).ne (JL hg hm).1 (by grind),AoL hlt]) (by
   show AG (enc (c.drop c.length),c.take c.length)=_;rw [Ap3,Apy];rfl)
  grind
 rw [this,AoC];show Option.bind (Fj c) _=_;rw [Rb h hB,hg];rfl
def GR (l:List Prt):List Prt:=l.foldl Ci []
theorem T2 {B:Nat} {l:List Prt} (h:Sm B l) (hB:B<=1099511627776) (a b:Int) (s:List UInt8) (hs:s.length<=1099511627776):DN a b s l=some (Ci l (a,b,s)):=by
 unfold DN Ci cK cZ wI;by_cases h0:((a,b,s):Prt)=(0,0,[])
 .grind
 .rw [AoH h0,AoH (by grind)];have hroom:∀x:Prt,Aa (l.length + [x].length) 32=true:=λx=>by
   have:=h.len;simp [Aa];omega
  cases hg:l.getLast? with
  | none=>
   obtain rfl:l=[]:=by simpa using hg
   rfl
  | some q=>
   obtain ⟨n,hn,hq,hset⟩:=MP hg;have hqs:q.2.2.length<=B:=Ao2 (Gi (Api hq)) h.put;have e1:IntKind.wrap .i64 ((l.length:Int) - 1)=(n:Int):=by rw [hn,w64 O (by have:=h.len;omega)];omega
   have hpos:(0:Int) < (l.length:Int):=O
   have hlt:(n:Int) < (l.length:Int):=O
   have hge:(0:Int)<=(n:Int):=O
   have hst:∀x:Prt,(l.set n x)[n]?=some x:=λx=>Ap7 O
   simp only [e1,hpos,hlt,hge,decide_true,AoU,AoE,AoS,hq,AoC,QV]
   grind
theorem Akm:kd (0,0,[])=0:=by simp [kd]
theorem Zi:∀{c:List Prt},(∀p∈c,Some1 p)->(c.length:Int)<=src c+tgt c
 | [],_=>by simp [src,tgt]
 | p::c,h=>by
  have ih:=Zi (c:=c) λq hq=>h q (by simp [hq])
  have s:=h p Z;simp only [src,tgt,AoV];rcases Dx s.ne with⟨a,ha,e,_⟩ | ⟨b,hb,e,_⟩ | ⟨t,ht,e,_⟩
  .grind
  .grind
  .rw [e];simp only;have:=Aqs.2 ht;omega
theorem Ya:∀{c:List Prt},(∀p∈c,Some1 p)->(B8 c:Int)<=tgt c
 | [],_=>by simp [B8,tgt]
 | p::c,h=>by
  have ih:=Ya (c:=c) λq hq=>h q (by simp [hq])
  have k0:=(h p Z).k;simp only [B8,tgt];omega
theorem CG {c:List Prt} (h:AK c=true):Sm 240 c:=by
 obtain ⟨h1,h2,h3⟩:=Aq h;have hs:=A9 h1;have:=Zi hs;have:=Ya hs;refine⟨O,O,λp hp=>?_⟩;have:=JL h hp;have k0:=(hs p hp).k;have d0:=(hs p hp).d;unfold I64;omega
end Go.V.G
set_option maxRecDepth 100000
namespace Go.V.G
open Go.V
def Fine (p:Prt):Prop:=p=(0,0,[])\/kd p≠0
theorem Fine.put (s:List UInt8):Fine (0,0,s):=by
 by_cases h:s=[]
 .subst h;exact .inl rfl
 .exact .inr (by simp [kd,h])
theorem Fine.keep {n:Int} (h:0<=n):Fine (n,0,[]):=by
 by_cases h0:n=0
 .subst h0;exact .inl rfl
 .have:0 < n:=O
  exact .inr (by simp [kd,this])
theorem Fine.drop {n:Int} (h:0<=n):Fine (0,n,[]):=by
 by_cases h0:n=0
 .subst h0;exact .inl rfl
 .have:0 < n:=O
  exact .inr (by simp [kd,this])
theorem SF:pa (0,0,[])=[]:=by simp [pa]
theorem Iw (s:List UInt8):pa (0,0,s)=s.map Atom.ins:=by simp [pa]
theorem GK {n:Int} (h:0<=n):pa (n,0,[])=List.replicate n.toNat .keep:=by
 by_cases h0:n=0
 .subst h0;rfl
 .have:0 < n:=O
  simp [pa,this,mk]
theorem HP {n:Int} (h:0<=n):pa (0,n,[])=List.replicate n.toNat .drop:=by simp [pa,mk]
def SL (k:Int) (l:List Prt):Int:=match l.getLast? with
 | some q=>kd q
 | none=>k
theorem J8 (k:Int):∀(a b:List Prt),okk k (a++b)=(okk k a && okk (SL k a) b)
 | [],b=>by simp [okk,SL]
 | p::a,b=>by
  have this:SL (kd p) a=SL k (p::a):=by
   unfold SL;cases a with
   | nil=>rfl
   | cons q a=>
    rw [List.getLast?_cons_cons];cases h:(q::a).getLast? with
    | none=>simp at h
    | some x=>rfl
  show(_ && okk (kd p) (a++b))=((_ && okk (kd p) a) && okk _ b)
  rw [J8 (kd p) a b,this];simp only [Aqu]
def AeJ (l:List Prt):Prop:=src l<=1000000000/\tgt l<=1000000000
theorem Agu {q p:Prt} (hq:kd q≠0) (h:kd q=kd p) (b1:q.1+p.1<=1000000000) (b2:q.2.1+p.2.1<=1000000000) :
  kd (IntKind.wrap .i64 (q.1+p.1),IntKind.wrap .i64 (q.2.1+p.2.1),q.2.2++p.2.2)=kd q/\pa (IntKind.wrap .i64 (q.1+p.1),IntKind.wrap .i64 (q.2.1+p.2.1),q.2.2++p.2.2)=pa q++pa p:=by
 have hp:kd p≠0:=by rw [<- h];exact hq
 rcases Dx hq with⟨a,ha,e,k1⟩ | ⟨a,ha,e,k1⟩ | ⟨a,ha,e,k1⟩ <;> rcases Dx hp with⟨b,hb,e',k2⟩ | ⟨b,hb,e',k2⟩ | ⟨b,hb,e',k2⟩ <;> try (rw [k1,k2]at h;omega)
 .subst e e';dsimp only at b1 b2 ⊢;rw [w64 (n:=a+b) O O,show IntKind.wrap .i64 ((0:Int)+0)=0 from w64 O O];have:0 < a+b:=O
  refine⟨by simp [kd,this,ha],?_⟩;rw [AoW,GK O,GK O,GK O,List.replicate_append_replicate]
  congr 1;omega
 .subst e e';dsimp only at b1 b2 ⊢;rw [w64 (n:=a+b) O O,show IntKind.wrap .i64 ((0:Int)+0)=0 from w64 O O];have:0 < a+b:=O
  refine⟨by simp [kd,this,ha],?_⟩;rw [AoW,HP O,HP O,HP O,List.replicate_append_replicate]
  congr 1;omega
 .subst e e';dsimp only at b1 b2 ⊢;rw [show IntKind.wrap .i64 ((0:Int)+0)=0 from w64 O O];refine⟨by simp [kd,ha],?_⟩;rw [Iw,Iw,Iw,Ape]
theorem Afv {l:List Prt} {p:Prt} (hl:okk 0 l=true) (hp:Fine p) (hb:AeJ (l++[p])):okk 0 (Ci l p)=true/\Ac (Ci l p)=Ac l++pa p/\src (Ci l p)=src l+(p.1+p.2.1)/\tgt (Ci l p)=tgt l+(p.1+p.2.2.length):=by
 unfold Ci;rcases hp with rfl | hp
 .simp [hl,SF]
 .have h0:p≠(0,0,[]):=λh=>hp (by rw [h];exact Akm)
  rw [AoH h0];have hs:=A9 hl;have sp:=KL hp;have k0:=sp.k;have d0:=sp.d;cases hq:l.getLast? with
  | none=>
   obtain rfl:l=[]:=by simpa using hq
   simp [okk,hp,Ac,src,tgt]
  | some q=>
   obtain ⟨l',rfl⟩:=Aql.1 hq;have sq:=hs q Z;have k1:=sq.k;have d1:=sq.d;have n1:=AV (l:=l') λp h=>hs p (by simp [h])
   have n2:=Cg (l:=l') λp h=>hs p (by simp [h])
   have b1:=hb.1;have b2:=hb.2;simp only [Dy,DD,src,tgt]at b1 b2;rw [J8]at hl;simp only [AoI]at hl;obtain ⟨hl1,hl2⟩:=hl;simp only;split
   .rename_i hk;obtain ⟨e1,e2⟩:=Agu sq.ne hk O O;rw [List.dropLast_concat];refine⟨?_,?_,?_,?_⟩
    .rw [J8,hl1,AoT];simp only [okk,e1]at hl2 ⊢;exact hl2
    .rw [JG,JG,AoN]
     congr 1
     show pa _++[]=(pa q++[])++pa p;rw [e2,AoW,AoW]
    .rw [Dy,Dy];simp only [src];rw [w64 (n:=q.1+p.1) O O,w64 (n:=q.2.1+p.2.1) O O];omega
    .rw [DD,DD];simp only [tgt,AoM];rw [w64 (n:=q.1+p.1) O O];omega
   .rename_i hk;refine⟨?_,?_,?_,?_⟩
    .rw [J8,J8,hl1,hl2];simp only [okk,SL,List.getLast?_append,List.getLast?_singleton,Option.some_or,Ap4,AoT,AoI,Ao7,decide_eq_false_iff_not];exact⟨hp,λh=>hk h.symm⟩
    .rw [JG];simp [Ac]
    .rw [Dy];simp [src]
    .rw [DD];simp [tgt]
theorem Tu {p:Prt} (h:Fine p):0<=p.1/\0<=p.2.1:=by
 rcases h with rfl | h
 .simp
 .exact⟨(KL h).k,(KL h).d⟩
theorem RG:∀{l:List Prt},(∀p∈l,Fine p)->0<=src l/\0<=tgt l
 | [],_=>by simp [src,tgt]
 | p::l,h=>by
  have h1:=Tu (h p Z);have h2:=RG (l:=l) λq hq=>h q (by simp [hq])
  simp only [src,tgt];omega
theorem Xp:∀(m l:List Prt),okk 0 l=true->(∀p∈m,Fine p)->AeJ (l++m)->okk 0 (m.foldl Ci l)=true/\Ac (m.foldl Ci l)=Ac l++Ac m/\src (m.foldl Ci l)=src l+src m/\tgt (m.foldl Ci l)=tgt l+tgt m
 | [],l,hl,_,_=>by simp [hl,Ac,src,tgt]
 | p::m,l,hl,hm,hb=>by
  have hm':∀p∈m,Fine p:=λq hq=>hm q (by simp [hq])
  obtain ⟨g1,g2⟩:=RG hm';have b1:=hb.1;have b2:=hb.2;simp only [Dy,DD,src,tgt]at b1 b2;obtain ⟨h1,h2,h3,h4⟩:=Afv hl (hm p Z) ⟨by simp only [Dy,src];omega,by simp only [DD,tgt];omega⟩;rw [ApU];obtain ⟨k1,k2,k3,k4⟩:=Xp m (Ci l p) h1 hm' ⟨by rw [Dy,h3];omega,by rw [DD,h4];omega⟩;refine⟨k1,?_,?_,?_⟩
  .rw [k2,h2];simp [Ac]
  .rw [k3,h3];simp only [src];omega
  .rw [k4,h4];simp only [tgt];omega
theorem AgI {m:List Prt} (hm:∀p∈m,Fine p) (hb:AeJ m):okk 0 (GR m)=true/\Ac (GR m)=Ac m/\src (GR m)=src m/\tgt (GR m)=tgt m:=by
 have:=Xp m [] rfl hm hb;simpa [GR,Ac,src,tgt] using this
def hd:List Atom->Option Atom
 | []=>none
 | a::_=>some a
def ak:Atom->Int
 | .keep=>1
 | .drop=>2
 | .ins _=>3
theorem KI {p:Prt} (h:kd p≠0):∃a l,pa p=a::l/\ak a=kd p:=by
 rcases Dx h with⟨a,ha,rfl,k⟩ | ⟨a,ha,rfl,k⟩ | ⟨s,hs,rfl,k⟩
 .rw [GK O,k,(O:a.toNat=(a.toNat - 1)+1),ApE];exact⟨_,_,rfl,rfl⟩
 .rw [HP O,k,(O:a.toNat=(a.toNat - 1)+1),ApE];exact⟨_,_,rfl,rfl⟩
 .rw [Iw,k];cases s with
  | nil=>exact absurd rfl hs
  | cons b s=>exact⟨_,_,rfl,rfl⟩
theorem AgH {p:Prt} (h:kd p≠0):∀a∈pa p,ak a=kd p:=by
 rcases Dx h with⟨a,ha,rfl,k⟩ | ⟨a,ha,rfl,k⟩ | ⟨s,hs,rfl,k⟩
 .rw [GK O,k];intro x hx;rw [List.eq_of_mem_replicate hx];rfl
 .rw [HP O,k];intro x hx;rw [List.eq_of_mem_replicate hx];rfl
 .rw [Iw,k];intro x hx;obtain ⟨b,_,rfl⟩:=Ao0.1 hx;rfl
theorem Amk {p q:Prt} (hp:kd p≠0) (hq:kd q≠0) (h:pa p=pa q):p=q:=by
 obtain ⟨a,l,e1,k1⟩:=KI hp;obtain ⟨b,m,e2,k2⟩:=KI hq;have hk:kd p=kd q:=by
  rw [e1,e2]at h;injection h with h _
  rw [<- k1,<- k2,h]
 rcases Dx hp with⟨a,ha,rfl,j1⟩ | ⟨a,ha,rfl,j1⟩ | ⟨a,ha,rfl,j1⟩ <;> rcases Dx hq with⟨b,hb,rfl,j2⟩ | ⟨b,hb,rfl,j2⟩ | ⟨b,hb,rfl,j2⟩ <;> try (rw [j1,j2]at hk;omega)
 .rw [GK O,GK O]at h;have:=congrArg List.length h;simp only [ApC]at this;rw [(O:a=b)]
 .rw [HP O,HP O]at h;have:=congrArg List.length h;simp only [ApC]at this;rw [(O:a=b)]
 .rw [Iw,Iw]at h;have:a=b:=by
   have hi:∀x y:List UInt8,x.map Atom.ins=y.map Atom.ins->x=y:=by
    intro x
    induction x with
    | nil=>intro y hy;cases y with
     | nil=>rfl
     | cons=>simp at hy
    | cons u x ih=>intro y hy;cases y with
     | nil=>simp at hy
     | cons v y=>
      simp only [Apk,Aqm,Atom.ins.injEq]at hy;rw [hy.1,ih y hy.2]
   exact hi a b h
  rw [this]
theorem Aha {k:Int}:∀(x y r t:List Atom),(∀a∈x,ak a=k)->(∀a∈y,ak a=k)->(∀a,hd r=some a->ak a≠k)->(∀a,hd t=some a->ak a≠k)->x++r=y++t->x=y/\r=t
 | [],[],r,t,_,_,_,_,h=>⟨rfl,h⟩
 | [],b::y,r,t,_,hy,hr,_,h=>by
  exfalso;simp only [Ao6]at h;rw [h]at hr;exact hr b rfl (hy b Z)
 | a::x,[],r,t,hx,_,_,ht,h=>by
  exfalso;simp only [Ao6]at h;rw [<- h]at ht;exact ht a rfl (hx a Z)
 | a::x,b::y,r,t,hx,hy,hr,ht,h=>by
  simp only [Apj,Aqm]at h;obtain ⟨h1,h2⟩:=h;obtain ⟨h3,h4⟩:=Aha x y r t (λa h=>hx a (by simp [h])) (λa h=>hy a (by simp [h])) hr ht h2;exact⟨by rw [h1,h3],h4⟩
theorem Zu {k:Int} {c:List Prt} (h:okk k c=true):∀a,hd (Ac c)=some a->ak a≠k:=by
 intro a ha;cases c with
 | nil=>cases ha
 | cons p c=>
  simp only [okk,AoI,Ao7,decide_eq_false_iff_not]at h;obtain ⟨b,l,e,k1⟩:=KI h.1.1;have e2:Ac (p::c)=b::(l++Ac c):=by show pa p++Ac c=_;rw [e];rfl
  rw [e2]at ha;injection ha with ha
  rw [<- ha,k1];exact h.1.2
theorem Om:∀{k j:Int} {c d:List Prt},okk k c=true->okk j d=true->Ac c=Ac d->c=d
 | k,j,[],[],_,_,_=>rfl
 | k,j,[],q::d,_,hd',h=>by
  exfalso;simp only [okk,AoI,Ao7,decide_eq_false_iff_not]at hd';obtain ⟨b,l,e,_⟩:=KI hd'.1.1;have:Ac (q::d)=b::(l++Ac d):=by show pa q++Ac d=_;rw [e];rfl
  rw [this]at h;cases h
 | k,j,p::c,[],hc,_,h=>by
  exfalso;simp only [okk,AoI,Ao7,decide_eq_false_iff_not]at hc;obtain ⟨b,l,e,_⟩:=KI hc.1.1;have:Ac (p::c)=b::(l++Ac c):=by show pa p++Ac c=_;rw [e];rfl
  rw [this]at h;cases h
 | k,j,p::c,q::d,hc,hd',h=>by
  simp only [okk,AoI,Ao7,decide_eq_false_iff_not]at hc hd';obtain ⟨⟨c1,c2⟩,c3⟩:=hc;obtain ⟨⟨d1,d2⟩,d3⟩:=hd';have e1:Ac (p::c)=pa p++Ac c:=rfl;have e2:Ac (q::d)=pa q++Ac d:=rfl;rw [e1,e2]at h;have hk:kd p=kd q:=by
   obtain ⟨a,l,f1,k1⟩:=KI c1;obtain ⟨b,m,f2,k2⟩:=KI d1;rw [f1,f2]at h;injection h with h _
   rw [<- k1,<- k2,h]
  obtain ⟨h1,h2⟩:=Aha (k:=kd p) _ _ _ _ (AgH c1) (λa ha=>by rw [hk];exact AgH d1 a ha) (Zu c3) (by rw [hk];exact Zu d3) h;rw [Amk c1 d1 h1,Om c3 d3 h2]
end Go.V.G
set_option maxRecDepth 100000
namespace Go.V.G
open Go.V
def comp:List Atom->List Atom->List Atom
 | x,.ins b::y=>.ins b::comp x y
 | .drop::x,[]=>.drop::comp x []
 | .drop::x,.keep::y=>.drop::comp x (.keep::y)
 | .drop::x,.drop::y=>.drop::comp x (.drop::y)
 | .ins b::x,.keep::y=>.ins b::comp x y
 | .ins _::x,.drop::y=>comp x y
 | .keep::x,.keep::y=>.keep::comp x y
 | .keep::x,.drop::y=>.drop::comp x y
 | _,_=>[]
termination_by x y=>x.length+y.length
def ap:List Atom->List UInt8->List UInt8
 | .ins b::l,t=>b::ap l t
 | .keep::l,c::t=>c::ap l t
 | .drop::l,_::t=>ap l t
 | _,_=>[]
def nS:List Atom->Nat
 | []=>0
 | .ins _::l=>nS l
 | .keep::l=>nS l+1
 | .drop::l=>nS l+1
def nT:List Atom->Nat
 | []=>0
 | .ins _::l=>nT l+1
 | .keep::l=>nT l+1
 | .drop::l=>nT l
theorem C8:∀l:List Atom,nS l=(Ap l).length
 | []=>rfl
 | .ins _::l=>C8 l
 | .keep::l=>by simp [nS,Ap,C8 l]
 | .drop::l=>by simp [nS,Ap,C8 l]
theorem IN:∀l:List Atom,nT l=DI l+nK l
 | []=>rfl
 | .ins _::l=>by simp only [nT,DI,nK,IN l];omega
 | .keep::l=>by simp only [nT,DI,nK,IN l];omega
 | .drop::l=>by simp only [nT,DI,nK,IN l]
theorem QX:∀(l:List Atom) (t:List UInt8),nS l=t.length->(ap l t).length=nT l
 | [],t,_=>by cases t <;> simp [ap,nT]
 | .ins b::l,t,h=>by simp only [ap,nT,AoV];rw [QX l t h]
 | .keep::l,c::t,h=>by simp only [ap,nT,AoV];rw [QX l t (by simpa [nS] using h)]
 | .drop::l,c::t,h=>by simp only [ap,nT];rw [QX l t (by simpa [nS] using h)]
 | .keep::l,[],h=>by simp [nS]at h
 | .drop::l,[],h=>by simp [nS]at h
end Go.V.G
set_option maxRecDepth 100000
namespace Go.V.G
open Go.V
def Alx:Option (Bool×Bool)->List Prt
 | some (true,true)=>[(1,0,[])]
 | some (false,true)=>[(0,1,[])]
 | _=>[]
def gap (first:Bool) (p q:List UInt8) (st:Option (Bool×Bool)):List Prt:=
 (if first=true then [(0,0,p),((q.length:Int),0,[])]else [((q.length:Int),0,[]),(0,0,p)])++Alx st
def AlL (first:Bool):List Bool->List (List UInt8)->List Bool->List (List UInt8)->List Prt
 | [],p::_,_,q::_=>gap first p q none
 | sx::Sx,p::Px,sy::Sy,q::Py=>gap first p q (some (sx,sy))++AlL first Sx Px Sy Py
 | _,_,_,_=>[]
theorem Bz (l:List Atom):∃p ps,Al l=p::ps/\ps.length=(Ap l).length:=by
 have h:=EW l
 match hp:Al l,HL l with
 | p::ps,_=>grind
def rest (first:Bool) (Sx:List Bool) (Px:List (List UInt8)) (Sy:List Bool) (Py:List (List UInt8)) (k:Nat):List Prt:=AlL first (Sx.drop k) (Px.drop k) (Sy.drop k) (Py.drop k)
structure Rows (Sx:List Bool) (Px:List (List UInt8)) (Sy:List Bool) (Py:List (List UInt8)):Prop where
 s:Sx.length=Sy.length
 x:Px.length=Sx.length+1
 y:Py.length=Sy.length+1
 n:Sx.length<=1000
 px:∀p∈Px,p.length<=1000
 py:∀p∈Py,p.length<=1000
theorem one_I:I64 1/\I64 0:=by unfold I64;omega
end Go.V.G
set_option maxRecDepth 100000
namespace Go.V.G
open Go.V
theorem OZ {c:List Prt} (h:∀p∈c,Some1 p):src c=(nS (Ac c):Int):=by rw [<- Jk h,C8]
theorem J0 {c:List Prt} (h:∀p∈c,Some1 p):tgt c=(nT (Ac c):Int):=by rw [XM h,IN]
theorem AmZ (p:Prt):nS (pa p)=(p.1+p.2.1).toNat:=by rw [C8,PZ,ApC]
theorem Z3:∀{l:List Prt},(∀p∈l,Fine p)->src l=(nS (Ac l):Int)
 | [],_=>rfl
 | p::l,h=>by
  have ih:=Z3 (l:=l) λq hq=>h q (by simp [hq])
  have e:∀a b:List Atom,nS (a++b)=nS a+nS b:=λa b=>by rw [C8,C8,C8,Di,AoM]
  show p.1+p.2.1+src l=(nS (pa p++Ac l):Int)
  have:=Tu (h p Z);rw [e,ih,AmZ];omega
theorem Ahr (a b:List Atom):nT (a++b)=nT a+nT b:=by rw [IN,IN,IN,E2,Je];omega
theorem ZP:∀{l:List Prt},(∀p∈l,Fine p)->tgt l=(nT (Ac l):Int)
 | [],_=>rfl
 | p::l,h=>by
  have ih:=ZP (l:=l) λq hq=>h q (by simp [hq])
  show p.1+(p.2.2.length:Int)+tgt l=(nT (pa p++Ac l):Int)
  rw [Ahr,ih];rcases h p Z with rfl | hk
  .rfl
  .have:=J0 (c:=[p]) (λq hq=>by rw [AoZ.1 hq];exact KL hk);have e:Ac [p]=pa p:=by simp [Ac]
   rw [e]at this;simp only [tgt]at this;omega
def apply (t:List UInt8) (c:List Prt):List UInt8:=ap (Ac c) t
theorem NU:∀(x y:List Atom) (t:List UInt8),nS x<=t.length->ap (x++y) t=ap x (t.take (nS x))++ap y (t.drop (nS x))
 | [],y,t,_=>by rfl
 | .ins b::x,y,t,h=>by simp only [Apj,ap,nS];rw [NU x y t h]
 | .keep::x,y,c::t,h=>by
  simp only [Apj,ap,nS,List.take_succ_cons,Aqt];rw [NU x y t (by simpa [nS] using h)]
 | .drop::x,y,c::t,h=>by
  simp only [Apj,ap,nS,List.take_succ_cons,Aqt];rw [NU x y t (by simpa [nS] using h)]
 | .keep::x,y,[],h=>by simp [nS]at h
 | .drop::x,y,[],h=>by simp [nS]at h
theorem AlS (s:List UInt8):ap (s.map Atom.ins) []=s:=by
 induction s with
 | nil=>rfl
 | cons b s ih=>simp [ap,ih]
theorem AcW:∀(n:Nat) (t:List UInt8),t.length=n->ap (List.replicate n .keep) t=t
 | 0,[],_=>rfl
 | n+1,c::t,h=>by rw [ApE];simp only [ap];rw [AcW n t (by simpa using h)]
theorem AdN:∀(n:Nat) (t:List UInt8),t.length=n->ap (List.replicate n .drop) t=[]
 | 0,[],_=>rfl
 | n+1,c::t,h=>by rw [ApE];simp only [ap];rw [AdN n t (by simpa using h)]
theorem Am4 {p:Prt} (h:kd p≠0) (t:List UInt8) (ht:t.length=(p.1+p.2.1).toNat):ap (pa p) t=t.take p.1.toNat++p.2.2:=by
 rcases Dx h with⟨a,ha,rfl,_⟩ | ⟨a,ha,rfl,_⟩ | ⟨s,hs,rfl,_⟩
 .simp only [Int.add_zero]at ht;rw [GK O,AcW _ t ht,AoW,Ao5 O]
 .simp only [Int.zero_add]at ht;rw [HP O,AdN _ t ht];simp
 .have:t=[]:=Ao1 (by grind);subst this;rw [Iw,AlS];simp
theorem Ut {c:List Prt} (hg:AK c=true) {t:List UInt8} (ht:(t.length:Int)=src c):O1 t c=some (apply t c):=by
 have hs:=A9 (Aq hg).1;have sm:=CG hg;have sle:=(Aq hg).2.1;have hlen:c.length<=1099511627776:=by have:=sm.len;omega
 unfold O1;have:Ab HV (t,([]:List UInt8),0,c,(List.length c:Int),0)=some (apply t c):=by
  have:=Af HV (λk=>(t,ap (Ac (c.take k)) (t.take (nS (Ac (c.take k)))),src (c.take k),c,(List.length c:Int),((k:Nat):Int))) c.length (apply t c) (by
   intro i hlt;have p1:=hs _ (AoR hlt);have k0:=p1.k;have d0:=p1.d;have a1:=JC hlt;have n1:=AV (l:=c.take i) λp h=>hs p (Co h)
   have n3:=AV (l:=c.drop (i+1)) λp h=>hs p (CC h)
   have psm:=JL hg (AoR hlt);have e0:=OZ (c:=c.take i) λp h=>hs p (Co h)
   have hi:(i:Int) < (List.length c:Int):=O
   have w1:IntKind.wrap .i64 (src (c.take i)+c[i].1)=src (c.take i)+c[i].1:=w64 O O;have w2:IntKind.wrap .i64 (c[i].1+c[i].2.1)=c[i].1+c[i].2.1:=w64 O O;have w3:IntKind.wrap .i64 (src (c.take i)+(c[i].1+c[i].2.1))=src (c.take i)+(c[i].1+c[i].2.1):=w64 O O;have g1:src (c.take i)<=src (c.take i)+c[i].1:=O
   have g2:src (c.take i)+c[i].1<=(List.length t:Int):=O
   have hnt:nS (Ac (c.take i))+(c[i].1+c[i].2.1).toNat<=t.length:=O
   have al:=QX (Ac (c.take i)) (t.take (nS (Ac (c.take i)))) (by grind);have tn:=J0 (c:=c.take i) λp h=>hs p (Co h)
   have t3:=QR hlt;have t4:=Cg (l:=c.drop (i+1)) λp h=>hs p (CC h)
   have tle:=(Aq hg).2.2;have hout:ap (Ac (c.take (i+1))) (t.take (nS (Ac (c.take (i+1)))))=ap (Ac (c.take i)) (t.take (nS (Ac (c.take i))))++(((t.drop (Int.toNat (src (c.take i)))).take (Int.toNat (src (c.take i)+c[i].1) - Int.toNat (src (c.take i))))++c[i].2.2):=by
    have e1:nS (Ac (c.take (i+1)))=nS (Ac (c.take i))+(c[i].1+c[i].2.1).toNat:=by
     rw [LK hlt,C8,Di,AoM,<- C8,PZ,ApC]
    rw [e1,LK hlt,NU _ _ _ (by grind),List.take_take,AqD O]
    congr 1
    rw [List.drop_take,(O:nS (Ac (c.take i))+(c[i].1+c[i].2.1).toNat - nS (Ac (c.take i))=(c[i].1+c[i].2.1).toNat),
     Am4 p1.ne _ (by grind),List.take_take,AqD O]
    grind
   have r1:List.length ((t.drop (Int.toNat (src (c.take i)))).take (Int.toNat (src (c.take i)+c[i].1) - Int.toNat (src (c.take i))))+List.length c[i].2.2<=9223372036854775807:=by
    grind
   have r2:List.length (ap (Ac (c.take i)) (t.take (nS (Ac (c.take i)))))+List.length ((((t:List UInt8).drop (Int.toNat (src (c.take i)))).take (Int.toNat (src (c.take i)+c[i].1) - Int.toNat (src (c.take i))):List UInt8)++c[i].2.2)<=9223372036854775807:=by
    grind
   unfold HV cK gX sX wI;simp only [hi,show(0:Int)<=(i:Int) from by omega,decide_true,AoU,AoE,AoF hlt,AoC,w1,w2,w3,n1,g1,g2,ApI,r1,r2,Ao hlen hlt,hout,Kw hlt]) (by
   have e:nS (Ac c)=t.length:=by have:=OZ hs;omega
   simp only [Apy];rw [e,Apy];simp [HV,cK,gX,sX,wI,apply])
  assumption
 grind
end Go.V.G
set_option maxRecDepth 100000
namespace Go.V.G
open Go.V
def BD:List Bool->List (List UInt8)->List Prt
 | [],p::_=>[(0,0,p)]
 | s::S,p::P=>(0,0,p)::(if s=true then(1,0,[])else(0,1,[]))::BD S P
 | _,[]=>[]
theorem S7:∀(S:List Bool) (P:List (List UInt8)),∀r∈BD S P,Fine r
 | [],[],r,h=>by cases h
 | [],p::_,r,h=>by rw [AoZ.1 h];exact Fine.put _
 | _::_,[],r,h=>by cases h
 | s::S,p::P,r,h=>by
  rcases AoY.1 h with rfl | h
  .exact Fine.put _
  rcases AoY.1 h with rfl | h
  .cases s
   .exact Fine.drop O
   .exact Fine.keep O
  .exact S7 S P r h
theorem AbC (b:UInt8) {S:List Bool} {p:List UInt8} {P:List (List UInt8)}:Ac (BD S ((b::p)::P))=.ins b::Ac (BD S (p::P)):=by
 cases S with
 | nil=>simp [BD,Ac,Iw]
 | cons s S=>simp [BD,Ac,Iw]
theorem Js:∀l:List Atom,Ac (BD (Ap l) (Al l))=l
 | []=>by simp [BD,Ap,Al,Ac,SF]
 | .ins b::l=>by
  obtain ⟨p,ps,e,_⟩:=Bz l;have ih:=Js l;show Ac (BD (Ap l) (Bo b (Al l)))=_;rw [e]at ih ⊢;show Ac (BD (Ap l) ((b::p)::ps))=_;rw [AbC,ih]
 | .keep::l=>by
  have ih:=Js l;show pa (0,0,[])++(pa (1,0,[])++Ac (BD (Ap l) (Al l)))=_;rw [ih,SF,GK O];rfl
 | .drop::l=>by
  have ih:=Js l;show pa (0,0,[])++(pa (0,1,[])++Ac (BD (Ap l) (Al l)))=_;rw [ih,SF,HP O];rfl
def inn:List Bool->List (List UInt8)->List UInt8->List UInt8
 | sc::Sc,_::q::Pc,b::s=>(if sc=true then [b]else [])++q++inn Sc (q::Pc) s
 | _,_,_=>[]
def BB:List UInt8->List Bool->List (List UInt8)->List Bool->List (List UInt8)->List Bool×List (List UInt8)
 | be,sb::Sb,p::Pb,Sc,Pc=>
  if sb=true then
   let r:=BB ((Pc.drop p.length).getD 1 []) Sb Pb ((Sc.drop p.length).drop 1) ((Pc.drop p.length).drop 1)
   ((Sc.drop p.length).getD 0 false::r.1,(be++inn Sc Pc p)::r.2)
  else
   let r:=BB [] Sb Pb (Sc.drop p.length) (Pc.drop p.length)
   (false::r.1,(be++inn Sc Pc p)::r.2)
 | be,_,p::_,Sc,Pc=>([],[be++inn Sc Pc p])
 | _,_,[],_,_=>([],[])
def DB:List Atom->List Atom
 | .ins _::l=>DB l
 | l=>l
theorem KU:∀l,Ap (DB l)=Ap l
 | []=>rfl
 | .ins _::l=>KU l
 | .keep::_=>rfl
 | .drop::_=>rfl
theorem TW (l:List Atom):nS (DB l)=nS l:=by rw [C8,C8,KU]
theorem Jq:∀l,Al (DB l)=[]::(Al l).tail
 | []=>rfl
 | .ins b::l=>by
  obtain ⟨p,ps,e,_⟩:=Bz l;show Al (DB l)=[]::(Bo b (Al l)).tail;rw [Jq l,e];rfl
 | .keep::_=>rfl
 | .drop::_=>rfl
theorem HM (x:List Atom):∀y,comp x y=((Al y).headD []).map Atom.ins++comp x (DB y)
 | []=>rfl
 | .ins b::y=>by
  obtain ⟨p,ps,e,_⟩:=Bz y;have ih:=HM x y;rw [comp];show .ins b::comp x y=((Bo b (Al y)).headD []).map Atom.ins++comp x (DB y);rw [ih,e];rfl
 | .keep::_=>rfl
 | .drop::_=>rfl
theorem IK (q:List UInt8) (l:List Atom):Al (q.map Atom.ins++l)=(q++(Al l).headD [])::(Al l).tail:=by
 obtain ⟨p,ps,e,_⟩:=Bz l
 induction q with
 | nil=>rw [AqC,Ao6,e];rfl
 | cons b q ih=>
  show Bo b (Al (q.map Atom.ins++l))=_;rw [ih];rfl
theorem HU (q:List UInt8) (l:List Atom):Ap (q.map Atom.ins++l)=Ap l:=by rw [Di,RX];rfl
theorem Pe:∀(Sc:List Bool) (Pc:List (List UInt8)),inn Sc Pc []=[]
 | [],_=>by simp [inn]
 | _::_,[]=>by simp [inn]
 | _::_,[_]=>by simp [inn]
 | _::_,_::_::_=>by simp [inn]
theorem Kx {sc:Bool} {Sc:List Bool} {r q:List UInt8} {Pc:List (List UInt8)} {b:UInt8} {s:List UInt8}:inn (sc::Sc) (r::q::Pc) (b::s)=(if sc=true then [b]else [])++q++inn Sc (q::Pc) s:=by rw [inn]
theorem Zf (be:List UInt8) (b:UInt8) {Sb:List Bool} {p:List UInt8} {Pb:List (List UInt8)} {sc:Bool} {Sc:List Bool} {r q:List UInt8} {Pc:List (List UInt8)} :
  BB be Sb ((b::p)::Pb) (sc::Sc) (r::q::Pc)=BB (be++(if sc=true then [b]else [])++q) Sb (p::Pb) Sc (q::Pc):=by
 cases Sb with
 | nil=>
  simp only [BB,Kx,AoN]
 | cons sb Sb=>
  simp only [BB,Kx,AoN,AoV,Aqt]
def front (be:List UInt8) (l:List Atom):List Bool×List (List UInt8):=(Ap l,(be++(Al l).headD [])::(Al l).tail)
theorem X6 (be q:List UInt8) (l:List Atom):front be (q.map Atom.ins++l)=front (be++q) l:=by
 unfold front;rw [HU,IK];simp
theorem Mp:∀(x:List Atom) (be:List UInt8) (y:List Atom),nT x=nS y->BB be (Ap x) (Al x) (Ap y) (Al y)=front be (comp x (DB y))
 | [],be,y,h=>by
  have:DB y=[]:=by
   have hn:nS (DB y)=0:=by rw [TW];exact h.symm
   match hs:DB y with
   | []=>rfl
   | .ins b::l=>
    exfalso;have:=Jq y;rw [hs]at this;obtain ⟨p,ps,e,_⟩:=Bz l;simp only [Al,e,Bo]at this;injection this with h1 _
    cases h1
   | .keep::l=>rw [hs]at hn;simp [nS]at hn
   | .drop::l=>rw [hs]at hn;simp [nS]at hn
  rw [this];simp [comp,front,Ap,Al,BB,inn]
 | .ins b::x,be,y,h=>by
  obtain ⟨p,ps,e,_⟩:=Bz x;have hs:=KU y;have hp:=Jq y;have hn:nS (DB y)=nT x+1:=by rw [TW];exact h.symm
  have hpl:Al y=(Al y).headD []::(Al y).tail:=by obtain ⟨a,as,e2,_⟩:=Bz y;rw [e2];rfl
  match hy:DB y,hn with
  | .ins c::l,_=>
   exfalso;rw [hy]at hp;obtain ⟨p',ps',e',_⟩:=Bz l;simp only [Al,e',Bo]at hp;injection hp with h1 _
   cases h1
  | [],hn=>simp [nS]at hn
  | .keep::l,hn=>
   rw [hy]at hs hp;simp only [Ap,Al]at hs hp;injection hp with _ hp
   obtain ⟨q,qs,e3,_⟩:=Bz l;have ih:=Mp x (be++[b]++q) l (by simpa [nS] using hn.symm);rw [comp];show BB be (Ap x) (Bo b (Al x)) (Ap y) (Al y)=_;rw [<- hs,hpl,<- hp,e,e3];show BB be (Ap x) ((b::p)::ps) (true::Ap l) (_::q::qs)=_;rw [Zf,AoJ rfl,<- e3,<- e,ih];show _=front be (.ins b::comp x l);rw [HM x l,e3];rw [show(Atom.ins b::(List.map Atom.ins ((q::qs).headD [])++comp x (DB l)))=(b::q).map Atom.ins++comp x (DB l) from rfl,X6];simp
  | .drop::l,hn=>
   rw [hy]at hs hp;simp only [Ap,Al]at hs hp;injection hp with _ hp
   obtain ⟨q,qs,e3,_⟩:=Bz l;have ih:=Mp x (be++[]++q) l (by simpa [nS] using hn.symm);rw [comp];show BB be (Ap x) (Bo b (Al x)) (Ap y) (Al y)=_;rw [<- hs,hpl,<- hp,e,e3];show BB be (Ap x) ((b::p)::ps) (false::Ap l) (_::q::qs)=_;rw [Zf,AoH Z,<- e3,<- e,ih];rw [HM x l,e3,show((q::qs).headD [])=q from rfl,X6];simp
 | .keep::x,be,y,h=>by
  have hs:=KU y;have hp:=Jq y;have hn:nS (DB y)=nT x+1:=by rw [TW];exact h.symm
  have hpl:Al y=(Al y).headD []::(Al y).tail:=by obtain ⟨a,as,e2,_⟩:=Bz y;rw [e2];rfl
  match hy:DB y,hn with
  | .ins c::l,_=>
   exfalso;rw [hy]at hp;obtain ⟨p',ps',e',_⟩:=Bz l;simp only [Al,e',Bo]at hp;injection hp with h1 _
   cases h1
  | [],hn=>simp [nS]at hn
  | .keep::l,hn=>
   rw [hy]at hs hp;simp only [Ap,Al]at hs hp;injection hp with _ hp
   obtain ⟨q,qs,e3,_⟩:=Bz l;have ih:=Mp x q l (by simpa [nS] using hn.symm);rw [comp];show BB be (true::Ap x) ([]::Al x) (Ap y) (Al y)=_;rw [<- hs,hpl,<- hp,e3];simp only [BB,AoU,Apd,ApN,List.getD_cons_zero,List.getD_cons_succ,Aqt,inn,AoW];rw [<- e3,ih];unfold front;simp only [Ap,Al,List.headD_cons,List.tail_cons,AoW];rw [HM x l,e3,HU,IK];simp
  | .drop::l,hn=>
   rw [hy]at hs hp;simp only [Ap,Al]at hs hp;injection hp with _ hp
   obtain ⟨q,qs,e3,_⟩:=Bz l;have ih:=Mp x q l (by simpa [nS] using hn.symm);rw [comp];show BB be (true::Ap x) ([]::Al x) (Ap y) (Al y)=_;rw [<- hs,hpl,<- hp,e3];simp only [BB,AoU,Apd,ApN,List.getD_cons_zero,List.getD_cons_succ,Aqt,inn,AoW];rw [<- e3,ih];unfold front;simp only [Ap,Al,List.headD_cons,List.tail_cons,AoW];rw [HM x l,e3,HU,IK];simp
 | .drop::x,be,y,h=>by
  have ih:=Mp x [] y h;have hc:comp (.drop::x) (DB y)=.drop::comp x (DB y):=by
   match hy:DB y with
   | .ins c::l=>
    exfalso;have hp:=Jq y;rw [hy]at hp;obtain ⟨p',ps',e',_⟩:=Bz l;simp only [Al,e',Bo]at hp;injection hp with h1 _
    cases h1
   | []=>rw [comp]
   | .keep::l=>rw [comp]
   | .drop::l=>rw [comp]
  rw [hc];show BB be (false::Ap x) ([]::Al x) (Ap y) (Al y)=_;simp only [BB,AoO,Apa,Apd,ApN,Pe,AoW];rw [ih];unfold front;simp only [Ap,Al,List.headD_cons,List.tail_cons,AoW,Ao6];obtain ⟨a,as,e2,_⟩:=Bz (comp x (DB y));rw [e2];rfl
theorem Xs (x y:List Atom) (h:nT x=nS y):BB ((Al y).headD []) (Ap x) (Al x) (Ap y) (Al y)=(Ap (comp x y),Al (comp x y)):=by
 rw [Mp x _ y h,HM x y,HU,IK];rfl
end Go.V.G
set_option maxRecDepth 100000
namespace Go.V.G
open Go.V
def tot (P:List (List UInt8)):Nat:=(P.map List.length).sum
theorem IQ (p:List UInt8) (P:List (List UInt8)):tot (p::P)=p.length+tot P:=by simp [tot]
theorem Zg (P:List (List UInt8)):∀n,tot (P.drop n)<=tot P:=by
 induction P with
 | nil=>simp
 | cons p P ih=>
  intro n;cases n with
  | zero=>simp
  | succ n=>rw [Aqt,IQ];grind
theorem O4:∀{P:List (List UInt8)} {p:List UInt8},p∈P->p.length<=tot P
 | q::P,p,h=>by
  rw [IQ];rcases AoY.1 h with rfl | h
  .omega
  .have:=O4 h;omega
def SQ:List Bool->Nat
 | []=>0
 | b::l=>(if b=true then 1 else 0)+SQ l
def rem (S:List Bool) (P:List (List UInt8)):Nat:=tot P+SQ S
theorem ME:∀l:List Atom,tot (Al l)=DI l
 | []=>rfl
 | .ins b::l=>by
  obtain ⟨p,ps,e,_⟩:=Bz l;have ih:=ME l;show tot (Bo b (Al l))=DI l+1;rw [e]at ih ⊢;simp only [Bo,IQ,AoV]at ih ⊢;omega
 | .keep::l=>by show tot ([]::Al l)=DI l;rw [IQ,ME l];simp
 | .drop::l=>by show tot ([]::Al l)=DI l;rw [IQ,ME l];simp
theorem KV:∀l:List Atom,SQ (Ap l)=nK l
 | []=>rfl
 | .ins _::l=>KV l
 | .keep::l=>by show 1+SQ (Ap l)=nK l+1;rw [KV l];omega
 | .drop::l=>by show 0+SQ (Ap l)=nK l;rw [KV l];omega
theorem AlE (l:List Atom):rem (Ap l) (Al l)=nT l:=by rw [rem,ME,KV,IN]
theorem Wi:∀(Sc:List Bool) (Pc:List (List UInt8)) (s:List UInt8),(inn Sc Pc s).length<=s.length+tot Pc.tail
 | [],_,s=>by simp [inn]
 | _::_,[],s=>by simp [inn]
 | _::_,[_],s=>by simp [inn]
 | _::_,_::_::_,[]=>by rw [Pe];simp
 | sc::Sc,r::q::Pc,b::s=>by
  have ih:=Wi Sc (q::Pc) s;rw [Kx];simp only [AoM,AoV,List.tail_cons,IQ]at ih ⊢
  grind
theorem T3:∀(s:List UInt8) (Sc:List Bool) (Pc:List (List UInt8)) (b:UInt8) (h1:s.length < Sc.length) (h2:Pc.length=Sc.length+1),
  inn Sc Pc (s++[b])=inn Sc Pc s++((if Sc[s.length]=true then [b]else [])++Pc[s.length+1]' O)
 | [],sc::Sc,r::q::Pc,b,h1,h2=>by simp [Kx,Pe]
 | [],sc::Sc,[],b,h1,h2=>by simp at h2
 | [],sc::Sc,[_],b,h1,h2=>by simp at h2
 | [],[],_,b,h1,h2=>by simp at h1
 | a::s,[],_,b,h1,h2=>by simp at h1
 | a::s,sc::Sc,[],b,h1,h2=>by simp at h2
 | a::s,sc::Sc,[_],b,h1,h2=>by simp at h2
 | a::s,sc::Sc,r::q::Pc,b,h1,h2=>by
  have ih:=T3 s Sc (q::Pc) b (by grind) (by grind);rw [Apj,Kx,Kx,ih];simp
structure CR (Sb:List Bool) (Pb:List (List UInt8)) (Sc:List Bool) (Pc:List (List UInt8)):Prop where
 x:Pb.length=Sb.length+1
 y:Pc.length=Sc.length+1
 r:rem Sb Pb=Sc.length
 n:Sb.length<=1000
 m:Sc.length<=1000
 py:tot Pc<=1000
theorem AhW {S:List Bool} {P:List (List UInt8)} (h:P.length=S.length+1) {g:Nat} (hg:g < P.length):rem (S.drop g) (P.drop g)=P[g].length+(if h:g < S.length then(if S[g]=true then 1 else 0)else 0)+rem (S.drop (g+1)) (P.drop (g+1)):=by
 rw [Aph hg];by_cases hs:g < S.length
 .rw [Aph hs,dif_pos hs];simp only [rem,IQ,SQ];omega
 .rw [dif_neg hs,ApW (O:S.length<=g),ApW (O:S.length<=g+1)];rfl
section
variable {Sb:List Bool} {Pb:List (List UInt8)} {Sc:List Bool} {Pc:List (List UInt8)} (h:CR Sb Pb Sc Pc)
include h
theorem Uz {t:Nat} {g n g2:Int} {s text:List UInt8} {oS:List Bool} {oP:List (List UInt8)} (hs:t+s.length<=Sc.length) (ht:text.length<=1000) :
  Ab Ho ((t:Int),g,s,text,Pb,n,g2,(List.length s:Int),0,Sb,Sc,Pc,oS,oP) =
   some (((t+s.length:Nat):Int),g,text++inn (Sc.drop t) (Pc.drop t) s,Pb,n,g2,Sb,Sc,Pc,oS,oP):=by
 obtain ⟨hx,hy,hr,hn,hm,hpy⟩:=h;have:=Af Ho (λi=>(((t+i:Nat):Int),g,s,text++inn (Sc.drop t) (Pc.drop t) (s.take i),Pb,n,g2,(List.length s:Int),((i:Nat):Int),Sb,Sc,Pc,oS,oP)) s.length
  (((t+s.length:Nat):Int),g,text++inn (Sc.drop t) (Pc.drop t) s,Pb,n,g2,Sb,Sc,Pc,oS,oP) (by
   intro i hi;have hti:t+i < Sc.length:=O
   have htp:t+i+1 < Pc.length:=O
   have hl:(s.take i).length=i:=by grind
   have sn:=T3 (s.take i) (Sc.drop t) (Pc.drop t) s[i] (by grind) (by grind);rw [<- AoL hi]at sn;simp only [hl,List.getElem_drop]at sn;have il:=Wi (Sc.drop t) (Pc.drop t) (s.take i);have tl:tot (Pc.drop t).tail<=tot Pc:=by rw [List.tail_drop];exact Zg _ _
   have pq:(Pc[t+i+1]).length<=tot Pc:=O4 (AoR htp);have e1:IntKind.wrap .i64 (((i:Nat):Int)+1)=((i+1:Nat):Int):=Ao (n:=s.length) O hi;have e2:IntKind.wrap .i64 (((t+i:Nat):Int)+1)=((t+i+1:Nat):Int):=Ao (n:=Sc.length) O hti;have g0:(0:Int)<=((t+i:Nat):Int):=O
   have g1:((t+i:Nat):Int) < (List.length Sc:Int):=O
   have g2':(0:Int)<=((i:Nat):Int):=O
   have g3:((i:Nat):Int)<=((i+1:Nat):Int):=O
   have g4:((i+1:Nat):Int)<=(List.length s:Int):=O
   have g5:((i:Nat):Int) < (List.length s:Int):=O
   have g6:((t+i+1:Nat):Int) < (List.length Pc:Int):=O
   have g7:(0:Int)<=((t+i+1:Nat):Int):=O
   have cut:(s.drop i).take (i+1 - i)=[s[i]]:=by rw [(O:i+1 - i=1),Aph hi];rfl
   have b1:List.length (text++inn (Sc.drop t) (Pc.drop t) (s.take i))+List.length [s[i]]<=9223372036854775807:=by grind
   have b2:∀z:List UInt8,z.length<=1->List.length (text++inn (Sc.drop t) (Pc.drop t) (s.take i)++z)+List.length (Pc[t+i+1])<=9223372036854775807:=λz hz=>by grind
   unfold Ho cK cZ sX wI;simp only [g0,g1,g2',g3,g4,g5,e1,decide_true,AoU,AoE,AoS,AoF hti,AoC,ApI,cut,b1];cases hb:Sc[t+i]with
   | true=>
    rw [hb,AoJ rfl]at sn;have b3:=b2 [s[i]] Z;simp only [AoU,AoC,e1,e2,g6,g7,decide_true,AoE,AoF htp,b3]
    grind
   | false=>
    rw [hb,AoH Z]at sn;have b3:=b2 [] Z;rw [AoW]at b3;simp only [AoO,Apa,AoC,e1,e2,g6,g7,decide_true,AoU,AoE,AoF htp,b3]
    grind) (by
   simp only [Apy];simp [Ho,cK,cZ,sX,wI])
 simpa [Pe] using this
theorem AcG {g t:Nat} (hg:g < Pb.length) (be:List UInt8) (ht:t+rem (Sb.drop g) (Pb.drop g)=Sc.length) :
  t+Pb[g].length<=Sc.length/\(g=Sb.length->BB be (Sb.drop g) (Pb.drop g) (Sc.drop t) (Pc.drop t)=([],[be++inn (Sc.drop t) (Pc.drop t) Pb[g]]))/\
  ∀h1:g < Sb.length,(Sb[g]=false->t+Pb[g].length+rem (Sb.drop (g+1)) (Pb.drop (g+1))=Sc.length/\BB be (Sb.drop g) (Pb.drop g) (Sc.drop t) (Pc.drop t) =
    (false::(BB [] (Sb.drop (g+1)) (Pb.drop (g+1)) (Sc.drop (t+Pb[g].length)) (Pc.drop (t+Pb[g].length))).1,(be++inn (Sc.drop t) (Pc.drop t) Pb[g])::(BB [] (Sb.drop (g+1)) (Pb.drop (g+1)) (Sc.drop (t+Pb[g].length)) (Pc.drop (t+Pb[g].length))).2))/\
   (Sb[g]=true->t+Pb[g].length+1+rem (Sb.drop (g+1)) (Pb.drop (g+1))=Sc.length/\∃(h2:t+Pb[g].length < Sc.length) (h3:t+Pb[g].length+1 < Pc.length),BB be (Sb.drop g) (Pb.drop g) (Sc.drop t) (Pc.drop t) =
    (Sc[t+Pb[g].length]::(BB Pc[t+Pb[g].length+1] (Sb.drop (g+1)) (Pb.drop (g+1)) (Sc.drop (t+Pb[g].length+1)) (Pc.drop (t+Pb[g].length+1))).1,
     (be++inn (Sc.drop t) (Pc.drop t) Pb[g])::(BB Pc[t+Pb[g].length+1] (Sb.drop (g+1)) (Pb.drop (g+1)) (Sc.drop (t+Pb[g].length+1)) (Pc.drop (t+Pb[g].length+1))).2)):=by
 obtain ⟨hx,hy,hr,hn,hm,hpy⟩:=h;have rd:=AhW hx hg;rw [rd]at ht;refine⟨O,λhe=>?_,λh1=>⟨λhb=>⟨?_,?_⟩,λhb=>⟨?_,?_⟩⟩⟩
 .subst he;rw [Ap3,Aph hg];simp [BB]
 .grind
 .rw [Aph hg,Aph h1,hb];simp only [BB,AoO,Apa,Aqz]
 .grind
 .simp only [h1,hb,AoU,dif_pos]at ht;have h2:t+Pb[g].length < Sc.length:=O
  have h3:t+Pb[g].length+1 < Pc.length:=O
  refine⟨h2,h3,?_⟩;rw [Aph hg,Aph h1,hb];simp only [BB,AoU,Aqz]
  grind
theorem V0 (be:List UInt8) (hbe:be.length<=1000):Ab M6 (0,be,Pb,(List.length Pb:Int),0,Sb,Sc,Pc,[],[])=some (BB be Sb Pb Sc Pc):=by
 refine Ok.eq (Ok.loop (λy=>y.2.2.1=Pb/\y.2.2.2.1=(List.length Pb:Int)/\y.2.2.2.2.2.1=Sb/\y.2.2.2.2.2.2.1=Sc/\y.2.2.2.2.2.2.2.1=Pc/\∃t g:Nat,y.1=(t:Int)/\y.2.2.2.2.1=(g:Int)/\g < Pb.length/\
   y.2.1.length<=1000/\t+rem (Sb.drop g) (Pb.drop g)=Sc.length/\y.2.2.2.2.2.2.2.2.1.length=g/\y.2.2.2.2.2.2.2.2.2.length=g/\
   (y.2.2.2.2.2.2.2.2.1++(BB y.2.1 (Sb.drop g) (Pb.drop g) (Sc.drop t) (Pc.drop t)).1,y.2.2.2.2.2.2.2.2.2++(BB y.2.1 (Sb.drop g) (Pb.drop g) (Sc.drop t) (Pc.drop t)).2)=BB be Sb Pb Sc Pc) (λy=>((List.length Pb:Int) - y.2.2.2.2.1).toNat)
  ⟨rfl,rfl,rfl,rfl,rfl,0,0,rfl,rfl,by rw [h.x];omega,hbe,by have:=h.r;grind,rfl,rfl,Z⟩ ?_)
 rintro ⟨t',be',pb,n,g',sb,sc,pc,oS,oP⟩ ⟨e1,e2,e3,e4,e5,t,g,e6,e7,hg,hbe',hrem,hoS,hoP,hf⟩;dsimp only at e1 e2 e3 e4 e5 e6 e7 hbe' hoS hoP hf;subst e1 e2 e3 e4 e5 e6 e7;have hCR:=h;obtain ⟨hx,hy,hr,hn,hm,hpy⟩:=h;obtain ⟨c1,c2,c3⟩:=AcG hCR hg be' hrem;unfold M6 cK cZ wI;dsimp only;refine Ok.yes (by grind) ?_;have r16:∀z:List UInt8,Aa (List.length oP+List.length [z]) 16=true:=λz=>Pr O O
 have r1:∀z:Bool,Aa (List.length oS+List.length [z]) 1=true:=λz=>Pr O O
 have hin:=Uz hCR (g:=(g:Int)) (n:=(List.length pb:Int)) (g2:=(g:Int)) (text:=be') (oS:=oS) (oP:=oP) c1 hbe';refine Ok.bind (Q:=λv=>match v with
   | .inl y=>∃t2 be2 oS2 oP2,y=(((t2:Nat):Int),be2,pb,(List.length pb:Int),(g:Int),sb,sc,pc,oS2,oP2)/\g+1 < pb.length/\List.length be2<=1000/\t2+rem (sb.drop (g+1)) (pb.drop (g+1))=sc.length/\List.length oS2=g+1/\List.length oP2=g+1/\
     (oS2++(BB be2 (sb.drop (g+1)) (pb.drop (g+1)) (sc.drop t2) (pc.drop t2)).1,oP2++(BB be2 (sb.drop (g+1)) (pb.drop (g+1)) (sc.drop t2) (pc.drop t2)).2)=BB be sb pb sc pc
   | .inr z=>z=BB be sb pb sc pc) ?_ ?_
 .refine Ok.yes Z (Ok.yes (by grind) (Ok.bind_eq (r:=pb[g]) Z (Ok.bind_eq hin (Ok.yes (r16 _) ?_))));dsimp only;refine Ok.ite (λhq=>?_) λhq=>?_
  .have he:g=sb.length:=by
    grind
   rw [c2 he]at hf;exact Ok.mk (by grind)
  .have hks:g < sb.length:=by
    grind
   refine Ok.yes Z (Ok.yes (by grind) (Ok.bind_eq (r:=sb[g]) Z ?_));cases hb:sb[g]with
   | false=>
    obtain ⟨k1,k2⟩:=(c3 hks).1 hb;rw [k2]at hf;refine Ok.yes Z (Ok.yes (r1 _) (Ok.mk ⟨_,_,_,_,rfl,O,Z,k1,by simp [hoS],by simp [hoP],?_⟩))
    grind
   | true=>
    obtain ⟨k1,k2,k3,k4⟩:=(c3 hks).2 hb;rw [k4]at hf;have e9:IntKind.wrap .i64 (((t+pb[g].length:Nat):Int)+1)=((t+pb[g].length+1:Nat):Int):=Ao (n:=sc.length) O k2;have hq2:(pc[t+pb[g].length+1]).length<=tot pc:=O4 (AoR k3);rw [e9];refine Ok.no Z (Ok.yes (decide_eq_true O) (Ok.yes (decide_eq_true O) (Ok.bind_eq (r:=sc[t+pb[g].length]) (by grind) (Ok.yes (r1 _)
     (Ok.yes (decide_eq_true O) (Ok.yes (decide_eq_true O) (Ok.bind_eq (r:=pc[t+pb[g].length+1]) (by grind) (Ok.mk ⟨_,_,_,_,rfl,O,O,k1,by simp [hoS],by simp [hoP],?_⟩))))))))
    grind
 rintro (y | z) hv
 .obtain ⟨t2,be2,oS2,oP2,rfl,k1,k2,k3,k4,k5,k6⟩:=hv;dsimp only;have e9:IntKind.wrap .i64 ((g:Int)+1)=((g+1:Nat):Int):=Ao (n:=pb.length) O hg;rw [e9];exact Ok.mk ⟨⟨rfl,rfl,rfl,rfl,rfl,t2,g+1,rfl,rfl,k1,k2,k3,k4,k5,k6⟩,by grind⟩
 .exact Ok.mk hv
end
end Go.V.G
set_option maxRecDepth 100000
namespace Go.V.G
open Go.V
def stP (S:List Bool) (k:Nat):List Prt:=match S[k]? with
 | some true=>[(1,0,[])]
 | some false=>[(0,1,[])]
 | none=>[]
theorem S6 {S:List Bool} {P:List (List UInt8)} (h:P.length=S.length+1) {k:Nat} (hk:k < P.length):BD (S.drop k) (P.drop k)=(0,0,P[k])::(stP S k++BD (S.drop (k+1)) (P.drop (k+1))):=by
 rw [Aph hk];by_cases hs:k < S.length
 .rw [Aph hs];simp only [BD,stP,AoF hs]
  grind
 .rw [ApW (O:S.length<=k),ApW (O:S.length<=k+1),ApW (O:P.length<=k+1)];simp [BD,stP,App (O:S.length<=k)]
structure PR (S:List Bool) (P:List (List UInt8)):Prop where
 x:P.length=S.length+1
 n:S.length<=1000
 p:∀q∈P,q.length<=1000
theorem AfT (l:List Prt):Ci l (0,0,[])=l:=by simp [Ci]
theorem Ae4 {S:List Bool} {P:List (List UInt8)} (h:PR S P):Ok (JU S P) λz=>z=GR (BD S P)/\Sm 4004004 z:=by
 unfold JU;refine Ok.bind (Q:=λz=>z=GR (BD S P)/\Sm 4004004 z) ?_ (λz hz=>Ok.mk hz);refine Ok.loop (λy=>y.1=P/\y.2.1=(List.length P:Int)/\y.2.2.2.1=S/\∃k:Nat,y.2.2.1=(k:Int)/\k<=P.length/\Sm (k * 4000) y.2.2.2.2.2/\(BD (S.drop k) (P.drop k)).foldl Ci y.2.2.2.2.2=GR (BD S P)) (λy=>((List.length P:Int) - y.2.2.1).toNat)
  ⟨rfl,rfl,rfl,0,rfl,ApP _,Sm.nil _,rfl⟩ ?_
 rintro ⟨p1,n,k',s,p2,o⟩ ⟨e1,e2,e3,k,e4,hk,ho,hf⟩;dsimp only at e1 e2 e3 e4 ho hf;subst e1 e2 e3 e4;obtain ⟨hx,hn,hp⟩:=h;have z:=one_I.2;unfold NV gX wI;dsimp only;refine Ok.ite (λhc=>?_) λhc=>?_
 .have hlt:k < p1.length:=by grind
  have lp:=hp _ (AoR hlt);rw [S6 hx hlt,ApU,AqE]at hf;refine Ok.yes Z (Ok.bind_eq (r:=p1[k]) Z ?_);refine Ok.bind (Q:=λv=>v=((k:Int),p1,(List.length p1:Int),(k:Int),s,p2,Ci o (0,0,p1[k]))) ?_ ?_
  .refine Ok.ite (λhq=>Ok.bind_eq (T2 ho O 0 0 _ O) (Ok.mk rfl)) λhq=>Ok.mk ?_
   have:p1[k]=[]:=by grind
   rw [this,AfT]
  rintro _ rfl;have so:Sm (k * 4000+1000) (Ci o (0,0,p1[k])):=Me ho ⟨z,z⟩ O (by grind);refine Ok.bind (Q:=λv=>v=(p1,(List.length p1:Int),(k:Int),s,p2,(stP s k).foldl Ci (Ci o (0,0,p1[k])))) ?_ ?_
  .refine Ok.ite (λhq=>Ok.mk ?_) λhq=>?_
   .have:k=s.length:=by
     grind
    simp [stP,this]
   .have hks:k < s.length:=by
     grind
    refine Ok.yes Z (Ok.bind_eq (r:=s[k]) Z ?_);refine Ok.bind (Q:=λv=>v=(p1,(List.length p1:Int),(k:Int),s,p2,(stP s k).foldl Ci (Ci o (0,0,p1[k])))) ?_ (λv hv=>Ok.mk hv);simp only [stP,AoF hks];cases s[k]with
    | true=>exact Ok.yes rfl (Ok.bind_eq (T2 so O 1 0 [] Z) (Ok.mk rfl))
    | false=>exact Ok.no Z (Ok.bind_eq (T2 so O 0 1 [] Z) (Ok.mk rfl))
  rintro _ rfl;have so4:Sm ((k+1) * 4000) ((stP s k).foldl Ci (Ci o (0,0,p1[k]))):=by
   unfold stP;split
   .exact Me (p:=(1,0,[])) (C:=(k+1) * 4000) so ⟨one_I.1,z⟩ O Aoz
   .exact Me (p:=(0,1,[])) (C:=(k+1) * 4000) so ⟨z,one_I.1⟩ O Aoz
   .exact so.mono O
  exact Ok.mk ⟨⟨rfl,rfl,rfl,k+1,Ao (n:=p1.length) O hlt,O,so4,hf⟩,by rw [Ao (n:=p1.length) O hlt];grind⟩
 .have:k=p1.length:=by
   grind
  subst this;refine Ok.mk ⟨?_,ho.mono O⟩;rw [<- hf,Ap3,ApW (O:s.length<=p1.length)];rfl
theorem Ae3 {S:List Bool} {P:List (List UInt8)} (h:PR S P):Ok (NN S P) λz=>z=GR (BD S P)/\Sm 4004004 z:=by
 unfold NN;refine Ok.bind (Q:=λz=>z=GR (BD S P)/\Sm 4004004 z) ?_ (λz hz=>Ok.mk hz);refine Ok.loop (λy=>y.2.1=P/\y.2.2.1=(List.length P:Int)/\y.2.2.2.2.1=S/\∃k:Nat,y.2.2.2.1=(k:Int)/\k<=P.length/\Sm (k * 4000) y.1/\(BD (S.drop k) (P.drop k)).foldl Ci y.1=GR (BD S P)) (λy=>((List.length P:Int) - y.2.2.2.1).toNat)
  ⟨rfl,rfl,rfl,0,rfl,ApP _,Sm.nil _,rfl⟩ ?_
 rintro ⟨o,p1,n,k',s,p2⟩ ⟨e1,e2,e3,k,e4,hk,ho,hf⟩;dsimp only at e1 e2 e3 e4 ho hf;subst e1 e2 e3 e4;obtain ⟨hx,hn,hp⟩:=h;have z:=one_I.2;unfold Rm gX wI;dsimp only;refine Ok.ite (λhc=>?_) λhc=>?_
 .have hlt:k < p1.length:=by grind
  have lp:=hp _ (AoR hlt);rw [S6 hx hlt,ApU,AqE]at hf;have so:Sm (k * 4000+1000) (Ci o (0,0,p1[k])):=Me ho ⟨z,z⟩ O (by grind);refine Ok.yes Z (Ok.bind_eq (r:=p1[k]) Z (Ok.bind_eq (PL ho O 0 0 _ O) ?_));refine Ok.bind (Q:=λv=>v=((stP s k).foldl Ci (Ci o (0,0,p1[k])),p1,(List.length p1:Int),(k:Int),s,p2)) ?_ ?_
  .refine Ok.ite (λhq=>?_) λhq=>Ok.mk ?_
   .have hks:k < s.length:=by
     grind
    refine Ok.yes Z (Ok.bind_eq (r:=s[k]) Z ?_);refine Ok.bind (Q:=λv=>v=((stP s k).foldl Ci (Ci o (0,0,p1[k])),p1,(List.length p1:Int),(k:Int),s,p2)) ?_ (λv hv=>Ok.mk hv);simp only [stP,AoF hks];cases s[k]with
    | true=>exact Ok.yes rfl (Ok.bind_eq (PL so O 1 0 [] Z) (Ok.mk rfl))
    | false=>exact Ok.no Z (Ok.bind_eq (PL so O 0 1 [] Z) (Ok.mk rfl))
   .have:s.length<=k:=by
     grind
    simp [stP,App this]
  rintro _ rfl;dsimp only;have so4:Sm ((k+1) * 4000) ((stP s k).foldl Ci (Ci o (0,0,p1[k]))):=by
   unfold stP;split
   .exact Me (p:=(1,0,[])) (C:=(k+1) * 4000) so ⟨one_I.1,z⟩ O Aoz
   .exact Me (p:=(0,1,[])) (C:=(k+1) * 4000) so ⟨z,one_I.1⟩ O Aoz
   .exact so.mono O
  exact Ok.mk ⟨⟨rfl,rfl,rfl,k+1,Ao (n:=p1.length) O hlt,O,so4,hf⟩,by rw [Ao (n:=p1.length) O hlt];grind⟩
 .have:k=p1.length:=by
   grind
  subst this;refine Ok.mk ⟨?_,ho.mono O⟩;rw [<- hf,Ap3,ApW (O:s.length<=p1.length)];rfl
section
variable {Sb:List Bool} {Pb:List (List UInt8)} {Sc:List Bool} {Pc:List (List UInt8)} (h:CR Sb Pb Sc Pc)
include h
theorem UY {t g:Nat} {n g2:Int} {s text:List UInt8} {oS:List Bool} {oP:List (List UInt8)} (hs:t+s.length<=Sc.length) (ht:text.length<=1000) (hg:oP[g]?=some text) :
  Ab FK ((t:Int),(g:Int),s,0,Pb,n,g2,Sb,Sc,Pc,oS,oP) =
   some (((t+s.length:Nat):Int),(g:Int),Pb,n,g2,Sb,Sc,Pc,oS,oP.set g (text++inn (Sc.drop t) (Pc.drop t) s)):=by
 obtain ⟨hx,hy,hr,hn,hm,hpy⟩:=h;have hgl:g < oP.length:=(Apt.1 hg).1;have h0:oP.set g text=oP:=by
  have:=(Apt.1 hg).2;rw [<- this];simp
 have:=Af FK (λi=>(((t+i:Nat):Int),(g:Int),s,((i:Nat):Int),Pb,n,g2,Sb,Sc,Pc,oS,oP.set g (text++inn (Sc.drop t) (Pc.drop t) (s.take i)))) s.length
  (((t+s.length:Nat):Int),(g:Int),Pb,n,g2,Sb,Sc,Pc,oS,oP.set g (text++inn (Sc.drop t) (Pc.drop t) s)) (by
   intro i hi;have hti:t+i < Sc.length:=O
   have htp:t+i+1 < Pc.length:=O
   have hl:(s.take i).length=i:=by grind
   have sn:=T3 (s.take i) (Sc.drop t) (Pc.drop t) s[i] (by grind) (by grind);rw [<- AoL hi]at sn;simp only [hl,List.getElem_drop]at sn;have il:=Wi (Sc.drop t) (Pc.drop t) (s.take i);have tl:tot (Pc.drop t).tail<=tot Pc:=by rw [List.tail_drop];exact Zg _ _
   have pq:(Pc[t+i+1]).length<=tot Pc:=O4 (AoR htp);have e1:IntKind.wrap .i64 (((i:Nat):Int)+1)=((i+1:Nat):Int):=Ao (n:=s.length) O hi;have e2:IntKind.wrap .i64 (((t+i:Nat):Int)+1)=((t+i+1:Nat):Int):=Ao (n:=Sc.length) O hti;have g0:(0:Int)<=((t+i:Nat):Int):=O
   have g1:((t+i:Nat):Int) < (List.length Sc:Int):=O
   have g2':(0:Int)<=((i:Nat):Int):=O
   have g3:((i:Nat):Int)<=((i+1:Nat):Int):=O
   have g4:((i+1:Nat):Int)<=(List.length s:Int):=O
   have g5:((i:Nat):Int) < (List.length s:Int):=O
   have g6:((t+i+1:Nat):Int) < (List.length Pc:Int):=O
   have g7:(0:Int)<=((t+i+1:Nat):Int):=O
   have g8:(0:Int)<=(g:Int):=O
   have cut:(s.drop i).take (i+1 - i)=[s[i]]:=by rw [(O:i+1 - i=1),Aph hi];rfl
   have b1:List.length (text++inn (Sc.drop t) (Pc.drop t) (s.take i))+List.length [s[i]]<=9223372036854775807:=by grind
   have b2:∀z:List UInt8,z.length<=1->List.length (text++inn (Sc.drop t) (Pc.drop t) (s.take i)++z)+List.length (Pc[t+i+1])<=9223372036854775807:=λz hz=>by grind
   have gl:∀z,(g:Int) < (List.length (oP.set g z):Int):=λz=>by grind
   have gs:∀z,(oP.set g z)[g]?=some z:=λz=>Ap7 hgl
   unfold FK cK cZ sX wI;simp only [g0,g1,g2',g3,g4,g5,g8,gl,gs,e1,decide_true,AoU,AoE,AoS,AoF hti,AoC,ApI,cut,b1,List.set_set];cases hb:Sc[t+i]with
   | true=>
    rw [hb,AoJ rfl]at sn;have b3:=b2 [s[i]] Z;simp only [AoU,AoC,e1,e2,g6,g7,g8,gl,gs,decide_true,AoE,AoF htp,b3,List.set_set]
    grind
   | false=>
    rw [hb,AoH Z]at sn;have b3:=b2 [] Z;rw [AoW]at b3;simp only [AoO,Apa,AoC,e1,e2,g6,g7,g8,gl,gs,decide_true,AoU,AoE,AoF htp,b3,List.set_set]
    grind) (by
   simp only [Apy];simp [FK,cK,cZ,sX,wI])
 simpa [Pe,h0] using this
theorem VN (be:List UInt8) (hbe:be.length<=1000):Ab KJ (0,Pb,(List.length Pb:Int),0,Sb,Sc,Pc,[],be::List.replicate (Pb.length - 1) [])=some (BB be Sb Pb Sc Pc):=by
 refine Ok.eq (Ok.loop (λy=>y.2.1=Pb/\y.2.2.1=(List.length Pb:Int)/\y.2.2.2.2.1=Sb/\y.2.2.2.2.2.1=Sc/\y.2.2.2.2.2.2.1=Pc/\∃(t g:Nat) (be2:List UInt8) (done:List (List UInt8)),y.1=(t:Int)/\y.2.2.2.1=(g:Int)/\g < Pb.length/\
   be2.length<=1000/\t+rem (Sb.drop g) (Pb.drop g)=Sc.length/\y.2.2.2.2.2.2.2.1.length=g/\done.length=g/\y.2.2.2.2.2.2.2.2=done++be2::List.replicate (Pb.length - 1 - g) []/\
   (y.2.2.2.2.2.2.2.1++(BB be2 (Sb.drop g) (Pb.drop g) (Sc.drop t) (Pc.drop t)).1,done++(BB be2 (Sb.drop g) (Pb.drop g) (Sc.drop t) (Pc.drop t)).2)=BB be Sb Pb Sc Pc) (λy=>((List.length Pb:Int) - y.2.2.2.1).toNat)
  ⟨rfl,rfl,rfl,rfl,rfl,0,0,be,[],rfl,rfl,by rw [h.x];omega,hbe,by have:=h.r;grind,rfl,rfl,Z,Z⟩ ?_)
 rintro ⟨t',pb,n,g',sb,sc,pc,oS,oP⟩ ⟨e1,e2,e3,e4,e5,t,g,be',done,e6,e7,hg,hbe',hrem,hoS,hdone,hoP,hf⟩;dsimp only at e1 e2 e3 e4 e5 e6 e7 hbe' hoS hoP hf;subst e1 e2 e3 e4 e5 e6 e7 hoP;have hCR:=h;obtain ⟨hx,hy,hr,hn,hm,hpy⟩:=h;obtain ⟨c1,c2,c3⟩:=AcG hCR hg be' hrem;unfold KJ cK cZ wI;dsimp only;refine Ok.yes (by grind) ?_;have r1:∀z:Bool,Aa (List.length oS+List.length [z]) 1=true:=λz=>Pr O O
 have hat:(done++be'::List.replicate (pb.length - 1 - g) ([]:List UInt8))[g]?=some be':=by grind
 have hin:=UY hCR (g:=g) (n:=(List.length pb:Int)) (g2:=(g:Int)) (oS:=oS) c1 hbe' hat;have hset:(done++be'::List.replicate (pb.length - 1 - g) ([]:List UInt8)).set g (be'++inn (sc.drop t) (pc.drop t) pb[g])=done++(be'++inn (sc.drop t) (pc.drop t) pb[g])::List.replicate (pb.length - 1 - g) []:=by
  grind
 rw [hset]at hin;refine Ok.bind (Q:=λv=>match v with
   | .inl y=>∃t2 be2 oS2 done2,y=(((t2:Nat):Int),pb,(List.length pb:Int),(g:Int),sb,sc,pc,oS2,done2++be2::List.replicate (pb.length - 1 - (g+1)) [])/\g+1 < pb.length/\List.length be2<=1000/\t2+rem (sb.drop (g+1)) (pb.drop (g+1))=sc.length/\List.length oS2=g+1/\List.length done2=g+1/\
     (oS2++(BB be2 (sb.drop (g+1)) (pb.drop (g+1)) (sc.drop t2) (pc.drop t2)).1,done2++(BB be2 (sb.drop (g+1)) (pb.drop (g+1)) (sc.drop t2) (pc.drop t2)).2)=BB be sb pb sc pc
   | .inr z=>z=BB be sb pb sc pc) ?_ ?_
 .refine Ok.yes (decide_eq_true O) (Ok.yes (by grind) (Ok.bind_eq (r:=pb[g]) Z (Ok.bind_eq hin ?_)));dsimp only;refine Ok.ite (λhq=>?_) λhq=>?_
  .have he:g=sb.length:=by
    grind
   rw [c2 he]at hf;refine Ok.mk ?_
   simp_all
  .have hks:g < sb.length:=by
    grind
   have rep:List.replicate (pb.length - 1 - g) ([]:List UInt8)=[]::List.replicate (pb.length - 1 - (g+1)) []:=by rw [(O:pb.length - 1 - g=(pb.length - 1 - (g+1))+1),ApE]
   refine Ok.yes (decide_eq_true O) (Ok.yes (by grind) (Ok.bind_eq (r:=sb[g]) Z ?_));cases hb:sb[g]with
   | false=>
    obtain ⟨k1,k2⟩:=(c3 hks).1 hb;rw [k2]at hf;refine Ok.yes Z (Ok.yes (r1 _) (Ok.mk ⟨t+pb[g].length,[],oS++[false],done++[be'++inn (sc.drop t) (pc.drop t) pb[g]],?_,O,Z,k1,by simp [hoS],by simp [hdone],?_⟩))
    .grind
    grind
   | true=>
    obtain ⟨k1,k2,k3,k4⟩:=(c3 hks).2 hb;rw [k4]at hf;have e9:IntKind.wrap .i64 (((t+pb[g].length:Nat):Int)+1)=((t+pb[g].length+1:Nat):Int):=Ao (n:=sc.length) O k2;have e10:IntKind.wrap .i64 ((g:Int)+1)=((g+1:Nat):Int):=Ao (n:=pb.length) O hg;have hq2:(pc[t+pb[g].length+1]).length<=tot pc:=O4 (AoR k3);have hlen:(done++(be'++inn (sc.drop t) (pc.drop t) pb[g])::List.replicate (pb.length - 1 - g) ([]:List UInt8)).length=pb.length:=by simp;omega
    have hget:(done++(be'++inn (sc.drop t) (pc.drop t) pb[g])::List.replicate (pb.length - 1 - g) ([]:List UInt8))[0+Int.toNat ((g+1:Nat):Int)]?=some []:=by
     grind
    have hset2:(done++(be'++inn (sc.drop t) (pc.drop t) pb[g])::List.replicate (pb.length - 1 - g) ([]:List UInt8)).set (0+Int.toNat ((g+1:Nat):Int)) pc[t+pb[g].length+1]=(done++[be'++inn (sc.drop t) (pc.drop t) pb[g]])++pc[t+pb[g].length+1]::List.replicate (pb.length - 1 - (g+1)) []:=by
     simp_all
    rw [e9,e10];refine Ok.no Z (Ok.yes (decide_eq_true O) (Ok.yes (decide_eq_true O) (Ok.bind_eq (r:=sc[t+pb[g].length]) (by grind) (Ok.yes (r1 _)
     (Ok.yes (decide_eq_true O) (Ok.yes (decide_eq_true O) (Ok.bind_eq (r:=pc[t+pb[g].length+1]) (by grind)
      (Ok.yes (decide_eq_true O) (Ok.yes (decide_eq_true O) (Ok.bind_eq hget (Ok.bind_eq hget (Ok.mk ⟨t+pb[g].length+1,pc[t+pb[g].length+1],oS++[sc[t+pb[g].length]],done++[be'++inn (sc.drop t) (pc.drop t) pb[g]],?_,O,O,k1,by simp [hoS],by simp [hdone],?_⟩))))))))))))
    .rw [hset2]
    grind
 rintro (y | z) hv
 .obtain ⟨t2,be2,oS2,done2,rfl,k1,k2,k3,k4,k5,k6⟩:=hv;dsimp only;have e9:IntKind.wrap .i64 ((g:Int)+1)=((g+1:Nat):Int):=Ao (n:=pb.length) O hg;rw [e9];exact Ok.mk ⟨⟨rfl,rfl,rfl,rfl,rfl,t2,g+1,be2,done2,rfl,rfl,k1,k2,k3,k4,k5,rfl,k6⟩,by grind⟩
 .exact Ok.mk hv
end
end Go.V.G
set_option maxRecDepth 100000
namespace Go.V.G
open Go.V
theorem Y7:∀(x y:List Atom),nT x=nS y->nS (comp x y)=nS x/\nT (comp x y)=nT y:=by
 intro x y
 induction x,y using comp.induct with
 | case1 x b y ih=>intro h;rw [comp];have:=ih h;simp only [nS,nT];omega
 | case2 x ih=>intro h;rw [comp];have:=ih h;simp only [nS,nT]at this ⊢;omega
 | case3 x y ih=>intro h;rw [comp];have:=ih h;simp only [nS,nT]at this ⊢;omega
 | case4 x y ih=>intro h;rw [comp];have:=ih h;simp only [nS,nT]at this ⊢;omega
 | case5 b x y ih=>intro h;rw [comp];have:=ih (by simpa [nS,nT] using h);simp only [nS,nT];omega
 | case6 b x y ih=>intro h;rw [comp];have:=ih (by simpa [nS,nT] using h);simp only [nS,nT];omega
 | case7 x y ih=>intro h;rw [comp];have:=ih (by simpa [nS,nT] using h);simp only [nS,nT];omega
 | case8 x y ih=>intro h;rw [comp];have:=ih (by simpa [nS,nT] using h);simp only [nS,nT];omega
 | case9 x y h1 h2 h3 h4 h5 h6 h7 h8=>
  intro g
  match x,y with
  | x,.ins b::y=>exact absurd rfl (h1 b y)
  | .drop::x,[]=>exact absurd rfl (h2 x rfl)
  | .drop::x,.keep::y=>exact absurd rfl (h3 x y rfl)
  | .drop::x,.drop::y=>exact absurd rfl (h4 x y rfl)
  | .ins b::x,.keep::y=>exact absurd rfl (h5 b x y rfl)
  | .ins b::x,.drop::y=>exact absurd rfl (h6 b x y rfl)
  | .keep::x,.keep::y=>exact absurd rfl (h7 x y rfl)
  | .keep::x,.drop::y=>exact absurd rfl (h8 x y rfl)
  | [],[]=>simp [comp,nS,nT]
  | .ins b::x,[]=>simp [nS,nT]at g
  | .keep::x,[]=>simp [nS,nT]at g
  | [],.keep::y=>simp [nS,nT]at g
  | [],.drop::y=>simp [nS,nT]at g
theorem AeW:∀(b c:List Atom) (a:List Atom),nT b=nS c->nT a=nS b->comp (comp a b) c=comp a (comp b c):=by
 intro b c
 induction b,c using comp.induct with
 | case1 b d c ih=>intro a h g;rw [comp,comp,comp,ih a h g]
 | case2 b ih=>
  intro a h g;rw [comp.eq_2 b]
  induction a with
  | nil=>simp [nS,nT]at g
  | cons u a iha=>
   cases u with
   | ins d=>rw [comp,comp];exact ih a h (by simpa [nS,nT] using g)
   | keep=>rw [comp,comp,comp,ih a h (by simpa [nS,nT] using g)]
   | drop=>rw [comp,comp,comp,iha (by simpa [nS,nT] using g)]
 | case3 b c ih=>
  intro a h g;rw [comp.eq_3 b c]
  induction a with
  | nil=>simp [nS,nT]at g
  | cons u a iha=>
   cases u with
   | ins d=>rw [comp,comp];exact ih a h (by simpa [nS,nT] using g)
   | keep=>rw [comp,comp,comp,ih a h (by simpa [nS,nT] using g)]
   | drop=>rw [comp,comp,comp,iha (by simpa [nS,nT] using g)]
 | case4 b c ih=>
  intro a h g;rw [comp.eq_4 b c]
  induction a with
  | nil=>simp [nS,nT]at g
  | cons u a iha=>
   cases u with
   | ins d=>rw [comp,comp];exact ih a h (by simpa [nS,nT] using g)
   | keep=>rw [comp,comp,comp,ih a h (by simpa [nS,nT] using g)]
   | drop=>rw [comp,comp,comp,iha (by simpa [nS,nT] using g)]
 | case5 d b c ih=>intro a h g;rw [comp.eq_5 d b c,comp,comp,comp,ih a (by simpa [nS,nT] using h) g]
 | case6 d b c ih=>intro a h g;rw [comp.eq_6 d b c,comp,comp];exact ih a (by simpa [nS,nT] using h) g
 | case7 b c ih=>
  intro a h g;rw [comp.eq_7 b c]
  induction a with
  | nil=>simp [nS,nT]at g
  | cons u a iha=>
   cases u with
   | ins d=>rw [comp,comp,comp,ih a (by simpa [nS,nT] using h) (by simpa [nS,nT] using g)]
   | keep=>rw [comp,comp,comp,ih a (by simpa [nS,nT] using h) (by simpa [nS,nT] using g)]
   | drop=>rw [comp,comp,comp,iha (by simpa [nS,nT] using g)]
 | case8 b c ih=>
  intro a h g;rw [comp.eq_8 b c]
  induction a with
  | nil=>simp [nS,nT]at g
  | cons u a iha=>
   cases u with
   | ins d=>rw [comp,comp,comp];exact ih a (by simpa [nS,nT] using h) (by simpa [nS,nT] using g)
   | keep=>rw [comp,comp,comp,ih a (by simpa [nS,nT] using h) (by simpa [nS,nT] using g)]
   | drop=>rw [comp,comp,comp,iha (by simpa [nS,nT] using g)]
 | case9 b c h1 h2 h3 h4 h5 h6 h7 h8=>
  intro a g gt
  match b,c with
  | b,.ins d::c=>exact absurd rfl (h1 d c)
  | .drop::b,[]=>exact absurd rfl (h2 b rfl)
  | .drop::b,.keep::c=>exact absurd rfl (h3 b c rfl)
  | .drop::b,.drop::c=>exact absurd rfl (h4 b c rfl)
  | .ins d::b,.keep::c=>exact absurd rfl (h5 d b c rfl)
  | .ins d::b,.drop::c=>exact absurd rfl (h6 d b c rfl)
  | .keep::b,.keep::c=>exact absurd rfl (h7 b c rfl)
  | .keep::b,.drop::c=>exact absurd rfl (h8 b c rfl)
  | [],[]=>
   have:comp [] []=[]:=by simp [comp]
   rw [this];have key:∀a:List Atom,comp (comp a []) []=comp a []:=by
    intro a
    induction a with
    | nil=>simp [comp]
    | cons u a ih=>
     cases u with
     | drop=>rw [comp,comp,ih]
     | keep=>simp [comp]
     | ins d=>simp [comp]
   exact key a
  | .ins d::b,[]=>simp [nS,nT]at g
  | .keep::b,[]=>simp [nS,nT]at g
  | [],.keep::c=>simp [nS,nT]at g
  | [],.drop::c=>simp [nS,nT]at g
end Go.V.G
set_option maxRecDepth 100000
namespace Go.V.G
open Go.V
theorem Mq {a b:List Prt} (ha:AK a=true) (hb:AK b=true) (h:tgt a=src b):nT (Ac a)=nS (Ac b)/\CR (Ap (Ac a)) (Al (Ac a)) (Ap (Ac b)) (Al (Ac b)):=by
 have sa:=A9 (Aq ha).1;have sb:=A9 (Aq hb).1;have la:=Jk sa;have lb:=Jk sb;have ta:=J0 sa;have tb:=J0 sb;have sb':=OZ sb;have:=(Aq ha).2.1;have:=(Aq hb).2.1;have:=(Aq hb).2.2;have hn:nT (Ac a)=nS (Ac b):=O
 refine⟨hn,EW _,EW _,by rw [AlE,hn,C8],O,O,?_⟩;rw [ME];rw [IN]at tb;omega
theorem ZS (l:List Atom):((Al l).headD []).length<=DI l:=by
 obtain ⟨p,ps,e,_⟩:=Bz l;have:=O9 l p (by rw [e];simp)
 grind
def AQ (a b:List Prt):List Prt:=GR (BD (Ap (comp (Ac a) (Ac b))) (Al (comp (Ac a) (Ac b))))
theorem DU {a b:List Prt} (ha:AK a=true) (hb:AK b=true) (h:tgt a=src b) :
  AK (AQ a b)=true/\Ac (AQ a b)=comp (Ac a) (Ac b)/\src (AQ a b)=src a/\tgt (AQ a b)=tgt b:=by
 have sa:=A9 (Aq ha).1;have sb:=A9 (Aq hb).1;obtain ⟨hn,_⟩:=Mq ha hb h;obtain ⟨l1,l2⟩:=Y7 _ _ hn;have hf:=S7 (Ap (comp (Ac a) (Ac b))) (Al (comp (Ac a) (Ac b)));have he:=Js (comp (Ac a) (Ac b));have s1:=Z3 hf;have t1:=ZP hf;rw [he]at s1 t1;have s2:=OZ sa;have t2:=J0 sb;have:=(Aq ha).2.1;have:=(Aq hb).2.2;obtain ⟨k1,k2,k3,k4⟩:=AgI hf ⟨O,O⟩;refine⟨?_,by rw [<- he];exact k2,?_,?_⟩
 .unfold AK;rw [show okk 0 (AQ a b)=true from k1,show src (AQ a b)=src (BD _ _) from k3,show tgt (AQ a b)=tgt (BD _ _) from k4];simp;omega
 .rw [show src (AQ a b)=src (BD _ _) from k3];omega
 .rw [show tgt (AQ a b)=tgt (BD _ _) from k4];omega
theorem Adz {a b:List Prt} (ha:AK a=true) (hb:AK b=true) (h:tgt a=src b):PR (Ap (comp (Ac a) (Ac b))) (Al (comp (Ac a) (Ac b))):=by
 have sa:=A9 (Aq ha).1;have sb:=A9 (Aq hb).1;obtain ⟨hn,_⟩:=Mq ha hb h;obtain ⟨l1,l2⟩:=Y7 _ _ hn;have s2:=OZ sa;have t2:=J0 sb;have:=(Aq ha).2.1;have:=(Aq hb).2.2;refine⟨EW _,by rw [<- C8];omega,λq hq=>?_⟩;have:=O9 _ q hq;rw [IN]at l2;omega
theorem AaZ {a b:List Prt} (ha:AK a=true) (hb:AK b=true) (h:tgt a=src b):N3 a b=some (AQ a b):=by
 have sa:=A9 (Aq ha).1;have sb:=A9 (Aq hb).1;have:=(Aq ha).2.1;have:=(Aq hb).2.1;have t2:=J0 sb;have:=(Aq hb).2.2;obtain ⟨hn,hCR⟩:=Mq ha hb h;have hl:=ZS (Ac b);rw [IN]at t2;unfold N3 cK cZ;rw [Xf (CG ha) O sa O,Xf (CG hb) O sb O,AoC,AoC];obtain ⟨q,qs,e,_⟩:=Bz (Ac b);have hlp:=V0 hCR ((Al (Ac b)).headD []) O;rw [Xs _ _ hn]at hlp;refine Ok.eq (Ok.yes Z (Ok.yes (by rw [e];simp) (Ok.bind_eq (r:=(Al (Ac b)).headD []) (by rw [e];rfl) (Ok.bind_eq hlp ?_))));refine(Ae4 (Adz ha hb h)).bind ?_;rintro _ ⟨rfl,_⟩;exact Ok.mk rfl
theorem ZJ {a b:List Prt} (ha:AK a=true) (hb:AK b=true) (h:tgt a=src b):KT a b=some (AQ a b):=by
 have sa:=A9 (Aq ha).1;have sb:=A9 (Aq hb).1;have:=(Aq ha).2.1;have:=(Aq hb).2.1;have t2:=J0 sb;have:=(Aq hb).2.2;obtain ⟨hn,hCR⟩:=Mq ha hb h;have hl:=ZS (Ac b);rw [IN]at t2;have hx:=hCR.x;have hnn:=hCR.n;unfold KT cK cZ;rw [XT (CG ha) O sa O,XT (CG hb) O sb O,AoC,AoC];obtain ⟨q,qs,e,_⟩:=Bz (Ac b);have hlp:=VN hCR ((Al (Ac b)).headD []) O;rw [Xs _ _ hn]at hlp;have rep:List.replicate (Int.toNat (List.length (Al (Ac a)):Int)) ([]:List UInt8)=[]::List.replicate ((Al (Ac a)).length - 1) []:=by
  rw [AoE,show(Al (Ac a)).length=((Al (Ac a)).length - 1)+1 by omega,ApE,Nat.add_sub_cancel]
 rw [rep];refine Ok.eq (Ok.yes Z (Ok.yes Z (Ok.yes (by simp [Aa];omega) (Ok.yes Z (Ok.yes (by rw [e];simp) (Ok.bind_eq (r:=(Al (Ac b)).headD []) (by rw [e];rfl) (Ok.yes Z (Ok.yes Z (Ok.bind_eq (r:=[]) rfl (Ok.bind_eq (r:=[]) rfl (Ok.bind_eq hlp ?_)))))))))));obtain ⟨r,hr,rfl,_⟩:=Ae3 (Adz ha hb h);simp only [hr,AoC];exact Ok.mk rfl
theorem AiR (p:Prt):kd p=0\/kd p=1\/kd p=2\/kd p=3:=by
 unfold kd;omega
end Go.V.G
set_option maxRecDepth 100000
namespace Go.V.G
open Go.V
abbrev Rn:=Int×Int
def AF:List Rn->Int
 | []=>0
 | r::l=>r.2+AF l
def A8:List Rn->List Int
 | []=>[]
 | r::l=>List.replicate r.2.toNat r.1++A8 l
def alt:Option Int->List Rn->Bool
 | _,[]=>true
 | p,r::l=>!(decide (p=some r.1)) && alt (some r.1) l
def YJ (p:Option Int) (l:List Rn):Option Int:=match l.getLast? with
 | none=>p
 | some q=>some q.1
theorem EV:∀a b:List Rn,AF (a++b)=AF a+AF b
 | [],b=>by simp [AF]
 | p::a,b=>by simp only [Apj,AF,EV a b];omega
theorem Io:∀a b:List Rn,A8 (a++b)=A8 a++A8 b
 | [],b=>rfl
 | p::a,b=>by simp only [Apj,A8,Io a b,AoN]
theorem Aea (p:Option Int) (r:Rn) (l:List Rn):YJ p (r::l)=YJ (some r.1) l:=by
 cases l with
 | nil=>rfl
 | cons q l=>
  rfl
theorem LO:∀(p:Option Int) (a b:List Rn),alt p (a++b)=(alt p a && alt (YJ p a) b)
 | p,[],b=>by rfl
 | p,r::a,b=>by
  rw [Apj,alt,alt,LO (some r.1) a b,Aea,Aqu]
def Pos (l:List Rn):Prop:=∀q∈l,1<=q.2
theorem Pos.nil:Pos []:=λq h=>by cases h
theorem Pos.tail {r:Rn} {l:List Rn} (h:Pos (r::l)):Pos l:=λq hq=>h q (by simp [hq])
theorem C4:∀{l:List Rn},Pos l->0<=AF l
 | [],_=>ApI _
 | r::l,h=>by
  have:=h r Z;have:=C4 h.tail;simp only [AF];omega
theorem KG:∀{l:List Rn},Pos l->∀q∈l,q.2<=AF l
 | r::l,h,q,hq=>by
  have h1:=h r Z;have h2:=C4 h.tail;rcases AoY.1 hq with rfl | hq
  .simp only [AF];omega
  .have:=KG h.tail q hq;simp only [AF];omega
theorem GI:∀{l:List Rn},Pos l->(l.length:Int)<=AF l
 | [],_=>ApI _
 | r::l,h=>by
  have:=h r Z;have:=GI h.tail;simp only [AF,AoV];omega
theorem MF:∀{l:List Rn},Pos l->(((A8 l).length:Nat):Int)=AF l
 | [],_=>rfl
 | r::l,h=>by
  have:=h r Z;have:=MF h.tail;simp only [A8,AF,AoM,ApC];omega
def Gg (l:List Rn) (r:Rn):List Rn:=
 if r.2=0 then l else
 match l.getLast? with
 | none=>[r]
 | some q=>if q.1=r.1 then l.dropLast++[(q.1,IntKind.wrap .i64 (q.2+r.2))]else l++[r]
structure Rs (l:List Rn) (n:Int):Prop where
 pos:Pos l
 sum:AF l=n
 alt:alt none l=true
theorem Rs.nil:Rs [] 0:=⟨Pos.nil,rfl,rfl⟩
theorem Ahp {l:List Rn} {r:Rn} {n:Int} (h:Rs l n) (hr:0<=r.2) (hb:n+r.2<=1000000000):Rs (Gg l r) (n+r.2)/\A8 (Gg l r)=A8 l++List.replicate r.2.toNat r.1:=by
 unfold Gg;split
 .simp_all
 .rename_i h0;cases hg:l.getLast? with
  | none=>
   obtain rfl:l=[]:=by simpa using hg
   refine⟨⟨λq hq=>?_,?_,by simp [G.alt]⟩,by simp [A8]⟩
   .grind
   .have:=h.sum;simp only [AF]at this ⊢;omega
  | some q=>
   obtain ⟨l',rfl⟩:=Aql.1 hg;have hp:=h.pos q Z;have hm:=KG h.pos q Z;have hs:=h.sum;have ha:=h.alt;rw [EV]at hs;simp only [AF]at hs;rw [LO]at ha;rw [h.sum]at hm;have w:IntKind.wrap .i64 (q.2+r.2)=q.2+r.2:=w64 O O;dsimp only;split
   .rename_i he;rw [List.dropLast_concat,w];refine⟨⟨λx hx=>?_,?_,?_⟩,?_⟩
    .rcases AoK.1 hx with hx | hx
     .exact h.pos x (by simp [hx])
     grind
    .rw [EV];simp only [AF];omega
    .rw [LO];exact ha
    .rw [Io,Io];simp only [A8,AoW,AoN];rw [he,List.replicate_append_replicate]
     grind
   .rename_i he;refine⟨⟨λx hx=>?_,?_,?_⟩,?_⟩
    .rcases AoK.1 hx with hx | hx
     .exact h.pos x hx
     grind
    .rw [EV,h.sum];simp only [AF];omega
    .rw [LO,h.alt];simp only [YJ,List.getLast?_concat,G.alt,Ap4,AoT,Ao7,decide_eq_false_iff_not,AoD];exact he
    .rw [Io];simp [A8]
def EE (l:List Rn) (x:List Int):List Rn:=x.foldl (λa v=>Gg a (v,1)) l
def BT (x:List Int):List Rn:=EE [] x
theorem Lx (l:List Rn) (x y:List Int):EE l (x++y)=EE (EE l x) y:=by simp [EE]
theorem Iu:∀(x:List Int) {l:List Rn} {n:Int},Rs l n->n+x.length<=1000000000->Rs (EE l x) (n+x.length)/\A8 (EE l x)=A8 l++x
 | [],l,n,h,_=>⟨by simpa [EE] using h,by simp [EE]⟩
 | v::x,l,n,h,hb=>by
  simp only [AoV]at hb;obtain ⟨h1,h2⟩:=Ahp (r:=(v,1)) h O O;obtain ⟨h3,h4⟩:=Iu x h1 O;have e:EE l (v::x)=EE (Gg l (v,1)) x:=rfl
  grind
theorem AfI {l:List Rn} {v a b n:Int} (h:Rs l n) (ha:1<=a) (hb:0<=b) (hs:n+a+b<=1000000000):Gg (Gg l (v,a)) (v,b)=Gg l (v,a+b):=by
 by_cases h0:b=0
 .subst h0;simp [Gg]
 .have g1:¬ a=0:=O
  have g2:¬ a+b=0:=O
  have hn:=h.sum ▸ C4 h.pos;unfold Gg;simp only [h0,g1,g2,Apa];cases hg:l.getLast? with
  | none=>
   simp only [List.getLast?_singleton,AoU,List.dropLast_singleton,Ao6];rw [w64 O O]
  | some q=>
   have hm:=KG h.pos q (List.mem_of_getLast? hg);have hp:=h.pos q (List.mem_of_getLast? hg);rw [h.sum]at hm;by_cases he:q.1=v
   .simp only [he,AoU,List.getLast?_concat,List.dropLast_concat];rw [w64 (n:=q.2+a) O O,w64 (n:=q.2+(a+b)) O O,Int.add_assoc,w64 O O]
   .simp only [he,Apa,List.getLast?_concat,AoU,List.dropLast_concat];rw [w64 O O]
theorem Xr {l:List Rn} {n:Int} (h:Rs l n) (v:Int):∀m:Nat,n+m<=1000000000->Gg l (v,(m:Int))=EE l (List.replicate m v)
 | 0,_=>by rfl
 | 1,_=>rfl
 | m+2,hb=>by
  have ih:=Xr h v (m+1) O;rw [Aqo,Lx,<- ih];show _=Gg (Gg l (v,_)) (v,1);rw [AfI h O O O]
  congr 2
def Np (most:Int) (l:List Rn):Bool:=l.all λr=>decide (0<=r.1/\r.1<=most)
def grn (most:Int):Option Int->Int->List Rn->Bool
 | _,left,[]=>decide (left=0)
 | p,left,r::l=>(decide (0<=r.1/\r.1<=most) && (decide (1<=r.2/\r.2<=left) && !(decide (p=some r.1)))) && grn most (some r.1) (left - r.2) l
def AN (l:List Rn) (many most:Int):Bool:=(decide (0<=many/\many<=120) && decide (0<=most/\most<=60)) && grn most none many l
theorem AcD (most:Int):∀(l:List Rn) (p:Option Int) (left:Int),grn most p left l=true↔(Np most l=true/\Pos l/\AF l=left/\alt p l=true)
 | [],p,left=>by
  simp only [grn,decide_eq_true_eq,Np,List.all_nil,AF,G.alt,true_and];exact⟨λh=>⟨Pos.nil,h.symm,trivial⟩,λh=>h.2.1.symm⟩
 | r::l,p,left=>by
  have ih:=AcD most l (some r.1) (left - r.2);simp only [grn,AoI,decide_eq_true_eq,ih,Np,ApZ,AF,G.alt];constructor
  .rintro ⟨⟨h1,h2,h3⟩,h4,h5,h6,h7⟩;refine⟨⟨h1,h4⟩,λq hq=>?_,O,h3,h7⟩;rcases AoY.1 hq with rfl | hq
   .exact h2.1
   .exact h5 q hq
  .rintro ⟨⟨h1,h4⟩,h5,h6,h3,h7⟩;have h8:=h5 r Z;have h9:=C4 h5.tail;exact⟨⟨h1,⟨h8,O⟩,h3⟩,h4,h5.tail,O,h7⟩
theorem goodRuns_iff {l:List Rn} {many most:Int}:AN l many most=true↔((0<=many/\many<=120)/\(0<=most/\most<=60))/\Np most l=true/\Rs l many:=by
 simp only [AN,AoI,decide_eq_true_eq,AcD];constructor
 .rintro ⟨h,h1,h2,h3,h4⟩;exact⟨h,h1,h2,h3,h4⟩
 .rintro ⟨h,h1,h2⟩;exact⟨h,h1,h2.pos,h2.sum,h2.alt⟩
def brg (rev:Int):List Int->List Prt->List Int
 | _,[]=>[]
 | a,p::c=>(a.take p.1.toNat++List.replicate p.2.2.length rev)++brg rev (a.drop (p.1+p.2.1).toNat) c
theorem L0 (rev:Int):∀(c d:List Prt) (a:List Int),(∀p∈c,Some1 p)->brg rev a (c++d)=brg rev a c++brg rev (a.drop (src c).toNat) d
 | [],d,a,_=>by rfl
 | p::c,d,a,h=>by
  have h1:=h p Z;have:=h1.k;have:=h1.d;have h2:=AV (l:=c) λq hq=>h q (by simp [hq])
  rw [Apj,brg,brg,L0 rev c d _ λq hq=>h q (by simp [hq])];simp only [AoN,Aqz,src]
  grind
theorem SR (rev:Int):∀(c:List Prt) (a:List Int),(∀p∈c,Some1 p)->(a.length:Int)=src c->(((brg rev a c).length:Nat):Int)=tgt c
 | [],a,_,_=>rfl
 | p::c,a,h,hl=>by
  have h1:=h p Z;have:=h1.k;have:=h1.d;have h2:=AV (l:=c) λq hq=>h q (by simp [hq])
  simp only [src]at hl;have ih:=SR rev c (a.drop (p.1+p.2.1).toNat) (λq hq=>h q (by simp [hq])) (by grind);simp only [brg,tgt,AoM,AoQ,ApC];omega
theorem AcI {rev:Int} {P:Int->Prop} (hr:P rev):∀(c:List Prt) (a:List Int),(∀v∈a,P v)->∀v∈brg rev a c,P v
 | [],a,_,v,hv=>by cases hv
 | p::c,a,h,v,hv=>by
  simp only [brg,AoK]at hv;rcases hv with(hv | hv) | hv
  .grind
  .grind
  .exact AcI hr c _ (λv hv=>h v (Ap2 hv)) v hv
def OA (l:List Rn) (c:List Prt) (rev:Int):List Rn:=BT (brg rev (A8 l) c)
theorem AdA {most:Int}:∀{l:List Rn},Np most l=true->∀v∈A8 l,0<=v/\v<=most
 | [],_,v,hv=>by cases hv
 | r::l,h,v,hv=>by
  simp only [Np,ApZ,AoI,decide_eq_true_eq]at h;simp only [A8,AoK]at hv;rcases hv with hv | hv
  .grind
  .exact AdA (l:=l) h.2 v hv
theorem Ac2 {most:Int}:∀{l:List Rn},Pos l->(∀v∈A8 l,0<=v/\v<=most)->Np most l=true
 | [],_,_=>rfl
 | r::l,hp,h=>by
  have h1:=hp r Z;simp only [Np,ApZ,AoI,decide_eq_true_eq];refine⟨h r.1 ?_,Ac2 hp.tail λv hv=>h v (by simp [A8,hv])⟩;exact AoK.2 (.inl (List.mem_replicate.2 ⟨O,rfl⟩))
theorem AfS {l:List Rn} {c:List Prt} {rev most m2:Int} (hg:AK c=true) (hl:AN l (src c) most=true) (h1:most<=m2) (h2:0<=rev/\rev<=m2) (h3:m2<=60) :
  AN (OA l c rev) (tgt c) m2=true/\A8 (OA l c rev)=brg rev (A8 l) c:=by
 obtain ⟨k1,k2,k3⟩:=Aq hg;have hs:=A9 k1;obtain ⟨⟨q1,q2⟩,q3,q4⟩:=goodRuns_iff.1 hl;have hlen:(((A8 l).length:Nat):Int)=src c:=by rw [MF q4.pos,q4.sum]
 have hbl:=SR rev c (A8 l) hs hlen;have ht:=Cg hs;obtain ⟨r1,r2⟩:=Iu (brg rev (A8 l) c) Rs.nil O;rw [Int.zero_add,hbl]at r1;have hrv:A8 (OA l c rev)=brg rev (A8 l) c:=by
  assumption
 refine⟨goodRuns_iff.2 ⟨⟨⟨ht,k3⟩,O,O⟩,Ac2 r1.pos ?_,r1⟩,hrv⟩;rw [hrv];exact AcI h2 c (A8 l) λv hv=>by have:=AdA q3 v hv;omega
end Go.V.G
set_option maxRecDepth 100000
namespace Go.V.G
open Go.V
def idc (n:Int):List Prt:=if n=0 then []else [(n,0,[])]
theorem Zj {n:Int} (h0:0<=n) (h:n<=120):AK (idc n)=true/\Ac (idc n)=List.replicate n.toNat .keep/\src (idc n)=n/\tgt (idc n)=n:=by
 unfold idc;split
 .rename_i e;subst e;exact⟨rfl,rfl,rfl,rfl⟩
 .rename_i hn;have hp:0 < n:=O
  have hk:kd (n,0,[])=1:=by simp [kd,hp]
  refine⟨?_,?_,?_,?_⟩
  .simp [AK,okk,hk,src,tgt,h]
  .simp only [Ac,Ap9,List.flatMap_nil,AoW];exact GK h0
  .simp [src]
  .simp [tgt]
theorem Ns:∀y:List Atom,comp (List.replicate (nS y) .keep) y=y
 | []=>by simp [nS,comp]
 | .ins b::y=>by rw [nS,comp,Ns y]
 | .keep::y=>by rw [nS,ApE,comp,Ns y]
 | .drop::y=>by rw [nS,ApE,comp,Ns y]
theorem VX {c:List Prt} (h:AK c=true):nS (Ac c)=(src c).toNat/\0<=src c/\src c<=120/\0<=tgt c/\tgt c<=120/\nT (Ac c)=(tgt c).toNat:=by
 obtain ⟨h1,h2,h3⟩:=Aq h;have hs:=A9 h1;have:=OZ hs;have:=J0 hs;have:=AV hs;have:=Cg hs;omega
theorem AbK {c:List Prt} (h:AK c=true):AQ (idc (src c)) c=c:=by
 obtain ⟨q1,q2,q3,q4,q5,q6⟩:=VX h;obtain ⟨i1,i2,i3,i4⟩:=Zj q2 q3;obtain ⟨k1,k2,k3,k4⟩:=DU i1 h i4;refine Om (k:=0) (j:=0) (Aq k1).1 (Aq h).1 ?_;rw [k2,i2,<- q1,Ns]
def chn:Int->List (List Prt)->Bool
 | _,[]=>true
 | n,c::cs=>(AK c && decide (src c=n)) && chn (tgt c) cs
def Du:Int->List (List Prt)->Int
 | n,[]=>n
 | _,c::cs=>Du (tgt c) cs
theorem Pv:∀(n:Int) (a b:List (List Prt)),chn n (a++b)=(chn n a && chn (Du n a) b)
 | _,[],b=>by simp [chn,Du]
 | n,c::a,b=>by simp only [Apj,chn,Du,Pv (tgt c) a b,Aqu]
theorem OB:∀(n:Int) (a b:List (List Prt)),Du n (a++b)=Du (Du n a) b
 | _,[],b=>rfl
 | n,c::a,b=>OB (tgt c) a b
theorem E0 {n:Int} {c:List Prt} {cs:List (List Prt)} (h:chn n (c::cs)=true):AK c=true/\src c=n/\chn (tgt c) cs=true:=by
 simp only [chn,AoI,decide_eq_true_eq]at h;exact⟨h.1.1,h.1.2,h.2⟩
theorem WQ:∀{n:Int} {cs:List (List Prt)},chn n cs=true->0<=n->n<=120->0<=Du n cs/\Du n cs<=120
 | n,[],_,h0,h1=>⟨h0,h1⟩
 | n,c::cs,h,h0,h1=>by
  obtain ⟨k1,k2,k3⟩:=E0 h;obtain ⟨_,_,_,q4,q5,_⟩:=VX k1;exact WQ (n:=tgt c) k3 q4 q5
theorem WR:∀{n:Int} {cs:List (List Prt)},chn n cs=true->∀c∈cs,AK c=true
 | n,c::cs,h,x,hx=>by
  obtain ⟨k1,k2,k3⟩:=E0 h;rcases AoY.1 hx with rfl | hx
  .exact k1
  .exact WR k3 x hx
theorem Dg {n:Int} {cs:List (List Prt)} (h:chn n cs=true) (k:Nat):chn n (cs.take k)=true/\chn (Du n (cs.take k)) (cs.drop k)=true:=by
 have:=Pv n (cs.take k) (cs.drop k);rw [Apm,h]at this;have:=this.symm
 rwa [AoI]at this
def txt (t:List UInt8) (cs:List (List Prt)):List UInt8:=cs.foldl (λt c=>apply t c) t
theorem AgS {t:List UInt8} {c:List Prt} (hg:AK c=true) (h:(t.length:Int)=src c):(((apply t c).length:Nat):Int)=tgt c:=by
 obtain ⟨q1,q2,q3,q4,q5,q6⟩:=VX hg;have:=QX (Ac c) t O;unfold apply;omega
theorem Sf:∀{cs:List (List Prt)} {t:List UInt8},chn (t.length:Int) cs=true->(((txt t cs).length:Nat):Int)=Du (t.length:Int) cs
 | [],t,_=>rfl
 | c::cs,t,h=>by
  obtain ⟨k1,k2,k3⟩:=E0 h;have hl:=AgS k1 k2.symm;show(((txt (apply t c) cs).length:Nat):Int)=Du (tgt c) cs;rw [<- hl]at k3 ⊢;exact Sf k3
def btw (n:Int) (cs:List (List Prt)):List Prt:=cs.foldl (λa c=>AQ a c) (idc n)
theorem NX:∀{cs:List (List Prt)} {a:List Prt},AK a=true->chn (tgt a) cs=true->
  AK (cs.foldl (λa c=>AQ a c) a)=true/\src (cs.foldl (λa c=>AQ a c) a)=src a/\tgt (cs.foldl (λa c=>AQ a c) a)=Du (tgt a) cs
 | [],a,h,_=>⟨h,rfl,rfl⟩
 | c::cs,a,h,hc=>by
  obtain ⟨k1,k2,k3⟩:=E0 hc;obtain ⟨q1,q2,q3,q4⟩:=DU h k1 k2.symm;rw [<- q4]at k3;obtain ⟨r1,r2,r3⟩:=NX q1 k3;exact⟨r1,by rw [ApU,r2,q3],by rw [ApU,r3,q4];rfl⟩
theorem Y0 {n:Int} {cs:List (List Prt)} (h:chn n cs=true) (h0:0<=n) (h1:n<=120):AK (btw n cs)=true/\src (btw n cs)=n/\tgt (btw n cs)=Du n cs:=by
 obtain ⟨i1,i2,i3,i4⟩:=Zj h0 h1;obtain ⟨r1,r2,r3⟩:=NX i1 (by rw [i4];exact h);exact⟨r1,by rw [btw,r2,i3],by rw [btw,r3,i4]⟩
theorem TG {n:Int} {c:List Prt} {cs:List (List Prt)} (h:chn n (c::cs)=true):btw n (c::cs)=cs.foldl (λa c=>AQ a c) c:=by
 obtain ⟨k1,k2,k3⟩:=E0 h;subst k2;unfold btw;rw [ApU,AbK k1]
def blm:Int->List Rn->List (List Prt)->List Rn
 | _,l,[]=>l
 | rev,l,c::cs=>blm (rev+1) (OA l c rev) cs
theorem Vr:∀(rev:Int) (l:List Rn) (a b:List (List Prt)),blm rev l (a++b)=blm (rev+a.length) (blm rev l a) b
 | rev,l,[],b=>by simp [blm]
 | rev,l,c::a,b=>by
  simp only [Apj,blm,Vr (rev+1) (OA l c rev) a b,AoV]
  congr 1;omega
theorem Abk:∀{cs:List (List Prt)} {rev n:Int} {l:List Rn},chn n cs=true->AN l n (rev - 1)=true->rev - 1+cs.length<=60->0<=rev->AN (blm rev l cs) (Du n cs) (rev - 1+cs.length)=true
 | [],rev,n,l,_,h,_,_=>by simpa [blm,Du] using h
 | c::cs,rev,n,l,hc,h,hb,h0=>by
  obtain ⟨k1,k2,k3⟩:=E0 hc;subst k2;simp only [AoV]at hb ⊢;have h1:=(AfS (rev:=rev) (m2:=rev) k1 h O O O).1;have:=Abk (rev:=rev+1) k3 (by rw [(O:rev+1 - 1=rev)];exact h1) O O;rw [(O:rev+1 - 1+(cs.length:Int)=rev - 1+((cs.length+1:Nat):Int))]at this;exact this
def F6 (f:Int) (t:List UInt8) (r:List Rn) (cs:List (List Prt)):Bool:=
 decide (0<=f/\f<=60) && (decide ((t.length:Int)<=120) && (AN r (t.length:Int) f && (decide ((cs.length:Int)<=60 - f) && chn (t.length:Int) cs)))
structure GH (f:Int) (t:List UInt8) (r:List Rn) (cs:List (List Prt)):Prop where
 hf:0<=f/\f<=60
 ht:(t.length:Int)<=120
 hr:AN r (t.length:Int) f=true
 hn:(cs.length:Int)<=60 - f
 hc:chn (t.length:Int) cs=true
theorem goodH_iff {f:Int} {t:List UInt8} {r:List Rn} {cs:List (List Prt)}:F6 f t r cs=true↔GH f t r cs:=by
 simp only [F6,AoI,decide_eq_true_eq];exact⟨λ⟨h1,h2,h3,h4,h5⟩=>⟨h1,h2,h3,h4,h5⟩,λ⟨h1,h2,h3,h4,h5⟩=>⟨h1,h2,h3,h4,h5⟩⟩
structure HB (t:List UInt8) (r:List Rn) (cs:List (List Prt)):Prop where
 ht:t.length<=1099511627776
 hr:r.length<=1099511627776
 hn:cs.length<=1099511627776
 hc:∀c∈cs,Sm 1099511627776 c
theorem GH.hb {f:Int} {t:List UInt8} {r:List Rn} {cs:List (List Prt)} (h:GH f t r cs):HB t r cs:=by
 have h1:=h.ht;have h2:=h.hn;have h3:=h.hf;obtain ⟨_,_,h6⟩:=goodRuns_iff.1 h.hr;have:=GI h6.pos;rw [h6.sum]at this;exact⟨O,O,O,λc hc=>(CG (WR h.hc c hc)).mono O⟩
end Go.V.G
set_option maxRecDepth 100000
namespace Go.V.G
open Go.V
def prv (l:List Rn) (i:Nat):Option Int:=if i=0 then none else(l[i - 1]?).map (·.1)
theorem Aaw {l:List Rn} {i:Nat} (h:i < l.length):prv l (i+1)=some l[i].1:=by simp [prv,AoF h]
theorem Aar {l:List Rn} {i:Nat} (h:i < l.length) (most left:Int) (p:Option Int):grn most p left (l.drop i)=((decide (0<=l[i].1/\l[i].1<=most) && (decide (1<=l[i].2/\l[i].2<=left) && !(decide (p=some l[i].1)))) && grn most (some l[i].1) (left - l[i].2) (l.drop (i+1))):=by
 rw [Aph h];rfl
theorem QA {l:List Rn} (hl:l.length<=1099511627776) (many most:Int):JP l many most=some (AN l many most):=by
 unfold JP;refine Ok.eq (Ok.bind (Q:=λv=>v=(l,many,most,!(decide (0<=many/\many<=120) && decide (0<=most/\most<=60)))) ?_ ?_)
 .refine Ok.bind_eq (AE _ _ _) (Ok.ite (λh=>Ok.mk ?_) λh=>Ok.bind_eq (AE _ _ _) (Ok.mk ?_))
  .grind
  grind
 rintro _ rfl;dsimp only;refine Ok.ite (λhb=>Ok.mk ?_) λhb=>?_
 .have hb':(decide (0<=many/\many<=120) && decide (0<=most/\most<=60))=false:=by grind
  unfold AN;rw [hb'];rfl
 have hb':(decide (0<=many/\many<=120) && decide (0<=most/\most<=60))=true:=by grind
 have hg:AN l many most=grn most none many l:=by unfold AN;grind
 rw [AoI,decide_eq_true_eq,decide_eq_true_eq]at hb';rw [hg];refine Ok.bind (Q:=λr=>match r with | .inl y=>decide (y.2=y.1)=grn most none many l | .inr b=>b=grn most none many l) ?_ (by rintro (y | b) hr <;> exact Ok.mk hr);refine Ok.loop (λy=>y.1=l/\y.2.1=many/\y.2.2.1=most/\(0<=y.2.2.2.1/\y.2.2.2.1<=many)/\y.2.2.2.2.1=l/\y.2.2.2.2.2.1=(l.length:Int)/\∃i:Nat,y.2.2.2.2.2.2=(i:Int)/\i<=l.length/\grn most none many l=grn most (prv l i) (many - y.2.2.2.1) (l.drop i))
  (λy=>((l.length:Int) - y.2.2.2.2.2.2).toNat) ⟨rfl,rfl,rfl,⟨Z,hb'.1.1⟩,rfl,rfl,0,rfl,ApP _,by simp [prv]⟩ ?_
 rintro ⟨l1,m1,s1,all,l2,n,i'⟩ ⟨e1,e2,e3,⟨h0,h1⟩,e4,e5,i,e6,hi,hk⟩;dsimp only at e1 e2 e3 h0 h1 e4 e5 e6 hk;subst e1 e2 e3 e4 e5 e6;unfold Qy gX wI;dsimp only;refine Ok.ite (λhc=>?_) λhc=>?_
 .have hlt:i < l2.length:=by grind
  have hge:l2[Int.toNat (i:Int)]?=some l2[i]:=by simp [hlt]
  refine Ok.yes Z (Ok.bind_eq hge ?_);refine Ok.bind (Q:=λv=>v=(l2,m1,s1,all,l2,(l2.length:Int),(i:Int),!(decide (0<=l2[i].1/\l2[i].1<=s1) && (decide (1<=l2[i].2/\l2[i].2<=120) && !(decide (prv l2 i=some l2[i].1)))),l2[i].1,l2[i].2)) ?_ ?_
  .refine Ok.bind_eq (AE _ _ _) (Ok.ite (λh=>Ok.mk ?_) λh=>Ok.bind_eq (AE _ _ _) (Ok.ite (λh2=>Ok.mk ?_) λh2=>?_))
   .grind
   .grind
   .have h':decide (0<=l2[i].1/\l2[i].1<=s1)=true:=by grind
    have h2':decide (1<=l2[i].2/\l2[i].2<=120)=true:=by grind
    rw [h',h2',AoT,AoT,Bool.not_not];refine Ok.ite (λhp=>?_) λhp=>Ok.mk ?_
    .have hp':0 < i:=by grind
     have e:IntKind.wrap .i64 ((i:Int) - 1)=((i - 1:Nat):Int):=by rw [w64 O O];omega
     have hl1:i - 1 < l2.length:=O
     refine Ok.yes (by simp [e]) (Ok.bind_eq (r:=l2[i - 1]) (by simp_all) (Ok.mk ?_));have hne:¬ i=0:=O
     simp [prv,hne,AoF hl1]
    .have:i=0:=by
      grind
     subst this;simp [prv]
  rintro _ rfl;dsimp only;rw [Aar hlt]at hk;refine Ok.ite (λhbad=>Ok.mk ?_) λhgood=>?_
  .grind
  .have hgood':(decide (0<=l2[i].1/\l2[i].1<=s1) && (decide (1<=l2[i].2/\l2[i].2<=120) && !(decide (prv l2 i=some l2[i].1))))=true:=by grind
   rw [AoI,AoI,decide_eq_true_eq,decide_eq_true_eq]at hgood';obtain ⟨q1,q2,q3⟩:=hgood';have w:IntKind.wrap .i64 (all+l2[i].2)=all+l2[i].2:=w64 O O;rw [w];refine Ok.ite (λhbig=>Ok.mk ?_) λhfit=>Ok.mk ⟨⟨rfl,rfl,rfl,?_,rfl,rfl,i+1,Ao hl hlt,O,?_⟩,?_⟩
   .grind
   .grind
   .have hf:¬ m1 < all+l2[i].2:=by grind
    have q4:1<=l2[i].2/\l2[i].2<=m1 - all:=O
    dsimp only;rw [hk,Aaw hlt,q3]
    grind
   .rw [Ao hl hlt];grind
 .have:i=l2.length:=by
   grind
  subst this;refine Ok.mk ?_;dsimp only;rw [hk,Ap3,grn]
  grind
theorem Qu {l:List Rn} (hl:l.length<=1099511627776) (many most:Int):J2 l many most=some (AN l many most):=by
 unfold J2;refine Ok.eq (Ok.bind (Q:=λv=>v=(l,many,most,!(decide (0<=many/\many<=120) && decide (0<=most/\most<=60)))) ?_ ?_)
 .refine Ok.bind_eq (Cm _ _ _) (Ok.ite (λh=>Ok.mk ?_) λh=>Ok.bind_eq (Cm _ _ _) (Ok.mk ?_))
  .grind
  grind
 rintro _ rfl;dsimp only;refine Ok.ite (λhb=>Ok.mk ?_) λhb=>?_
 .have hb':(decide (0<=many/\many<=120) && decide (0<=most/\most<=60))=false:=by grind
  unfold AN;rw [hb'];rfl
 have hb':(decide (0<=many/\many<=120) && decide (0<=most/\most<=60))=true:=by grind
 have hg:AN l many most=grn most none many l:=by unfold AN;grind
 rw [AoI,decide_eq_true_eq,decide_eq_true_eq]at hb';rw [hg];refine Ok.bind (Q:=λr=>match r with | .inl y=>decide (y.2=y.1)=grn most none many l | .inr b=>b=grn most none many l) ?_ (by rintro (y | b) hr <;> exact Ok.mk hr);refine Ok.loop (λy=>y.1=l/\y.2.1=many/\y.2.2.1=most/\(0<=y.2.2.2.1/\y.2.2.2.1<=many)/\y.2.2.2.2.1=l/\y.2.2.2.2.2.1=(l.length:Int)/\∃i:Nat,y.2.2.2.2.2.2=(i:Int)/\i<=l.length/\grn most none many l=grn most (prv l i) (many - y.2.2.2.1) (l.drop i))
  (λy=>((l.length:Int) - y.2.2.2.2.2.2).toNat) ⟨rfl,rfl,rfl,⟨Z,hb'.1.1⟩,rfl,rfl,0,rfl,ApP _,by simp [prv]⟩ ?_
 rintro ⟨l1,m1,s1,all,l2,n,i'⟩ ⟨e1,e2,e3,⟨h0,h1⟩,e4,e5,i,e6,hi,hk⟩;dsimp only at e1 e2 e3 h0 h1 e4 e5 e6 hk;subst e1 e2 e3 e4 e5 e6;unfold QG gX wI;dsimp only;have wm:IntKind.wrap .i64 (m1 - all)=m1 - all:=w64 O O;rw [wm];refine Ok.ite (λhc=>?_) λhc=>?_
 .have hlt:i < l2.length:=by grind
  have hge:l2[Int.toNat (i:Int)]?=some l2[i]:=by simp [hlt]
  refine Ok.yes Z (Ok.bind_eq hge ?_);refine Ok.bind (Q:=λv=>v=(l2,m1,s1,all,l2,(l2.length:Int),(i:Int),!(decide (0<=l2[i].1/\l2[i].1<=s1) && (decide (1<=l2[i].2/\l2[i].2<=m1 - all) && !(decide (prv l2 i=some l2[i].1)))),l2[i].1,l2[i].2)) ?_ ?_
  .refine Ok.bind_eq (Cm _ _ _) (Ok.ite (λh=>Ok.mk ?_) λh=>Ok.bind_eq (Cm _ _ _) (Ok.ite (λh2=>Ok.mk ?_) λh2=>?_))
   .grind
   .grind
   .have h':decide (0<=l2[i].1/\l2[i].1<=s1)=true:=by grind
    have h2':decide (1<=l2[i].2/\l2[i].2<=m1 - all)=true:=by grind
    rw [h',h2',AoT,AoT,Bool.not_not];refine Ok.ite (λhp=>?_) λhp=>Ok.mk ?_
    .have hp':0 < i:=by grind
     have e:IntKind.wrap .i64 ((i:Int) - 1)=((i - 1:Nat):Int):=by rw [w64 O O];omega
     have hl1:i - 1 < l2.length:=O
     refine Ok.yes (by simp [e]) (Ok.bind_eq (r:=l2[i - 1]) (by simp_all) (Ok.mk ?_));have hne:¬ i=0:=O
     simp [prv,hne,AoF hl1]
    .have:i=0:=by
      grind
     subst this;simp [prv]
  rintro _ rfl;dsimp only;rw [Aar hlt]at hk;refine Ok.ite (λhbad=>Ok.mk ?_) λhgood=>?_
  .grind
  .have hgood':(decide (0<=l2[i].1/\l2[i].1<=s1) && (decide (1<=l2[i].2/\l2[i].2<=m1 - all) && !(decide (prv l2 i=some l2[i].1))))=true:=by grind
   rw [hgood',AoT]at hk;rw [AoI,AoI,decide_eq_true_eq,decide_eq_true_eq]at hgood';obtain ⟨q1,q2,q3⟩:=hgood';have w:IntKind.wrap .i64 (all+l2[i].2)=all+l2[i].2:=w64 O O;rw [w];refine Ok.mk ⟨⟨rfl,rfl,rfl,by grind,rfl,rfl,i+1,Ao hl hlt,O,?_⟩,?_⟩
   .dsimp only;rw [hk,Aaw hlt]
    grind
   .rw [Ao hl hlt];grind
 .have:i=l2.length:=by
   grind
  subst this;refine Ok.mk ?_;dsimp only;rw [hk,Ap3,grn]
  grind
theorem JW {n m b:Nat} (h:n+m<=1099511627776) (hb:b<=64):Aa (n+m) b=true:=by
 simp only [Aa,decide_eq_true_eq];have:(n+m) * b<=1099511627776 * 64:=Nat.mul_le_mul h hb;omega
theorem Ru {l:List Rn} {i:Nat} (h:i < l.length):A8 (l.take (i+1))=A8 (l.take i)++List.replicate l[i].2.toNat l[i].1:=by
 rw [AoL h,Io];simp [A8]
theorem LA {l:List Rn} (hp:Pos l) (i:Nat):(A8 (l.take i)).length<=(AF l).toNat:=by
 have h1:=MF (l:=l.take i) λq hq=>hp q (ApL hq)
 have h2:AF l=AF (l.take i)+AF (l.drop i):=by rw [<- EV,Apm]
 have h3:=C4 (l:=l.drop i) λq hq=>hp q (Ap2 hq)
 omega
theorem AfN {l:List Rn} (hp:Pos l) (hs:AF l<=1000000000):UO l=some (A8 l):=by
 have hlen:=GI hp;unfold UO;have:=Af La (λi=>(A8 (l.take i),l,(l.length:Int),((i:Nat):Int))) l.length (A8 l) (by
  intro i hi;have hc:((i:Nat):Int) < (l.length:Int):=O
  have hm:=KG hp _ (AoR hi);have hr:=LA hp i;have inner:Ab Lj (A8 (l.take i),l,(l.length:Int),((i:Nat):Int),l[i].2,0,l[i].1,l[i].2)=some (A8 (l.take (i+1)),l,(l.length:Int),((i:Nat):Int)):=by
   have:=Af Lj (λq=>(A8 (l.take i)++List.replicate q l[i].1,l,(l.length:Int),((i:Nat):Int),l[i].2,((q:Nat):Int),l[i].1,l[i].2)) l[i].2.toNat (A8 (l.take (i+1)),l,(l.length:Int),((i:Nat):Int)) (by
    intro q hq';have h1:((q:Nat):Int) < l[i].2:=O
    have h2:Aa (List.length (A8 (l.take i)++List.replicate q l[i].1)+List.length ([l[i].1]:List Int)) 8=true:=JW (by grind) O;have h3:IntKind.wrap .i64 (((q:Nat):Int)+1)=((q+1:Nat):Int):=by rw [w64 O O];omega
    unfold Lj cK wI;simp only [h1,h2,h3,decide_true,AoU,AoN,Aqo]) (by
     have h1:¬ (((l[i].2.toNat:Nat)):Int) < l[i].2:=O
     unfold Lj cK wI;simp only [h1,decide_false,AoO,Apa,Ru hi])
   grind
  unfold La gX wI;simp only [hc,decide_true,AoU,show(0:Int)<=((i:Nat):Int) from by omega,AoE,AoF hi,AoC,inner,Ao (O:l.length<=1099511627776) hi]) (by simp [La,gX,wI])
 have e:Ab La ([],l,(l.length:Int),0)=some (A8 l):=this;rw [e];rfl
theorem AfX {l:List Rn} (hp:Pos l) (hs:AF l<=1000000000):PM l=some (A8 l):=by
 have hlen:=GI hp;unfold PM;have:=Af Iy (λi=>(A8 (l.take i),l,(l.length:Int),((i:Nat):Int))) l.length (A8 l) (by
  intro i hi;have hc:((i:Nat):Int) < (l.length:Int):=O
  have hq:=hp _ (AoR hi);have hm:=KG hp _ (AoR hi);have hr:=LA hp i;have hr2:=LA hp (i+1);rw [Ru hi,AoM,ApC]at hr2;have inner:Ab Ii (A8 (l.take i),0,l,(l.length:Int),((i:Nat):Int),l[i].1,l[i].2)=some (A8 (l.take (i+1)),l,(l.length:Int),((i:Nat):Int)):=by
   have:=Af Ii (λq=>(A8 (l.take i)++List.replicate q l[i].1,((q:Nat):Int),l,(l.length:Int),((i:Nat):Int),l[i].1,l[i].2)) l[i].2.toNat (A8 (l.take (i+1)),l,(l.length:Int),((i:Nat):Int)) (by
    intro q hq';have h1:((q:Nat):Int) < l[i].2:=O
    have h2:Aa (List.length (A8 (l.take i)++List.replicate q l[i].1)+List.length ([l[i].1]:List Int)) 8=true:=JW (by grind) O;have h3:IntKind.wrap .i64 (((q:Nat):Int)+1)=((q+1:Nat):Int):=by rw [w64 O O];omega
    unfold Ii cK wI;simp only [h1,h2,h3,decide_true,AoU,AoN,Aqo]) (by
     have h1:¬ (((l[i].2.toNat:Nat)):Int) < l[i].2:=O
     unfold Ii cK wI;simp only [h1,decide_false,AoO,Apa,Ru hi])
   grind
  unfold Iy gX wI;simp only [hc,decide_true,AoU,show(0:Int)<=((i:Nat):Int) from by omega,AoE,AoF hi,AoC,inner,Ao (O:l.length<=1099511627776) hi]) (by simp [Iy,gX,wI])
 simp only [AqA]at this;have e:Ab Iy ([],l,(l.length:Int),0)=some (A8 l):=this;rw [e];rfl
theorem VD {l:List Rn} (hl:l.length<=1000000000) (v n:Int):O5 l v n=some (Gg l (v,n)):=by
 unfold O5 Gg cK cZ wI;by_cases h0:n=0
 .simp [h0]
 .rw [AoH (by grind),AoH h0];have hroom:Aa (List.length l+List.length ([(v,n)]:List (Int×Int))) 16=true:=JW Aoz O;cases hg:l.getLast? with
  | none=>
   simp_all
  | some q=>
   obtain ⟨m,hm,hq,hset⟩:=MP hg;have e1:IntKind.wrap .i64 ((l.length:Int) - 1)=(m:Int):=by rw [hm,w64 O O];omega
   have hpos:(0:Int) < (l.length:Int):=O
   have hlt:(m:Int) < (l.length:Int):=O
   have hge:(0:Int)<=(m:Int):=O
   by_cases hk:q.1=v
   .simp_all
   simp_all
theorem AbT {x:List Int} {i:Nat} (h:i < x.length):BT (x.take (i+1))=Gg (BT (x.take i)) (x[i],1):=by
 unfold BT;rw [AoL h,Lx];rfl
theorem AgB {x:List Int} (hx:x.length<=1000000):VC x=some (BT x):=by
 unfold VC;have:=Af Jf (λi=>(BT (x.take i),x,(x.length:Int),((i:Nat):Int))) x.length (BT x) (by
  intro i hi;have hc:((i:Nat):Int) < (x.length:Int):=O
  obtain ⟨r1,r2⟩:=Iu (x.take i) Rs.nil (by grind);have hlen:=GI r1.pos;rw [r1.sum,AoQ]at hlen;have hstep:Jf (BT (x.take i),x,(x.length:Int),((i:Nat):Int))=some (.inl (Gg (BT (x.take i)) (x[i],1),x,(x.length:Int),((i+1:Nat):Int))):=by
   generalize hL:BT (x.take i)=L;have hL':EE [] (x.take i)=L:=hL;rw [hL']at r1 hlen;have hroom:Aa (List.length L+List.length ([(x[i],1)]:List (Int×Int))) 16=true:=JW Aoz O;unfold Jf Gg cK cZ gX wI;simp only [hc,decide_true,AoU,show(0:Int)<=((i:Nat):Int) from by omega,AoE,AoF hi,AoC];cases hg:L.getLast? with
   | none=>
    obtain rfl:L=[]:=by simpa using hg
    simp [Aa,Ao (O:x.length<=1099511627776) hi]
   | some q=>
    obtain ⟨m,hm,hq,hset⟩:=MP hg;have e1:IntKind.wrap .i64 ((L.length:Int) - 1)=(m:Int):=by rw [hm,w64 O O];omega
    have hpos:(0:Int) < (L.length:Int):=O
    have hlt:(m:Int) < (L.length:Int):=O
    have hge:(0:Int)<=(m:Int):=O
    by_cases hk:q.1=x[i]
    .simp only [e1,hpos,hlt,hge,decide_true,AoU,AoE,AoS,hq,AoC,hk,hset,Ao (O:x.length<=1099511627776) hi,show ¬ ((1:Int)=0) from by decide,Apa]
    .have hk':decide (q.1=x[i])=false:=by grind
     simp only [e1,hpos,hlt,hge,decide_true,AoU,AoE,AoS,hq,AoC,AoO,decide_false,Apa,hroom,Ao (O:x.length<=1099511627776) hi,hk,show ¬ ((1:Int)=0) from by decide]
  rw [hstep,AbT hi]) (by simp [Jf,cK,cZ,gX,wI])
 have e:Ab Jf ([],x,(x.length:Int),0)=some (BT x):=by assumption
 rw [e];rfl
theorem TM {rev:Int} {all:List Int} {c:List Prt} (hs:∀p∈c,Some1 p) {i:Nat} (h:i < c.length) :
  brg rev all (c.take (i+1))=(brg rev all (c.take i)++(all.drop (src (c.take i)).toNat).take c[i].1.toNat)++List.replicate c[i].2.2.length rev:=by
 rw [AoL h,L0 rev _ _ _ λp hp=>hs p (Co hp)];simp [brg]
theorem WC {l:List Rn} {c:List Prt} {rev:Int} (hg:AK c=true) (hp:Pos l) (hl:AF l=src c):KS l c rev=some (OA l c rev):=by
 obtain ⟨g1,g2,g3⟩:=Aq hg;have hs:=A9 g1;have hsm:=CG hg;have hclen:=hsm.len;have hall:(((A8 l).length:Nat):Int)=src c:=by rw [MF hp,hl]
 have hbl:=SR rev c (A8 l) hs hall;unfold KS OA;rw [AfN hp O,AoC];generalize A8 l=all at hall hbl ⊢;have main:=Af FP (λi=>(rev,all,brg rev all (c.take i),src (c.take i),c,(c.length:Int),((i:Nat):Int))) c.length (brg rev all c) (by
  intro i hi;have hc:((i:Nat):Int) < (c.length:Int):=O
  have hpi:=hs _ (AoR hi);have k0:=hpi.k;have d0:=hpi.d;have n1:=AV (l:=c.take i) λp h=>hs p (Co h)
  have n3:=AV (l:=c.drop (i+1)) λp h=>hs p (CC h)
  have a1:=JC hi;have a2:=Kw hi;have hput:c[i].2.2.length<=240:=Ao2 (Gi (AoR hi)) hsm.put;have hb1:(brg rev all (c.take i)).length<=120:=by
   have h1:=TM (rev:=rev) (all:=all) hs hi;have h2:brg rev all c=brg rev all (c.take i)++brg rev (all.drop (src (c.take i)).toNat) (c.drop i):=by
    conv=>lhs;rw [<- Apm i c]
    exact L0 rev _ _ _ λp hp=>hs p (Co hp)
   grind
  have w1:IntKind.wrap .i64 (src (c.take i)+c[i].1)=src (c.take i)+c[i].1:=w64 O O;have w2:IntKind.wrap .i64 (c[i].1+c[i].2.1)=c[i].1+c[i].2.1:=w64 O O;have w3:IntKind.wrap .i64 (src (c.take i)+(c[i].1+c[i].2.1))=src (c.take (i+1)):=by rw [w64 O O];omega
  have e1:(src (c.take i)+c[i].1).toNat - (src (c.take i)).toNat=c[i].1.toNat:=O
  have hle:src (c.take i)+c[i].1<=(all.length:Int):=O
  have hll:src (c.take i)<=src (c.take i)+c[i].1:=O
  have hr:Aa (List.length (brg rev all (c.take i))+List.length ((all.drop (src (c.take i)).toNat).take c[i].1.toNat)) 8=true:=JW (by grind) O;have inner:Ab FY (rev,all,brg rev all (c.take i)++(all.drop (src (c.take i)).toNat).take c[i].1.toNat,src (c.take (i+1)),c,(c.length:Int),((i:Nat):Int),(c[i].2.2.length:Int),0) =
    some (rev,all,brg rev all (c.take (i+1)),src (c.take (i+1)),c,(c.length:Int),((i:Nat):Int)):=by
   have:=Af FY (λq=>(rev,all,(brg rev all (c.take i)++(all.drop (src (c.take i)).toNat).take c[i].1.toNat)++List.replicate q rev,src (c.take (i+1)),c,(c.length:Int),((i:Nat):Int),(c[i].2.2.length:Int),((q:Nat):Int))) c[i].2.2.length
    (rev,all,brg rev all (c.take (i+1)),src (c.take (i+1)),c,(c.length:Int),((i:Nat):Int)) (by
    intro q hq;have h1:((q:Nat):Int) < (c[i].2.2.length:Int):=O
    have h2:Aa (List.length ((brg rev all (c.take i)++(all.drop (src (c.take i)).toNat).take c[i].1.toNat)++List.replicate q rev)+List.length ([rev]:List Int)) 8=true:=
     JW (by grind) O
    unfold FY cK wI;simp only [h1,h2,decide_true,AoU,Ao (O:c[i].2.2.length<=1099511627776) hq];simp only [AoN,Aqo]) (by
     have h1:¬ (((c[i].2.2.length:Nat)):Int) < (c[i].2.2.length:Int):=O
     unfold FY cK wI;simp only [h1,decide_false,AoO,Apa,TM hs hi])
   grind
  unfold FP cK gX sX wI;simp only [hc,decide_true,AoU,show(0:Int)<=((i:Nat):Int) from by omega,AoE,AoF hi,AoC,w1,w2,w3,n1,hll,hle,ApI,e1,hr,inner,Ao (O:c.length<=1099511627776) hi]) (by simp [FP,cK,gX,sX,wI])
 have e:Ab FP (rev,all,[],0,c,(c.length:Int),0)=some (brg rev all c):=by assumption
 rw [e,AoC,AgB O];rfl
theorem AbG {l:List Rn} {c:List Prt} {rev:Int} (hg:AK c=true) (hp:Pos l) (hl:AF l=src c):NK l c rev=some (OA l c rev):=by
 obtain ⟨g1,g2,g3⟩:=Aq hg;have hs:=A9 g1;have hsm:=CG hg;have hclen:=hsm.len;have hall:(((A8 l).length:Nat):Int)=src c:=by rw [MF hp,hl]
 have hbl:=SR rev c (A8 l) hs hall;unfold NK OA;rw [AfX hp O,AoC];generalize A8 l=all at hall hbl ⊢;have main:=Af HA (λi=>(rev,all,BT (brg rev all (c.take i)),src (c.take i),c,(c.length:Int),((i:Nat):Int))) c.length (BT (brg rev all c)) (by
  intro i hi;have hc:((i:Nat):Int) < (c.length:Int):=O
  have hpi:=hs _ (AoR hi);have k0:=hpi.k;have d0:=hpi.d;have n1:=AV (l:=c.take i) λp h=>hs p (Co h)
  have n3:=AV (l:=c.drop (i+1)) λp h=>hs p (CC h)
  have a1:=JC hi;have a2:=Kw hi;have hput:c[i].2.2.length<=240:=Ao2 (Gi (AoR hi)) hsm.put;have hb1:(brg rev all (c.take (i+1))).length<=120:=by
   have h2:brg rev all c=brg rev all (c.take (i+1))++brg rev (all.drop (src (c.take (i+1))).toNat) (c.drop (i+1)):=by
    conv=>lhs;rw [<- Apm (i+1) c]
    exact L0 rev _ _ _ λp hp=>hs p (Co hp)
   grind
  have hbt:=TM (rev:=rev) (all:=all) hs hi;have hbt2:(brg rev all (c.take (i+1))).length=((brg rev all (c.take i)).length+((all.drop (src (c.take i)).toNat).take c[i].1.toNat).length)+c[i].2.2.length:=by grind
  have w2:IntKind.wrap .i64 (c[i].1+c[i].2.1)=c[i].1+c[i].2.1:=w64 O O;have w3:IntKind.wrap .i64 (src (c.take i)+(c[i].1+c[i].2.1))=src (c.take (i+1)):=by rw [w64 O O];omega
  generalize hX:brg rev all (c.take i)=X at hbt hbt2;have hlt2:((all.drop (src (c.take i)).toNat).take c[i].1.toNat).length=c[i].1.toNat:=by grind
  have inner:Ab G6 (rev,all,BT X,src (c.take i),0,c,(c.length:Int),((i:Nat):Int),c[i].1,c[i].2.1,c[i].2.2) =
    some (rev,all,BT (X++(all.drop (src (c.take i)).toNat).take c[i].1.toNat),src (c.take i),c,(c.length:Int),((i:Nat):Int),c[i].1,c[i].2.1,c[i].2.2):=by
   have:=Af G6 (λq=>(rev,all,BT (X++(all.drop (src (c.take i)).toNat).take q),src (c.take i),((q:Nat):Int),c,(c.length:Int),((i:Nat):Int),c[i].1,c[i].2.1,c[i].2.2)) c[i].1.toNat
    (rev,all,BT (X++(all.drop (src (c.take i)).toNat).take c[i].1.toNat),src (c.take i),c,(c.length:Int),((i:Nat):Int),c[i].1,c[i].2.1,c[i].2.2) (by
    intro q hq;have h1:((q:Nat):Int) < c[i].1:=O
    have w:IntKind.wrap .i64 (src (c.take i)+((q:Nat):Int))=src (c.take i)+((q:Nat):Int):=w64 O O;have h2:(0:Int)<=src (c.take i)+((q:Nat):Int):=O
    have h3:src (c.take i)+((q:Nat):Int) < (all.length:Int):=O
    have hi2:(src (c.take i)).toNat+q < all.length:=O
    have e2:(src (c.take i)+((q:Nat):Int)).toNat=(src (c.take i)).toNat+q:=O
    obtain ⟨r1,_⟩:=Iu (X++(all.drop (src (c.take i)).toNat).take q) Rs.nil (by grind);have hln:=GI r1.pos;rw [r1.sum,AoM,AoQ]at hln;have h5:IntKind.wrap .i64 (((q:Nat):Int)+1)=((q+1:Nat):Int):=by rw [w64 O O];omega
    have hd:q < (all.drop (src (c.take i)).toNat).length:=by grind
    have ht:X++(all.drop (src (c.take i)).toNat).take (q+1)=(X++(all.drop (src (c.take i)).toNat).take q)++[all[(src (c.take i)).toNat+q]]:=by
     rw [AoL hd,AoN,List.getElem_drop]
    unfold G6 cK cZ wI;simp only [h1,decide_true,AoU,w,h2,h3,AoS,e2,AoF hi2,AoC,VD (show(BT (X++(all.drop (src (c.take i)).toNat).take q)).length<=1000000000 from by unfold BT;omega),h5,ht];simp [BT,EE]) (by
     have h1:¬ (((c[i].1.toNat:Nat)):Int) < c[i].1:=O
     unfold G6 cK cZ wI
     grind)
   grind
  obtain ⟨r1,_⟩:=Iu (X++(all.drop (src (c.take i)).toNat).take c[i].1.toNat) Rs.nil (by grind);have hln:=GI r1.pos;rw [r1.sum,AoM]at hln;have hadd:Gg (BT (X++(all.drop (src (c.take i)).toNat).take c[i].1.toNat)) (rev,(c[i].2.2.length:Int))=BT (brg rev all (c.take (i+1))):=by
   rw [hbt];unfold BT;rw [Xr r1 rev _ (by grind),<- Lx]
  unfold HA gX wI;simp only [hc,decide_true,AoU,show(0:Int)<=((i:Nat):Int) from by omega,AoE,AoF hi,AoC,inner,VD (show(BT (X++(all.drop (src (c.take i)).toNat).take c[i].1.toNat)).length<=1000000000 from by unfold BT;omega),hadd,w2,w3,Ao (O:c.length<=1099511627776) hi]) (by simp [HA,gX,wI])
 have e:Ab HA (rev,all,[],0,c,(c.length:Int),0)=some (BT (brg rev all c)):=by assumption
 rw [e];rfl
end Go.V.G