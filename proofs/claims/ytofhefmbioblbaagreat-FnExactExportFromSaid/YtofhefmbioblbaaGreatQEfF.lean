import Derived.Test.YtofhefmbioblbaaGreatQEfA
import Derived.Test.YtofhefmbioblbaaGreatQEfC
import Derived.Test.YtofhefmbioblbaaGreatQEfE
import Derived.Maps.RangeRun
import Derived.Deep.LoopGhost
import Derived.Below
import Derived.WalkKit
import Derived.ProofKit
import Derived.ChangeOld
import Derived.DataReads
set_option linter.unusedVariables false
set_option linter.unusedSimpArgs false
namespace Go.V
def EnB (P:Program) (E:Env) (b:Base):Prop:=∀{S:St} {w:World} {c:Cc} {a:Act},Inv b S w c->(∀x,x∈b.fx->a.tmps.getD x.1 undef=x.2)->∀s p,YH E.en s=some p->
 (Instr.entry (a.eval (.tmp s))).run P w=.ok (.tuple #[.int .i64 p.1,.int .i64 p.2]) w
section
variable {P:Program} {E:Env} {b:Base} {N:Nat} {ops:Array Oper}
theorem Sim.skip {S:St} {a:Act} {w:World} (h:Sim b N S a w) (d:Option Nat) (hd:∀k,d=some k->k < N) (hdx:∀k,d=some k->∀p,p∈b.fx->p.1≠k):Sim b N (S.app d XB) (a.put d undef) w:=by
 obtain ⟨c,hi,hs,hfx⟩:=h;exact(Did.same (x:=.un) (v:=undef) hi rfl).sim hs d hd hfx hdx
theorem Stp.runs (hE:EnvOk P E) (hF:∀p,p∈b.fx->E.fx.contains p.1=true) (hG:EnB P E b) (hN:N < b.n1) {S:St} {r:Rec} (h:Stp E N ops S r) {a:Act} {w:World} (hs:Sim b N S a w) {K:Act->World->Prop} {Q:Exit->Act->World->Prop} (hK:∀a' w',Sim b N (S.app r.o.dst r.out) a' w'->K a' w') :
  if Region.wanted r.o (yielded ops a.tmps)then r.o.wp P a w K Q else K (a.put r.o.dst undef) w:=by
 obtain ⟨hd,h⟩:=h;have hdst:∀k,r.o.dst=some k->k < N:=by
  intro k hk;unfold Rt at hd;rw [hk]at hd;simp only [Al2,decide_eq_true_eq]at hd;exact hd.1
 have hdx:∀k,r.o.dst=some k->∀p,p∈b.fx->p.1≠k:=by
  intro k hk p hp he;unfold Rt at hd;rw [hk]at hd;simp only [Al2,Al9]at hd;have:=hF p hp;rw [he,hd.2]at this;cases this
 have hw:∀y,Holds ops S r.o y->Region.wanted r.o (yielded ops a.tmps)=y:=by
  intro y hy;unfold Holds at hy;unfold Region.wanted;split at hy
  .rename_i hg;rw [hg];exact hy.symm
  .rename_i j want hg;obtain ⟨g,h1,h2⟩:=hy;rw [hg];simp only;obtain ⟨c,hi,hsl,_⟩:=hs;have h4:=hsl.ok g;rcases h2 with⟨bb,h2,h3⟩ | ⟨h2,h3⟩
   rotate_left
   .rw [h2]at h4;have h5:a.tmps.getD g undef=undef:=h4;have h7:yielded ops a.tmps j=none:=by
     unfold yielded;unfold Q9 at h1;rw [h1];rw [And]at h5;cases h8:a.tmps[g]? with
     | none=>simp [h8]
     | some v=>rw [h8]at h5;simp only [AmG]at h5;subst h5;simp [h8,undef]
    rw [h7,h3];rfl
   rw [h2]at h4;have h5:a.tmps.getD g undef=.bool bb:=EA (AW h4);have h6:a.tmps[g]?=some (.bool bb):=by
    rw [And]at h5;cases h7:a.tmps[g]? with
    | none=>rw [h7]at h5;cases h5
    | some v=>rw [h7]at h5;simp only [AmG]at h5;rw [h5]
   have h7:yielded ops a.tmps j=some bb:=by
    unfold yielded;unfold Q9 at h1;rw [h1];simp [h6]
   rw [h7,h3];rfl
 rcases h with⟨h1,h2,_⟩ | ⟨h1,h2,_⟩
 .rw [hw true h1,Al1 rfl];obtain ⟨c,hi,hsl,hfx⟩:=hs;have hev:=Ahw S _ [] h2;refine Ain hE.ti hi hsl r.o (d:=r.o.dst.getD N) (by
   cases hk:r.o.dst with
   | none=>exact hN
   | some k=>exact Nat.lt_trans (hdst k hk) hN) (λfo f cs args ts out ho hfo hsz hc=>Agr hE hi hsl ho hfo hsz hc) (hG hi hfx) hev K Q λv w' hdid=>?_
  exact hK _ _ (hdid.sim hsl r.o.dst hdst hfx hdx)
 .rw [hw false h1];simp only [Al8,Amv];refine hK _ _ ?_;rw [h2];exact hs.skip _ hdst hdx
theorem Runs.more (hE:EnvOk P E) (hF:∀p,p∈b.fx->E.fx.contains p.1=true) (hG:EnB P E b) (hN:N < b.n1) {rest:List Oper}:∀(rs:List Rec) (n:Nat) {S S':St} {a:Act} {w:World} {Q:Exit->Act->World->Prop},Runs E N ops (DI rs n) S S'->Sim b N S a w->(∀a' w',Sim b N S' a' w'->wpList P ops Q rest a' w')->wpList P ops Q (rs.map (·.o)++rest) a w
 | [],n,S,S',a,w,Q,h,hs,hQ=>by
  cases h;exact hQ _ _ hs
 | r::rs,n,S,S',a,w,Q,h,hs,hQ=>by
  cases h with
  | cons h1 h2=>
   rw [AmF,AmH];refine wpList_step λK hK=>?_
   exact h1.runs hE hF hG hN hs λa' w' hs'=>hK _ _ (Runs.more hE hF hG hN rs (n+1) h2 hs' hQ)
theorem Runs.list (hE:EnvOk P E) (hF:∀p,p∈b.fx->E.fx.contains p.1=true) (hG:EnB P E b) (hN:N < b.n1) (rs:List Rec) (n:Nat) {S S':St} {a:Act} {w:World} {Q:Exit->Act->World->Prop} (h:Runs E N ops (DI rs n) S S') (hs:Sim b N S a w) (hQ:∀a' w',Sim b N S' a' w'->Q .normal a' w'):wpList P ops Q (rs.map (·.o)) a w:=by
 have:=Runs.more hE hF hG hN (rest:=[]) rs n h hs hQ
 rwa [Amf]at this
theorem TJ:∀(os:List Oper) (acc:List Nat),(∀j,j < acc.length->(ahead os acc).getD j 0=acc.getD j 0)/\
  ∀j o,os[j]?=some o->∀i,((ahead os acc).getD (acc.length+j) 0).testBit i=true->∃e,e∈o.after.toList/\Region.binds .any e=true/\(e.on=i\/((ahead os acc).getD e.on 0).testBit i=true)
 | [],acc=>⟨λ_ _=>rfl,λj o h=>by simp at h⟩
 | o::os,acc=>by
  obtain ⟨h1,h2⟩:=TJ os (acc++[LA acc o]);have e:ahead (o::os) acc=ahead os (acc++[LA acc o]):=rfl;have hpre:∀j,j < acc.length->(ahead os (acc++[LA acc o])).getD j 0=acc.getD j 0:=by
   intro j hj;rw [h1 j AlR,AmO,AmQ hj,AmO]
  rw [e];refine⟨hpre,λj o' ho i hi=>?_⟩;cases j with
  | zero=>
   simp only [Anb,AlV]at ho;subst ho;have hv:(ahead os (acc++[LA acc o])).getD (acc.length+0) 0=LA acc o:=by
    rw [h1 _ Z,AmO];simp
   rw [hv]at hi;have key:∀(es:List Edge) (m:Nat),(es.foldl (λm e=>if Region.binds .any e then m ||| ((1 <<< e.on) ||| acc.getD e.on 0)else m) m).testBit i=true->
     m.testBit i=true\/∃e,e∈es/\Region.binds .any e=true/\(e.on=i\/(acc.getD e.on 0).testBit i=true):=by
    intro es
    induction es with
    | nil=>intro m h;exact .inl h
    | cons e es ih=>
     intro m h;rw [Anw]at h;rcases ih _ h with h | ⟨e',k1,k2,k3⟩
     .split at h
      .rename_i hb;rw [Nat.testBit_or,Nat.testBit_or,Nat.one_shiftLeft,Nat.testBit_two_pow]at h;simp only [Ang,decide_eq_true_eq]at h;rcases h with h | h | h
       .exact .inl h
       .exact .inr ⟨e,Z,hb,.inl h⟩
       .exact .inr ⟨e,Z,hb,.inr h⟩
      .exact .inl h
     .exact .inr ⟨e',by simp [k1],k2,k3⟩
   rcases key _ 0 hi with h | ⟨e',k1,k2,k3⟩
   .simp at h
   .refine⟨e',k1,k2,k3.imp id λh=>?_⟩;by_cases he:e'.on < acc.length
    .rw [hpre _ he];exact h
    .rw [AmO,Amn O]at h;simp at h
  | succ j=>
   have:=h2 j o' (by simpa using ho) i (by rw [Al0,Amb];rwa [(O:acc.length+1+j=acc.length+(j+1))]);exact this
theorem PI:∀(os:List Oper) (n:Nat),OM os n=true->∀j o,os[j]?=some o->∀e,e∈o.after.toList->Region.binds .any e=true->e.on < n+j
 | [],_,_,j,o,h=>by simp at h
 | o::os,n,hb,j,o',ho=>by
  simp only [OM,Al2,Amr]at hb;cases j with
  | zero=>
   simp only [Anb,AlV]at ho;subst ho;intro e he hbd;have:=hb.1 e he;rw [hbd]at this;simpa using this
  | succ j=>
   intro e he hbd;have:=PI os (n+1) hb.2 j o' (by simpa using ho) e he hbd;omega
theorem VQ {bs:List Nat} {q:Nat×Rec} {R2:List (Nat×Rec)}:∀(R1:List (Nat×Rec)),IP ops bs (R1++q::R2)=true->
  IP ops bs (R1++R2)=true/\∀p,p∈R1->(bs.getD q.1 0).testBit p.1=true\/(IZ ops p.2.o q.2.o=true/\p.2.apart q.2=true)
 | [],h=>by
  obtain ⟨i,q⟩:=q;simp only [Ams,IP,Al2]at h;exact⟨h.2,λp hp=>by cases hp⟩
 | (i,p)::R1,h=>by
  simp only [AmH,IP,Al2,Amr]at h;obtain ⟨h1,h2⟩:=h;obtain ⟨k1,k2⟩:=VQ R1 h2;refine⟨?_,λp' hp=>?_⟩
  .simp only [AmH,IP,Al2,Amr];refine⟨λx hx=>h1 x ?_,k1⟩;rcases Al3.1 hx with hx | hx
   .exact Al3.2 (.inl hx)
   .exact Al3.2 (.inr (Am2 _ hx))
  .rcases Ame.1 hp with rfl | hp
   .have:=h1 q (Al3.2 (.inr Z));simp only [Ang,Al2]at this;exact this
   .exact k2 p' hp
structure Left (ops:Array Oper) (bs:List Nat) (R:List (Nat×Rec)) (listed:Array Bool):Prop where
 size:listed.size=ops.size
 lt:∀p,p∈R->p.1 < ops.size
 not:∀i,i < ops.size->(listed[i]?=some false↔i∈R.map (·.1))
 op:∀p,p∈R->ops[p.1]?=some p.2.o
 asc:(R.map (·.1)).Pairwise (· < ·)
 closed:∀j,listed[j]?=some true->∀i,(bs.getD j 0).testBit i=true->listed[i]?=some true
theorem WS (hE:EnvOk P E) (hF:∀p,p∈b.fx->E.fx.contains p.1=true) (hG:EnB P E b) (hN:N < b.n1) (bs:List Nat) (hbs:∀(j:Nat) o,ops[j]?=some o->∀i,(bs.getD j 0).testBit i=true->∃e,e∈o.after.toList/\Region.binds .any e=true/\(e.on=i\/(bs.getD e.on 0).testBit i=true))
  (hbk:∀(j:Nat) o,ops[j]?=some o->∀e,e∈o.after.toList->Region.binds .any e=true->e.on < j) {Q:Exit->Act->World->Prop} {S':St} (hQ:∀a' w',Sim b N S' a' w'->Q .normal a' w') :
  ∀(fuel:Nat) (R:List (Nat×Rec)) (listed:Array Bool) (S:St) (a:Act) (w:World),R.length=fuel->Runs E N ops R S S'->IP ops bs R=true->Left ops bs R listed->Sim b N S a w->wpAny P .any ops Q fuel listed a w
 | 0,R,listed,S,a,w,hl,hr,_,hL,hs=>by
  obtain rfl:R=[]:=Amo hl;cases hr;refine⟨?_,hQ _ _ hs⟩;unfold Region.ready;rw [List.filter_eq_nil_iff];intro i hi;have hi':i < ops.size:=by simpa using hi
  have h1:=hL.not i hi';have h2:listed[i]?=some true:=by
   have h3:i < listed.size:=by rw [hL.size];exact hi'
   rw [Amz h3]at h1 ⊢;cases h4:listed[i]with
   | true=>rfl
   | false=>rw [h4]at h1;simp at h1
  have h5:listed.getD i true=true:=by rw [And,h2];rfl
  rw [h5];simp
 | fuel+1,R,listed,S,a,w,hl,hr,hp,hL,hs=>by
  refine⟨λhnil=>?_,λi hi=>?_⟩
  .-- the first that is left is ready
   exfalso;cases R with
   | nil=>simp at hl
   | cons q R=>
    have hq:=hL.op q Z;have hqlt:=hL.lt q Z;have hin:q.1∈Region.ready .any ops listed:=by
     unfold Region.ready;rw [AnT];refine⟨by simpa using hqlt,?_⟩;have h1:=(hL.not q.1 hqlt).2 Z;rw [And,h1,hq];simp only [AmG,AnX,Amg,AmS];rw [Array.all_eq_true'];intro e he;cases hbd:Region.binds .any e with
     | false=>rfl
     | true=>
      have hlt:=hbk q.1 _ hq e (Array.mem_toList_iff.2 he) hbd;have h3:e.on < listed.size:=by rw [hL.size];omega
      have h2:=hL.not e.on O;have h4:e.on∉(q::R).map (·.1):=by
       intro hm;have:=hL.asc;rw [AmF,List.pairwise_cons]at this;rcases Ame.1 hm with hm | hm
       .have hm':e.on=q.1:=hm;omega
       .have h9:q.1 < e.on:=this.1 e.on hm;omega
      rw [And];rw [Amz h3]at h2 ⊢;cases h5:listed[e.on]with
      | true=>rfl
      | false=>rw [h5]at h2;exact absurd (h2.1 rfl) h4
    rw [hnil]at hin;cases hin
  .unfold Region.ready at hi;rw [AnT]at hi;obtain ⟨hi1,hi2⟩:=hi;have hilt:i < ops.size:=by simpa using hi1
   simp only [Al2,Al9]at hi2;obtain ⟨hn,hpre⟩:=hi2;have hlt:i < listed.size:=by rw [hL.size];exact hilt
   have hif:listed[i]?=some false:=by
    rw [And,Amz hlt]at hn;rw [Amz hlt];simp only [AmG]at hn;rw [hn]
   obtain ⟨q,hq,hqi⟩:=Aml.1 ((hL.not i hilt).1 hif);subst hqi;have hop:=hL.op q hq;rw [hop]at hpre;simp only [AmS,AmG]at hpre;have hpre':∀e,e∈q.2.o.after.toList->Region.binds .any e=true->listed[e.on]?=some true:=by
    intro e he hbd;rw [Array.all_eq_true']at hpre;have:=hpre e (Array.mem_toList_iff.1 he);rw [hbd]at this;simp only [AmN,Anh]at this;rw [And]at this;cases h:listed[e.on]? with
    | none=>rw [h]at this;cases this
    | some x=>rw [h]at this;simp only [AmG]at this;rw [this]
   have hall:∀j,(bs.getD q.1 0).testBit j=true->listed[j]?=some true:=by
    intro j hj;obtain ⟨e,k1,k2,k3⟩:=hbs q.1 _ hop j hj;have:=hpre' e k1 k2;rcases k3 with k3 | k3
    .rw [<- k3];exact this
    .exact hL.closed e.on this j k3
   obtain ⟨R1,R2,rfl⟩:=List.append_of_mem hq;obtain ⟨p1,p2⟩:=VQ R1 hp;have hfront:=Runs.front R1 (λp hp'=>by
    rcases p2 p hp' with h | h
    .have h1:=hall p.1 h;have h2:=(hL.not p.1 (hL.lt p (by simp [hp']))).2 (Aml.2 ⟨p,by simp [hp'],rfl⟩);rw [h1]at h2;cases h2
    .exact h) hr
   obtain ⟨qi,r⟩:=q;cases hfront with
   | cons s1 s2=>
    unfold wpOp;rw [hop];simp only;have hrec:∀a' w',Sim b N (S.app r.o.dst r.out) a' w'->wpAny P .any ops Q fuel (listed.setIfInBounds qi true) a' w':=by
     intro a' w' hs';refine WS hE hF hG hN bs hbs hbk hQ fuel (R1++R2) _ _ a' w' ?_ s2 p1 ?_ hs'
     .simp only [Al0,Al7]at hl ⊢;omega
     .have hasc:=hL.asc;rw [AmD,AmF,AnJ,List.pairwise_cons]at hasc;obtain ⟨g1,⟨g2,g3⟩,g4⟩:=hasc;refine⟨by simp [hL.size],λp hp=>?_,λi hi=>?_,λp hp=>?_,?_,?_⟩
      .rcases Al3.1 hp with h | h
       .exact hL.lt p (by simp [h])
       .exact hL.lt p (by simp [h])
      .by_cases hiq:i=qi
       .subst hiq;rw [Anx hlt];simp only [AlV,Bool.true_eq_false,false_iff];rw [AmD];intro hm;rcases Al3.1 hm with hm | hm
        .have:=g4 i hm i Z;omega
        .have:=g2 i hm;omega
       .rw [Am8 (Ne.symm hiq),hL.not i hi];simp [hiq]
      .rcases Al3.1 hp with h | h
       .exact hL.op p (by simp [h])
       .exact hL.op p (by simp [h])
      .rw [AmD,AnJ];exact⟨g1,g3,λx hx y hy=>g4 x hx y (Am2 _ hy)⟩
      .intro j hj i hi;have hsub:∀m:Nat,listed[m]?=some true->(listed.setIfInBounds qi true)[m]?=some true:=by
        intro m hm;by_cases hmq:m=qi
        .subst hmq;rw [Anx hlt]
        .rw [Am8 (Ne.symm hmq)];exact hm
       by_cases hjq:j=qi
       .subst hjq;exact hsub i (hall i hi)
       .rw [Am8 (Ne.symm hjq)]at hj;exact hsub i (hL.closed j hj i hi)
    have:=s1.runs (Q:=Q) hE hF hG hN hs hrec;split
    .rename_i hw;rw [Al1 hw]at this;exact .inl this
    .rename_i hw;rw [AlZ hw]at this;exact this
theorem Sim.drawn {S:St} {a:Act} {w:World} (h:Sim b N S a w):Sim b N S a { w with drawn:=w.drawn+1 }:=by
 obtain ⟨c,hi,hs,hfx⟩:=h;have hst:Step w { w with drawn:=w.drawn+1 } (λ_=>False):=⟨rfl,rfl,rfl,Amu _,λ_ _ _=>rfl⟩
 obtain ⟨c',_,_,h3,h4,_⟩:=hi.many (S':=S) (w':={ w with drawn:=w.drawn+1 }) (λ_=>none) [] [] [] (λk=>by simp) rfl (λk i _=>by rw [Leaf.kp_nil]) (λk o _ hk=>by rcases hk with hk | hk;cases hk;exact absurd rfl hk)
  (hst.mono λ_ h=>h.elim) (λk n hk=>by cases hk) (λk n hk=>by cases hk) (λk n k' n' _ hk=>by cases hk) (λ_ _ _ k n hk=>by cases hk) (λ_ _ _ _ _ _ _ k n hk=>by cases hk) (λ_ h=>by cases h)
 have hdid:Did b S c w ⟨.no,[],[]⟩ undef { w with drawn:=w.drawn+1 }:=⟨c',h3,h4,trivial⟩
 exact hdid.sim hs none (λk hk=>by cases hk) hfx (λk hk=>by cases hk)
theorem Jh:∀(rs:List Rec) (n:Nat),(DI rs n).map (·.1)=List.range' n rs.length
 | [],_=>rfl
 | r::rs,n=>by rw [DI,AmF,Jh rs (n+1),Al7,List.range'_succ]
theorem R3:∀(rs:List Rec) (n:Nat) (p:Nat×Rec),p∈DI rs n->n<=p.1/\rs[p.1 - n]?=some p.2
 | [],_,p,h=>by cases h
 | r::rs,n,p,h=>by
  rw [DI]at h;rcases Ame.1 h with rfl | h
  .simp
  .obtain ⟨h1,h2⟩:=R3 rs (n+1) p h;refine⟨O,?_⟩;rw [(O:p.1 - n=(p.1 - (n+1))+1),Am3];exact h2
theorem Ad2 (hE:EnvOk P E) (hF:∀p,p∈b.fx->E.fx.contains p.1=true) (hG:EnB P E b) (hN:N < b.n1) {id:Nat} {draw:Bool} {S S':St} (h:(LE E N ops draw S).run=some S') {a:Act} {w:World} (hs:Sim b N S a w) {Q:Exit->Act->World->Prop} (hQ:∀a' w',Sim b N S' a' w'->Q .normal a' w') :
  (Code.region id ops draw).wp P Q a w:=by
 unfold LE at h;split at h
 .rename_i hd;subst hd;simp only [run_bind,AlY]at h;obtain ⟨⟨S1,rs⟩,h1,h2⟩:=h;split at h2
  .rename_i hc;simp only [Tr.run,AlV]at h2;subst h2;simp only [Al2]at hc;obtain ⟨hc1,hc2⟩:=hc;obtain ⟨rs',k0,k1,k2⟩:=V5 ops.toList S S1 [] rs 0 h1;simp only [List.reverse_nil,Ams]at k0;subst k0;have hlen:rs.length=ops.size:=by rw [<- Amt (f:=(·.o)),k1];simp
   have hat:∀p,p∈DI rs 0->ops[p.1]?=some p.2.o:=by
    intro p hp;obtain ⟨_,h4⟩:=R3 rs 0 p hp;rw [AnE]at h4;have:(rs.map (·.o))[p.1]?=some p.2.o:=by rw [AmB,h4];rfl
    rw [k1,Amh]at this;exact this
   refine wp_region_any hE.mix ?_;refine WS hE hF hG hN (ahead ops.toList []) (λj o ho i hi=>?_) (λj o ho e he hb=>?_) hQ ops.size (DI rs 0) _ S a _ ?_ k2 hc1 ?_ hs.drawn
   .have:=(TJ ops.toList []).2 j o (by rw [Amh];exact ho) i (by simpa using hi);exact this
   .have:=PI ops.toList 0 hc2 j o (by rw [Amh];exact ho) e he hb;omega
   .rw [<- Amt (f:=(·.1)),Jh];simp [hlen]
   .refine⟨Z,λp hp=>(Ano.1 (hat p hp)).1,λi hi=>?_,hat,?_,λj hj i hi=>?_⟩
    .rw [Jh];simp only [List.mem_range'_1,Ane,Amk,true_and,hlen,hi,iff_true];rw [Amz (by simpa using hi)];simp
    .rw [Jh];exact List.pairwise_lt_range'
    .have:=(Ano.1 hj)
     obtain ⟨h5,h6⟩:=this;simp at h6
  .simp [Tr.run]at h2
 .rename_i hd;have hd':draw=false:=by simpa using hd
  subst hd';obtain ⟨rs,k1,k2⟩:=QX ops.toList S S' 0 h;refine wp_region_list ?_;rw [<- k1];exact Runs.list hE hF hG hN rs 0 k2 hs hQ
end
end Go.V
namespace Go.V
open Go.ChangeMaps (setBlock)
theorem Inv.base {b b':Base} {S:St} {w w':World} {c:Cc} (h:Inv b S w c) (hK:KSame w w' (Kok b S c) (Kok b' S c)) (hO:∀g,AZ S c g->w'.heap[g]?=w.heap[g]?)
  (hfr:∀g,AZ S c g->b'.w0.heap.size<=g\/b'.O0 g) (hfix:∀g,g < b'.w0.heap.size->¬ b'.O0 g->w'.heap[g]?=b'.w0.heap[g]?)
  (hR:∀g cs e fr,AZ S c g->b'.w0.heap[g]?=some (.cells cs e fr)->b.w0.heap[g]?=some (.cells cs e fr)\/w.heap[g]?=some (.cells cs e fr))
  (ho:w'.os=b'.w0.os) (ht:w'.tape=b'.w0.tape) (hp:w'.output=b'.w0.output) (hz:b'.w0.heap.size<=w'.heap.size) (hm:b'.ms=b.ms) (hn:b'.n1=b.n1) :
  Inv b' S w' c/\Stay S S c c w w' (Kok b S c) (Kok b' S c) []:=by
 have stay:Stay S S c c w w' (Kok b S c) (Kok b' S c) []:=
  Stay.of h (λk o ho=>.inr (.inl ⟨ho,rfl,λg hg=>hO g (.inr ⟨k,by rw [ho];simp,hg⟩)⟩)) (λk n hn=>.inr ⟨hn,rfl,rfl⟩) hK
 refine⟨⟨?_,?_,h.nd,h.oo,h.mm,h.mo,λg hg=>⟨AmR (h.fr g hg).1 hK.1,hfr g hg⟩,hfix,ho,ht,hp,hz,by rw [hm,hn];exact h.an,?_⟩,stay⟩
 .intro k n hk h0;obtain ⟨cs,e,fr,h1,h2,h3,h4,h5⟩:=h.ms k n hk h0;have how:AZ S c (c.mb k):=.inl ⟨k,by rw [hk];simp,rfl⟩;refine⟨cs,e,fr,(hO _ how).trans h1,h2,h3,λi v hi hv=>?_,?_⟩
  .have:=stay.leaf (h4 i v hi hv)
   rwa [Leaf.kp_nil]at this
  .intro cs0 e0 fr0 h0';rcases hR _ _ _ _ how h0' with h6 | h6
   .exact h5 _ _ _ h6
   .rw [h1]at h6;injection h6 with h6
    injection h6 with a1 a2 a3
    subst a1 a2 a3;exact⟨rfl,rfl,rfl,λ_ _=>rfl⟩
 .intro k o hk;exact Rp.frame hK _ _ (h.ow k o hk) λg hg=>hO g (.inr ⟨k,by rw [hk];simp,hg⟩)
 .intro k hk;obtain ⟨xs,h1,h2⟩:=h.mp k hk;exact⟨xs,h1,h2.same (hO _ (.inl ⟨k,by rw [hk];simp,rfl⟩))⟩
theorem Stay.slots0 {S:St} {c:Cc} {w w':World} {K K':Nat->Prop} {N:Nat} {a:Act} (h:Stay S S c c w w' K K' []) (hs:Slots N S c w K a):Slots N S c w' K' a:=
 h.slots hs (λi=>(SV.kp_nil _).symm) none .no undef (λ_ h=>by cases h) trivial (λ_ _=>Iff.rfl) (λ_ _=>Iff.rfl)
open Classical in
noncomputable def reH (b:Base) (S:St) (c:Cc) (w:World) (o:Obj):Array Obj:=
 (Array.range (w.heap.size+1)).map λg=>if AZ S c g then(b.w0.heap[g]?).getD (((w.heap.push o)[g]?).getD o)else((w.heap.push o)[g]?).getD o
section
variable {b:Base} {S:St} {c:Cc} {w:World} {o o':Obj}
theorem AgF:(reH b S c w o).size=w.heap.size+1:=by simp [reH]
theorem LS {g:Nat} (hg:¬ AZ S c g):(reH b S c w o)[g]?=(w.heap.push o)[g]?:=by
 unfold reH;rw [Array.getElem?_map];by_cases h:g < w.heap.size+1
 .rw [Amz (by simpa using h),AmS,Array.getElem_range,AlZ hg,Amz (by simpa using h)];rfl
 .rw [Aok (by simpa using h),Aok (by simpa using h)];rfl
theorem Ui (hi:Inv b S w c) {g:Nat} (hg:AZ S c g):(reH b S c w o)[g]?=some ((b.w0.heap[g]?).getD ((w.heap[g]?).getD o)):=by
 have hl:=(hi.fr g hg).1;unfold reH;rw [Array.getElem?_map,Amz AlR,AmS,Array.getElem_range,Al1 hg,An6 hl,Amz hl]
noncomputable def reB (hi:Inv b S w c) (o:Obj) (it:Nat):Base where
 w0:={ w with heap:=reH b S c w o }
 Ro g:=g < w.heap.size/\Kok b S c g
 O0 g:=AZ S c g
 n1:=b.n1
 ms:=b.ms
 fx:=(it,.pointer (some ⟨w.heap.size,0,none⟩))::b.fx
 gl:=by
  have hg:=ZO hi;refine⟨WU hg.1 λg h=>?_,λg h=>⟨⟨YY hg.1 h,hg.2 g h⟩,(hg.2 g h).2⟩⟩;show(reH b S c w o)[g]?=w.heap[g]?;have hl:=YY hg.1 h;rw [LS (hg.2 g h).2,An6 hl,Amz hl]
variable {hi:Inv b S w c} {it:Nat} {S':St} {c':Cc} {w' w'':World}
theorem D3:(reB hi o it).w0.heap.size=w.heap.size+1:=AgF
theorem QI (hi:Inv b S w c):¬ AZ S c w.heap.size:=λh=>Nat.lt_irrefl _ (hi.fr _ h).1
theorem YU (h:Inv (reB hi o it) S' w' c') {g:Nat} (hg:g < w.heap.size) (hn:¬ AZ S c g):w'.heap[g]?=w.heap[g]?:=by
 have h1:=h.fix g (by rw [D3];omega) hn;rw [h1];show(reH b S c w o)[g]?=_;rw [LS hn,An6 hg,Amz hg]
theorem Ahr (h:Inv (reB hi o it) S' w' c'):w'.heap[w.heap.size]?=some o:=by
 have h1:=h.fix w.heap.size (by rw [D3];omega) (QI hi);rw [h1];show(reH b S c w o)[w.heap.size]?=_;rw [LS (QI hi)];simp
theorem Af9 (hi:Inv b S w c) (o:Obj) (it:Nat):Inv (reB hi o it) S (w.alloc o) c/\Stay S S c c w (w.alloc o) (Kok b S c) (Kok (reB hi o it) S c) []:=by
 have hh:(w.alloc o).heap=w.heap.push o:=rfl;have same:∀g,g < w.heap.size->(w.alloc o).heap[g]?=w.heap[g]?:=λg hg=>by
  rw [hh,An6 hg,Amz hg]
 refine hi.base ⟨by rw [hh];simp,λg hg hl=>⟨same g hl,.inl ⟨hl,hg⟩,hg.2⟩⟩ (λg hg=>same g (hi.fr g hg).1) (λg hg=>.inr hg) (λg _ hn=>?_) (λg cs e fr hg h0=>?_) rfl rfl rfl (by rw [D3,hh];simp) rfl rfl
 .show _=(reH b S c w o)[g]?;rw [LS hn];rfl
 .have h1:(reH b S c w o)[g]?=some (.cells cs e fr):=h0;rw [Ui hi hg]at h1;injection h1 with h1
  cases h2:b.w0.heap[g]? with
  | some x=>rw [h2]at h1;left;rw [<- h1];rfl
  | none=>
   right;have hl:=(hi.fr g hg).1;rw [h2,Amz hl]at h1;rw [Amz hl,<- h1];rfl
theorem AjD {g:Nat} (h:Kok (reB hi o it) S' c' g):g≠w.heap.size:=by
 rintro rfl;rcases h.1 with h1 | h1 | h1
 .exact Nat.lt_irrefl _ h1.1
 .rw [D3]at h1;omega
 .exact QI hi h1
theorem OV (h:Inv (reB hi o it) S' w' c') {g:Nat} (hg:AZ S' c' g):w.heap.size+1<=g\/AZ S c g:=by
 have:=(h.fr g hg).2
 rwa [D3]at this
theorem AhZ (h:Inv (reB hi o it) S' w' c') (o':Obj) (hw:w''.heap=w'.heap.setIfInBounds w.heap.size o') (h1:w''.os=w'.os) (h2:w''.tape=w'.tape) (h3:w''.output=w'.output) :
  Inv (reB hi o' it) S' w'' c'/\Stay S' S' c' c' w' w'' (Kok (reB hi o it) S' c') (Kok (reB hi o' it) S' c') []:=by
 have hsz:=h.size;rw [D3]at hsz;have same:∀g,g≠w.heap.size->w''.heap[g]?=w'.heap[g]?:=λg hg=>by
  rw [hw,Am8 (Ne.symm hg)]
 have hne:∀g,AZ S' c' g->g≠w.heap.size:=by
  rintro g hg rfl;rcases OV h hg with h4 | h4
  .omega
  .exact QI hi h4
 have hre:∀g,g≠w.heap.size->(reH b S c w o)[g]?=(reH b S c w o')[g]?:=by
  intro g hg;by_cases how:AZ S c g
  .have hl:=(hi.fr g how).1;rw [Ui hi how,Ui hi how,Amz hl];rfl
  .rw [LS how,LS how];by_cases hl:g < w.heap.size
   .rw [An6 hl,An6 hl]
   .rw [Aok AlR,Aok AlR]
 refine h.base ⟨by rw [hw];simp,λg hg _=>⟨same g (AjD hg),?_,hg.2⟩⟩ (λg hg=>same g (hne g hg)) (λg hg=>?_) (λg hl hn=>?_) (λg cs e fr hg h0=>?_) (h1.trans h.os) (h2.trans h.tape) (h3.trans h.output) (by rw [D3,hw];simpa using hsz) rfl rfl
 .rcases hg.1 with h4 | h4 | h4
  .exact .inl h4
  .exact .inr (.inl (by rw [D3]at h4 ⊢;exact h4))
  .exact .inr (.inr h4)
 .rcases OV h hg with h4 | h4
  .exact .inl (by rw [D3];exact h4)
  .exact .inr h4
 .rw [D3]at hl;by_cases hg:g=w.heap.size
  .subst hg;rw [hw,Anx O];show _=(reH b S c w o')[w.heap.size]?;rw [LS (QI hi)];simp
  .rw [same g hg,h.fix g (by rw [D3];exact hl) hn];exact hre g hg
 .left;have h5:(reH b S c w o')[g]?=some (.cells cs e fr):=h0;show(reH b S c w o)[g]?=_;rw [hre g (hne g hg)];exact h5
theorem Abm (h:Inv (reB hi o it) S' w' c'):Inv b S' w' c'/\Stay S' S' c' c' w' w' (Kok (reB hi o it) S' c') (Kok b S' c') []:=by
 have hsz:=h.size;rw [D3]at hsz;have hs0:=hi.size;refine h.base ⟨Amu _,λg hg _=>⟨rfl,?_,hg.2⟩⟩ (λ_ _=>rfl) (λg hg=>?_) (λg hl hn=>?_) (λg cs e fr hg h0=>?_) (h.os.trans hi.os) (h.tape.trans hi.tape) (h.output.trans hi.output) O rfl rfl
 .rcases hg.1 with h4 | h4 | h4
  .exact h4.2.1
  .rw [D3]at h4;exact .inr (.inl O)
  .exact .inr ((hi.fr g h4).2)
 .rcases OV h hg with h4 | h4
  .exact .inl O
  .exact(hi.fr g h4).2
 .have hno:¬ AZ S c g:=λh4=>by
   rcases (hi.fr g h4).2 with h5 | h5
   .omega
   .exact hn h5
  rw [YU h O hno];exact hi.fix g hl hn
 .left;have hl:=BS h0;have how:AZ S c g:=by
   rcases OV h hg with h4 | h4
   .omega
   .exact h4
  show(reH b S c w o)[g]?=_;rw [Ui hi how,h0];rfl
end
def ent (e:MapEntry):Int×Int:=(valOf e.key,valOf e.val)
theorem ZU:∀{es:List MapEntry} {xs:List (Int×Int)} {n:Nat},KW es xs n->es.map ent=xs/\(∀e,e∈es->n<=e.born/\e.born < n+es.length/\e.key=.int .i64 (ent e).1/\e.val=.int .i64 (ent e).2)/\(es.map (·.born)).Nodup
 | [],[],_,_=>⟨rfl,λ_ h=>(by cases h),List.nodup_nil⟩
 | e::es,p::xs,n,h=>by
  obtain ⟨rfl,h2⟩:=h;obtain ⟨k1,k2,k3⟩:=ZU h2;refine⟨by rw [AmF,k1];rfl,λe' he=>?_,?_⟩
  .rcases Ame.1 he with rfl | he
   .exact⟨Amu _,Z,rfl,rfl⟩
   .obtain ⟨q1,q2,q3⟩:=k2 e' he;exact⟨O,by rw [Al7];omega,q3⟩
  .rw [AmF,AmP];refine⟨λhm=>?_,k3⟩;obtain ⟨e',he,hb⟩:=Aml.1 hm;have:=(k2 e' he).1;simp only at hb;omega
 | [],_::_,_,h=>h.elim
 | _::_,[],_,h=>h.elim
theorem RU {α:Type} (f:α->Nat) (p q:α->Bool) (e:α):∀(l:List α),(l.map f).Nodup->e∈l->p e=true->(∀x,q x=(p x && !(f x == f e)))->(l.filter p).Perm (e::l.filter q)
 | [],_,he,_,_=>by cases he
 | x::l,hn,he,hp,hq=>by
  rw [AmF,AmP]at hn;by_cases hx:f x=f e
  .have hxe:e=x:=by
    rcases Ame.1 he with h | h
    .exact h
    .exact absurd (Aml.2 ⟨e,h,hx.symm⟩) hn.1
   subst hxe;have h1:q e=false:=by rw [hq];simp
   have h2:l.filter q=l.filter p:=List.filter_congr λy hy=>by
    rw [hq y];have:(f y == f e)=false:=by
     cases h:f y == f e with
     | false=>rfl
     | true=>exact absurd (Aml.2 ⟨y,hy,beq_iff_eq.1 h⟩) hn.1
    rw [this];simp
   rw [List.filter_cons_of_pos hp,List.filter_cons_of_neg (by rw [h1];simp),h2]
  .have he':e∈l:=by
    rcases Ame.1 he with h | h
    .exact absurd (by rw [h]) hx
    .exact h
   have ih:=RU f p q e l hn.2 he' hp hq;have hxb:(f x == f e)=false:=by simpa using hx
   by_cases hpx:p x=true
   .have h1:q x=true:=by rw [hq,hpx,hxb];rfl
    rw [List.filter_cons_of_pos hpx,List.filter_cons_of_pos h1];exact(List.Perm.cons x ih).trans (List.Perm.swap e x _)
   .have h1:¬ q x=true:=by rw [hq];simp [hpx]
    rw [List.filter_cons_of_neg hpx,List.filter_cons_of_neg h1];exact ih
theorem AeY {es:Array MapEntry} {seen:Array Nat} {e:MapEntry} (hn:(es.toList.map (·.born)).Nodup) (he:e∈(leftOf es seen).toList) :
  ((leftOf es seen).toList.map ent).Perm (ent e::(leftOf es (seen.push e.born)).toList.map ent):=by
 obtain ⟨h1,h2⟩:=mem_left he;have:=RU (·.born) (λx:MapEntry=>!seen.contains x.born) (λx=>!(seen.push e.born).contains x.born) e es.toList hn h1 (by rw [h2];rfl) (λx=>by rw [contains_push,Bool.not_or]);unfold leftOf;rw [Array.toList_filter,Array.toList_filter];exact this.map ent
theorem Aat {E:Env} {N it:Nat} {cnd:Operand} {ops:List Oper} {p q:Nat} (h:Tj E N it cnd ops=some (p,q)) :
  cnd=.tmp q/\p < N/\q < N/\p≠it/\q≠it/\E.fx.contains p=false/\E.fx.contains q=false/\∃ty1 ps1 af1 ty2 ps2 af2,ops=[⟨some p,.next (.tmp it) false,ty1,ps1,af1,none⟩,⟨some q,.extract (.tmp p) 0,ty2,ps2,af2,none⟩]:=by
 unfold Tj at h;split at h
 .split at h
  .split at h
   .rename_i hc;obtain ⟨⟨h1,h2,h3,h4,h5,h6,h7⟩,h8,h9⟩:=hc;simp only [AlV,Prod.mk.injEq]at h;obtain ⟨e1,e2⟩:=h;subst h1 h2 e1 e2 h3;exact⟨rfl,h4,h5,h6,h7,h8,h9,_,_,_,_,_,_,rfl⟩
   .cases h
  .cases h
 .cases h
section
variable {P:Program} {E:Env} {N:Nat}
theorem RB {b:Base} {S:St} {a:Act} {w:World} (h:Sim b N S a w) {d:Nat} (v:Value) (hd:d < N) (hx:∀p,p∈b.fx->p.1≠d):Sim b N (S.put d .no) (a.put (some d) v) w:=by
 obtain ⟨c,hi,hs,hfx⟩:=h;exact(Did.same (x:=.no) (v:=v) hi trivial).sim hs (some d) (λk hk=>by injection hk with hk;omega) hfx (λk hk p hp=>by injection hk with hk;rw [<- hk];exact hx p hp)
theorem Adg {b:Base} {S:St} {c:Cc} {w:World} {hi:Inv b S w c} {bm:Nat} {es:Array MapEntry} (hbm:¬ AZ S c bm) (hes:w.heap[bm]?=some (.map es es.size)) {xs:List (Int×Int)} (hen:KW es.toList xs 0)
  {t:Tpl} {it p q id id2:Nat} {ops:Array Oper} {cnd:Operand} {d:Code} {x0 yf:t.D} {F:t.D->Int×Int->Option t.D} (hF':∀p,p∈b.fx->E.fx.contains p.1=true)
  (hnx:Tj E N it cnd ops.toList=some (p,q)) (hF:Pj F xs x0=some yf)
  (hbody:∀(e:MapEntry) (seen:Array Nat),e∈es.toList->∀y y',F y (ent e)=some y'->∀a w',Sim (reB hi (.mapIter (some bm) es.size (seen.push e.born) es.size) it) N (((t.inj y).put p .no).put q .no) a w'->
   ∀Q:Exit->Act->World->Prop,(∀a' w',Sim (reB hi (.mapIter (some bm) es.size (seen.push e.born) es.size) it) N (t.inj y') a' w'->Q .normal a' w')->d.wp P Q a w')
  {a:Act} {w0:World} (hs:Sim (reB hi (.mapIter (some bm) es.size #[] es.size) it) N (t.inj x0) a w0) {Q:Exit->Act->World->Prop} (hQ:∀a' w',Sim b N (((t.inj yf).put p .no).put q .no) a' w'->Q (.exit id2) a' w') :
  (Code.loop (.seq (.region id ops false) (.seq (.cond cnd .skip (.exit id2)) d))).wp P Q a w0:=by
 obtain ⟨rfl,hpN,hqN,hpi,hqi,hpx,hqx,ty1,ps1,af1,ty2,ps2,af2,hops⟩:=Aat hnx;obtain ⟨k1,k2,k3⟩:=ZU hen;have hborn:∀x∈es.toList,x.born < es.size:=λx hx=>by have:=(k2 x hx).2.1;simpa using this
 have hpb:∀x,x∈b.fx->x.1≠p:=λx hx he=>by have:=hF' x hx;rw [he,hpx]at this;cases this
 have hqb:∀x,x∈b.fx->x.1≠q:=λx hx he=>by have:=hF' x hx;rw [he,hqx]at this;cases this
 have hpb':∀o x,x∈(reB hi o it).fx->x.1≠p:=λo x hx=>by
  rcases Ame.1 hx with rfl | hx
  .exact Ne.symm hpi
  .exact hpb x hx
 have hqb':∀o x,x∈(reB hi o it).fx->x.1≠q:=λo x hx=>by
  rcases Ame.1 hx with rfl | hx
  .exact Ne.symm hqi
  .exact hqb x hx
 refine wp_loop_ghost (λn a w'=>∃(l:List (Int×Int)) (y:t.D) (seen:Array Nat) (c0:Nat),n=(leftOf es seen).size/\l.foldlM F x0=some y/\(l++(leftOf es seen).toList.map ent).Perm xs/\es.size<=c0/\
  Sim (reB hi (.mapIter (some bm) es.size seen c0) it) N (t.inj y) a w') _ ⟨[],x0,#[],es.size,rfl,rfl,?_,Amu _,hs⟩ ?_
 .rw [Ams,show leftOf es #[]=es by simp [leftOf],k1]
 rintro n a w' ⟨l,y,seen,c0,rfl,hl,hp,hc,hsim⟩;have hsim0:=hsim;obtain ⟨c',hi',hsl,hfx⟩:=hsim0;have hit:a.tmps.getD it undef=.pointer (some ⟨w.heap.size,0,none⟩):=hfx (it,_) (List.mem_cons_self ..);have hev:a.eval (.tmp it)=.pointer (some ⟨w.heap.size,0,none⟩):=hit;have hr:=Ahr hi';have hm:w'.heap[bm]?=some (.map es es.size):=by rw [YU hi' (BS hes) hbm];exact hes
 refine wp_seq (wp_region_list ?_);rw [hops];refine wpList_step λK hK=>?_
 simp only [Region.wanted,Amd];have hsz:a.tmps.size=N:=hsl.n;have ev_put:∀(a:Act) (i:Nat) (v:Value),i < a.tmps.size->(a.put (some i) v).eval (.tmp i)=v:=by
  intro a i v h;show(a.tmps.setIfInBounds i v).getD i undef=v;simp [h]
 rcases run_next_at (P:=P) w' ty1 w.heap.size bm es.size c0 seen es es.size hr hm hborn hc with⟨h0,hrun⟩ | ⟨e,he,w1,hw1,hrun⟩
 .rw [<- hev]at hrun;refine AD (o:=⟨some p,.next (.tmp it) false,ty1,ps1,af1,none⟩) (post:=λv w2=>v=.tuple #[.bool false]/\w2=w') rfl ⟨_,_,hrun,rfl,rfl⟩ K _ ?_;rintro v w2 ⟨rfl,rfl⟩;refine hK _ _ (wpList_step λK hK=>?_);simp only [Region.wanted,Amd];refine AD (o:=⟨some q,.extract (.tmp p) 0,ty2,ps2,af2,none⟩) (s:=Instr.extract ((a.put (some p) (.tuple #[.bool false])).eval (.tmp p)) 0) (post:=λv w3=>v=.bool false/\w3=w2) rfl ⟨.bool false,w2,?_,rfl,rfl⟩ K _ ?_
  .rw [ev_put _ _ _ O];rfl
  rintro v w3 ⟨rfl,rfl⟩;refine hK _ _ ?_;refine wp_seq (wp_cond (t:=false) (ev_put _ _ _ (by simp [Act.put];omega)) ?_);simp only [Al8,Amv];refine wp_exit ?_;have hll:l.Perm xs:=by
   rw [show leftOf es seen = #[] from Array.eq_empty_of_size_eq_zero h0]at hp;simpa using hp
  have hyf:y=yf:=by
   have:=TW hF l hll;rw [hl]at this;injection this
  subst hyf;obtain ⟨q1,q2⟩:=Abm hi';exact hQ _ _ (RB (RB ⟨c',q1,q2.slots0 hsl,λx hx=>hfx x (Am2 _ hx)⟩ _ hpN hpb) _ hqN hqb)
 .rw [<- hev]at hrun;refine AD (o:=⟨some p,.next (.tmp it) false,ty1,ps1,af1,none⟩) (post:=λv w2=>v=.tuple #[.bool true,e.key,e.val]/\w2=setBlock w1 w.heap.size (.mapIter (some bm) es.size (seen.push e.born) es.size)) rfl ⟨_,_,hrun,rfl,rfl⟩ K _ ?_;rintro v w2 ⟨rfl,rfl⟩;refine hK _ _ (wpList_step λK hK=>?_);simp only [Region.wanted,Amd];refine AD (o:=⟨some q,.extract (.tmp p) 0,ty2,ps2,af2,none⟩) (s:=Instr.extract ((a.put (some p) (.tuple #[.bool true,e.key,e.val])).eval (.tmp p)) 0)
   (post:=λv w3=>v=.bool true/\w3=setBlock w1 w.heap.size (.mapIter (some bm) es.size (seen.push e.born) es.size)) rfl ⟨.bool true,_,?_,rfl,rfl⟩ K _ ?_
  .rw [ev_put _ _ _ O];rfl
  rintro v w3 ⟨rfl,rfl⟩;refine hK _ _ ?_;refine wp_seq (wp_cond (t:=true) (ev_put _ _ _ (by simp [Act.put];omega)) ?_);simp only [Amd];refine wp_skip ?_;have hw1':w1.heap=w'.heap/\w1.os=w'.os/\w1.tape=w'.tape/\w1.output=w'.output:=by rcases hw1 with rfl | rfl <;> exact⟨rfl,rfl,rfl,rfl⟩
  obtain ⟨q1,q2⟩:=AhZ (w'':=setBlock w1 w.heap.size (.mapIter (some bm) es.size (seen.push e.born) es.size)) hi' (.mapIter (some bm) es.size (seen.push e.born) es.size) (by show w1.heap.setIfInBounds _ _=_;rw [hw1'.1]) hw1'.2.1 hw1'.2.2.1 hw1'.2.2.2;have hee:=(mem_left he).1;have hlp:=AeY k3 he;have hpe:(l++(ent e::(leftOf es (seen.push e.born)).toList.map ent)).Perm xs:=(List.Perm.append_left l hlp).symm.trans hp;have hall:=TW hF _ hpe;rw [List.foldlM_append,hl]at hall;simp only [Option.bind_eq_bind,AlU,List.foldlM_cons]at hall;obtain ⟨y',hy',-⟩:=AlY.1 hall;refine hbody e seen hee y y' hy' _ _ (RB (RB ⟨c',q1,q2.slots0 hsl,hfx⟩ _ hpN (hpb' _)) _ hqN (hqb' _)) _ λa2 w2 hs2=>?_
  refine⟨_,left_shrinks es seen e he,l++[ent e],y',seen.push e.born,es.size,rfl,?_,?_,Amu _,hs2⟩
  .rw [List.foldlM_append,hl];simp only [Option.bind_eq_bind,AlU,List.foldlM_cons,List.foldlM_nil,hy'];rfl
  .rw [Al5];exact hpe
end
end Go.V
namespace Go.V
def Ex.out:Ex->Exit
 | .n=>.normal
 | .x id=>.exit id
 | .r=>.ret
section
variable {P:Program} {E:Env} {b:Base} {N:Nat}
theorem LK {α:Type} {o:Option α} {x:α} (h:(Tr.opt o).run=some x):o=some x:=by
 cases o with
 | none=>simp [Tr.run]at h
 | some a=>simpa [Tr.run] using h
theorem Joins.ok:∀(J:Joins) {e e':Ex} {S S':St} {x:J.D},J.prj e S=some x->(J.inj x).run=some (e',S')->e=e'/\∀{a w},Sim b N S a w->Sim b N S' a w
 | [],e,e',S,S',x,_,_=>nomatch x
 | [t],e,e',S,S',x,h,h'=>by
  simp only [Joins.prj]at h;split at h
  .rename_i he;simp only [Joins.inj,Tr.run,AlV,Prod.mk.injEq]at h';obtain ⟨h1,h2⟩:=h';subst h2;exact⟨he.trans h1,λhs=>t.2.ok h hs⟩
  .cases h
 | t::u::l,e,e',S,S',x,h,h'=>by
  simp only [Joins.prj]at h;split at h
  .rename_i y hy;injection h with h
   subst h;split at hy
   .rename_i he;simp only [Joins.inj,Tr.run,AlV,Prod.mk.injEq]at h';obtain ⟨h1,h2⟩:=h';subst h2;exact⟨he.trans h1,λhs=>t.2.ok hy hs⟩
   .cases hy
  .split at h
   .rename_i y hy;injection h with h
    subst h;exact Joins.ok (u::l) hy h'
   .cases h
theorem M9 {J:Joins} {t:Tr (Ex×St)} {e:Ex} {S':St} (h:(Mr J t).run=some (e,S')):∃S0,t.run=some (e,S0)/\∀{a w},Sim b N S0 a w->Sim b N S' a w:=by
 cases J with
 | nil=>exact⟨S',h,λhs=>hs⟩
 | cons j l=>
  simp only [Mr,De,AlY]at h;obtain ⟨x,hx,h⟩:=h;rw [run_bind,AlY]at hx;obtain ⟨⟨e0,S0⟩,h1,h2⟩:=hx;obtain ⟨k1,k2⟩:=Joins.ok (b:=b) (N:=N) (j::l) (LK h2) h;subst k1;exact⟨S0,h1,k2⟩
def BH (P:Program) (b:Base) (N:Nat) (c:Code) (S:St) (e:Ex) (S':St):Prop:=
 ∀{a:Act} {w:World} {Q:Exit->Act->World->Prop},Sim b N S a w->(∀a' w',Sim b N S' a' w'->Q e.out a' w')->c.wp P Q a w
theorem Ac2 {c:Code} {S S0 S':St} {e:Ex} (h:BH P b N c S e S0) (hw:∀{a w},Sim b N S0 a w->Sim b N S' a w):BH P b N c S e S':=
 λhs hQ=>h hs λa' w' hs'=>hQ a' w' (hw hs')
theorem then_out {e:Ex} {next:Act->World->Prop} {Q:Exit->Act->World->Prop} {a:Act} {w:World}:Exit.then next Q e.out a w↔(match e with | .n=>next a w | e=>Q e.out a w):=by
 cases e <;> exact Iff.rfl
theorem AeA {c d:Code} {S:St} {x y:Ann} {e:Ex} {S':St} (ih1:∀{ann S e S'},(AH E N ann c S).run=some (e,S')->BH P b N c S e S') (ih2:∀{ann S e S'},(AH E N ann d S).run=some (e,S')->BH P b N d S e S')
  (h:((AH E N x c S).bind λr=>match r.1 with | .n=>AH E N y d r.2 | e=>.ret (e,r.2)).run=some (e,S')):BH P b N (.seq c d) S e S':=by
 rw [run_bind,AlY]at h;obtain ⟨⟨e1,S1⟩,h1,h2⟩:=h;intro a w Q hs hQ;refine wp_seq (ih1 h1 hs λa' w' hs'=>then_out.2 ?_);cases e1 with
 | n=>exact ih2 h2 hs' hQ
 | x id=>
  simp only [Tr.run,AlV,Prod.mk.injEq]at h2;obtain ⟨k1,k2⟩:=h2;subst k1 k2;exact hQ a' w' hs'
 | r=>
  simp only [Tr.run,AlV,Prod.mk.injEq]at h2;obtain ⟨k1,k2⟩:=h2;subst k1 k2;exact hQ a' w' hs'
theorem Ach {o:Operand} {c d:Code} {S:St} {t:Bool} {x y:Ann} {e:Ex} {S':St} (ih1:∀{ann S e S'},(AH E N ann c S).run=some (e,S')->BH P b N c S e S') (ih2:∀{ann S e S'},(AH E N ann d S).run=some (e,S')->BH P b N d S e S')
  (ho:Cv S o=.s (.one (.v .bool t))) (h:(Tr.br t (AH E N x c S) (AH E N y d S)).run=some (e,S')):BH P b N (.cond o c d) S e S':=by
 intro a w Q hs hQ;have hb:a.eval o=.bool t:=by
  obtain ⟨c,_,hsl,_⟩:=hs;have:=AG hsl o;rw [ho]at this;exact EA (AW this)
 refine wp_cond hb ?_;simp only [Tr.run]at h;split at h
 .rename_i ht;rw [Al1 ht];exact ih1 h hs hQ
 .rename_i ht;rw [AlZ ht];exact ih2 h hs hQ
theorem TZ {α:Type} {e:Bool} {x y:Option α} {z:α} (h:Gy e x y=some z):y=some z/\(e=true->x=some z):=by
 unfold Gy at h;split at h
 .split at h
  .rename_i hxy;exact⟨h,λ_=>by rw [hxy];exact h⟩
  .cases h
 .rename_i he;exact⟨h,λh'=>absurd h' he⟩
theorem AgZ {o:Operand} {c d:Code} {S:St} {q:Bool} {x y:Ann} {J:Joins} {z:J.D} {e:Ex} {S':St} (ih1:∀{ann S e S'},(AH E N ann c S).run=some (e,S')->BH P b N c S e S') (ih2:∀{ann S e S'},(AH E N ann d S).run=some (e,S')->BH P b N d S e S')
  (ho:Cv S o=.s (.one (.qn q))) (hz:Gy q ((AH E N x c S).bind λr=>Tr.opt (Joins.prj J r.1 r.2)).run ((AH E N y d S).bind λr=>Tr.opt (Joins.prj J r.1 r.2)).run=some z)
  (h:(J.inj z).run=some (e,S')):BH P b N (.cond o c d) S e S':=by
 obtain ⟨hB,hA⟩:=TZ hz;have side:∀{k:Code} {v:Ann},(∀{ann S e S'},(AH E N ann k S).run=some (e,S')->BH P b N k S e S')->((AH E N v k S).bind λr=>Tr.opt (Joins.prj J r.1 r.2)).run=some z->BH P b N k S e S':=by
  intro k v ih hk;rw [run_bind,AlY]at hk;obtain ⟨⟨e1,S1⟩,h1,h2⟩:=hk;obtain ⟨k1,k2⟩:=Joins.ok (b:=b) (N:=N) J (LK h2) h;subst k1;exact Ac2 (ih h1) k2
 intro a w Q hs hQ;obtain ⟨r,hb,hr⟩:∃r:Bool,a.eval o=.bool r/\(r=true->q=true):=by
  obtain ⟨c,_,hsl,_⟩:=hs;have:=AG hsl o;rw [ho]at this;exact this
 refine wp_cond hb ?_;split
 .rename_i hrt;exact side ih1 (hA (hr hrt)) hs hQ
 .exact side ih2 hB hs hQ
def OA (P:Program) (E:Env) (b:Base) (N:Nat) (c:Code):Prop:=∀(ann:Ann) (S:St) (e:Ex) (S':St),(AH E N ann c S).run=some (e,S')->BH P b N c S e S'
def ZX (P:Program) (N:Nat) (c:Code):Prop:=∀(E:Env) (b:Base),EnvOk P E->(∀p,p∈b.fx->E.fx.contains p.1=true)->EnB P E b->N < b.n1->OA P E b N c
def Ac8 (P:Program) (N:Nat):Code->Prop
 | .seq c d | .cond _ c d=>ZX P N c/\ZX P N d/\Ac8 P N c/\Ac8 P N d
 | .block _ c | .loop c=>ZX P N c/\Ac8 P N c
 | _=>True
theorem WF {k d:Code} {S:St} {v y:Ann} {J:Joins} {z:J.D} {e:Ex} {S':St} (hk:OA P E b N k) (hd:OA P E b N d)
  (hz:(((AH E N v k S).bind λp=>match p.1 with | .n=>AH E N y d p.2 | e=>.ret (e,p.2)).bind λt=>Tr.opt (Joins.prj J t.1 t.2)).run=some z) (h:(J.inj z).run=some (e,S'))
  {a:Act} {w:World} {Q:Exit->Act->World->Prop} (hs:Sim b N S a w) (hQ:∀a' w',Sim b N S' a' w'->Q e.out a' w'):k.wp P (Exit.then (λa w=>d.wp P Q a w) Q) a w:=by
 rw [run_bind,AlY]at hz;obtain ⟨⟨e1,S1⟩,h1,h2⟩:=hz;obtain ⟨k1,k2⟩:=Joins.ok (b:=b) (N:=N) J (LK h2) h;subst k1;rw [run_bind,AlY]at h1;obtain ⟨⟨e3,S3⟩,h3,h4⟩:=h1;refine hk _ _ _ _ h3 hs λa' w' hs'=>then_out.2 ?_
 cases e3 with
 | n=>exact hd _ _ _ _ h4 hs' λa2 w2 hs2=>hQ a2 w2 (k2 hs2)
 | x id=>
  simp only [Tr.run,AlV,Prod.mk.injEq]at h4;obtain ⟨q1,q2⟩:=h4;subst q1 q2;exact hQ a' w' (k2 hs')
 | r=>
  simp only [Tr.run,AlV,Prod.mk.injEq]at h4;obtain ⟨q1,q2⟩:=h4;subst q1 q2;exact hQ a' w' (k2 hs')
theorem AhK {o:Operand} {r c1 c2 d:Code} {S:St} {J:Joins} {xr xa xb y z:Ann} {e:Ex} {S':St} (hr:OA P E b N r) (h1:OA P E b N c1) (h2:OA P E b N c2) (hd:OA P E b N d)
  (h:(AH E N (.both J xr xa xb y z) (.seq (.seq r (.cond o c1 c2)) d) S).run=some (e,S')):BH P b N (.seq (.seq r (.cond o c1 c2)) d) S e S':=by
 rw [AH,run_bind,AlY]at h;obtain ⟨⟨e1,S1⟩,h3,h4⟩:=h;intro a w Q hs hQ;refine wp_seq (wp_seq (hr _ _ _ _ h3 hs λa' w' hs'=>then_out.2 ?_));cases e1 with
 | x id=>
  simp only [Tr.run,AlV,Prod.mk.injEq]at h4;obtain ⟨q1,q2⟩:=h4;subst q1 q2;exact then_out (e:=.x id).2 (hQ a' w' hs')
 | r=>
  simp only [Tr.run,AlV,Prod.mk.injEq]at h4;obtain ⟨q1,q2⟩:=h4;subst q1 q2;exact then_out (e:=.r).2 (hQ a' w' hs')
 | n=>
  simp only at h4;split at h4
  .rename_i q ho;rw [De,AlY]at h4;obtain ⟨t,ht,h5⟩:=h4;obtain ⟨hB,hA⟩:=TZ ht;obtain ⟨g,hb,hg⟩:∃g:Bool,a'.eval o=.bool g/\(g=true->q=true):=by
    obtain ⟨c,_,hsl,_⟩:=hs';have:=AG hsl o;rw [ho]at this;exact this
   refine wp_cond hb ?_;split
   .rename_i hgt;exact WF h1 hd (hA (hg hgt)) h5 hs' hQ
   .exact WF h2 hd hB h5 hs' hQ
  .simp [Tr.run]at h4
theorem ZL {id:Nat} {c:Code} {S:St} {x:Ann} {e:Ex} {S':St} (ih1:∀{ann S e S'},(AH E N ann c S).run=some (e,S')->BH P b N c S e S')
  (h:((AH E N x c S).bind λr=>.ret (if r.1=.x id then .n else r.1,r.2)).run=some (e,S')):BH P b N (.block id c) S e S':=by
 rw [run_bind,AlY]at h;obtain ⟨⟨e1,S1⟩,h1,h2⟩:=h;simp only [Tr.run,AlV,Prod.mk.injEq]at h2;obtain ⟨k1,k2⟩:=h2;subst k2;intro a w Q hs hQ;refine wp_block (ih1 h1 hs λa' w' hs'=>?_);have:=hQ a' w' hs';cases e1 with
 | n=>simp only [reduceCtorEq,Amv]at k1;subst k1;exact this
 | x id'=>
  by_cases hid:id'=id
  .subst hid;simp only [Amd]at k1;subst k1;simp only [Ex.out,Exit.inBlock,Amd];exact this
  .have:¬ (Ex.x id'=Ex.x id):=λh=>hid (by injection h)
   rw [AlZ this]at k1;subst k1;simp only [Ex.out,Exit.inBlock,hid,Amv]
   assumption
 | r=>simp only [reduceCtorEq,Amv]at k1;subst k1;exact this
theorem AiI {c:Code} {S:St} {t:Tpl} {J:Joins} {x:Ann} {e:Ex} {S':St} (ih1:∀{ann S e S'},(AH E N ann c S).run=some (e,S')->BH P b N c S e S') {x0:t.D} (hx:t.prj S=some x0)
  (h:(Tr.get (Joins.D J) (Ab (λy:t.D=>((AH E N x c (t.inj y)).bind λr=>match r.1 with
    | .n=>Tr.opt (match t.prj r.2 with | some z=>some (Sum.inl (β:=Joins.D J) z) | none=>none)
    | e=>Tr.opt (match J.prj e r.2 with | some z=>some (Sum.inr (α:=t.D) z) | none=>none)).run) x0) J.inj).run=some (e,S')):BH P b N (.loop c) S e S':=by
 rw [De,AlY]at h;obtain ⟨y,hy,h⟩:=h;obtain ⟨n0,hn0⟩:=(K5 _ _ _).1 hy;intro a w Q hs hQ;generalize hf:(λy:t.D=>((AH E N x c (t.inj y)).bind λr=>match r.1 with
    | .n=>Tr.opt (match t.prj r.2 with | some z=>some (Sum.inl (β:=Joins.D J) z) | none=>none)
    | e=>Tr.opt (match J.prj e r.2 with | some z=>some (Sum.inr (α:=t.D) z) | none=>none)).run)=f at hn0
 refine wp_loop_ghost (λn a w=>∃x,Sim b N (t.inj x) a w/\FS f n x=some y) n0 ⟨x0,t.ok hx hs,hn0⟩ ?_;rintro n a w ⟨z,hz,hn⟩;cases n with
 | zero=>simp [FS]at hn
 | succ n=>
  simp only [FS]at hn;have hfz:f z=((AH E N x c (t.inj z)).bind λr=>match r.1 with
    | .n=>Tr.opt (match t.prj r.2 with | some z=>some (Sum.inl (β:=Joins.D J) z) | none=>none)
    | e=>Tr.opt (match J.prj e r.2 with | some z=>some (Sum.inr (α:=t.D) z) | none=>none)).run:=by rw [<- hf]
  cases hfv:f z with
  | none=>rw [hfv]at hn;cases hn
  | some v=>
   rw [hfv]at hn hfz;have hfz':=hfz.symm;rw [run_bind,AlY]at hfz';obtain ⟨⟨e1,S1⟩,h1,h2⟩:=hfz';refine ih1 h1 hz λa' w' hs'=>then_out.2 ?_
   have other:∀e2,(Tr.opt (match J.prj e2 S1 with | some z=>some (Sum.inr (α:=t.D) z) | none=>none)).run=some v->Q e2.out a' w':=by
    intro e2 h2;have h3:=LK h2;split at h3
    .rename_i z' hz';injection h3 with h3
     subst h3;simp only [AlV]at hn;subst hn;obtain ⟨k1,k2⟩:=Joins.ok (b:=b) (N:=N) J hz' h;subst k1;exact hQ a' w' (k2 hs')
    .cases h3
   cases e1 with
   | n=>
    have h3:=LK h2;split at h3
    .rename_i z' hz';injection h3 with h3
     subst h3;exact⟨n,O,z',t.ok hz' hs',hn⟩
    .cases h3
   | x id=>exact other _ h2
   | r=>exact other _ h2
theorem Agt {b:Base} {S:St} {x0:Nat×Nat×List (Int×Int)} {ol:Option Oper} (h:(XR E N S ol).run=some x0):∃ty x ty2 ps af,ol=some ⟨some x0.1,.range ty x,ty2,ps,af,none⟩/\x0.1 < N/\E.fx.contains x0.1=false/\E.ti ty=.map/\
  Cv S x=.s (.one (.mh x0.2.1))/\S.ms x0.2.1=some 0/\S.mc x0.2.1 0=.md x0.2.2:=by
 unfold XR at h;split at h
 .split at h
  .rename_i hc;split at h
   .rename_i k ht hx;split at h
    .rename_i hk;split at h
     .rename_i xs hm;simp only [Tr.run,AlV]at h;subst h;exact⟨_,_,_,_,_,rfl,hc.1,hc.2,ht,hx,hk,hm⟩
     .simp [Tr.run]at h
    .simp [Tr.run]at h
   .simp [Tr.run]at h
  .simp [Tr.run]at h
 .simp [Tr.run]at h
theorem AfT {b:Base} (hE:EnvOk P E) (hF:∀p,p∈b.fx->E.fx.contains p.1=true) (hG:EnB P E b) (hN:N < b.n1) {t:Tpl} {y:Ann} {i1 i2 ib id2:Nat} {rops nops:Array Oper} {cnd:Operand} {d:Code} (hd:ZX P N d) {S:St} {e:Ex} {S':St}
  (h:(AH E N (.mloop t y) (.seq (.region i1 rops false) (.block ib (.loop (.seq (.region i2 nops false) (.seq (.cond cnd .skip (.exit id2)) d))))) S).run=some (e,S')) :
  BH P b N (.seq (.region i1 rops false) (.block ib (.loop (.seq (.region i2 nops false) (.seq (.cond cnd .skip (.exit id2)) d))))) S e S':=by
 rw [AH,run_bind,AlY]at h;obtain ⟨S1,h1,h⟩:=h;rw [run_bind,AlY]at h;obtain ⟨⟨it,k,xs⟩,h2,h⟩:=h;obtain ⟨ty,ox,ty2,ps,af,hlast,hitN,hitx,hti,hox,hk,hmc⟩:=Agt (b:=b) h2;simp only at hlast hitN hitx hox hk hmc h;split at h
 .rename_i pq x0 hnx hx0;split at h
  .rename_i hid;subst hid;rw [De,AlY]at h;obtain ⟨yf,hperm,h⟩:=h;simp only [Tr.run,AlV,Prod.mk.injEq]at h;obtain ⟨rfl,rfl⟩:=h;obtain ⟨rs,hrs,hruns⟩:=QX _ _ _ 0 h1;intro a w Q hs hQ;refine wp_seq (wp_region_list ?_);have hsplit:rops.toList=rs.map (·.o)++[⟨some it,.range ty ox,ty2,ps,af,none⟩]:=by
    obtain ⟨ys,hys⟩:=Aoa.1 hlast;rw [hrs,hys,Aob]
   rw [hsplit];refine Runs.more hE hF hG hN rs 0 hruns hs λa1 w1 hs1=>?_
   obtain ⟨c,hi,hsl,hfx⟩:=hs1;refine wpList_step λK hK=>?_
   simp only [Region.wanted,Amd];obtain ⟨xs',hm1,hm2⟩:=hi.mp k hk;rw [hmc]at hm1;injection hm1 with hm1
   subst hm1;obtain ⟨es,hes,hen⟩:=hm2.en;obtain ⟨⟨kt,et,hu,_⟩,_⟩:=hE.ti.map hti;have hev:a1.eval ox=.map (some (c.mb k)):=by
    have:=AG hsl ox;rw [hox]at this;exact(AW this:LeafOk S1 c w1 (Kok b S1 c) (.mh k) _).2
   have hrun:=run_range_map w1 ty kt et (c.mb k) es es.size hu hes;rw [<- hev]at hrun;refine AD (o:=⟨some it,.range ty ox,ty2,ps,af,none⟩) (post:=λv w2=>v=.pointer (some ⟨w1.heap.size,0,none⟩)/\w2=w1.alloc (.mapIter (some (c.mb k)) es.size #[] es.size)) rfl ⟨_,_,hrun,rfl,rfl⟩ K _ ?_;rintro v w2 ⟨rfl,rfl⟩;refine hK _ _ ?_;obtain ⟨hi2,st2,hkk⟩:=hi.drop k;have hsl2:Slots N (S1.drop k) c w1 (Kok b (S1.drop k) c) a1:=K4 (st2.slots hsl (by intro i;exact Hz S1 [.m k] i) none .no undef (λ_ h=>by cases h) trivial (λ_ _=>Iff.rfl) (λ_ _=>Iff.rfl));have hbm:=(hkk 0 hk).2;obtain ⟨hi3,st3⟩:=Af9 hi2 (.mapIter (some (c.mb k)) es.size #[] es.size) it;have hne:∀p,p∈b.fx->p.1≠it:=λp hp he=>by have:=hF p hp;rw [he,hitx]at this;cases this
   have hsim:Sim (reB hi2 (.mapIter (some (c.mb k)) es.size #[] es.size) it) N ((S1.drop k).put it .no) (a1.put (some it) (.pointer (some ⟨w1.heap.size,0,none⟩))) (w1.alloc (.mapIter (some (c.mb k)) es.size #[] es.size)):=by
    refine⟨c,Inv.put (S:=S1.drop k) rfl rfl rfl hi3,?_,?_⟩
    .rw [show Kok (reB hi2 (.mapIter (some (c.mb k)) es.size #[] es.size) it) ((S1.drop k).put it .no) c=Kok (reB hi2 (.mapIter (some (c.mb k)) es.size #[] es.size) it) (S1.drop k) c from EB rfl rfl];exact st3.slots hsl2 (λi=>(SV.kp_nil _).symm) (some it) .no _ (λq hq=>by injection hq with hq;omega) trivial (λl v=>GK rfl rfl l v) (λl v=>JP rfl rfl l v)
    .intro p hp;rcases Ame.1 hp with rfl | hp
     .show(a1.tmps.setIfInBounds it _).getD it undef=_;simp [hsl.n,hitN]
     .exact AeH hfx (λj hj p hp=>by injection hj with hj;rw [<- hj];exact hne p hp) p hp
   refine wp_block (Adg hbm hes hen hF hnx hperm ?_ (t.ok hx0 hsim) λa' w' hs'=>?_)
   .intro en seen hee z z' hz a2 w2 hs2 Q2 hQ2;rw [run_bind,AlY]at hz;obtain ⟨⟨e1,S2⟩,hz1,hz2⟩:=hz;cases e1 with
    | n=>
     have hz3:=LK hz2;refine hd { E with fx:=it::E.fx,en:=(it,ent en)::E.en } (reB hi2 (.mapIter (some (c.mb k)) es.size (seen.push en.born) es.size) it) ⟨hE.ti,hE.mix,hE.ca⟩ (λp hp=>?_) ?_ hN _ _ _ _ hz1 hs2 λa3 w3 hs3=>hQ2 _ _ (t.ok hz3 hs3)
     .rcases Ame.1 hp with rfl | hp
      .simp
      .have:=hF p hp;simp only [List.contains_cons,this,Aoo]
     .intro S4 w4 c4 a4 hi4 hfx4 s p hp;simp only [YH]at hp;split at hp
      .rename_i hse;subst hse;injection hp with hp
       subst hp;have hit:a4.eval (.tmp it)=.pointer (some ⟨w1.heap.size,0,none⟩):=hfx4 (it,_) (List.mem_cons_self ..);obtain ⟨k1,k2,k3⟩:=ZU hen;obtain ⟨_,_,k4,k5⟩:=k2 en hee;rw [hit,<- k4,<- k5];exact run_entry_at w4 w1.heap.size (c.mb k) es.size seen es es.size en (Ahr hi4) (by rw [YU hi4 (BS hes) hbm];exact hes) hee k3
      .exact hG (Abm hi4).1 (λx hx=>hfx4 x (Am2 _ hx)) s p hp
    | x id=>simp [Tr.run]at hz2
    | r=>simp [Tr.run]at hz2
   .simp only [Exit.inBlock,Amd];exact hQ _ _ hs'
  .simp [Tr.run]at h
 .simp [Tr.run]at h
theorem AdS (c:Code):ZX P N c/\Ac8 P N c:=by
 have reg:∀{E:Env} {b:Base},EnvOk P E->(∀p,p∈b.fx->E.fx.contains p.1=true)->EnB P E b->N < b.n1->∀{id:Nat} {ops:Array Oper} {draw:Bool} {S:St} {e:Ex} {S':St},((LE E N ops draw S).bind λS=>.ret (.n,S)).run=some (e,S')->BH P b N (.region id ops draw) S e S':=by
  intro E b hE hF hG hN id ops draw S e S' h;rw [run_bind,AlY]at h;obtain ⟨S1,h1,h2⟩:=h;simp only [Tr.run,AlV,Prod.mk.injEq]at h2;obtain ⟨k1,k2⟩:=h2;subst k1 k2;intro a w Q hs hQ;exact Ad2 hE hF hG hN h1 hs hQ
 induction c with
 | skip=>
  refine⟨?_,trivial⟩;intro E b hE hF hG hN ann S e S' h;have:AH E N ann .skip S=.ret (.n,S):=by cases ann <;> rfl
  rw [this]at h;simp only [Tr.run,AlV,Prod.mk.injEq]at h;obtain ⟨k1,k2⟩:=h;subst k1 k2;intro a w Q hs hQ;exact wp_skip (hQ a w hs)
 | region id ops draw=>
  refine⟨?_,trivial⟩;intro E b hE hF hG hN ann S e S' h;cases ann with
  | reg J=>
   obtain ⟨S0,h1,h2⟩:=M9 (b:=b) (N:=N) (show(Mr J ((LE E N ops draw S).bind λS=>.ret (.n,S))).run=some (e,S') from h);exact Ac2 (reg hE hF hG hN h1) h2
  | _=>exact reg hE hF hG hN h
 | seq c d ih1 ih2=>
  refine⟨?_,ih1.1,ih2.1,ih1.2,ih2.2⟩;intro E b hE hF hG hN ann S e S' h;have i1:∀{ann S e S'},(AH E N ann c S).run=some (e,S')->BH P b N c S e S':=λh=>ih1.1 E b hE hF hG hN _ _ _ _ h
  have i2:∀{ann S e S'},(AH E N ann d S).run=some (e,S')->BH P b N d S e S':=λh=>ih2.1 E b hE hF hG hN _ _ _ _ h
  cases ann with
  | seq x y=>(intro a w Q hs hQ;exact AeA i1 i2 h hs hQ)
  | nil=>(intro a w Q hs hQ;exact AeA i1 i2 h hs hQ)
  | both J xr xa xb y z=>
   match c,ih1,h with
   | .seq r (.cond o c1 c2),ih1,h=>(intro a w Q hs hQ;exact AhK (ih1.2.1 E b hE hF hG hN) (ih1.2.2.2.2.1 E b hE hF hG hN) (ih1.2.2.2.2.2.1 E b hE hF hG hN) (ih2.1 E b hE hF hG hN) h hs hQ)
   | .seq _ (.skip),_,h | .seq _ (.region ..),_,h | .seq _ (.seq ..),_,h | .seq _ (.block ..),_,h | .seq _ (.loop ..),_,h | .seq _ (.rangeFunc ..),_,h | .seq _ (.exit ..),_,h | .seq _ (.scope ..),_,h | .seq _ (.label ..),_,h | .seq _ (.goto ..),_,h | .seq _ (.ret),_,h | .seq _ (.refuse ..),_,h=>cases h
   | .skip,_,h | .region ..,_,h | .cond ..,_,h | .block ..,_,h | .loop ..,_,h | .rangeFunc ..,_,h | .exit ..,_,h | .scope ..,_,h | .label ..,_,h | .goto ..,_,h | .ret,_,h | .refuse ..,_,h=>cases h
  | mloop t y=>
   have hcd:∃i1 rops ib i2 nops cnd id2 d',c=.region i1 rops false/\d=.block ib (.loop (.seq (.region i2 nops false) (.seq (.cond cnd .skip (.exit id2)) d'))):=by
    cases c <;> try (cases h;done)
    rename_i i1 rops dr;cases dr <;> try (cases h;done)
    cases d <;> try (cases h;done)
    rename_i ib d;cases d <;> try (cases h;done)
    rename_i d;cases d <;> try (cases h;done)
    rename_i r d;cases r <;> try (cases h;done)
    rename_i i2 nops dr;cases dr <;> try (cases h;done)
    cases d <;> try (cases h;done)
    rename_i c d;cases c <;> try (cases h;done)
    rename_i cnd x y;cases x <;> try (cases h;done)
    cases y <;> try (cases h;done)
    exact⟨_,_,_,_,_,_,_,_,rfl,rfl⟩
   obtain ⟨i1',rops,ib,i2',nops,cnd,id2,d',rfl,rfl⟩:=hcd;intro a w Q hs hQ;exact AfT hE hF hG hN (ih2.2.2.2.2.2.2.2.1) h hs hQ
  | _=>cases h
 | cond o c d ih1' ih2'=>
  refine⟨?_,ih1'.1,ih2'.1,ih1'.2,ih2'.2⟩;intro E b hE hF hG hN ann S e S' h;have ih1:∀{ann S e S'},(AH E N ann c S).run=some (e,S')->BH P b N c S e S':=λh=>ih1'.1 E b hE hF hG hN _ _ _ _ h
  have ih2:∀{ann S e S'},(AH E N ann d S).run=some (e,S')->BH P b N d S e S':=λh=>ih2'.1 E b hE hF hG hN _ _ _ _ h
  cases ann with
  | cond J x y=>
   simp only [AH]at h;split at h
   .rename_i t ho;obtain ⟨S0,h1,h2⟩:=M9 (b:=b) (N:=N) h
    (intro a w Q hs hQ;exact Ac2 (Ach ih1 ih2 ho h1) h2 hs hQ)
   .rename_i e0 ho;rw [De,AlY]at h;obtain ⟨z,hz,h⟩:=h
    (intro a w Q hs hQ;exact AgZ ih1 ih2 ho hz h hs hQ)
   .cases h
  | nil=>
   simp only [AH]at h;split at h
   .rename_i t ho
    (intro a w Q hs hQ;exact Ach ih1 ih2 ho h hs hQ)
   .cases h
  | _=>cases h
 | block id c ih1'=>
  refine⟨?_,ih1'.1,ih1'.2⟩;intro E b hE hF hG hN ann S e S' h;have ih1:∀{ann S e S'},(AH E N ann c S).run=some (e,S')->BH P b N c S e S':=λh=>ih1'.1 E b hE hF hG hN _ _ _ _ h
  cases ann with
  | block J x=>
   obtain ⟨S0,h1,h2⟩:=M9 (b:=b) (N:=N) h
   (intro a w Q hs hQ;exact Ac2 (ZL ih1 h1) h2 hs hQ)
  | nil=>(intro a w Q hs hQ;exact ZL ih1 h hs hQ)
  | _=>cases h
 | loop c ih1'=>
  refine⟨?_,ih1'.1,ih1'.2⟩;intro E b hE hF hG hN ann S e S' h;have ih1:∀{ann S e S'},(AH E N ann c S).run=some (e,S')->BH P b N c S e S':=λh=>ih1'.1 E b hE hF hG hN _ _ _ _ h
  cases ann with
  | loop t J x=>
   simp only [AH]at h;split at h
   .rename_i x0 hx
    (intro a w Q hs hQ;exact AiI ih1 hx h hs hQ)
   .cases h
  | _=>cases h
 | exit id=>
  refine⟨?_,trivial⟩;intro E b hE hF hG hN ann S e S' h;have:AH E N ann (.exit id) S=.ret (.x id,S):=by cases ann <;> rfl
  rw [this]at h;simp only [Tr.run,AlV,Prod.mk.injEq]at h;obtain ⟨k1,k2⟩:=h;subst k1 k2;intro a w Q hs hQ;exact wp_exit (hQ a w hs)
 | ret=>
  refine⟨?_,trivial⟩;intro E b hE hF hG hN ann S e S' h;have:AH E N ann .ret S=.ret (.r,S):=by cases ann <;> rfl
  rw [this]at h;simp only [Tr.run,AlV,Prod.mk.injEq]at h;obtain ⟨k1,k2⟩:=h;subst k1 k2;intro a w Q hs hQ;exact wp_ret (hQ a w hs)
 | _=>
  refine⟨?_,trivial⟩;intro E b hE hF hG hN ann S e S' h;cases ann <;> cases h
theorem Agv {b:Base} (hE:EnvOk P E) (hF:∀p,p∈b.fx->E.fx.contains p.1=true) (hG:EnB P E b) (hN:N < b.n1) (c:Code) {ann:Ann} {S:St} {e:Ex} {S':St} (h:(AH E N ann c S).run=some (e,S')):BH P b N c S e S':=
 (AdS c).1 E b hE hF hG hN _ _ _ _ h
end
end Go.V
namespace Go.V
open Go.RowKit
section
variable {P:Program} {E:Env} {b:Base} {S:St} {c:Cc} {w:World}
theorem OE (hi:Inv b S w c) {t:Ty} {l:Leaf} {v:Value} {y:Ae×List Nat} (hl:LeafOk S c w (Kok b S c) l v) (h:(Oh t l).ev S=some y) :
  Ows S y.2/\∃G,ALOk w (Kok b S c) y.1 v G/\G.Nodup/\CG c y.2 G:=by
 have hn:Ows S []:=λk hk=>(by cases hk)
 have hh:CG c [] []:=λg hg=>(by cases hg)
 unfold Oh at h;split at h
 .simp only [Tr.ev,AlV]at h;subst h;exact⟨hn,[],⟨hl,λ_=>rfl⟩,Z,hh⟩
 .obtain rfl:v=.slice none 0 0:=hl;split at h
  .simp only [Tr.ev,AlV]at h;subst h;refine⟨hn,[],⟨?_,λ_=>rfl⟩,Z,hh⟩;simp only [Rp];exact .inl ⟨trivial,trivial,trivial⟩
  .simp [Tr.ev]at h
 .rename_i k win;simp only [Af,AlY,Tr.ev,AlV]at h;obtain ⟨o,ho,h⟩:=h;subst h;obtain ⟨h1,F',h2,h3,h4⟩:=IB hi hl ho;exact⟨λk' hk'=>(by simp only [Al6]at hk';subst hk';exact h1),F',⟨h2,λh=>(by simp [Ty.own]at h)⟩,h4,λg hg=>⟨k,Z,h3 g hg⟩⟩
 .simp [Tr.ev]at h
def Outs (S:St) (c:Cc) (gv G:List Nat):Prop:=Ows S gv/\(AM gv=true->G.Nodup)/\CG c gv G
theorem Outs.nil:Outs S c [] []:=⟨λk hk=>(by cases hk),λ_=>by simp,λg hg=>(by cases hg)⟩
theorem Outs.append (hi:Inv b S w c) {k l G H:List Nat} (h1:Outs S c k G) (h2:Outs S c l H):Outs S c (k++l) (G++H):=by
 refine⟨CI h1.1 h2.1,λhu=>?_,λg hg=>?_⟩
 .obtain ⟨u1,u2,_⟩:=AU hu;exact(CZ hi h1.2.2 h2.2.2 h1.1 h2.1 hu (h1.2.1 u1) (h2.2.1 u2)).2
 .rcases Al3.1 hg with hg | hg
  .obtain ⟨k,h,h'⟩:=h1.2.2 g hg;exact⟨k,by simp [h],h'⟩
  .obtain ⟨k,h,h'⟩:=h2.2.2 g hg;exact⟨k,by simp [h],h'⟩
theorem P1 (hi:Inv b S w c):∀{ls:List Leaf} {ts:List Ty} {vs:List Value} {y:List Ae×List Nat},All2 (LeafOk S c w (Kok b S c)) ls vs->(GJ ts ls).ev S=some y->
  ∃G,FL (ALOk w (Kok b S c)) y.1 vs G/\Outs S c y.2 G
 | [],[],_,y,.nil,h=>by
  rw [GJ]at h;simp only [Tr.ev,AlV]at h;subst h;exact⟨[],⟨rfl,rfl⟩,Outs.nil⟩
 | l::ls,t::ts,_,y,.cons (b:=v) (bs:=vs) h1 h2,h=>by
  rw [GJ]at h;simp only [Af,AlY,Tr.ev,AlV]at h;obtain ⟨y1,hy1,y2,hy2,rfl⟩:=h;obtain ⟨k1,G,k2,k3,k4⟩:=OE hi h1 hy1;obtain ⟨H,m2,m3⟩:=P1 hi h2 hy2;exact⟨G++H,⟨v,vs,G,H,rfl,rfl,k2,m2⟩,Outs.append hi ⟨k1,λ_=>k3,k4⟩ m3⟩
 | [],_::_,_,_,_,h=>by simp [GJ,Tr.ev]at h
 | _::_,[],_,_,_,h=>by simp [GJ,Tr.ev]at h
theorem WP (hi:Inv b S w c) {N M:Nat} (hN:b.n1=N+1) (hM:b.ms.length=M) {t:TypeId} {x:SV} {v:Value} {y:A1×List Nat} (hx:AQ S c w (Kok b S c) x v) (h:(Um E N M t x).ev S=some y) :
  ∃G,A1Ok w (Kok b S c) b.ms y.1 v G/\Outs S c y.2 G:=by
 unfold Um at h;split at h
 .simp only [Af,AlY,Tr.ev,AlV]at h;obtain ⟨z,hz,h⟩:=h;subst h;obtain ⟨k1,G,k2,k3,k4⟩:=OE hi (AW hx) hz;exact⟨G,k2,k1,λ_=>k3,k4⟩
 .simp only [Af,AlY,Tr.ev,AlV]at h;obtain ⟨z,hz,h⟩:=h;subst h;obtain ⟨vs,rfl,hx⟩:=hx;obtain ⟨G,k1,k2⟩:=P1 hi hx hz;exact⟨G,⟨vs,rfl,k1⟩,k2⟩
 .rename_i k off;split at h
  .rename_i hk;simp only [Tr.ev,AlV]at h;subst h;obtain ⟨n,hn,rfl⟩:=hx;have hlt:k - (N+1) < b.ms.length:=O
   have han:=hi.an (k - (N+1)) _ (AlW hlt);rw [hN,(O:N+1+(k - (N+1))=k)]at han;exact⟨[],⟨rfl,_,AlW hlt,by rw [han.1,han.2]⟩,Outs.nil⟩
  .simp [Tr.ev]at h
 .simp [Tr.ev]at h
theorem Aa8 {t:TypeId} {v u:Value} {w':World} (h:(Instr.loadAt t v).run P w=.ok u w'):(do loadVar t (<- asAddr v):Sem Value).run P w=.ok u w':=by
 unfold Instr.loadAt at h;cases v with
 | pointer o=>
  cases o with
  | some a=>simpa [asAddr,Instr.sureAddr] using h
  | none=>simp [Instr.sureAddr]at h
 | _=>simp [Instr.sureAddr]at h
def Re (tmps:Array Value):ResultVar->Sem Value
 | .tmp t=>pure (tmps.getD t undef)
 | .cell a t=>do loadVar t (<- asAddr (tmps.getD a undef))
theorem Pa (hT:TabOk P E.ti) {N M:Nat} (hN:b.n1=N+1) (hM:b.ms.length=M) {a:Act} (hi:Inv b S w c) (hs:Slots N S c w (Kok b S c) a):∀(rs:List ResultVar) (ts:List TypeId) {y:List A1×List Nat},(Hu E N M S rs ts).ev S=some y->
  ∃vs G,(rs.mapM (Re a.tmps)).run P w=.ok vs w/\FL (A1Ok w (Kok b S c) b.ms) y.1 vs G/\Outs S c y.2 G
 | [],[],y,h=>by
  rw [Hu]at h;simp only [Tr.ev,AlV]at h;subst h;exact⟨[],[],Z,⟨rfl,rfl⟩,Outs.nil⟩
 | .tmp s::rs,t::ts,y,h=>by
  rw [Hu]at h;simp only [Af,AlY,Tr.ev,AlV]at h;obtain ⟨y1,hy1,y2,hy2,rfl⟩:=h;obtain ⟨G,k1,k2⟩:=WP hi hN hM (hs.ok s) hy1;obtain ⟨vs,H,m1,m2,m3⟩:=Pa hT hN hM hi hs rs ts hy2;refine⟨_::vs,G++H,?_,⟨_,vs,G,H,rfl,rfl,k1,m2⟩,Outs.append hi k2 m3⟩;simp only [List.mapM_cons,Re,Sem.run_bind,Sem.run_pure,Result.andThen_ok,m1]
 | .cell s t'::rs,t::ts,y,h=>by
  rw [Hu]at h;split at h
  .rename_i a1 cs ha hcs;split at h
   .simp [Tr.ev]at h
   .rename_i hne;rw [Af,AlY]at h;obtain ⟨x,hx,h⟩:=h;simp only [Af,AlY,Tr.ev,AlV]at h;obtain ⟨y1,hy1,y2,hy2,rfl⟩:=h;have hv:=hs.ok s;rw [ha]at hv;have hpos:0 < cs.length:=by
     cases cs with
     | nil=>simp at hne
     | cons _ _=>simp
    obtain ⟨u,k0,k1⟩:=Abl (P:=P) hT hi hv hcs hx hpos;obtain ⟨G,k2,k3⟩:=WP hi hN hM k1 hy1;obtain ⟨vs,H,m1,m2,m3⟩:=Pa hT hN hM hi hs rs ts hy2;refine⟨u::vs,G++H,?_,⟨u,vs,G,H,rfl,rfl,k2,m2⟩,Outs.append hi k3 m3⟩;have hl:=Aa8 k0;rw [List.mapM_cons,Sem.run_bind];show((do loadVar t' (<- asAddr (a.tmps.getD s undef)):Sem Value).run P w).andThen _=_;rw [hl];simp only [Result.andThen_ok,Sem.run_bind,m1,Sem.run_pure]
  .simp [Tr.ev]at h
 | [],_::_,_,h=>by simp [Hu,Tr.ev]at h
 | _::_,[],_,h=>by
  rename_i r _ _;cases r <;> simp [Hu,Tr.ev]at h
theorem AcI (hi:Inv b S w c) {N M:Nat} (hN:b.n1=N+1) (hM:b.ms.length=M) {t:Ty} {l:Leaf} {v:Value} {y:Ae×List Nat} (hl:LeafOk S c w (Kok b S c) l v) (h:(Rm N M t l).ev S=some y) :
  Ows S y.2/\∃G,ROk w (Kok b S c) b.ms y.1 v G/\G.Nodup/\CG c y.2 G:=by
 unfold Rm at h;split at h
 .rename_i k off;split at h
  .rename_i hk;simp only [Tr.ev,AlV]at h;subst h;obtain ⟨n,hn,rfl⟩:=hl;have hlt:k - (N+1) < b.ms.length:=O
   have han:=hi.an (k - (N+1)) _ (AlW hlt);rw [hN,(O:N+1+(k - (N+1))=k)]at han;refine⟨λk hk=>(by cases hk),[],.inr (.inl ⟨rfl,_,_,rfl,AlW hlt,by rw [<- han.1,<- han.2]⟩),Z,λg hg=>(by cases hg)⟩
  .simp [Tr.ev]at h
 .rename_i k;split at h
  .rename_i hk;simp only [Tr.ev,AlV]at h;subst h;obtain ⟨hn,rfl⟩:=hl;obtain ⟨_,_,es,hes,_⟩:=hi.mp _ hn;have hlt:k - (N+1) < b.ms.length:=O
   have han:=hi.an (k - (N+1)) _ (AlW hlt);rw [hN,(O:N+1+(k - (N+1))=k)]at han;refine⟨λk hk=>(by cases hk),[],.inr (.inr ⟨rfl,k - (N+1),_,?_,AlW hlt,by rw [<- han.1],es,es.size,by rw [<- han.1];exact hes⟩),Z,λg hg=>(by cases hg)⟩;show(⟨.mh,k - N⟩:Ae)=⟨.mh,k - (N+1)+1⟩
   rw [(O:k - N=k - (N+1)+1)]
  .simp [Tr.ev]at h
 .exact hl.elim
 .obtain ⟨k1,G,k2,k3,k4⟩:=OE hi hl h;exact⟨k1,G,.inl k2,k3,k4⟩
theorem VZ (hi:Inv b S w c) {N M:Nat} (hN:b.n1=N+1) (hM:b.ms.length=M) (k:Nat):∀(row:List Ae) (i:Nat) (vs:List Value) {y:List Ae×List Nat},vs.length=row.length->(∀j v,vs[j]?=some v->LeafOk S c w (Kok b S c) (S.mc k (i+j)) v)->(NY N M k row i).ev S=some y->
  ∃G,FL (ROk w (Kok b S c) b.ms) y.1 vs G/\Outs S c y.2 G
 | [],i,vs,y,hl,_,h=>by
  rw [NY]at h;simp only [Tr.ev,AlV]at h;subst h;obtain rfl:vs=[]:=Amo hl;exact⟨[],⟨rfl,rfl⟩,Outs.nil⟩
 | r::row,i,[],y,hl,_,_=>by simp at hl
 | r::row,i,v::vs,y,hl,hc,h=>by
  rw [NY]at h;simp only [Tr.ev,Af,AlY,AlV]at h;obtain ⟨y1,hy1,y2,hy2,rfl⟩:=h;obtain ⟨k1,G,k2,k3,k4⟩:=AcI hi hN hM (hc 0 v rfl) hy1;obtain ⟨H,m1,m2⟩:=VZ hi hN hM k row (i+1) vs (by simpa using hl) (λj v hv=>by
   have:=hc (j+1) v (by simpa using hv)
   rwa [(O:i+(j+1)=i+1+j)]at this) hy2
  exact⟨G++H,⟨v,vs,G,H,rfl,rfl,k2,m1⟩,Outs.append hi ⟨k1,λ_=>k3,k4⟩ m2⟩
theorem TB (hi:Inv b S w c) {N M:Nat} (hN:b.n1=N+1) (hM:b.ms.length=M):∀(rows:List (List Ae)) (m:Nat) (gs:List (Nat×Nat)) {y:List (List Ae)×List Nat},gs.length=rows.length->(∀j g,gs[j]?=some g->b.ms[m+j]?=some g)->(∀r,r∈rows->r≠[])->(N0 N M rows m).ev S=some y->
  (∀j r,rows[j]?=some r->S.ms (N+1+m+j)=some (SW r))/\y.1.map List.length=rows.map List.length/\∃G,RowsOk w (Kok b S c) b.ms gs y.1 G/\Outs S c y.2 G
 | [],m,gs,y,hl,_,_,h=>by
  rw [N0]at h;simp only [Tr.ev,AlV]at h;subst h;obtain rfl:gs=[]:=Amo hl;exact⟨λj r hj=>by simp at hj,rfl,[],⟨rfl,rfl⟩,Outs.nil⟩
 | r::rows,m,[],y,hl,_,_,_=>by simp at hl
 | r::rows,m,g::gs,y,hl,hg,hne,h=>by
  rw [N0]at h;simp only [Tr.ev]at h;split at h
  .rename_i hn;simp only [Tr.ev,Af,AlY,AlV]at h;obtain ⟨y1,hy1,y2,hy2,rfl⟩:=h;have hgm:c.mb (N+1+m)=g.1/\c.mo (N+1+m)=g.2:=by rw [<- hN];exact hi.an m g (by have:=hg 0 g rfl;simpa using this)
   obtain ⟨q1,ql,H,m1,m2⟩:=TB hi hN hM rows (m+1) gs (by simpa using hl) (λj g' hg'=>by
    have:=hg (j+1) g' (by simpa using hg')
    rwa [(O:m+(j+1)=m+1+j)]at this) (λr hr=>hne r (by simp [hr])) hy2
   have hq:∀j r',(r::rows)[j]?=some r'->S.ms (N+1+m+j)=some (SW r'):=by
    intro j r' hj;cases j with
    | zero=>
     simp only [Anb,AlV]at hj;subst hj;rw [Anq,hn]
    | succ j=>
     have:=q1 j r' (by simpa using hj)
     rwa [(O:N+1+(m+1)+j=N+1+m+(j+1))]at this
   by_cases hmp:∃xs:List (Int×Int),r=[⟨.mp,xs⟩]
   .obtain ⟨xs,rfl⟩:=hmp;obtain ⟨ys,e1,e2⟩:=hi.mp _ hn;simp only [NY,Tr.ev,e1,Rm,Af,AlU,AlV]at hy1;subst hy1;exact⟨hq,by simp [ql],H,⟨_,_,[],H,rfl,rfl,.inr ⟨ys,rfl,by rw [<- hgm.1];exact e2,rfl⟩,m1⟩,m2⟩
   have hlr:SW r=r.length:=by
    unfold SW;split
    .rename_i xs;exact absurd ⟨xs,rfl⟩ hmp
    .rfl
   rw [hlr]at hn;obtain ⟨cs,e,fr,h1,h2,h3,h4,_⟩:=hi.ms _ _ hn (List.length_pos_iff.2 (hne r Z));rw [hgm.2]at h2 h4;have hwl:((cs.toList.drop g.2).take r.length).length=r.length:=by
    rw [Al4,Amm,AnQ (xs:=cs)];omega
   obtain ⟨G,k1,k2⟩:=VZ hi hN hM (N+1+m) r 0 _ hwl (λj v hv=>by
    have hj:j < r.length:=by rw [<- hwl];exact(Amy.1 hv).1
    rw [Ami hj,AmC,Amh]at hv;rw [Amk];exact h4 j v hj hv) hy1
   have hl1:y1.1.length=r.length:=by rw [<- hwl];exact k1.len.symm
   exact⟨hq,by simp [hl1,ql],G++H,⟨y1.1,y2.1,G,H,rfl,rfl,.inl ⟨cs,e,fr,by rw [<- hgm.1];exact h1,h3,O,by rw [hl1];exact k1⟩,m1⟩,Outs.append hi k2 m2⟩
  .simp [Tr.ev]at h
end
theorem AeJ:∀(l:List (Nat×List Leaf)) (S:St),(l.map (·.1)).Nodup->(S.ups (l.map λp=>.ms p.1 p.2)).ow=S.ow/\(S.ups (l.map λp=>.ms p.1 p.2)).sl=S.sl/\
  (∀k,(S.ups (l.map λp=>.ms p.1 p.2)).ms k=match find l k with | some r=>some (KX r) | none=>S.ms k)/\∀k i,(S.ups (l.map λp=>.ms p.1 p.2)).mc k i=match find l k with | some r=>r.getD i .no | none=>S.mc k i
 | [],S,_=>⟨rfl,rfl,λ_=>rfl,λ_ _=>rfl⟩
 | p::l,S,h=>by
  rw [AmF,AmP]at h;obtain ⟨h1,h2,h3,h4⟩:=AeJ l (S.up (.ms p.1 p.2)) h.2;obtain ⟨i0,row⟩:=p;refine⟨h1,h2,λk=>?_,λk i=>?_⟩
  .show((S.up (.ms i0 row)).ups (l.map λp=>.ms p.1 p.2)).ms k=_;rw [h3];simp only [find];by_cases hk:k=i0
   .subst hk;rw [IO h.1,Al1 rfl];simp [St.up]
   .rw [AlZ hk];have:(S.up (.ms i0 row)).ms k=S.ms k:=by show(if k=i0 then _ else S.ms k)=_;rw [AlZ hk]
    rw [this]
  .show((S.up (.ms i0 row)).ups (l.map λp=>.ms p.1 p.2)).mc k i=_;rw [h4];simp only [find];by_cases hk:k=i0
   .subst hk;rw [IO h.1,Al1 rfl];simp [St.up]
   .rw [AlZ hk];have:(S.up (.ms i0 row)).mc k i=S.mc k i:=by show(if k=i0 then _ else S.mc k i)=_;rw [AlZ hk]
    rw [this]
theorem RY:∀(xs:List S1) (n:Nat) (S:St),(IJ xs n S).ow=S.ow/\(IJ xs n S).ms=S.ms/\(IJ xs n S).mc=S.mc/\
  ∀i,(IJ xs n S).sl i=if n<=i then(match xs[i - n]? with | some x=>.s x | none=>S.sl i)else S.sl i
 | [],n,S=>⟨rfl,rfl,rfl,λi=>by split <;> rfl⟩
 | x::xs,n,S=>by
  obtain ⟨h1,h2,h3,h4⟩:=RY xs (n+1) (S.put n (.s x));refine⟨h1,h2,h3,λi=>?_⟩;show(IJ xs (n+1) (S.put n (.s x))).sl i=_;rw [h4];by_cases hi:n+1<=i
  .rw [Al1 hi,Al1 O,(O:i - n=(i - (n+1))+1),Am3];have:(S.put n (.s x)).sl i=S.sl i:=by show(if i=n then _ else S.sl i)=_;rw [AlZ O]
   rw [this]
  .rw [AlZ hi];by_cases hin:i=n
   .subst hin;rw [Al1 (Amu _),AnF];show(if i=i then SV.s x else S.sl i)=_;rw [Al1 rfl];rfl
   .rw [AlZ O];show(if i=n then _ else S.sl i)=_;rw [AlZ hin]
theorem RowsOk.len {w:World} {K:Nat->Prop} {mk:List (Nat×Nat)}:∀{ms:List (Nat×Nat)} {rs F},RowsOk w K mk ms rs F->rs.length=ms.length
 | [],_,_,h=>by rw [h.1];rfl
 | _::_,_,_,⟨_,_,_,_,e1,_,_,h⟩=>by rw [e1];simp [RowsOk.len h]
theorem RowsOk.at {w:World} {K:Nat->Prop} {mk:List (Nat×Nat)}:∀{ms:List (Nat×Nat)} {rs F} {m:Nat} {g r},RowsOk w K mk ms rs F->ms[m]?=some g->rs[m]?=some r->∃F,RowOk w K mk g r F
 | [],_,_,_,_,_,_,h1,_=>by simp at h1
 | _::_,_,_,0,_,_,⟨_,_,F1,_,e1,_,h,_⟩,h1,h2=>by
  subst e1;simp only [Anb,AlV]at h1 h2;subst h1 h2;exact⟨F1,h⟩
 | _::_,_,_,_+1,_,_,⟨_,_,_,_,e1,_,_,h⟩,h1,h2=>by
  subst e1;exact RowsOk.at h (by simpa using h1) (by simpa using h2)
theorem All2.map_right {α β:Type} {p:α->β->Prop} {as bs} (h:All2 p as bs) {i:Nat} {x:β} (hx:bs[i]?=some x):∃a,as[i]?=some a/\p a x:=by
 have hlt:i < as.length:=by rw [h.len];exact(Amy.1 hx).1
 obtain ⟨y,hy,hp⟩:=h.get (AlW hlt);rw [hx]at hy;injection hy with hy
 subst hy;exact⟨_,AlW hlt,hp⟩
theorem AfI {N:Nat} {as:List A1} {rows:List (List Ae)} {S:St} (h:O9 N as rows=some S):∀r,r∈rows->r≠[]:=by
 unfold O9 at h;split at h
 .split at h
  .rename_i hu;rw [Al2]at hu;intro r hr he;have:=Amr.1 hu.2 r hr;rw [he]at this;cases this
  .cases h
 .cases h
theorem AfO {N:Nat} {as:List A1} {rows:List (List Ae)} {S:St} (h:O9 N as rows=some S) {w:World} {vals:List Value} {Ro:Nat->Prop} {ms:List (Nat×Nat)} {F1 F2:List Nat} (hA:FL (A1Ok w Ro ms) as vals F1) (hR:RowsOk w Ro ms ms rows F2)
  (hnd:(ms.map (·.1)++(F1++F2)).Nodup) (hlt:∀g,g∈ms.map (·.1)++(F1++F2)->g < w.heap.size/\¬ Ro g) (hN:vals.length<=N) (fx:List (Nat×Value)) (hfx:∀p,p∈fx->vals[p.1]?=some p.2) (hgb:GlF w/\∀g,glo g->Ro g/\¬ g∈ms.map (·.1)++(F1++F2)) :
  Sim ⟨w,Ro,λg=>g∈ms.map (·.1)++(F1++F2),N+1,ms,fx,hgb⟩ N S ⟨vals.toArray++Array.replicate (N - vals.length) undef,[]⟩ w:=by
 unfold O9 at h;split at h
 .rename_i vs rs hv hr;split at h
  .rename_i hu;rw [Al2]at hu;obtain ⟨hu,hne⟩:=hu;injection h with h
   have hlen:=hR.len;generalize hK:(List.range rows.length).map (λm=>(N+1+m,0))=K at hv hr
   let mb:Nat->Nat:=λκ=>(ms.getD (κ - (N+1)) (0,0)).1
   let mo:Nat->Nat:=λκ=>(ms.getD (κ - (N+1)) (0,0)).2
   have hmb:K.map (loc mb mo)=ms:=by
    rw [<- hK,AmU,hlen];apply AmT;intro i;rw [AmB];by_cases hi:i < ms.length
    .rw [An1 hi];simp only [AmS,Function.comp,loc,mb,mo];rw [AnZ,AmO,AlW hi];rfl
    .rw [Amn (by simpa using Nat.le_of_not_lt hi),Amn O];rfl
   have hKn:(K.map (·.1)).Nodup:=by
    rw [<- hK,AmU];exact List.Pairwise.map _ (λa b h=>by simp only [Function.comp];omega) List.nodup_range
   have hK0:∀p,p∈K->p.2=0:=by
    intro p hp;rw [<- hK]at hp;obtain ⟨m,_,rfl⟩:=Aml.1 hp;rfl
   rw [<- hmb]at hA hR;obtain ⟨n1,a1,a2⟩:=ND K mb mo as _ hA hv;obtain ⟨b1,b2,b5,n2,b3,b4⟩:=Nw K mb mo K rows _ hR hr;rw [hmb]at hA hR;have hall:=a1.append b3;have hnl:n1.length=vs.2.length:=a1.len;have hkeys:=BX hu;have hFn:(F1++F2).Nodup:=(Amj.1 hnd).2.1;generalize hl:vs.2++rs.2=l at *;generalize hns:n1++n2=ns at *
   let news:Nat->Option New:=λk=>find ((l.map (·.1)).zip ns) k
   let c:Cc:=⟨mb,mo,λk=>match news k with | some n=>n.h | none=>undef,λk=>match news k with | some n=>n.F | none=>[]⟩
   obtain ⟨o1,o2,o3,o4⟩:=Tb l blank hkeys;have hq:(rs.1.map λp=>U.ms p.1.1 p.2)=(rs.1.map λp=>(p.1.1,p.2)).map λp=>U.ms p.1 p.2:=by rw [AmU];rfl
   rw [hq]at h;have hb1:(rs.1.map λp=>(p.1.1,p.2)).map (·.1)=K.map (·.1):=by rw [<- b1,AmU,AmU];rfl
   generalize hrs:(rs.1.map λp=>(p.1.1,p.2))=rs' at *;obtain ⟨m1,m2,m3,m4⟩:=AeJ rs' (blank.ups (Ho l)) (by rw [hb1];exact hKn);obtain ⟨p1,p2,p3,p4⟩:=RY vs.1 0 ((blank.ups (Ho l)).ups (rs'.map λp=>.ms p.1 p.2));have how:∀k,S.ow k=match news k with | some n=>some n.o | none=>none:=by
    intro k;rw [<- h,p1,m1,o4];have:=QN hall k;refine Eq.trans ?_ this.symm;cases find l k <;> rfl
   have hms:∀k,S.ms k=match find rs' k with | some r=>some (KX r) | none=>none:=by
    intro k;rw [<- h,p2,m3,o1];rfl
   have hmc:∀k i,S.mc k i=match find rs' k with | some r=>r.getD i .no | none=>.no:=by
    intro k i;rw [<- h,p3,m4,o2];rfl
   have hsl:∀i,S.sl i=match vs.1[i]? with | some x=>.s x | none=>.no:=by
    intro i;rw [<- h,p4,Al1 (Ane _),AnE,m2,o3];rfl
   have hHv:Hv S c l ns:=by
    intro k n hk;have hf:news k=some n:=Do (by rw [List.map_fst_zip (by rw [hall.len];simp)];exact hkeys) hk;refine⟨by rw [how,hf],?_⟩;show(match news k with | some n=>n.h | none=>undef)=_;rw [hf]
   have hmsK:∀k,k∈K.map (·.1)↔S.ms k≠none:=by
    intro k;rw [hms];constructor
    .intro hk;rw [<- hb1]at hk;obtain ⟨p,hp,rfl⟩:=Aml.1 hk;rw [Do (by rw [hb1];exact hKn) hp];simp
    .intro hk;cases hf:find rs' k with
     | none=>rw [hf]at hk;exact absurd rfl hk
     | some r=>rw [<- hb1];exact Aml.2 ⟨_,AL hf,rfl⟩
   have hnw:∀k,S.ow k≠none->∃n,news k=some n/\S.ow k=some n.o/\c.hv k=n.h/\c.F k=n.F:=by
    intro k hk;rw [how]at hk;cases hf:news k with
    | none=>rw [hf]at hk;exact absurd rfl hk
    | some n=>exact⟨n,rfl,by rw [how,hf],by show(match news k with | some n=>n.h | none=>undef)=_;rw [hf],by show(match news k with | some n=>n.F | none=>[])=_;rw [hf]⟩
   have hmbms:∀k,S.ms k≠none->c.mb k∈ms.map (·.1):=λk hk=>by
    rw [<- hmb,AmU];obtain ⟨p,hp,rfl⟩:=Aml.1 ((hmsK k).2 hk);exact Aml.2 ⟨p,hp,rfl⟩
   have hOw:∀g,AZ S c g->g∈ms.map (·.1)++(F1++F2):=by
    rintro g (⟨k,hk,rfl⟩ | ⟨k,hk,hg⟩)
    .exact Al3.2 (.inl (hmbms k hk))
    .obtain ⟨n,k1,k2,k3,k4⟩:=hnw k hk;rw [k4]at hg;exact Al3.2 (.inr ((Ek hall k n k1).2.1 g hg))
   have hKok:∀g,g < w.heap.size->Ro g->Kok ⟨w,Ro,λg=>g∈ms.map (·.1)++(F1++F2),N+1,ms,fx,hgb⟩ S c g:=λg _ hg=>⟨.inl hg,λho=>(hlt g (hOw g ho)).2 hg⟩
   have hmsN:=(Amj.1 hnd).1;have hdis:=(Amj.1 hnd).2.2;have hne':∀r,r∈rows->r≠[]:=λr hr he=>by
    have:=Amr.1 hne r hr;rw [he]at this;cases this
   have hnl0:∀p,p∈rs.1->p.2≠[]:=λp hp he=>by
    have hm:p.2.length∈rows.map List.length:=by rw [<- b2];exact Aml.2 ⟨p,hp,rfl⟩
    obtain ⟨r,hr,hrl⟩:=Aml.1 hm;rw [he]at hrl;exact hne' r hr (Amo hrl)
   have hmap0:∀k,k∈K->∀es n,w.heap[mb k.1]?=some (.map es n)->S.ms k.1=some 0:=by
    intro k hk es n hh;rw [<- b1]at hk;obtain ⟨p,hp,rfl⟩:=Aml.1 hk;rcases b5 p hp with⟨cs,e,fr,h1⟩ | ⟨xs,h1,_⟩
    .rw [hh]at h1;cases h1
    .have:find rs' p.1.1=some p.2:=Do (by rw [hb1];exact hKn) (by rw [<- hrs];exact Aml.2 ⟨p,hp,rfl⟩);rw [hms,this,h1];rfl
   have hmap1:∀k,S.ms k=some 0->∃xs,S.mc k 0=.md xs/\MapAt w (mb k) xs:=by
    intro k hn;rw [hms]at hn;cases hf:find rs' k with
    | none=>rw [hf]at hn;cases hn
    | some row=>
     rw [hf]at hn;simp only [AlV]at hn;have hfm:=AL hf;rw [<- hrs]at hfm;obtain ⟨⟨⟨k',o'⟩,row'⟩,hpm,hpe⟩:=Aml.1 hfm;simp only [Prod.mk.injEq]at hpe;obtain ⟨rfl,rfl⟩:=hpe;obtain ⟨xs,rfl⟩:∃xs,row'=[.md xs]:=by
      unfold KX at hn;split at hn
      .exact⟨_,rfl⟩
      .exact absurd (Amo hn) (hnl0 _ hpm)
     have hb4:=b4 S c (Hv.right hnl (by have:=hHv;rwa [<- hl,<- hns]at this)) (λk hk=>(hmsK k.1).1 (Aml.2 ⟨k,hk,rfl⟩)) (λ_ _=>⟨rfl,rfl⟩) hmap0 _ hpm;rcases hb4 with⟨cs,e,fr,h1,h2,hw3,h3⟩ | ⟨ys,h1,h2⟩
     .obtain ⟨u,_,h⟩:=h3.get (i:=0) (show [Leaf.md xs][0]?=some (.md xs) from rfl);exact h.elim
     .injection h1 with h1
      injection h1 with h1
      subst h1;exact⟨xs,by rw [hmc,hf];rfl,h2⟩
   refine⟨c,⟨?_,?_,?_,?_,?_,?_,?_,λ_ _ _=>rfl,rfl,rfl,rfl,Amu _,?_,hmap1⟩,⟨λi=>?_,?_,rfl⟩,?_⟩
   .intro k n hn hn0;have hk:S.ms k≠none:=by rw [hn];simp
    rw [hms]at hn;cases hf:find rs' k with
    | none=>rw [hf]at hn;cases hn
    | some row=>
     rw [hf]at hn;simp only [AlV]at hn;have hb:=hHv;rw [<- hl,<- hns]at hb;have hfm:=AL hf;rw [<- hrs]at hfm;obtain ⟨⟨⟨k',o'⟩,row'⟩,hpm,hpe⟩:=Aml.1 hfm;simp only [Prod.mk.injEq]at hpe;obtain ⟨rfl,rfl⟩:=hpe;have ho':o'=0:=hK0 (k',o') (by rw [<- b1];exact Aml.2 ⟨_,hpm,rfl⟩);subst ho';have hb4:=b4 S c (Hv.right hnl hb) (λk hk=>(hmsK k.1).1 (Aml.2 ⟨k,hk,rfl⟩)) (λ_ _=>⟨rfl,rfl⟩) hmap0 _ hpm;rcases hb4 with⟨cs,e,fr,h1,h2,hw3,h3⟩ | ⟨xs,h1,_⟩
     rotate_left
     .simp only at h1;subst h1;simp only [KX]at hn;omega
     simp only [Anq]at hw3 h3;have hrl:KX row'=row'.length:=by
      unfold KX;split
      .rename_i xs;obtain ⟨u,_,h⟩:=h3.get (i:=0) (show [Leaf.md xs][0]?=some (.md xs) from rfl);exact h.elim
      .rfl
     rw [hrl]at hn;refine⟨cs,e,fr,h1,by rw [<- hn];exact hw3,h2,λi u hlt' hu=>?_,?_⟩
     rotate_left
     .intro cs0 e0 fr0 h0;have h1':=h1;rw [show w.heap[mb k']?=_ from h0]at h1';injection h1' with h1'
      injection h1' with x1 x2 x3
      subst x1 x2 x3;exact⟨rfl,rfl,rfl,λ_ _=>rfl⟩
     obtain ⟨lf,q1,q2⟩:=All2.map_right h3 (i:=i) (x:=u) (by rw [Ami O,AmC,Amh];exact hu);rw [hmc,hf];simp only;rw [AmO,q1];exact LeafOk.mono hKok q2
   .intro k o ho;obtain ⟨n,k1,k2,k3,k4⟩:=hnw k (by rw [ho];simp);rw [ho]at k2;injection k2 with k2
    subst k2;rw [k3,k4];exact Rp.mono hKok _ _ (Ek hall k n k1).2.2.2
   .intro k hk;obtain ⟨n,k1,k2,k3,k4⟩:=hnw k hk;rw [k4];exact(Ek hall k n k1).2.2.1 hFn
   .intro k k' hne h1 h2 g hg;obtain ⟨n,k1,_,_,k4⟩:=hnw k h1;obtain ⟨n',q1,_,_,q4⟩:=hnw k' h2;rw [k4]at hg;rw [q4];exact SS hall hFn k n k' n' hne k1 q1 g hg
   .intro k k' hne h1 h2 he;have h1':=(hmsK k).2 h1;have h2':=(hmsK k').2 h2;rw [<- hK]at h1' h2';rw [AmU]at h1' h2';obtain ⟨m,hm,rfl⟩:=Aml.1 h1';obtain ⟨m',hm',rfl⟩:=Aml.1 h2';have hm:=AnG.1 hm;have hm':=AnG.1 hm';have he':(ms.getD (N+1+m - (N+1)) (0,0)).1=(ms.getD (N+1+m' - (N+1)) (0,0)).1:=he;rw [AnZ,AnZ,AmO,AmO,AlW O,AlW O]at he';simp only [AmG]at he';have hpw:=List.pairwise_iff_getElem.1 hmsN;simp only [Amt,List.getElem_map]at hpw;rcases Nat.lt_trichotomy m m' with h | h | h
    .exact hpw m m' O O h he'
    .exact hne (by simp only [Function.comp,h])
    .exact hpw m' m O O h he'.symm
   .intro k k' h1 h2 hg;obtain ⟨n,k1,_,_,k4⟩:=hnw k' h2;rw [k4]at hg;exact hdis _ (hmbms k h1) _ ((Ek hall k' n k1).2.1 _ hg) rfl
   .intro g hg;have:=hOw g hg;exact⟨(hlt g this).1,.inr this⟩
   .intro m g hg;show(ms.getD (N+1+m - (N+1)) (0,0)).1=g.1/\(ms.getD (N+1+m - (N+1)) (0,0)).2=g.2;rw [AnZ,AmO,hg];exact⟨rfl,rfl⟩
   .have hb:=hHv;rw [<- hl,<- hns]at hb;have hsv:=a2 S c (Hv.left hnl hb) (λk hk=>(hmsK k.1).1 (Aml.2 ⟨k,hk,rfl⟩)) (λ_ _=>⟨rfl,rfl⟩);rw [hsl];cases hx:vs.1[i]? with
    | none=>trivial
    | some x=>
     obtain ⟨v,hv1,hv2⟩:=hsv.get hx;have hlt':i < vals.length:=(Amy.1 hv1).1;have:(vals.toArray++Array.replicate (N - vals.length) undef).getD i undef=v:=by
      rw [And,Array.getElem?_append_left (by simpa using hlt'),List.getElem?_toArray,hv1];rfl
     rw [this];exact S1Ok.mono hKok hv2
   .simp only [AnP,Am5,Array.size_replicate];omega
   .intro p hp;have hp':=hfx p hp;rw [And,Array.getElem?_append_left (by simpa using (Amy.1 hp').1),List.getElem?_toArray,hp'];rfl
  .cases h
 .cases h
theorem RQ {b:Base} {S:St} {c:Cc} {w:World} {N:Nat} {a:Act} (hi:Inv b S w c) (hs:Slots N S c w (Kok b S c) a) {vals:List Value}:∀(ln:List (Nat×Nat)) {y:List ((Nat×Nat)×Ae)×List Nat},
  (∀p,p∈ln->vals[p.1]?=some (a.tmps.getD p.1 undef))->(LW S ln).ev S=some y->∃G,LentOk w (Kok b S c) vals y.1 G/\Outs S c y.2 G
 | [],y,_,h=>by
  simp only [LW,Tr.ev,AlV]at h;subst h;exact⟨[],rfl,Outs.nil⟩
 | p::ps,y,hv,h=>by
  simp only [LW]at h;split at h
  .rename_i k hlf;simp only [Af,AlY,Tr.ev,AlV]at h;obtain ⟨o,ho,y',hy',rfl⟩:=h;obtain ⟨G2,h1,h2⟩:=RQ hi hs ps (λq hq=>hv q (by simp [hq])) hy';have hvp:=hv p Z;obtain ⟨v,hval,hlk⟩:∃v,EO vals p=some v/\LeafOk S c w (Kok b S c) (.vw k [] none) v:=by
    unfold Aek at hlf;have hok:=hs.ok p.1;split at hlf
    .rename_i l hl;rw [hl]at hok;split at hlf
     .rename_i hp2;subst hlf;have hsl:LeafOk S c w (Kok b S c) (.vw k [] none) (a.tmps.getD p.1 undef):=hok;refine⟨_,?_,hsl⟩;obtain ⟨A,n,cap,e⟩:=SP hi hsl;unfold EO;rw [hvp,e];simp [hp2]
     .cases hlf
    .rename_i ls hl;rw [hl]at hok;obtain ⟨vs,e,hall⟩:=hok;rw [AmO]at hlf;cases hj:ls[p.2]? with
     | none=>rw [hj]at hlf;cases hlf
     | some l=>
      rw [hj]at hlf;simp only [AmG]at hlf;subst hlf;obtain ⟨v,q1,q2⟩:=hall.get hj;refine⟨v,?_,q2⟩;unfold EO;rw [hvp,e];simpa using q1
    .cases hlf
   obtain ⟨g1,F',g2,g3,g4⟩:=IB hi hlk ho;refine⟨F'++G2,⟨v,F',G2,rfl,hval,⟨g2,λh=>by simp [Ty.own]at h⟩,h1⟩,?_⟩;exact Outs.append hi (k:=[k]) ⟨λk' hk'=>(by simp only [Al6]at hk';subst hk';exact g1),λ_=>g4,λg hg=>⟨k,Z,g3 g hg⟩⟩ h2
  .simp [Tr.ev]at h
theorem Ah7 {P : Program} {E : Env} (hE : EnvOk P E) {f : FuncId} {fn : Func} {J : Joins} {ann : Ann} {ln : List (Nat × Nat)} {as : List A1} {rows : List (List Ae)} {r : Res} (hf : P.funcs[f]? = some fn) (hname : (fn.name == "runtime.NumGoroutine") = false)
  (h:(Add E fn J ann ln as rows).run=some r):CA P f as rows r:=by
 unfold Add at h;split at h
 .rename_i c hb;split at h
  .rename_i hlen;obtain ⟨hlen,hln⟩:=hlen;rw [Al2]at hln;obtain ⟨hen,hln⟩:=hln;split at h
   .rename_i S hS;rw [run_bind,AlY]at h;obtain ⟨⟨e,S1⟩,h1,h2⟩:=h;refine⟨⟨fn,hf,hname,by rw [hb];rfl⟩,?_⟩;intro w vals Ro ms F1 F2 hA hR hnd hlt hgl;have hgb:GlF w/\∀g,glo g->Ro g/\¬ g∈ms.map (·.1)++(F1++F2):=⟨hgl.1,λg hg=>⟨hgl.2 g hg,λho=>(hlt g ho).2 (hgl.2 g hg)⟩⟩
    have hvl:=hA.len;generalize hfx:(vals.zipIdx.filter λp=>E.fx.contains p.2).map (λp=>(p.2,p.1))=fx;have hfx1:∀i v,(i,v)∈fx↔vals[i]?=some v/\E.fx.contains i=true:=by
     intro i v;rw [<- hfx];simp only [Aml,AnT,Prod.exists,Prod.mk.injEq];constructor
     .rintro ⟨x,j,⟨h1,h2⟩,rfl,rfl⟩;exact⟨by simpa using List.mk_mem_zipIdx_iff_getElem?.1 h1,h2⟩
     .rintro ⟨h1,h2⟩;exact⟨v,i,⟨List.mk_mem_zipIdx_iff_getElem?.2 (by simpa using h1),h2⟩,rfl,rfl⟩
    have hF:∀p,p∈fx->E.fx.contains p.1=true:=λp hp=>((hfx1 p.1 p.2).1 hp).2
    have hsim:=AfO hS hA hR hnd hlt O fx (λp hp=>((hfx1 p.1 p.2).1 hp).1) hgb;have hml:=hR.len;have hrne:=AfI hS;have hfin:∀a' w',Sim ⟨w,Ro,λg=>g∈ms.map (·.1)++(F1++F2),fn.ntmps+1,ms,fx,hgb⟩ fn.ntmps S1 a' w'->(XT E fn.ntmps fn rows ln S1).run=some r->
      a'.defers=[]/\∃v,(results fn a'.tmps).run P w'=.ok v w'/\∃v',Ending.returned v=.returned v'/\IF w Ro ms (F1++F2) vals r v' w':=by
     rintro a' w' ⟨c',hi,hsl,hafx⟩ hfi;refine⟨hsl.d,?_⟩;unfold XT at hfi;rw [run_bind,AlY]at hfi;obtain ⟨⟨⟨y1,y2,y3⟩,lg⟩,g1,g2⟩:=hfi;split at g2
     .rename_i hu;simp only [Tr.run,AlV]at g2;subst g2;have g3:=Ahw S1 _ [] g1;rw [Af,AlY]at g3;obtain ⟨z1,hz1,g3⟩:=g3;rw [Af,AlY]at g3;obtain ⟨z2,hz2,g3⟩:=g3;rw [Af,AlY]at g3;obtain ⟨z3,hz3,g3⟩:=g3;simp only [Tr.ev,AlV,Prod.mk.injEq]at g3;obtain ⟨e1,e2,e3⟩:=g3;subst e1 e2 e3;obtain ⟨vs,G1,k1,k2,k3⟩:=Pa (P:=P) hE.ti rfl hml.symm hi hsl _ _ hz1;obtain ⟨q0,ql,G2,q1,q2⟩:=TB hi rfl hml.symm rows 0 ms hml.symm (λj g hg=>by rw [Amk];exact hg) hrne hz2;obtain ⟨G3,r1,r2⟩:=RQ hi hsl (vals:=vals) ln (λp hp=>by
       have:=Amr.1 hln p hp;simp only [Al2,decide_eq_true_eq]at this;have hlv:p.1 < vals.length:=O
       have hm:=(hfx1 p.1 vals[p.1]).2 ⟨AlW hlv,this.1⟩;rw [hafx _ hm];exact AlW hlv) hz3
      have hout:=Outs.append hi k3 (Outs.append hi q2 r2);have hmsO:∀g,g∈ms.map (·.1)->∃k,S1.ms k≠none/\c'.mb k=g:=by
       intro g hg;obtain ⟨p,hp,rfl⟩:=Aml.1 hg;obtain ⟨m,hm,hmg⟩:=AmA hp;have h3:ms[m]?=some p:=by rw [AlW hm,hmg]
       refine⟨fn.ntmps+1+m,?_,(hi.an m p h3).1⟩;have hm':m < rows.length:=O
       have:=q0 m _ (AlW hm');rw [Anq]at this;rw [this];simp
      have hGO:∀g,g∈G1++(G2++G3)->∃k,S1.ow k≠none/\g∈c'.F k:=by
       intro g hg;obtain ⟨k,h3,h4⟩:=hout.2.2 g hg;exact⟨k,hout.1 k h3,h4⟩
      have hKK:∀g,g < w'.heap.size->Kok ⟨w,Ro,λg=>g∈ms.map (·.1)++(F1++F2),fn.ntmps+1,ms,fx,hgb⟩ S1 c' g->((Ro g\/w.heap.size<=g\/g∈F1++F2)/\g∉ms.map (·.1)++(G1++(G2++G3))):=by
       rintro g _ ⟨h3,h4⟩;have hnm:g∉ms.map (·.1):=λhg=>by
        obtain ⟨k,h5,h6⟩:=hmsO g hg;exact h4 (.inl ⟨k,h5,h6⟩)
       refine⟨h3.imp id λh3=>h3.imp id λh3=>(Al3.1 h3).elim (λhg=>absurd hg hnm) id,λhg=>?_⟩;rcases Al3.1 hg with hg | hg
       .obtain ⟨k,h5,h6⟩:=hmsO g hg;exact h4 (.inl ⟨k,h5,h6⟩)
       .obtain ⟨k,h5,h6⟩:=hGO g hg;exact h4 (.inr ⟨k,h5,h6⟩)
      have hres:(results fn a'.tmps).run P w'=.ok (Vc vs) w':=by
       have he:results fn a'.tmps=(do let vs <- fn.results.mapM (Re a'.tmps);pure (if h:vs.size=1 then vs[0]else .tuple vs)):=rfl;have hm:(fn.results.mapM (Re a'.tmps)).run P w'=.ok vs.toArray w':=by
        rw [Array.mapM_eq_mapM_toList];simp [k1]
       rw [he];rw [Sem.run_bind,hm];simp only [Result.andThen_ok,Sem.run_pure]
       congr 1
       match vs with
       | []=>rfl
       | [v]=>rfl
       | _::_::_=>rfl
      refine⟨_,hres,_,rfl,vs,G1,G2,G3,rfl,k2.mono λ_ _ _ h=>A1Ok.mono hKK h,RowsOk.mono hKK q1,LentOk.mono hKK r1,?_,?_,?_,?_⟩
      .refine Amj.2 ⟨(Amj.1 hnd).1,hout.2.1 hu,?_⟩;rintro g hg g' hg' rfl;obtain ⟨k,h5,h6⟩:=hmsO g hg;obtain ⟨k',h7,h8⟩:=hGO g hg';exact hi.mo k k' h5 h7 (by rw [h6];exact h8)
      .intro g hg;obtain ⟨k,h5,h6⟩:=hGO g hg;obtain ⟨h7,h8⟩:=hi.fr g (.inr ⟨k,h5,h6⟩);refine⟨h7,?_⟩;rcases h8 with h8 | h8
       .exact .inr h8
       .rcases Al3.1 h8 with h8 | h8
        .obtain ⟨k',h9,h10⟩:=hmsO g h8;exact absurd h6 (h10 ▸ hi.mo k' k h9 h5)
        .exact .inl h8
      .exact⟨hi.os,hi.tape,hi.output,hi.size,λg hg hn=>hi.fix g hg hn⟩
      .refine⟨λm g es n hmg hes=>?_,λm g row cs e fr hmg hrow hcs=>?_⟩
       .have hm':m < rows.length:=by have:=(Amy.1 hmg).1;omega
        have hms1:=q0 m _ (AlW hm');rw [Anq]at hms1;rcases hR.at hmg (AlW hm')with⟨F,⟨cs,e,fr,h3,_⟩ | ⟨xs,h3,_⟩⟩
        .rw [hes]at h3;cases h3
        .rw [h3]at hms1;obtain ⟨ys,_,es',h4,_⟩:=hi.mp _ hms1;rw [(hi.an m g hmg).1]at h4;exact⟨es',_,h4⟩
       have hm':m < rows.length:=by have:=(Amy.1 hmg).1;omega
       have hms1:=q0 m _ (AlW hm');rw [Anq]at hms1;have hlr:SW rows[m]=rows[m].length:=by
        unfold SW;split
        .rename_i xs h3;rcases hR.at hmg (AlW hm')with⟨F,⟨cs,e,fr,_,_,_,h4⟩ | ⟨xs,_,⟨es,h5,_⟩,_⟩⟩
         .rw [h3]at h4;obtain ⟨v,vs',F1,F2,_,_,h5,_⟩:=h4;rcases h5 with h5 | ⟨_,_,_,h5,_⟩ | ⟨_,_,_,h5,_⟩
          .have:=h5.1;simp only [Rp]at this
          .cases h5
          .cases h5
         .rw [hcs]at h5;cases h5
        .rfl
       rw [hlr]at hms1;obtain ⟨cs',e',fr',a1,a2,a3,a4,a5⟩:=hi.ms _ _ hms1 (List.length_pos_iff.2 (hrne _ (Amc hm')));have han:=hi.an m g hmg;simp only at han;rw [han.1]at a1 a5;rw [han.2]at a5;obtain ⟨rfl,rfl,x3,x4⟩:=a5 cs e fr hcs;have hrl:row.length=rows[m].length:=by
        have:=congrArg (·[m]?) ql;simp only [AmB,hrow,AmS,AlW hm',AlV]at this;exact this
       exact⟨cs',a1,x3.symm,λi hio=>x4 i O⟩
     .simp [Tr.run]at g2
    refine calls_of_wp hf hb ?_;rw [Am5];obtain ⟨S0,h0,hw⟩:=M9 (b:=⟨w,Ro,λg=>g∈ms.map (·.1)++(F1++F2),fn.ntmps+1,ms,fx,hgb⟩) (N:=fn.ntmps) h1;rw [run_bind,AlY]at h0;obtain ⟨⟨e0,S00⟩,h0,h00⟩:=h0;simp only [Tr.run,AlV,Prod.mk.injEq]at h00;obtain ⟨he,rfl⟩:=h00;refine Agv hE hF (λ_ _ s p hp=>by rw [List.isEmpty_iff.1 hen]at hp;cases hp) (b:=⟨w,Ro,λg=>g∈ms.map (·.1)++(F1++F2),fn.ntmps+1,ms,fx,hgb⟩) (Nat.lt_succ_self _) c h0 hsim λa' w' hs''=>?_
    have hs':=hw hs'';cases e0 with
    | n=>subst he;exact hfin a' w' hs' h2
    | r=>subst he;exact hfin a' w' hs' h2
    | x id=>subst he;simp [Tr.run]at h2
   .simp [Tr.run]at h
  .simp [Tr.run]at h
 .simp [Tr.run]at h
end Go.V
namespace Go.V
open Go.ChangeShapes Go.RowKit
theorem Ae5 {P:Program} {f:FuncId} {as:List A1} {vals:List Value} {w:World} (h:CA P f as [] ⟨[.one ⟨.bool,true⟩],[],[]⟩) (ha:FL (A1Ok w (λ_=>True) []) as vals []) (hg:GlF w) :
  Calls P f vals.toArray w λe w'=>e=.returned (.bool true)/\Below w.heap.size w w':=by
 refine Calls.mono (h.2 w vals (λ_=>True) [] [] [] ha ⟨rfl,rfl⟩ Z (λg hg=>by simp at hg) ⟨hg,λ_ _=>trivial⟩) ?_;rintro e w' ⟨v,rfl,vs,F1,F2,F3,rfl,h1,_,_,_,_,h5,_⟩;obtain ⟨u,us,G1,G2,rfl,_,h6,h7⟩:=h1;obtain ⟨rfl,_⟩:=h7;have:u=.bool true:=by
  have:=h6.1;simp only [Rp]at this;have h8:=this.1;injection h8
 subst this;exact⟨rfl,h5.os,h5.tape,h5.output,h5.size,λk hk=>h5.same k hk Z⟩
end Go.V
namespace Go.V
structure Ans where
 β:Type
 o:Option β
 g:β->Res
structure Kn where
 f:FuncId
 mv:List Nat
 ca:List A1->List (List Ae)->Option Ans
 fr:List (List Ty):=[]
def Akd:List Kn->FuncId->List Nat
 | [],_=>[]
 | k::l,g=>if g=k.f then k.mv else Akd l g
def AiX:List Kn->FuncId->List (List Ty)
 | [],_=>[]
 | k::l,g=>if g=k.f then k.fr else AiX l g
def UT:List Kn->FuncId->List A1->List (List Ae)->Tr Res
 | [],_,_,_=>.fail
 | k::l,g,as,rows=>if g=k.f then match k.ca as rows with
   | some a=>.get a.β a.o λy=>.ret (a.g y)
   | none=>UT l g as rows
  else UT l g as rows
def TN (ti:TypeId->TI) (l:List Kn) (fx:List Nat) (hn:List (Nat×List Ty):=[]) (kc:List (Nat×List (Nat×Nat)):=[]):Env:=⟨ti,Akd l,AiX l,fx,UT l,hn,[],kc⟩
def J2 (P:Program) (k:Kn):Prop:=∀as rows a,k.ca as rows=some a->∀y,a.o=some y->CA P k.f as rows (a.g y)
theorem Vi {P:Program}:∀(l:List Kn),(∀k∈l,J2 P k)->∀f as rows S r,(UT l f as rows).ev S=some r->CA P f as rows r
 | [],_,f,as,rows,S,r,h=>by simp [UT,Tr.ev]at h
 | k::l,hk,f,as,rows,S,r,h=>by
  rw [UT]at h;split at h
  .rename_i hf;subst hf;split at h
   .rename_i a ha;simp only [Tr.ev,AlY,AlV]at h;obtain ⟨y,hy,rfl⟩:=h;exact hk k Z as rows a ha y hy
   .exact Vi l (λk h=>hk k (by simp [h])) _ as rows S r h
  .exact Vi l (λk h=>hk k (by simp [h])) f as rows S r h
theorem Yk {P:Program} {ti:TypeId->TI} (ht:TabOk P ti) (hm:P.follows .mixedOrders=true) (l:List Kn) (fx:List Nat) (h:∀k∈l,J2 P k) (hn:List (Nat×List Ty):=[]) (kc:List (Nat×List (Nat×Nat)):=[]):EnvOk P (TN ti l fx hn kc):=
 ⟨ht,hm,λf as rows S r hr=>Vi l h f as rows S r hr⟩
def Xy (P:Program):List TI->Nat->Bool
 | [],_=>true
 | x::l,n=>NI P n x && Xy P l (n+1)
theorem XH {P:Program}:∀(l:List TI) (n:Nat),Xy P l n=true->∀t,NI P (n+t) (l.getD t .other)=true
 | [],n,_,t=>by simp [NI]
 | x::l,n,h,t=>by
  simp only [Xy,Al2]at h;cases t with
  | zero=>exact h.1
  | succ t=>have:=XH l (n+1) h.2 t;rw [(O:n+(t+1)=n+1+t)];exact this
theorem AkB (P:Program) (l:List TI) (h:Xy P l 0=true):TabOk P (λt=>l.getD t .other):=λt=>by
 have:=XH l 0 h t;rwa [Amk]at this
inductive Ash where
 | one (t:Ty)
 | ag (ts:List Ty)
 | pl (m off:Nat)
 | rp (t:Ty) (off:Nat)
 | fv (f:FuncId) (cs:List (Nat×Nat))
inductive Esh where
 | v (t:Ty)
 | p (m off:Nat)
 | mk (m:Nat)
def tD:List Ty->Type
 | []=>Unit
 | t::ts=>t.D×tD ts
def cD:List Ty->Type->Type
 | [],R=>R
 | t::ts,R=>t.D->cD ts R
def cAp {R:Type}:(ts:List Ty)->cD ts R->tD ts->R
 | [],f,_=>f
 | _::ts,f,x=>cAp ts (f x.1) x.2
def Ash.D:Ash->Type
 | .one t=>t.D
 | .ag ts=>tD ts
 | .rp t _=>t.D
 | .pl _ _=>Unit
 | .fv _ _=>Unit
def Ash.F:Ash->Type->Type
 | .one t,R=>t.D->R
 | .ag ts,R=>cD ts R
 | .rp t _,R=>t.D->R
 | .pl _ _,R=>R
 | .fv _ _,R=>R
def Ash.ap {R:Type}:(a:Ash)->a.F R->a.D->R
 | .one _,f,x=>f x
 | .ag ts,f,x=>cAp ts f x
 | .rp _ _,f,x=>f x
 | .pl _ _,f,_=>f
 | .fv _ _,f,_=>f
def Esh.D:Esh->Type
 | .v t=>t.D
 | .p _ _=>Unit
 | .mk _=>Unit
def Esh.F:Esh->Type->Type
 | .v t,R=>t.D->R
 | .p _ _,R=>R
 | .mk _,R=>R
def Esh.ap {R:Type}:(a:Esh)->a.F R->a.D->R
 | .v _,f,x=>f x
 | .p _ _,f,_=>f
 | .mk _,f,_=>f
def aD:List Ash->Type
 | []=>Unit
 | a::as=>a.D×aD as
def aF:List Ash->Type->Type
 | [],R=>R
 | a::as,R=>a.F (aF as R)
def aAp {R:Type}:(as:List Ash)->aF as R->aD as->R
 | [],f,_=>f
 | a::as,f,x=>aAp as (a.ap f x.1) x.2
def eD:List Esh->Type
 | []=>Unit
 | a::as=>a.D×eD as
def eF:List Esh->Type->Type
 | [],R=>R
 | a::as,R=>a.F (eF as R)
def eAp {R:Type}:(as:List Esh)->eF as R->eD as->R
 | [],f,_=>f
 | a::as,f,x=>eAp as (a.ap f x.1) x.2
def rD:List (List Esh)->Type
 | []=>Unit
 | a::as=>eD a×rD as
def rF:List (List Esh)->Type->Type
 | [],R=>R
 | a::as,R=>eF a (rF as R)
def rAp {R:Type}:(as:List (List Esh))->rF as R->rD as->R
 | [],f,_=>f
 | a::as,f,x=>rAp as (eAp a f x.1) x.2
def lB:(ts:List Ty)->tD ts->List Ae
 | [],_=>[]
 | t::ts,x=>⟨t,x.1⟩::lB ts x.2
def Ash.B:(a:Ash)->a.D->A1
 | .one t,x=>.one ⟨t,x⟩
 | .ag ts,x=>.ag (lB ts x)
 | .rp t off,x=>.rp t x off
 | .pl m off,_=>.pl m off
 | .fv f cs,_=>.fv f cs
def aB:(as:List Ash)->aD as->List A1
 | [],_=>[]
 | a::as,x=>a.B x.1::aB as x.2
def Esh.B:(a:Esh)->a.D->Ae
 | .v t,x=>⟨t,x⟩
 | .p m off,_=>⟨.lp,(m,off)⟩
 | .mk m,_=>⟨.mh,m+1⟩
def eB:(as:List Esh)->eD as->List Ae
 | [],_=>[]
 | a::as,x=>a.B x.1::eB as x.2
def rB:(as:List (List Esh))->rD as->List (List Ae)
 | [],_=>[]
 | a::as,x=>eB a x.1::rB as x.2
def mL (t:Ty) (l:Ae):Option t.D:=if h:l.1=t then some (h ▸ l.2)else none
theorem Xv {t:Ty} {l:Ae} {x:t.D} (h:mL t l=some x):l=⟨t,x⟩:=by
 obtain ⟨t',u⟩:=l;unfold mL at h;split at h
 .rename_i ht;dsimp only at ht;subst ht;injection h with h
  subst h;rfl
 .cases h
def lM:(ts:List Ty)->List Ae->Option (tD ts)
 | [],[]=>some ()
 | t::ts,l::ls=>match mL t l with
  | some y=>match lM ts ls with
   | some x=>some (y,x)
   | none=>none
  | none=>none
 | _,_=>none
def AgH (t:Ty):A1->Option t.D
 | .one l=>mL t l
 | _=>none
def mAg (ts:List Ty):A1->Option (tD ts)
 | .ag ls=>lM ts ls
 | _=>none
def mRp (t:Ty) (off:Nat):A1->Option t.D
 | .rp t' x off'=>if off'=off then mL t ⟨t',x⟩else none
 | _=>none
def mPl (m off:Nat):A1->Option Unit
 | .pl m' off'=>if m'=m/\off'=off then some ()else none
 | _=>none
def mFv (f:FuncId) (cs:List (Nat×Nat)):A1->Option Unit
 | .fv f' cs'=>if f'=f/\cs'=cs then some ()else none
 | _=>none
def Ash.M:(a:Ash)->A1->Option a.D
 | .one t=>AgH t
 | .ag ts=>mAg ts
 | .rp t off=>mRp t off
 | .pl m off=>mPl m off
 | .fv f cs=>mFv f cs
def aM:(as:List Ash)->List A1->Option (aD as)
 | [],[]=>some ()
 | a::as,l::ls=>match a.M l with
  | some x=>match aM as ls with
   | some y=>some (x,y)
   | none=>none
  | none=>none
 | _,_=>none
def mP (m off:Nat):Ae->Option Unit
 | ⟨.lp,q⟩=>if q=(m,off)then some ()else none
 | _=>none
def mM (m:Nat):Ae->Option Unit
 | ⟨.mh,q⟩=>if(q:Nat)=m+1 then some ()else none
 | _=>none
def Esh.M:(a:Esh)->Ae->Option a.D
 | .v t=>mL t
 | .p m off=>mP m off
 | .mk m=>mM m
def eM:(as:List Esh)->List Ae->Option (eD as)
 | [],[]=>some ()
 | a::as,l::ls=>match a.M l with
  | some x=>match eM as ls with
   | some y=>some (x,y)
   | none=>none
  | none=>none
 | _,_=>none
def rM:(as:List (List Esh))->List (List Ae)->Option (rD as)
 | [],[]=>some ()
 | a::as,l::ls=>match eM a l with
  | some x=>match rM as ls with
   | some y=>some (x,y)
   | none=>none
  | none=>none
 | _,_=>none
theorem Ahp:∀(ts:List Ty) (ls:List Ae) (x:tD ts),lM ts ls=some x->ls=lB ts x
 | [],[],_,_=>rfl
 | t::ts,l::ls,x,h=>by
  unfold lM at h;split at h
  .rename_i u hu;split at h
   .rename_i y hy;injection h with h
    subst h;rw [Xv hu,Ahp ts ls y hy];rfl
   .cases h
  .cases h
 | [],_::_,_,h=>by simp [lM]at h
 | _::_,[],_,h=>by simp [lM]at h
theorem Ash.M_ok (a:Ash) (l:A1) (x:a.D) (h:a.M l=some x):l=a.B x:=by
 cases a with
 | one t=>
  replace h:AgH t l=some x:=h
  unfold AgH at h;split at h
  .exact congrArg A1.one (Xv h)
  .cases h
 | ag ts=>
  replace h:mAg ts l=some x:=h
  unfold mAg at h;split at h
  .exact congrArg A1.ag (Ahp ts _ x h)
  .cases h
 | rp t off=>
  replace h:mRp t off l=some x:=h
  unfold mRp at h;split at h
  .split at h
   .rename_i ho;subst ho;have:=Xv h;injection this with e1 e2
    subst e1;obtain rfl:=eq_of_heq e2;rfl
   .cases h
  .cases h
 | pl m off=>
  replace h:mPl m off l=some x:=h
  unfold mPl at h;split at h
  .split at h
   .rename_i hm;obtain ⟨rfl,rfl⟩:=hm;rfl
   .cases h
  .cases h
 | fv f cs=>
  replace h:mFv f cs l=some x:=h
  unfold mFv at h;split at h
  .split at h
   .rename_i hm;obtain ⟨rfl,rfl⟩:=hm;rfl
   .cases h
  .cases h
theorem Ahv:∀(as:List Ash) (ls:List A1) (x:aD as),aM as ls=some x->ls=aB as x
 | [],[],_,_=>rfl
 | a::as,l::ls,x,h=>by
  unfold aM at h;split at h
  .rename_i y hy;split at h
   .rename_i z hz;injection h with h
    subst h;rw [a.M_ok l y hy,Ahv as ls z hz];rfl
   .cases h
  .cases h
 | [],_::_,_,h=>by simp [aM]at h
 | _::_,[],_,h=>by simp [aM]at h
theorem Esh.M_ok (a:Esh) (l:Ae) (x:a.D) (h:a.M l=some x):l=a.B x:=by
 cases a with
 | v t=>exact Xv h
 | p m off=>
  replace h:mP m off l=some x:=h
  unfold mP at h;split at h
  .split at h
   .rename_i hq;rw [hq];rfl
   .cases h
  .cases h
 | mk m=>
  replace h:mM m l=some x:=h
  unfold mM at h;split at h
  .split at h
   .rename_i q hq;rw [show q=(m+1:Nat) from hq];rfl
   .cases h
  .cases h
theorem Ahq:∀(as:List Esh) (ls:List Ae) (x:eD as),eM as ls=some x->ls=eB as x
 | [],[],_,_=>rfl
 | a::as,l::ls,x,h=>by
  unfold eM at h;split at h
  .rename_i y hy;split at h
   .rename_i z hz;injection h with h
    subst h;rw [a.M_ok l y hy,Ahq as ls z hz];rfl
   .cases h
  .cases h
 | [],_::_,_,h=>by simp [eM]at h
 | _::_,[],_,h=>by simp [eM]at h
theorem Aht:∀(as:List (List Esh)) (ls:List (List Ae)) (x:rD as),rM as ls=some x->ls=rB as x
 | [],[],_,_=>rfl
 | a::as,l::ls,x,h=>by
  unfold rM at h;split at h
  .rename_i y hy;split at h
   .rename_i z hz;injection h with h
    subst h;rw [Ahq a l y hy,Aht as ls z hz];rfl
   .cases h
  .cases h
 | [],_::_,_,h=>by simp [rM]at h
 | _::_,[],_,h=>by simp [rM]at h
theorem Agi (t:Ty) (x:t.D):mL t ⟨t,x⟩=some x:=by unfold mL;simp
theorem AjX:∀(ts:List Ty) (x:tD ts),lM ts (lB ts x)=some x
 | [],_=>rfl
 | t::ts,x=>by
  show(match mL t ⟨t,x.1⟩with | some y=>(match lM ts (lB ts x.2)with | some x=>some (y,x) | none=>none) | none=>none)=_;rw [Agi,AjX ts x.2];rfl
theorem Ash.M_B (a:Ash) (x:a.D):a.M (a.B x)=some x:=by
 cases a with
 | one t=>exact Agi t x
 | ag ts=>exact AjX ts x
 | rp t off=>
  show(if off=off then mL t ⟨t,x⟩else none)=some x;rw [Al1 rfl];exact Agi t x
 | pl m off=>
  show(if m=m/\off=off then some ()else none)=some x;rw [Al1 ⟨rfl,rfl⟩];rfl
 | fv f cs=>
  show(if f=f/\cs=cs then some ()else none)=some x;rw [Al1 ⟨rfl,rfl⟩];rfl
theorem Aki:∀(as:List Ash) (x:aD as),aM as (aB as x)=some x
 | [],_=>rfl
 | a::as,x=>by
  show(match a.M (a.B x.1)with | some y=>(match aM as (aB as x.2)with | some x=>some (y,x) | none=>none) | none=>none)=_;rw [a.M_B,Aki as x.2];rfl
def kn {β:Type} (f:FuncId) (mv:List Nat) (as:List Ash) (rs:List (List Esh)) (fr:List (List Ty)) (G:aF as (rF rs (Option β))) (g:β->Res):Kn:=
 ⟨f,mv,λls rows=>match aM as ls with
  | some x=>match rM rs rows with
   | some y=>some ⟨β,rAp rs (aAp as G x) y,g⟩
   | none=>none
  | none=>none,fr⟩
theorem Aha {P:Program} {β:Type} {f:FuncId} {mv:List Nat} {as:List Ash} {rs:List (List Esh)} {fr:List (List Ty)} {G:aF as (rF rs (Option β))} {g:β->Res}
  (h:∀(x:aD as) (y:rD rs) (z:β),rAp rs (aAp as G x) y=some z->CA P f (aB as x) (rB rs y) (g z)):J2 P (kn f mv as rs fr G g):=by
 intro args rows a ha z hz;simp only [kn]at ha;split at ha
 .rename_i x hx;split at ha
  .rename_i y hy;injection ha with ha
   subst ha;rw [Ahv as args x hx,Aht rs rows y hy];exact h x y z hz
  .cases ha
 .cases ha
theorem Akw {P:Program} {E:Env} {β:Type} {f:FuncId} {fn:Func} {J:Joins} {ann:Ann} {ln:List (Nat×Nat)} {mv:List Nat} {as:List Ash} {rs:List (List Esh)} {fr:List (List Ty)} {G:aF as (rF rs (Option β))} {g:β->Res} (hE:EnvOk P E) (hf:P.funcs[f]?=some fn)
  (hn : (fn.name == "runtime.NumGoroutine") = false) (h : ∀ (x : aD as) (y : rD rs), (Add E fn J ann ln (aB as x) (rB rs y)).run = (rAp rs (aAp as G x) y).bind fun z => some (g z)) : J2 P (kn f mv as rs fr G g) :=
 Aha λx y z hz=>Ah7 (J:=J) (ann:=ann) (ln:=ln) hE hf hn (by rw [h x y,hz];rfl)
theorem Aij {P:Program} {f:FuncId} {mv:List Nat} {as:List Ash} {fr:List (List Ty)} {G:aF as (Option Bool)} (h:J2 P (kn f mv as [] fr G λy=>⟨[.one ⟨.bool,y⟩],[],[]⟩)) (x:aD as) (hy:aAp as G x=some true):CA P f (aB as x) [] ⟨[.one ⟨.bool,true⟩],[],[]⟩:=
 h (aB as x) [] ⟨Bool,aAp as G x,λy=>⟨[.one ⟨.bool,y⟩],[],[]⟩⟩ (by simp only [kn];rw [Aki];rfl) true hy
def KnsOk (P:Program):List Kn->Prop
 | []=>True
 | k::l=>J2 P k/\KnsOk P l
theorem KnsOk.all {P:Program}:∀(l:List Kn),KnsOk P l->∀k∈l,J2 P k
 | [],_,_,h=>by cases h
 | k::l,⟨h1,h2⟩,k',h=>by
  rcases Ame.1 h with rfl | h
  .exact h1
  .exact KnsOk.all l h2 k' h
theorem AkL {P:Program} {ti:TypeId->TI} (ht:TabOk P ti) (hm:P.follows .mixedOrders=true) (l:List Kn) (fx:List Nat) (hn:List (Nat×List Ty)) (kc:List (Nat×List (Nat×Nat))) (h:KnsOk P l):EnvOk P (TN ti l fx hn kc):=
 Yk ht hm l fx (KnsOk.all l h) hn kc
end Go.V
namespace Go.V
open Go.ChangeShapes Go.WideShapes Go.ChangeAt Go.RowKit
def Jm:(t:Ty)->t.D->Prop
 | .int k,n=>(Lit.int k n).wf=true
 | .str,s=>List.length s<=maxLen
 | .pair a b,x=>Jm a x.1/\Jm b x.2
 | .sl _ _ r,xs=>List.length xs<=maxLen/\∀x∈(show List r.D from xs),Jm r x
 | _,_=>True
def Ql (ti:TypeId->TI):List Field->Option (List Ty)
 | []=>some []
 | f::fs=>match (ti f.type).cells,Ql ti fs with
  | some a,some b=>some (a++b)
  | _,_=>none
def Xx (ti:TypeId->TI):List Field->Nat->Bool
 | [],_=>true
 | f::fs,n=>f.offset == n && Xx ti fs (n+(((ti f.type).cells).getD []).length)
def J9 (P:Program) (ti:TypeId->TI) (t:TypeId):TI->Bool
 | .slice e ts _=>decide ((ti e).cells=some ts)
 | .struct _ row _=>row.any Ty.isPt || match P.underlying t with
  | some (.struct fields)=>decide (Ql ti fields.toList=some row) && Xx ti fields.toList 0
  | _=>false
 | _=>true
def TK (P:Program) (ti:TypeId->TI):List TI->Nat->Bool
 | [],_=>true
 | x::l,n=>J9 P ti n x && TK P ti l (n+1)
theorem VX {P:Program} {ti:TypeId->TI}:∀(l:List TI) (n:Nat),TK P ti l n=true->∀t,J9 P ti (n+t) (l.getD t .other)=true
 | [],n,_,t=>by simp [J9]
 | x::l,n,h,t=>by
  simp only [TK,Al2]at h;cases t with
  | zero=>exact h.1
  | succ t=>have:=VX l (n+1) h.2 t;rw [(O:n+(t+1)=n+1+t)];exact this
theorem Ajl (P:Program) (l:List TI) (h:TK P (λt=>l.getD t .other) l 0=true):∀t,J9 P (λt=>l.getD t .other) t (l.getD t .other)=true:=λt=>by
 have:=VX l 0 h t;rwa [Amk]at this
section
variable {H:Type} {enc:TypeId×Value->H} {P:Program} {w:World} {ti:TypeId->TI}
abbrev Any:Nat->Prop:=λ_=>True
theorem Ad1:∀(ts:List Ty) (ls:List Ae) (cs:List Value),ls.map (·.1)=ts.map Ty.frz->FL (ALOk w Any) ls cs []->(∀l∈ls,Jm l.1 l.2)->
  ∃x:(AV ts).frz.D,Rp w Any (AV ts).frz x cs []/\Jm (AV ts).frz x
 | [],ls,cs,h1,h2,_=>by
  obtain rfl:ls=[]:=by simpa using h1
  obtain ⟨rfl,_⟩:=h2;exact⟨(),⟨rfl,rfl⟩,trivial⟩
 | [t],ls,cs,h1,h2,h3=>by
  match ls,h1,h2,h3 with
  | [⟨t',x⟩],h1,h2,h3=>
   simp only [AmF,Aof,Aod,and_true]at h1;subst h1;obtain ⟨v,vs,F1,F2,rfl,e,k1,rfl,rfl⟩:=h2;obtain rfl:F1=[]:=by simpa using e.symm
   exact⟨x,k1.1,h3 ⟨t.frz,x⟩ Z⟩
 | t::u::ts,ls,cs,h1,h2,h3=>by
  match ls,h1,h2,h3 with
  | ⟨t',x⟩::ls,h1,h2,h3=>
   simp only [AmF,Aod]at h1;obtain ⟨e1,e2⟩:=h1;subst e1;obtain ⟨v,vs,F1,F2,rfl,e,k1,k2⟩:=h2;obtain ⟨rfl,rfl⟩:F1=[]/\F2=[]:=by simpa using e.symm
   obtain ⟨y,k3,k4⟩:=Ad1 (u::ts) ls vs (by simpa using e2) k2 (λl hl=>h3 l (by simp [hl]));exact⟨(x,y),⟨[v],vs,[],[],rfl,rfl,k1.1,k3⟩,h3 ⟨t.frz,x⟩ Z,k4⟩
theorem Wh (hT:TabOk P ti) (hT2:∀t,J9 P ti t (ti t)=true):∀(fuel:Nat) (t:TypeId) (cs:List Value) (ts:List Ty) {x:DataW H×List MemPlace},(ti t).cells=some ts->
  DataW.trod enc P w 0 (λ_=>true) true fuel t cs=some x->∃ls:List Ae,ls.map (·.1)=ts.map Ty.frz/\FL (ALOk w Any) ls cs []/\∀l∈ls,Jm l.1 l.2:=by
 intro fuel
 induction fuel with
 | zero=>intro t cs ts x _ h;simp [DataW.trod]at h
 | succ n ih=>
  intro t cs ts x hts h;cases ht:ti t with
  | cell u=>
   rw [ht]at hts;simp only [TI.cells,AlV]at hts;subst hts;obtain ⟨⟨d,hd,hdd⟩,_⟩:=hT.cell ht;cases u with
   | pt t=>cases d <;> simp [BY]at hdd
   | er=>cases d <;> simp [BY]at hdd
   | lp=>cases d <;> simp [BY]at hdd
   | mh=>cases d <;> simp [BY]at hdd
   | mp=>cases d <;> simp [BY]at hdd
   | int k=>
    cases d <;> simp [BY]at hdd;subst hdd;obtain ⟨m,rfl,_,hw⟩:=DataW.trod_int hd h;exact⟨[⟨.int k,m⟩],rfl,⟨_,[],[],[],rfl,rfl,⟨⟨rfl,rfl⟩,λ_=>rfl⟩,rfl,rfl⟩,λl hl=>by rw [Al6.1 hl];exact hw⟩
   | bool=>
    cases d <;> simp [BY]at hdd;obtain ⟨m,rfl,_⟩:=DataW.trod_bool hd h;exact⟨[⟨.bool,m⟩],rfl,⟨_,[],[],[],rfl,rfl,⟨⟨rfl,rfl⟩,λ_=>rfl⟩,rfl,rfl⟩,λl hl=>by rw [Al6.1 hl];exact trivial⟩
   | str=>
    cases d <;> simp [BY]at hdd;obtain ⟨⟨⟨s⟩⟩,rfl,_,hs⟩:=DataW.trod_string hd h;exact⟨[⟨.str,s⟩],rfl,⟨_,[],[],[],rfl,rfl,⟨⟨rfl,rfl⟩,λ_=>rfl⟩,rfl,rfl⟩,λl hl=>by rw [Al6.1 hl];exact(show List.length s<=maxLen by simpa [ByteArray.size] using hs)⟩
   | unit=>simp [BY]at hdd
   | pair a b=>simp [BY]at hdd
   | sl o e r=>simp [BY]at hdd
  | slice e ts' bytes=>
   rw [ht]at hts;simp only [TI.cells,AlV]at hts;subst hts;obtain ⟨hu,_,_,hlen,i,z,hi,hsz,_⟩:=hT.slice ht;have he:(ti e).cells=some ts':=by have:=hT2 t;rw [ht]at this;simpa [J9] using this
   have hce:P.cellsOf e=ts'.length:=by simp [Program.cellsOf,hi,hsz]
   rcases DataW.trod_slice hu h with⟨rfl,_⟩ | ⟨a,len,cap,elems,rest,m,hfm,rfl,_,_,hl,hm,hel,hels,_⟩
   .refine⟨[⟨.sl false e (AV ts').frz,[]⟩],rfl,⟨_,[],[],[],rfl,rfl,⟨?_,λ_=>rfl⟩,rfl,rfl⟩,λl hl=>by rw [Al6.1 hl];exact⟨Ane _,λ_ h=>by cases h⟩⟩;exact⟨rfl,none,0,[],rfl,Amu _,⟨rfl,rfl⟩,.inl rfl⟩
   .obtain rfl:n=m:=O
    have key:∀q,q<=len->∃(xs:List (AV ts').frz.D) (ws:List Value),xs.length=q/\ws.length=q * ts'.length/\RpL (Rp w Any (AV ts').frz) xs ws []/\
      (∀j,j < ws.length->w.cell? (a.add j)=ws[j]?)/\(∀x∈xs,Jm (AV ts').frz x):=by
     intro q
     induction q with
     | zero=>intro _;exact⟨[],[],rfl,Z,⟨rfl,rfl⟩,λj hj=>by simp at hj,λ_ h=>by cases h⟩
     | succ q ihq=>
      intro hq;obtain ⟨xs,ws,h1,h2,h3,h4,h5⟩:=ihq O;have hq':=hels q O;rw [AlW O,AlY]at hq';obtain ⟨cs',hcs,hy⟩:=hq';obtain ⟨ls,k1,k2,k3⟩:=ih e cs' ts' he hy;obtain ⟨x,k4,k5⟩:=Ad1 ts' ls cs' k1 k2 k3;obtain ⟨_,c2,c3⟩:=World.cells?_some hcs;refine⟨xs++[x],ws++cs',by simp [h1],?_,?_,?_,?_⟩
      .rw [Al0,h2,c2,hce,An4]
      .have:=h3.append (show RpL (Rp w Any (AV ts').frz) [x] cs' [] from⟨cs',[],[],[],Z,rfl,k4,rfl,rfl⟩);simpa using this
      .intro j hj;by_cases hjw:j < ws.length
       .rw [h4 j hjw,AmQ hjw]
       .rw [AmE O];have:=c3 (j - ws.length) (by rw [Al0]at hj;omega);rw [<- this]
        congr 1
        rw [hce,h2,Addr.add_add]
        congr 1;omega
      .intro y hy;rcases Al3.1 hy with hy | hy
       .exact h5 y hy
       .rw [Al6.1 hy];exact k5
    obtain ⟨xs,ws,h1,h2,h3,h4,h5⟩:=key len (Amu _);have hxl:List.length xs=len:=h1;refine⟨[⟨.sl false e (AV ts').frz,xs⟩],rfl,⟨_,[],[],[],rfl,rfl,⟨?_,λ_=>rfl⟩,rfl,rfl⟩,λl hl=>by rw [Al6.1 hl];exact⟨(O:List.length xs<=maxLen),h5⟩⟩;refine⟨rfl,some a,cap,ws,by rw [hxl],by rw [hxl];exact hl,h3,?_⟩;rcases An9 len with hz | hz
    .left;exact Amo (O:List.length xs=0)
    .right;refine⟨a,rfl,trivial,?_,h4⟩;have h0:=hels 0 hz;rw [AlW O,AlY]at h0;obtain ⟨cs',hcs,_⟩:=h0;have:=World.cells?_block hcs (by rw [hce];exact hlen)
     rwa [DB]at this
  | struct fs row eq=>
   rw [ht]at hts;simp only [TI.cells]at hts;split at hts
   .cases hts
   rename_i hnp;simp only [AlV]at hts;subst hts;obtain ⟨fields,hu,_,_,i,hi,hsz,_⟩:=hT.struct ht;have h2:=hT2 t;rw [ht]at h2;simp only [J9,hu,Ang,Al2,decide_eq_true_eq]at h2
   replace h2:=h2.resolve_left hnp
   obtain ⟨hr,ho⟩:=h2;obtain ⟨xs,m,hfm,_,hcl,hxl,hf⟩:=DataW.trod_struct hu h;obtain rfl:n=m:=O
   have hcl':cs.length=row.length:=by rw [hcl];simp [Program.cellsOf,hi,hsz]
   have key:∀(fl:List Field) (off:Nat) (row:List Ty),Ql ti fl=some row->Xx ti fl off=true->off+row.length=cs.length->
     (∀f∈fl,∃y,DataW.trod enc P w 0 (λ_=>true) true n f.type ((cs.drop f.offset).take (P.cellsOf f.type))=some y)->
     ∃ls:List Ae,ls.map (·.1)=row.map Ty.frz/\FL (ALOk w Any) ls (cs.drop off) []/\∀l∈ls,Jm l.1 l.2:=by
    intro fl
    induction fl with
    | nil=>
     intro off row h1 _ h3 _;simp only [Ql,AlV]at h1;subst h1;simp only [Amp,Anq]at h3;exact⟨[],rfl,⟨by rw [h3];simp,rfl⟩,λ_ h=>by cases h⟩
    | cons f fl ihf=>
     intro off row h1 h2 h3 h4;simp only [Ql]at h1;split at h1
     .rename_i a b ha hb;injection h1 with h1
      subst h1;simp only [Xx,Al2,beq_iff_eq,ha,AmG]at h2;obtain ⟨ho,h2⟩:=h2;rw [Al0]at h3;obtain ⟨ls2,q1,q2,q3⟩:=ihf (off+a.length) b hb h2 O (λg hg=>h4 g (by simp [hg]));obtain ⟨y,hy⟩:=h4 f Z;obtain ⟨ls1,p1,p2,p3⟩:=ih _ _ a ha hy;obtain ⟨i',hi',hsz',_⟩:=JH hT (VR ha);have hc:P.cellsOf f.type=a.length:=by simp [Program.cellsOf,hi',hsz']
      refine⟨ls1++ls2,by rw [AmD,AmD,p1,q1],?_,?_⟩
      .have:=p2.append q2;rw [ho,hc]at this;rw [<- An8,AmJ]at this;simpa using this
      .intro l hl;rcases Al3.1 hl with hl | hl
       .exact p3 l hl
       .exact q3 l hl
     .cases h1
   have:=key fields.toList 0 row hr ho O (λf hfm=>by
    obtain ⟨j,hj⟩:=List.getElem?_of_mem hfm;have hj':fields[j]?=some f:=by simpa using hj
    have hjl:j < fields.size:=(Ano.1 hj').1;rw [hf j f hj'];exact⟨_,AlW O⟩)
   simpa using this
  | ptr e=>rw [ht]at hts;cases hts
  | map=>rw [ht]at hts;cases hts
  | err=>rw [ht]at hts;cases hts
  | other=>rw [ht]at hts;cases hts
theorem MU {t:Ty} {ts:List Ty}:∀{ls:List Ae},ls.map (·.1)=t::ts->∃(x:t.D) (ls':List Ae),ls=⟨t,x⟩::ls'/\ls'.map (·.1)=ts
 | ⟨t',x⟩::ls,h=>by
  simp only [AmF,Aod]at h;obtain ⟨rfl,h⟩:=h;exact⟨x,ls,rfl,h⟩
theorem Af2 {ls:List Ae} (h:ls.map (·.1)=[]):ls=[]:=by simpa using h
theorem Y3 {r:Reach} {b0:Nat} (hT:TabOk P ti) (hT2:∀t,J9 P ti t (ti t)=true) {t:TypeId} {u:Ty} {v:Value} {d:DataW H} {ps:List MemPlace} (hts:(ti t).cells=some [u]) (hag:(ti t).isAgg=false)
  (hval:Value.okWide P w r b0 t v) (h:DataW.Trod enc P w 0 (λ_=>true) true t v d ps):∃x:u.frz.D,Jm u.frz x/\∀ms,A1Ok w Any ms (.one ⟨u.frz,x⟩) v []:=by
 obtain ⟨fuel,h⟩:=h;obtain ⟨ls,h1,h2,h3⟩:=Wh hT hT2 fuel t _ _ hts h
 match ls,h1,h2,h3 with
 | [⟨t',x⟩],h1,h2,h3=>
  simp only [AmF,Aof,Aod,and_true]at h1;subst h1;obtain ⟨v',vs,F1,F2,e1,e,k1,rfl,rfl⟩:=h2;obtain rfl:F1=[]:=by simpa using e.symm
  refine⟨x,h3 ⟨u.frz,x⟩ Z,λms=>?_⟩;have:v.cells = #[v']:=Array.toList_inj.1 e1;have hv:v=v':=by
   have h9:v.cells = #[v]:=by
    cases ht:ti t with
    | cell u'=>
     obtain ⟨⟨d',hd',hdd⟩,_⟩:=hT.cell ht;cases u' <;> cases d' <;> first
      | (simp [BY]at hdd;done)
      | (obtain ⟨n,rfl⟩:=okWide_int hd' hval;rfl)
      | (obtain ⟨n,rfl⟩:=okWide_bool hd' hval;rfl)
      | (obtain ⟨n,rfl⟩:=okWide_string hd' hval;rfl)
    | slice e ts' b=>
     obtain ⟨a,len,cap,rfl⟩:=okWide_slice (hT.slice ht).1 hval;rfl
    | struct fs row eq=>rw [ht]at hag;cases hag
    | ptr e=>rw [ht]at hts;cases hts
    | map=>rw [ht]at hts;cases hts
    | err=>rw [ht]at hts;cases hts
    | other=>rw [ht]at hts;cases hts
   rw [h9]at this;simpa using this
  subst hv;exact k1
theorem Aio {r:Reach} {b0:Nat} (hT:TabOk P ti) (hT2:∀t,J9 P ti t (ti t)=true) {t:TypeId} {ts:List Ty} {v:Value} {d:DataW H} {ps:List MemPlace} (hts:(ti t).cells=some ts) (hag:(ti t).isAgg=true)
  (hval:Value.okWide P w r b0 t v) (h:DataW.Trod enc P w 0 (λ_=>true) true t v d ps):∃ls:List Ae,ls.map (·.1)=ts.map Ty.frz/\(∀l∈ls,Jm l.1 l.2)/\∀ms,A1Ok w Any ms (.ag ls) v []:=by
 obtain ⟨fuel,h⟩:=h;obtain ⟨ls,h1,h2,h3⟩:=Wh hT hT2 fuel t _ _ hts h;refine⟨ls,h1,h3,λms=>?_⟩;obtain ⟨i,_,_,⟨d',hd',hdd⟩,_⟩:=JH hT (VR hts);rw [hag]at hdd;have:∃cs,v=.agg cs:=by
  cases d' <;> simp [Ib]at hdd <;> (simp only [Value.okWide,hd']at hval;obtain ⟨cs,h,_⟩:=hval;exact⟨cs,h⟩)
 obtain ⟨cs,rfl⟩:=this;exact⟨cs.toList,rfl,h2⟩
end
end Go.V
set_option maxRecDepth 100000
namespace Go.V.G
open Go.V
def pre (P:List (List UInt8)) (S:List Bool):Nat->Int
 | 0=>0
 | k+1=>pre P S k+(((P.getD k []).length:Nat):Int)+(if S.getD k false=true then 1 else 0)
def nK:List Atom->Nat
 | []=>0
 | .keep::l=>nK l+1
 | .ins _::l=>nK l
 | .drop::l=>nK l
theorem IM:∀a b:List Atom,nK (a++b)=nK a+nK b
 | [],b=>by simp [nK]
 | .keep::a,b=>by simp only [AmH,nK,IM a b];omega
 | .ins _::a,b=>IM a b
 | .drop::a,b=>IM a b
theorem Ad7:∀s:List UInt8,nK (s.map Atom.ins)=0
 | []=>rfl
 | _::s=>Ad7 s
theorem Afb (f:Bool):∀m:Nat,nK (List.replicate m (mk f))=if f=true then m else 0
 | 0=>by cases f <;> rfl
 | m+1=>by
  have:=Afb f m;rw [AmZ];cases f
  .exact this
  .simp only [Amd]at this ⊢;show nK (.keep::_)=_;simp only [nK];rw [this]
theorem Some1.z {p:Prt} (h:Some1 p):0 < p.1->p.2.1=0:=by
 intro h0;have:=h.ne;unfold kd at this;split at this
 .rename_i h;exact h.2.1
 .split at this
  .rename_i h;omega
  .split at this
   .rename_i h;omega
   .exact absurd rfl this
theorem Wj:∀{c:List Prt},(∀p∈c,Some1 p)->tgt c=((Dx (Ac c)+nK (Ac c):Nat):Int)
 | [],_=>rfl
 | p::c,h=>by
  have ih:=Wj (c:=c) λq hq=>h q (by simp [hq])
  have h1:=h p Z;have k0:=h1.k;have d0:=h1.d;have z:=h1.z;show p.1+(p.2.2.length:Int)+tgt c=((Dx (pa p++Ac c)+nK (pa p++Ac c):Nat):Int)
  have e:nK (pa p)=p.1.toNat:=by
   rw [pa,IM,Ad7,Afb,Amk];by_cases h0:0 < p.1
   .simp [h0,z h0]
   .simp [h0];omega
  rw [EJ,Abg,IM,e];omega
section
variable {B:Nat} {c:List Prt} (h:Sm B c) (hB:B<=1099511627000)
include h hB
end
end Go.V.G
set_option maxRecDepth 100000
namespace Go.V.G
open Go.V
theorem Dn {p:Prt} (h:kd p≠0):(∃a:Int,0 < a/\p=(a,0,[])/\kd p=1)\/(∃b:Int,0 < b/\p=(0,b,[])/\kd p=2)\/∃s:List UInt8,s≠[]/\p=(0,0,s)/\kd p=3:=by
 obtain ⟨a,b,s⟩:=p;unfold kd at h ⊢;by_cases h1:0 < a/\b=0/\s=[]
 .obtain ⟨g1,g2,g3⟩:=h1;subst g2 g3;left;exact⟨a,g1,rfl,by simp [g1]⟩
 by_cases h2:0 < b/\a=0/\s=[]
 .obtain ⟨g1,g2,g3⟩:=h2;subst g2 g3;right;left;exact⟨b,g1,rfl,by simp [g1]⟩
 by_cases h3:s≠[]/\a=0/\b=0
 .obtain ⟨g1,g2,g3⟩:=h3;subst g2 g3;right;right;exact⟨s,g1,rfl,by simp [g1]⟩
 rw [AlZ h1,AlZ h2,AlZ h3]at h;exact absurd rfl h
def FO (p:Prt):List Int:=[kd p,p.1+p.2.1+p.2.2.length]++Ar p.2.2
def enc (c:List Prt):List Int:=c.flatMap FO
theorem UB:∀c:List Prt,(enc c).length=2 * c.length+B6 c
 | []=>rfl
 | p::c=>by
  show(FO p++enc c).length=_;rw [Al0,UB c];simp [FO,Ar,B6];omega
theorem I6 {c:List Prt} (hg:AA c=true) {p:Prt} (hp:p∈c):p.1+p.2.1+p.2.2.length<=120/\0<=p.1+p.2.1:=by
 obtain ⟨h1,h2,h3⟩:=As hg;have hs:=A7 h1;obtain ⟨i,hi,rfl⟩:=AmA hp;have n1:=AR (l:=c.take i) λp h=>hs p (B5 h)
 have n2:=B8 (l:=c.take i) λp h=>hs p (B5 h)
 have n3:=AR (l:=c.drop (i+1)) λp h=>hs p (Cz h)
 have n4:=B8 (l:=c.drop (i+1)) λp h=>hs p (Cz h)
 have a1:=Ju hi;have a2:=QW hi;have q:=hs _ hp;rcases Dn q.ne with⟨a,ha,e,_⟩ | ⟨b,hb,e,_⟩ | ⟨s,_,e,_⟩ <;> (rw [e]at a1 a2 ⊢;simp only [Amp]at a1 a2 ⊢;omega)
theorem AkI (p:Prt):IntKind.wrap .u8 (kd p)=kd p:=by
 apply wu8 <;> (unfold kd;split;omega;split;omega;split <;> omega)
section
variable {B:Nat} {c:List Prt} (h:Sm B c) (hB:B<=1099511627776) (hg:AA c=true)
include h hB hg
theorem R6 {i:Nat} (hlt:i < c.length):enc (c.take i)++[IntKind.wrap .u8 (kd c[i]),IntKind.wrap .u8 (IntKind.wrap .i64 ((IntKind.wrap .i64 (c[i].1+c[i].2.1))+(List.length c[i].2.2:Int)))]++Ar c[i].2.2=enc (c.take (i+1))/\
  (enc (c.take i)).length+2+(Ar c[i].2.2).length<=4398046511104:=by
 obtain ⟨h1,h2⟩:=I6 hg (Amc hlt);rw [w64 (n:=c[i].1+c[i].2.1) O O,w64 O O,AkI,wu8 O O];constructor
 .rw [Ama hlt];simp only [enc,Am9,Ana,List.flatMap_nil,Amf,FO,Al5]
 .rw [UB];have h3:B6 c=B6 (c.take i)+B6 (c.drop i):=by rw [<- D0,AmJ]
  have:=h.len;have:=h.put;have:(Ar c[i].2.2).length=c[i].2.2.length:=by simp [Ar]
  rw [Al4];omega
theorem AcZ:If c=some (enc c):=by
 have hlen:=Amw h.len hB;unfold If;have:Ab D6 ([],c,(List.length c:Int),0)=some (enc c):=by
  have:=Ai D6 (λk=>(enc (c.take k),c,(List.length c:Int),((k:Nat):Int))) c.length (enc c) (by
   intro i hlt;obtain ⟨e1,e2⟩:=R6 h hB hg hlt;have hi:(i:Int) < (List.length c:Int):=O
   have r1:∀x y:Int,Aa (List.length (enc (c.take i))+List.length [x,y]) 1=true:=λx y=>by simp [Aa];omega
   have r2:∀x y:Int,Aa (List.length (enc (c.take i)++[x,y])+List.length (Ar c[i].2.2)) 1=true:=λx y=>by simp [Aa];omega
   unfold D6 cK gX wI wB;simp only [hi,show(0:Int)<=(i:Int) from by omega,decide_true,Amd,AlX,AlW hlt,AlU,Nl,r1,r2,An hlen hlt];rw [show kd (c[i].1,c[i].2.1,c[i].2.2)=kd c[i] from rfl,e1]) (by simp [D6,cK,gX,wI,wB])
  simpa [enc] using this
 rw [this];rfl
theorem UA:Kt c=some (enc c):=by
 have hlen:=Amw h.len hB;unfold Kt;have:Ab Ha ([],c,(List.length c:Int),0)=some (enc c):=by
  have:=Ai Ha (λk=>(enc (c.take k),c,(List.length c:Int),((k:Nat):Int))) c.length (enc c) (by
   intro i hlt;obtain ⟨e1,e2⟩:=R6 h hB hg hlt;have hi:(i:Int) < (List.length c:Int):=O
   have r1:∀x y:Int,Aa (List.length (enc (c.take i))+List.length [x,y]) 1=true:=λx y=>by simp [Aa];omega
   have r2:∀x y:Int,Aa (List.length (enc (c.take i)++[x,y])+List.length (Ar c[i].2.2)) 1=true:=λx y=>by simp [Aa];omega
   unfold Ha cK gX wI wB;simp only [hi,show(0:Int)<=(i:Int) from by omega,decide_true,Amd,AlX,AlW hlt,AlU,Nk,r1,r2,An hlen hlt];rw [show kd (c[i].1,c[i].2.1,c[i].2.2)=kd c[i] from rfl,e1]) (by simp [Ha,cK,gX,wI,wB])
  simpa [enc] using this
 rw [this];rfl
end
theorem AcX (s:List UInt8):AJ (Ar s)=s:=by
 unfold AJ Ar;rw [AmU]
 conv=>rhs;rw [<- List.map_id s]
 apply AmV;intro b _;show UInt8.ofNat (Int.toNat (b.toNat:Int))=b;rw [AlX];exact UInt8.ofNat_toNat
theorem OB (x y:Int) (r:List Int):(List.drop (Int.toNat 2) (x::y::r)).take (Int.toNat (List.length (x::y::r):Int) - Int.toNat 2)=r:=by
 simp only [AlX,show Int.toNat 2=2 from rfl,Al7,An3,AmX];exact AmK O
theorem AcG {out rest:List Int} {p:Prt} {l:List Prt} (hp:kd p≠0) (hsm:p.1+p.2.1+p.2.2.length<=120) (hl:l.length<=1099511627776):AE (FO p++rest,l)=some (.inl (rest,l++[p])):=by
 have room:∀x:Prt,Aa (List.length l+List.length [x]) 32=true:=λx=>by simp [Aa];omega
 rcases Dn hp with⟨a,ha,rfl,hk⟩ | ⟨b,hb,rfl,hk⟩ | ⟨s,hs,rfl,hk⟩
 .have e:FO (a,0,[])++rest=1::a::rest:=by simp [FO,hk,Ar]
  have w:IntKind.wrap .i64 a=a:=by simp only [Amp]at hsm;exact w64 O O
  rw [e];unfold AE cK gX sX;dsimp only;rw [OB];have hl2:¬ ((List.length (1::a::rest):Int)) < 2:=by simp;omega
  have hl0:(0:Int) < ((List.length (1::a::rest):Int)):=by simp;omega
  have hl3:(2:Int)<=((List.length (1::a::rest):Int)):=by simp;omega
  have g0:(1::a::rest)[Int.toNat 0]?=some 1:=rfl;have g1:(1::a::rest)[Int.toNat 1]?=some a:=rfl;simp only [hl0,hl2,hl3,g0,g1,decide_true,decide_false,Amd,Al8,Amv,AlU,Am6,show(0:Int)<=1 from by omega,show(0:Int)<=2 from by omega,w,room]
 .have e:FO (0,b,[])++rest=2::b::rest:=by simp [FO,hk,Ar]
  have w:IntKind.wrap .i64 b=b:=by simp only [Amp]at hsm;exact w64 O O
  rw [e];unfold AE cK gX sX;dsimp only;rw [OB];have hl2:¬ ((List.length (2::b::rest):Int)) < 2:=by simp;omega
  have hl0:(0:Int) < ((List.length (2::b::rest):Int)):=by simp;omega
  have hl3:(2:Int)<=((List.length (2::b::rest):Int)):=by simp;omega
  have g0:(2::b::rest)[Int.toNat 0]?=some 2:=rfl;have g1:(2::b::rest)[Int.toNat 1]?=some b:=rfl;simp only [hl0,hl2,hl3,g0,g1,decide_true,decide_false,Amd,Al8,Amv,AlU,Am6,show(0:Int)<=1 from by omega,show(0:Int)<=2 from by omega,(O:¬ (2:Int)=1),w,room]
 .have hn:(Ar s).length=s.length:=by simp [Ar]
  have e:FO (0,0,s)++rest=3::(s.length:Int)::(Ar s++rest):=by simp [FO,hk]
  have w:IntKind.wrap .i64 (s.length:Int)=(s.length:Int):=by dsimp only at hsm;exact w64 O O
  rw [e];unfold AE cK gX sX;dsimp only;rw [OB];have hl2:¬ ((List.length (3::(s.length:Int)::(Ar s++rest)):Int)) < 2:=by simp;omega
  have hl0:(0:Int) < ((List.length (3::(s.length:Int)::(Ar s++rest)):Int)):=by simp;omega
  have hl3:(2:Int)<=((List.length (3::(s.length:Int)::(Ar s++rest)):Int)):=by simp;omega
  have g0:(3::(s.length:Int)::(Ar s++rest))[Int.toNat 0]?=some 3:=rfl;have g1:(3::(s.length:Int)::(Ar s++rest))[Int.toNat 1]?=some (s.length:Int):=rfl;have hle:(s.length:Int)<=(List.length (Ar s++rest):Int):=by rw [Al0,hn];omega
  have hge:(0:Int)<=(s.length:Int):=O
  have tk:(List.drop (Int.toNat 0) (Ar s++rest)).take (Int.toNat (s.length:Int) - Int.toNat 0)=Ar s:=by
   show(Ar s++rest).take (Int.toNat (s.length:Int) - 0)=_;rw [AnE,AlX,<- hn,List.take_left]
  have dr:(List.drop (Int.toNat (s.length:Int)) (Ar s++rest)).take (Int.toNat (List.length (Ar s++rest):Int) - Int.toNat (s.length:Int))=rest:=by
   rw [AlX,AlX,<- hn,List.drop_left];exact AmK (by rw [Al0];omega)
  simp only [hl0,hl2,hl3,g0,g1,decide_true,decide_false,Amd,Al8,Amv,AlU,Am6,show(0:Int)<=1 from by omega,show(0:Int)<=2 from by omega,(O:¬ (3:Int)=1),(O:¬ (3:Int)=2),w,hle,hge,tk,dr,AcX,room]
theorem AfP {B:Nat} {c:List Prt} (h:Sm B c) (hB:B<=1099511627776) (hg:AA c=true):E4 (enc c)=some (c,true):=by
 have hlen:=Amw h.len hB;obtain ⟨h1,h2,h3⟩:=As hg;have hs:=A7 h1;unfold E4;have:Ab AE (enc c,[])=some (.inl c):=by
  have:=Ai AE (λk=>(enc (c.drop k),c.take k)) c.length (.inl c) (by
   intro i hlt;have e:enc (c.drop i)=FO c[i]++enc (c.drop (i+1)):=by rw [Amx hlt];rfl
   have hm:=Amc hlt;show AE (enc (c.drop i),c.take i)=_;rw [e,AcG (out:=[]) (hs _ hm).ne (I6 hg hm).1 (by rw [Al4];omega),Ama hlt]) (by
   show AE (enc (c.drop c.length),c.take c.length)=_;rw [AnM,AmL];rfl)
  simpa using this
 rw [this,AlU];show Option.bind (Fq c) _=_;rw [P7 h hB,hg];rfl
def Gu (l:List Prt):List Prt:=l.foldl Ch []
theorem S7 {B:Nat} {l:List Prt} (h:Sm B l) (hB:B<=1099511627776) (a b:Int) (s:List UInt8) (hs:s.length<=1099511627776):DF a b s l=some (Ch l (a,b,s)):=by
 unfold DF Ch cK cZ wI;by_cases h0:((a,b,s):Prt)=(0,0,[])
 .obtain ⟨rfl,rfl,rfl⟩:a=0/\b=0/\s=[]:=by simpa using h0
  simp
 .rw [AlZ h0,AlZ (by simpa using h0)];have hroom:∀x:Prt,Aa (l.length + [x].length) 32=true:=λx=>by
   have:=h.len;simp [Aa];omega
  cases hg:l.getLast? with
  | none=>
   obtain rfl:l=[]:=by simpa using hg
   simp [Aa]
  | some q=>
   obtain ⟨n,hn,hq,hset⟩:=Mi hg;have hqs:q.2.2.length<=B:=Amw (FK (AmI hq)) h.put;have e1:IntKind.wrap .i64 ((l.length:Int) - 1)=(n:Int):=by rw [hn,w64 O (by have:=h.len;omega)];omega
   have hpos:(0:Int) < (l.length:Int):=O
   have hlt:(n:Int) < (l.length:Int):=O
   have hge:(0:Int)<=(n:Int):=O
   have hst:∀x:Prt,(l.set n x)[n]?=some x:=λx=>Ant O
   simp only [e1,hpos,hlt,hge,decide_true,Amd,AlX,Amk,hq,AlU,Nl];by_cases hk:kd q=kd (a,b,s)
   .have hk':(kd (q.1,q.2.1,q.2.2)=kd (a,b,s)):=hk;have hlen:q.2.2.length+s.length<=9223372036854775807:=O
    simp only [hk',hk,decide_true,Amd,e1,hlt,hge,AlX,hq,AlU,hst,List.set_set,hlen];rw [hset]
   .have hk':¬ (kd (q.1,q.2.1,q.2.2)=kd (a,b,s)):=hk;simp only [hk',hk,decide_false,Amv,Al8,hroom,Amd,AlU]
theorem AiD:kd (0,0,[])=0:=by simp [kd]
theorem Yj:∀{c:List Prt},(∀p∈c,Some1 p)->(c.length:Int)<=src c+tgt c
 | [],_=>by simp [src,tgt]
 | p::c,h=>by
  have ih:=Yj (c:=c) λq hq=>h q (by simp [hq])
  have s:=h p Z;have k0:=s.k;have d0:=s.d;simp only [src,tgt,Al7];rcases Dn s.ne with⟨a,ha,e,_⟩ | ⟨b,hb,e,_⟩ | ⟨t,ht,e,_⟩
  .rw [e];simp only;omega
  .rw [e];simp only;omega
  .rw [e];simp only;have:=List.length_pos_iff.2 ht;omega
theorem WG:∀{c:List Prt},(∀p∈c,Some1 p)->(B6 c:Int)<=tgt c
 | [],_=>by simp [B6,tgt]
 | p::c,h=>by
  have ih:=WG (c:=c) λq hq=>h q (by simp [hq])
  have k0:=(h p Z).k;simp only [B6,tgt];omega
theorem Ci {c:List Prt} (h:AA c=true):Sm 240 c:=by
 obtain ⟨h1,h2,h3⟩:=As h;have hs:=A7 h1;have:=Yj hs;have:=WG hs;refine⟨O,O,λp hp=>?_⟩;have:=I6 h hp;have k0:=(hs p hp).k;have d0:=(hs p hp).d;unfold I64;omega
end Go.V.G
set_option maxRecDepth 100000
namespace Go.V.G
open Go.V
def Fine (p:Prt):Prop:=p=(0,0,[])\/kd p≠0
theorem Fine.put (s:List UInt8):Fine (0,0,s):=by
 by_cases h:s=[]
 .subst h;exact .inl rfl
 .exact .inr (by simp [kd,h])
theorem Fine.keep {n:Int} (h:0<=n):Fine (n,0,[]):=by
 by_cases h0:n=0
 .subst h0;exact .inl rfl
 .have:0 < n:=O
  exact .inr (by simp [kd,this])
theorem Fine.drop {n:Int} (h:0<=n):Fine (0,n,[]):=by
 by_cases h0:n=0
 .subst h0;exact .inl rfl
 .have:0 < n:=O
  exact .inr (by simp [kd,this])
theorem N6:pa (0,0,[])=[]:=by simp [pa]
theorem H8 (s:List UInt8):pa (0,0,s)=s.map Atom.ins:=by simp [pa]
theorem Gq {n:Int} (h:0<=n):pa (n,0,[])=List.replicate n.toNat .keep:=by
 by_cases h0:n=0
 .subst h0;rfl
 .have:0 < n:=O
  simp [pa,this,mk]
theorem Ht {n:Int} (h:0<=n):pa (0,n,[])=List.replicate n.toNat .drop:=by simp [pa,mk]
def Rw (k:Int) (l:List Prt):Int:=match l.getLast? with
 | some q=>kd q
 | none=>k
theorem Ja (k:Int):∀(a b:List Prt),okk k (a++b)=(okk k a && okk (Rw k a) b)
 | [],b=>by simp [okk,Rw]
 | p::a,b=>by
  have this:Rw (kd p) a=Rw k (p::a):=by
   unfold Rw;cases a with
   | nil=>rfl
   | cons q a=>
    rw [List.getLast?_cons_cons];cases h:(q::a).getLast? with
    | none=>simp at h
    | some x=>rfl
  show(_ && okk (kd p) (a++b))=((_ && okk (kd p) a) && okk _ b)
  rw [Ja (kd p) a b,this];simp only [AnW]
def AcP (l:List Prt):Prop:=src l<=1000000000/\tgt l<=1000000000
theorem Aff {q p:Prt} (hq:kd q≠0) (h:kd q=kd p) (b1:q.1+p.1<=1000000000) (b2:q.2.1+p.2.1<=1000000000) :
  kd (IntKind.wrap .i64 (q.1+p.1),IntKind.wrap .i64 (q.2.1+p.2.1),q.2.2++p.2.2)=kd q/\pa (IntKind.wrap .i64 (q.1+p.1),IntKind.wrap .i64 (q.2.1+p.2.1),q.2.2++p.2.2)=pa q++pa p:=by
 have hp:kd p≠0:=by rw [<- h];exact hq
 rcases Dn hq with⟨a,ha,e,k1⟩ | ⟨a,ha,e,k1⟩ | ⟨a,ha,e,k1⟩ <;> rcases Dn hp with⟨b,hb,e',k2⟩ | ⟨b,hb,e',k2⟩ | ⟨b,hb,e',k2⟩ <;> try (rw [k1,k2]at h;omega)
 .subst e e';dsimp only at b1 b2 ⊢;rw [w64 (n:=a+b) O O,show IntKind.wrap .i64 ((0:Int)+0)=0 from w64 O O];have:0 < a+b:=O
  refine⟨by simp [kd,this,ha],?_⟩;rw [Amf,Gq O,Gq O,Gq O,List.replicate_append_replicate]
  congr 1;omega
 .subst e e';dsimp only at b1 b2 ⊢;rw [w64 (n:=a+b) O O,show IntKind.wrap .i64 ((0:Int)+0)=0 from w64 O O];have:0 < a+b:=O
  refine⟨by simp [kd,this,ha],?_⟩;rw [Amf,Ht O,Ht O,Ht O,List.replicate_append_replicate]
  congr 1;omega
 .subst e e';dsimp only at b1 b2 ⊢;rw [show IntKind.wrap .i64 ((0:Int)+0)=0 from w64 O O];refine⟨by simp [kd,ha],?_⟩;rw [H8,H8,H8,AmD]
theorem AeT {l:List Prt} {p:Prt} (hl:okk 0 l=true) (hp:Fine p) (hb:AcP (l++[p])):okk 0 (Ch l p)=true/\Ac (Ch l p)=Ac l++pa p/\src (Ch l p)=src l+(p.1+p.2.1)/\tgt (Ch l p)=tgt l+(p.1+p.2.2.length):=by
 unfold Ch;rcases hp with rfl | hp
 .simp [hl,N6]
 .have h0:p≠(0,0,[]):=λh=>hp (by rw [h];exact AiD)
  rw [AlZ h0];have hs:=A7 hl;have sp:=JT hp;have k0:=sp.k;have d0:=sp.d;cases hq:l.getLast? with
  | none=>
   obtain rfl:l=[]:=by simpa using hq
   simp [okk,hp,Ac,src,tgt]
  | some q=>
   obtain ⟨l',rfl⟩:=Aoa.1 hq;have sq:=hs q Z;have k1:=sq.k;have d1:=sq.d;have n1:=AR (l:=l') λp h=>hs p (by simp [h])
   have n2:=B8 (l:=l') λp h=>hs p (by simp [h])
   have b1:=hb.1;have b2:=hb.2;simp only [Dv,Ds,src,tgt]at b1 b2;rw [Ja]at hl;simp only [Al2]at hl;obtain ⟨hl1,hl2⟩:=hl;simp only;split
   .rename_i hk;obtain ⟨e1,e2⟩:=Aff sq.ne hk O O;rw [Aob];refine⟨?_,?_,?_,?_⟩
    .rw [Ja,hl1,Amg];simp only [okk,e1]at hl2 ⊢;exact hl2
    .rw [I8,I8,Al5]
     congr 1
     show pa _++[]=(pa q++[])++pa p;rw [e2,Amf,Amf]
    .rw [Dv,Dv];simp only [src];rw [w64 (n:=q.1+p.1) O O,w64 (n:=q.2.1+p.2.1) O O];omega
    .rw [Ds,Ds];simp only [tgt,Al0];rw [w64 (n:=q.1+p.1) O O];omega
   .rename_i hk;refine⟨?_,?_,?_,?_⟩
    .rw [Ja,Ja,hl1,hl2];simp only [okk,Rw,List.getLast?_append,List.getLast?_singleton,Option.some_or,Anv,Amg,Al2,Al9,decide_eq_false_iff_not];exact⟨hp,λh=>hk h.symm⟩
    .rw [I8];simp [Ac]
    .rw [Dv];simp [src]
    .rw [Ds];simp [tgt]
theorem Sl {p:Prt} (h:Fine p):0<=p.1/\0<=p.2.1:=by
 rcases h with rfl | h
 .simp
 .exact⟨(JT h).k,(JT h).d⟩
theorem Qf:∀{l:List Prt},(∀p∈l,Fine p)->0<=src l/\0<=tgt l
 | [],_=>by simp [src,tgt]
 | p::l,h=>by
  have h1:=Sl (h p Z);have h2:=Qf (l:=l) λq hq=>h q (by simp [hq])
  simp only [src,tgt];omega
theorem WL:∀(m l:List Prt),okk 0 l=true->(∀p∈m,Fine p)->AcP (l++m)->okk 0 (m.foldl Ch l)=true/\Ac (m.foldl Ch l)=Ac l++Ac m/\src (m.foldl Ch l)=src l+src m/\tgt (m.foldl Ch l)=tgt l+tgt m
 | [],l,hl,_,_=>by simp [hl,Ac,src,tgt]
 | p::m,l,hl,hm,hb=>by
  have hm':∀p∈m,Fine p:=λq hq=>hm q (by simp [hq])
  obtain ⟨g1,g2⟩:=Qf hm';have b1:=hb.1;have b2:=hb.2;simp only [Dv,Ds,src,tgt]at b1 b2;obtain ⟨h1,h2,h3,h4⟩:=AeT hl (hm p Z) ⟨by simp only [Dv,src];omega,by simp only [Ds,tgt];omega⟩;rw [Anw];obtain ⟨k1,k2,k3,k4⟩:=WL m (Ch l p) h1 hm' ⟨by rw [Dv,h3];omega,by rw [Ds,h4];omega⟩;refine⟨k1,?_,?_,?_⟩
  .rw [k2,h2];simp [Ac]
  .rw [k3,h3];simp only [src];omega
  .rw [k4,h4];simp only [tgt];omega
theorem AdZ {m:List Prt} (hm:∀p∈m,Fine p) (hb:AcP m):okk 0 (Gu m)=true/\Ac (Gu m)=Ac m/\src (Gu m)=src m/\tgt (Gu m)=tgt m:=by
 have:=WL m [] rfl hm hb;simpa [Gu,Ac,src,tgt] using this
def hd:List Atom->Option Atom
 | []=>none
 | a::_=>some a
def ak:Atom->Int
 | .keep=>1
 | .drop=>2
 | .ins _=>3
theorem JK {p:Prt} (h:kd p≠0):∃a l,pa p=a::l/\ak a=kd p:=by
 rcases Dn h with⟨a,ha,rfl,k⟩ | ⟨a,ha,rfl,k⟩ | ⟨s,hs,rfl,k⟩
 .rw [Gq O,k,(O:a.toNat=(a.toNat - 1)+1),AmZ];exact⟨_,_,rfl,rfl⟩
 .rw [Ht O,k,(O:a.toNat=(a.toNat - 1)+1),AmZ];exact⟨_,_,rfl,rfl⟩
 .rw [H8,k];cases s with
  | nil=>exact absurd rfl hs
  | cons b s=>exact⟨_,_,rfl,rfl⟩
theorem Ae9 {p:Prt} (h:kd p≠0):∀a∈pa p,ak a=kd p:=by
 rcases Dn h with⟨a,ha,rfl,k⟩ | ⟨a,ha,rfl,k⟩ | ⟨s,hs,rfl,k⟩
 .rw [Gq O,k];intro x hx;rw [AnH hx];rfl
 .rw [Ht O,k];intro x hx;rw [AnH hx];rfl
 .rw [H8,k];intro x hx;obtain ⟨b,_,rfl⟩:=Aml.1 hx;rfl
theorem AjN {p q:Prt} (hp:kd p≠0) (hq:kd q≠0) (h:pa p=pa q):p=q:=by
 obtain ⟨a,l,e1,k1⟩:=JK hp;obtain ⟨b,m,e2,k2⟩:=JK hq;have hk:kd p=kd q:=by
  rw [e1,e2]at h;injection h with h _
  rw [<- k1,<- k2,h]
 rcases Dn hp with⟨a,ha,rfl,j1⟩ | ⟨a,ha,rfl,j1⟩ | ⟨a,ha,rfl,j1⟩ <;> rcases Dn hq with⟨b,hb,rfl,j2⟩ | ⟨b,hb,rfl,j2⟩ | ⟨b,hb,rfl,j2⟩ <;> try (rw [j1,j2]at hk;omega)
 .rw [Gq O,Gq O]at h;have:=congrArg List.length h;simp only [AmM]at this;rw [(O:a=b)]
 .rw [Ht O,Ht O]at h;have:=congrArg List.length h;simp only [AmM]at this;rw [(O:a=b)]
 .rw [H8,H8]at h;have:a=b:=by
   have hi:∀x y:List UInt8,x.map Atom.ins=y.map Atom.ins->x=y:=by
    intro x
    induction x with
    | nil=>intro y hy;cases y with
     | nil=>rfl
     | cons=>simp at hy
    | cons u x ih=>intro y hy;cases y with
     | nil=>simp at hy
     | cons v y=>
      simp only [AmF,Aod,Atom.ins.injEq]at hy;rw [hy.1,ih y hy.2]
   exact hi a b h
  rw [this]
theorem Aec {k:Int}:∀(x y r t:List Atom),(∀a∈x,ak a=k)->(∀a∈y,ak a=k)->(∀a,hd r=some a->ak a≠k)->(∀a,hd t=some a->ak a≠k)->x++r=y++t->x=y/\r=t
 | [],[],r,t,_,_,_,_,h=>⟨rfl,h⟩
 | [],b::y,r,t,_,hy,hr,_,h=>by
  exfalso;simp only [Ams]at h;rw [h]at hr;exact hr b rfl (hy b Z)
 | a::x,[],r,t,hx,_,_,ht,h=>by
  exfalso;simp only [Ams]at h;rw [<- h]at ht;exact ht a rfl (hx a Z)
 | a::x,b::y,r,t,hx,hy,hr,ht,h=>by
  simp only [AmH,Aod]at h;obtain ⟨h1,h2⟩:=h;obtain ⟨h3,h4⟩:=Aec x y r t (λa h=>hx a (by simp [h])) (λa h=>hy a (by simp [h])) hr ht h2;exact⟨by rw [h1,h3],h4⟩
theorem Zm {k:Int} {c:List Prt} (h:okk k c=true):∀a,hd (Ac c)=some a->ak a≠k:=by
 intro a ha;cases c with
 | nil=>cases ha
 | cons p c=>
  simp only [okk,Al2,Al9,decide_eq_false_iff_not]at h;obtain ⟨b,l,e,k1⟩:=JK h.1.1;have e2:Ac (p::c)=b::(l++Ac c):=by show pa p++Ac c=_;rw [e];rfl
  rw [e2]at ha;injection ha with ha
  rw [<- ha,k1];exact h.1.2
theorem Nq:∀{k j:Int} {c d:List Prt},okk k c=true->okk j d=true->Ac c=Ac d->c=d
 | k,j,[],[],_,_,_=>rfl
 | k,j,[],q::d,_,hd',h=>by
  exfalso;simp only [okk,Al2,Al9,decide_eq_false_iff_not]at hd';obtain ⟨b,l,e,_⟩:=JK hd'.1.1;have:Ac (q::d)=b::(l++Ac d):=by show pa q++Ac d=_;rw [e];rfl
  rw [this]at h;cases h
 | k,j,p::c,[],hc,_,h=>by
  exfalso;simp only [okk,Al2,Al9,decide_eq_false_iff_not]at hc;obtain ⟨b,l,e,_⟩:=JK hc.1.1;have:Ac (p::c)=b::(l++Ac c):=by show pa p++Ac c=_;rw [e];rfl
  rw [this]at h;cases h
 | k,j,p::c,q::d,hc,hd',h=>by
  simp only [okk,Al2,Al9,decide_eq_false_iff_not]at hc hd';obtain ⟨⟨c1,c2⟩,c3⟩:=hc;obtain ⟨⟨d1,d2⟩,d3⟩:=hd';have e1:Ac (p::c)=pa p++Ac c:=rfl;have e2:Ac (q::d)=pa q++Ac d:=rfl;rw [e1,e2]at h;have hk:kd p=kd q:=by
   obtain ⟨a,l,f1,k1⟩:=JK c1;obtain ⟨b,m,f2,k2⟩:=JK d1;rw [f1,f2]at h;injection h with h _
   rw [<- k1,<- k2,h]
  obtain ⟨h1,h2⟩:=Aec (k:=kd p) _ _ _ _ (Ae9 c1) (λa ha=>by rw [hk];exact Ae9 d1 a ha) (Zm c3) (by rw [hk];exact Zm d3) h;rw [AjN c1 d1 h1,Nq c3 d3 h2]
end Go.V.G
set_option maxRecDepth 100000
namespace Go.V.G
open Go.V
def comp:List Atom->List Atom->List Atom
 | x,.ins b::y=>.ins b::comp x y
 | .drop::x,[]=>.drop::comp x []
 | .drop::x,.keep::y=>.drop::comp x (.keep::y)
 | .drop::x,.drop::y=>.drop::comp x (.drop::y)
 | .ins b::x,.keep::y=>.ins b::comp x y
 | .ins _::x,.drop::y=>comp x y
 | .keep::x,.keep::y=>.keep::comp x y
 | .keep::x,.drop::y=>.drop::comp x y
 | _,_=>[]
termination_by x y=>x.length+y.length
def ap:List Atom->List UInt8->List UInt8
 | .ins b::l,t=>b::ap l t
 | .keep::l,c::t=>c::ap l t
 | .drop::l,_::t=>ap l t
 | _,_=>[]
def nS:List Atom->Nat
 | []=>0
 | .ins _::l=>nS l
 | .keep::l=>nS l+1
 | .drop::l=>nS l+1
def nT:List Atom->Nat
 | []=>0
 | .ins _::l=>nT l+1
 | .keep::l=>nT l+1
 | .drop::l=>nT l
theorem C2:∀l:List Atom,nS l=(Aq l).length
 | []=>rfl
 | .ins _::l=>C2 l
 | .keep::l=>by simp [nS,Aq,C2 l]
 | .drop::l=>by simp [nS,Aq,C2 l]
theorem Is:∀l:List Atom,nT l=Dx l+nK l
 | []=>rfl
 | .ins _::l=>by simp only [nT,Dx,nK,Is l];omega
 | .keep::l=>by simp only [nT,Dx,nK,Is l];omega
 | .drop::l=>by simp only [nT,Dx,nK,Is l]
theorem P5:∀(l:List Atom) (t:List UInt8),nS l=t.length->(ap l t).length=nT l
 | [],t,_=>by cases t <;> simp [ap,nT]
 | .ins b::l,t,h=>by simp only [ap,nT,Al7];rw [P5 l t h]
 | .keep::l,c::t,h=>by simp only [ap,nT,Al7];rw [P5 l t (by simpa [nS] using h)]
 | .drop::l,c::t,h=>by simp only [ap,nT];rw [P5 l t (by simpa [nS] using h)]
 | .keep::l,[],h=>by simp [nS]at h
 | .drop::l,[],h=>by simp [nS]at h
end Go.V.G
set_option maxRecDepth 100000
namespace Go.V.G
open Go.V
def Aj3:Option (Bool×Bool)->List Prt
 | some (true,true)=>[(1,0,[])]
 | some (false,true)=>[(0,1,[])]
 | _=>[]
def gap (first:Bool) (p q:List UInt8) (st:Option (Bool×Bool)):List Prt:=
 (if first=true then [(0,0,p),((q.length:Int),0,[])]else [((q.length:Int),0,[]),(0,0,p)])++Aj3 st
def Aj2 (first:Bool):List Bool->List (List UInt8)->List Bool->List (List UInt8)->List Prt
 | [],p::_,_,q::_=>gap first p q none
 | sx::Sx,p::Px,sy::Sy,q::Py=>gap first p q (some (sx,sy))++Aj2 first Sx Px Sy Py
 | _,_,_,_=>[]
theorem Bv (l:List Atom):∃p ps,Ak l=p::ps/\ps.length=(Aq l).length:=by
 have h:=EK l
 match hp:Ak l,HJ l with
 | p::ps,_=>rw [hp]at h;exact⟨p,ps,rfl,by simpa using h⟩
def rest (first:Bool) (Sx:List Bool) (Px:List (List UInt8)) (Sy:List Bool) (Py:List (List UInt8)) (k:Nat):List Prt:=Aj2 first (Sx.drop k) (Px.drop k) (Sy.drop k) (Py.drop k)
structure Rows (Sx:List Bool) (Px:List (List UInt8)) (Sy:List Bool) (Py:List (List UInt8)):Prop where
 s:Sx.length=Sy.length
 x:Px.length=Sx.length+1
 y:Py.length=Sy.length+1
 n:Sx.length<=1000
 px:∀p∈Px,p.length<=1000
 py:∀p∈Py,p.length<=1000
theorem one_I:I64 1/\I64 0:=by unfold I64;omega
end Go.V.G
set_option maxRecDepth 100000
namespace Go.V.G
open Go.V
theorem NQ {c:List Prt} (h:∀p∈c,Some1 p):src c=(nS (Ac c):Int):=by rw [<- IQ h,C2]
theorem Jy {c:List Prt} (h:∀p∈c,Some1 p):tgt c=(nT (Ac c):Int):=by rw [Wj h,Is]
theorem AkF (p:Prt):nS (pa p)=(p.1+p.2.1).toNat:=by rw [C2,OU,AmM]
theorem Zs:∀{l:List Prt},(∀p∈l,Fine p)->src l=(nS (Ac l):Int)
 | [],_=>rfl
 | p::l,h=>by
  have ih:=Zs (l:=l) λq hq=>h q (by simp [hq])
  have e:∀a b:List Atom,nS (a++b)=nS a+nS b:=λa b=>by rw [C2,C2,C2,C6,Al0]
  show p.1+p.2.1+src l=(nS (pa p++Ac l):Int)
  have:=Sl (h p Z);rw [e,ih,AkF];omega
theorem Aee (a b:List Atom):nT (a++b)=nT a+nT b:=by rw [Is,Is,Is,EJ,IM];omega
theorem ZG:∀{l:List Prt},(∀p∈l,Fine p)->tgt l=(nT (Ac l):Int)
 | [],_=>rfl
 | p::l,h=>by
  have ih:=ZG (l:=l) λq hq=>h q (by simp [hq])
  show p.1+(p.2.2.length:Int)+tgt l=(nT (pa p++Ac l):Int)
  rw [Aee,ih];rcases h p Z with rfl | hk
  .simp [N6,nT]
  .have:=Jy (c:=[p]) (λq hq=>by rw [Al6.1 hq];exact JT hk);have e:Ac [p]=pa p:=by simp [Ac]
   rw [e]at this;simp only [tgt]at this;omega
def apply (t:List UInt8) (c:List Prt):List UInt8:=ap (Ac c) t
theorem MK:∀(x y:List Atom) (t:List UInt8),nS x<=t.length->ap (x++y) t=ap x (t.take (nS x))++ap y (t.drop (nS x))
 | [],y,t,_=>by cases t <;> simp [ap,nS]
 | .ins b::x,y,t,h=>by simp only [AmH,ap,nS];rw [MK x y t h]
 | .keep::x,y,c::t,h=>by
  simp only [AmH,ap,nS,List.take_succ_cons,An3];rw [MK x y t (by simpa [nS] using h)]
 | .drop::x,y,c::t,h=>by
  simp only [AmH,ap,nS,List.take_succ_cons,An3];rw [MK x y t (by simpa [nS] using h)]
 | .keep::x,y,[],h=>by simp [nS]at h
 | .drop::x,y,[],h=>by simp [nS]at h
theorem Ajq (s:List UInt8):ap (s.map Atom.ins) []=s:=by
 induction s with
 | nil=>rfl
 | cons b s ih=>simp [ap,ih]
theorem Abv:∀(n:Nat) (t:List UInt8),t.length=n->ap (List.replicate n .keep) t=t
 | 0,[],_=>rfl
 | n+1,c::t,h=>by rw [AmZ];simp only [ap];rw [Abv n t (by simpa using h)]
theorem Abi:∀(n:Nat) (t:List UInt8),t.length=n->ap (List.replicate n .drop) t=[]
 | 0,[],_=>rfl
 | n+1,c::t,h=>by rw [AmZ];simp only [ap];rw [Abi n t (by simpa using h)]
theorem AkC {p:Prt} (h:kd p≠0) (t:List UInt8) (ht:t.length=(p.1+p.2.1).toNat):ap (pa p) t=t.take p.1.toNat++p.2.2:=by
 rcases Dn h with⟨a,ha,rfl,_⟩ | ⟨a,ha,rfl,_⟩ | ⟨s,hs,rfl,_⟩
 .simp only [Int.add_zero]at ht;rw [Gq O,Abv _ t ht,Amf,AmK AlT]
 .simp only [Int.zero_add]at ht;rw [Ht O,Abi _ t ht];simp
 .have:t=[]:=Amo (by simpa using ht);subst this;rw [H8,Ajq];simp
theorem Tp {c:List Prt} (hg:AA c=true) {t:List UInt8} (ht:(t.length:Int)=src c):Oj t c=some (apply t c):=by
 have hs:=A7 (As hg).1;have sm:=Ci hg;have sle:=(As hg).2.1;have hlen:c.length<=1099511627776:=by have:=sm.len;omega
 unfold Oj;have:Ab Hl (t,([]:List UInt8),0,c,(List.length c:Int),0)=some (apply t c):=by
  have:=Ai Hl (λk=>(t,ap (Ac (c.take k)) (t.take (nS (Ac (c.take k)))),src (c.take k),c,(List.length c:Int),((k:Nat):Int))) c.length (apply t c) (by
   intro i hlt;have p1:=hs _ (Amc hlt);have k0:=p1.k;have d0:=p1.d;have a1:=Ju hlt;have n1:=AR (l:=c.take i) λp h=>hs p (B5 h)
   have n3:=AR (l:=c.drop (i+1)) λp h=>hs p (Cz h)
   have psm:=I6 hg (Amc hlt);have e0:=NQ (c:=c.take i) λp h=>hs p (B5 h)
   have hi:(i:Int) < (List.length c:Int):=O
   have w1:IntKind.wrap .i64 (src (c.take i)+c[i].1)=src (c.take i)+c[i].1:=w64 O O;have w2:IntKind.wrap .i64 (c[i].1+c[i].2.1)=c[i].1+c[i].2.1:=w64 O O;have w3:IntKind.wrap .i64 (src (c.take i)+(c[i].1+c[i].2.1))=src (c.take i)+(c[i].1+c[i].2.1):=w64 O O;have g1:src (c.take i)<=src (c.take i)+c[i].1:=O
   have g2:src (c.take i)+c[i].1<=(List.length t:Int):=O
   have hnt:nS (Ac (c.take i))+(c[i].1+c[i].2.1).toNat<=t.length:=O
   have al:=P5 (Ac (c.take i)) (t.take (nS (Ac (c.take i)))) (by rw [Al4];omega);have tn:=Jy (c:=c.take i) λp h=>hs p (B5 h)
   have t3:=QW hlt;have t4:=B8 (l:=c.drop (i+1)) λp h=>hs p (Cz h)
   have tle:=(As hg).2.2;have hout:ap (Ac (c.take (i+1))) (t.take (nS (Ac (c.take (i+1)))))=ap (Ac (c.take i)) (t.take (nS (Ac (c.take i))))++(((t.drop (Int.toNat (src (c.take i)))).take (Int.toNat (src (c.take i)+c[i].1) - Int.toNat (src (c.take i))))++c[i].2.2):=by
    have e1:nS (Ac (c.take (i+1)))=nS (Ac (c.take i))+(c[i].1+c[i].2.1).toNat:=by
     rw [Lw hlt,C2,C6,Al0,<- C2,OU,AmM]
    rw [e1,Lw hlt,MK _ _ _ (by rw [Al4];omega),List.take_take,Aoc O]
    congr 1
    rw [List.drop_take,(O:nS (Ac (c.take i))+(c[i].1+c[i].2.1).toNat - nS (Ac (c.take i))=(c[i].1+c[i].2.1).toNat),
     AkC p1.ne _ (by rw [Al4,Amm];omega),List.take_take,Aoc O]
    rw [(O:Int.toNat (src (c.take i))=nS (Ac (c.take i))),(O:Int.toNat (src (c.take i)+c[i].1) - nS (Ac (c.take i))=c[i].1.toNat)]
   have r1:List.length ((t.drop (Int.toNat (src (c.take i)))).take (Int.toNat (src (c.take i)+c[i].1) - Int.toNat (src (c.take i))))+List.length c[i].2.2<=9223372036854775807:=by
    rw [Al4,Amm];omega
   have r2:List.length (ap (Ac (c.take i)) (t.take (nS (Ac (c.take i)))))+List.length ((((t:List UInt8).drop (Int.toNat (src (c.take i)))).take (Int.toNat (src (c.take i)+c[i].1) - Int.toNat (src (c.take i))):List UInt8)++c[i].2.2)<=9223372036854775807:=by
    rw [Al0,Al4,Amm,al];omega
   unfold Hl cK gX sX wI;simp only [hi,show(0:Int)<=(i:Int) from by omega,decide_true,Amd,AlX,AlW hlt,AlU,w1,w2,w3,n1,g1,g2,Am6,r1,r2,An hlen hlt,hout,JS hlt]) (by
   have e:nS (Ac c)=t.length:=by have:=NQ hs;omega
   simp only [AmL];rw [e,AmL];simp [Hl,cK,gX,sX,wI,apply])
  simpa [Ac,ap,src,nS] using this
 rw [this];rfl
end Go.V.G
set_option maxRecDepth 100000
namespace Go.V.G
open Go.V
def BB:List Bool->List (List UInt8)->List Prt
 | [],p::_=>[(0,0,p)]
 | s::S,p::P=>(0,0,p)::(if s=true then(1,0,[])else(0,1,[]))::BB S P
 | _,[]=>[]
theorem Sa:∀(S:List Bool) (P:List (List UInt8)),∀r∈BB S P,Fine r
 | [],[],r,h=>by cases h
 | [],p::_,r,h=>by rw [Al6.1 h];exact Fine.put _
 | _::_,[],r,h=>by cases h
 | s::S,p::P,r,h=>by
  rcases Ame.1 h with rfl | h
  .exact Fine.put _
  rcases Ame.1 h with rfl | h
  .cases s
   .exact Fine.drop O
   .exact Fine.keep O
  .exact Sa S P r h
theorem Aaa (b:UInt8) {S:List Bool} {p:List UInt8} {P:List (List UInt8)}:Ac (BB S ((b::p)::P))=.ins b::Ac (BB S (p::P)):=by
 cases S with
 | nil=>simp [BB,Ac,H8]
 | cons s S=>simp [BB,Ac,H8]
theorem Jj:∀l:List Atom,Ac (BB (Aq l) (Ak l))=l
 | []=>by simp [BB,Aq,Ak,Ac,N6]
 | .ins b::l=>by
  obtain ⟨p,ps,e,_⟩:=Bv l;have ih:=Jj l;show Ac (BB (Aq l) (Bl b (Ak l)))=_;rw [e]at ih ⊢;show Ac (BB (Aq l) ((b::p)::ps))=_;rw [Aaa,ih]
 | .keep::l=>by
  have ih:=Jj l;show pa (0,0,[])++(pa (1,0,[])++Ac (BB (Aq l) (Ak l)))=_;rw [ih,N6,Gq O];rfl
 | .drop::l=>by
  have ih:=Jj l;show pa (0,0,[])++(pa (0,1,[])++Ac (BB (Aq l) (Ak l)))=_;rw [ih,N6,Ht O];rfl
def inn:List Bool->List (List UInt8)->List UInt8->List UInt8
 | sc::Sc,_::q::Pc,b::s=>(if sc=true then [b]else [])++q++inn Sc (q::Pc) s
 | _,_,_=>[]
def By:List UInt8->List Bool->List (List UInt8)->List Bool->List (List UInt8)->List Bool×List (List UInt8)
 | be,sb::Sb,p::Pb,Sc,Pc=>
  if sb=true then
   let r:=By ((Pc.drop p.length).getD 1 []) Sb Pb ((Sc.drop p.length).drop 1) ((Pc.drop p.length).drop 1)
   ((Sc.drop p.length).getD 0 false::r.1,(be++inn Sc Pc p)::r.2)
  else
   let r:=By [] Sb Pb (Sc.drop p.length) (Pc.drop p.length)
   (false::r.1,(be++inn Sc Pc p)::r.2)
 | be,_,p::_,Sc,Pc=>([],[be++inn Sc Pc p])
 | _,_,[],_,_=>([],[])
def Dr:List Atom->List Atom
 | .ins _::l=>Dr l
 | l=>l
theorem Kg:∀l,Aq (Dr l)=Aq l
 | []=>rfl
 | .ins _::l=>Kg l
 | .keep::_=>rfl
 | .drop::_=>rfl
theorem Sw (l:List Atom):nS (Dr l)=nS l:=by rw [C2,C2,Kg]
theorem Jc:∀l,Ak (Dr l)=[]::(Ak l).tail
 | []=>rfl
 | .ins b::l=>by
  obtain ⟨p,ps,e,_⟩:=Bv l;show Ak (Dr l)=[]::(Bl b (Ak l)).tail;rw [Jc l,e];rfl
 | .keep::_=>rfl
 | .drop::_=>rfl
theorem Hx (x:List Atom):∀y,comp x y=((Ak y).headD []).map Atom.ins++comp x (Dr y)
 | []=>rfl
 | .ins b::y=>by
  obtain ⟨p,ps,e,_⟩:=Bv y;have ih:=Hx x y;rw [comp];show .ins b::comp x y=((Bl b (Ak y)).headD []).map Atom.ins++comp x (Dr y);rw [ih,e];rfl
 | .keep::_=>rfl
 | .drop::_=>rfl
theorem Im (q:List UInt8) (l:List Atom):Ak (q.map Atom.ins++l)=(q++(Ak l).headD [])::(Ak l).tail:=by
 obtain ⟨p,ps,e,_⟩:=Bv l
 induction q with
 | nil=>rw [Aof,Ams,e];rfl
 | cons b q ih=>
  show Bl b (Ak (q.map Atom.ins++l))=_;rw [ih];rfl
theorem Hp (q:List UInt8) (l:List Atom):Aq (q.map Atom.ins++l)=Aq l:=by rw [C6,Qo];rfl
theorem NW:∀(Sc:List Bool) (Pc:List (List UInt8)),inn Sc Pc []=[]
 | [],_=>by simp [inn]
 | _::_,[]=>by simp [inn]
 | _::_,[_]=>by simp [inn]
 | _::_,_::_::_=>by simp [inn]
theorem JL {sc:Bool} {Sc:List Bool} {r q:List UInt8} {Pc:List (List UInt8)} {b:UInt8} {s:List UInt8}:inn (sc::Sc) (r::q::Pc) (b::s)=(if sc=true then [b]else [])++q++inn Sc (q::Pc) s:=by rw [inn]
theorem Y4 (be:List UInt8) (b:UInt8) {Sb:List Bool} {p:List UInt8} {Pb:List (List UInt8)} {sc:Bool} {Sc:List Bool} {r q:List UInt8} {Pc:List (List UInt8)} :
  By be Sb ((b::p)::Pb) (sc::Sc) (r::q::Pc)=By (be++(if sc=true then [b]else [])++q) Sb (p::Pb) Sc (q::Pc):=by
 cases Sb with
 | nil=>
  simp only [By,JL,Al5]
 | cons sb Sb=>
  simp only [By,JL,Al5,Al7,An3]
def front (be:List UInt8) (l:List Atom):List Bool×List (List UInt8):=(Aq l,(be++(Ak l).headD [])::(Ak l).tail)
theorem VW (be q:List UInt8) (l:List Atom):front be (q.map Atom.ins++l)=front (be++q) l:=by
 unfold front;rw [Hp,Im];simp
theorem LH:∀(x:List Atom) (be:List UInt8) (y:List Atom),nT x=nS y->By be (Aq x) (Ak x) (Aq y) (Ak y)=front be (comp x (Dr y))
 | [],be,y,h=>by
  have:Dr y=[]:=by
   have hn:nS (Dr y)=0:=by rw [Sw];exact h.symm
   match hs:Dr y with
   | []=>rfl
   | .ins b::l=>
    exfalso;have:=Jc y;rw [hs]at this;obtain ⟨p,ps,e,_⟩:=Bv l;simp only [Ak,e,Bl]at this;injection this with h1 _
    cases h1
   | .keep::l=>rw [hs]at hn;simp [nS]at hn
   | .drop::l=>rw [hs]at hn;simp [nS]at hn
  rw [this];simp [comp,front,Aq,Ak,By,inn]
 | .ins b::x,be,y,h=>by
  obtain ⟨p,ps,e,_⟩:=Bv x;have hs:=Kg y;have hp:=Jc y;have hn:nS (Dr y)=nT x+1:=by rw [Sw];exact h.symm
  have hpl:Ak y=(Ak y).headD []::(Ak y).tail:=by obtain ⟨a,as,e2,_⟩:=Bv y;rw [e2];rfl
  match hy:Dr y,hn with
  | .ins c::l,_=>
   exfalso;rw [hy]at hp;obtain ⟨p',ps',e',_⟩:=Bv l;simp only [Ak,e',Bl]at hp;injection hp with h1 _
   cases h1
  | [],hn=>simp [nS]at hn
  | .keep::l,hn=>
   rw [hy]at hs hp;simp only [Aq,Ak]at hs hp;injection hp with _ hp
   obtain ⟨q,qs,e3,_⟩:=Bv l;have ih:=LH x (be++[b]++q) l (by simpa [nS] using hn.symm);rw [comp];show By be (Aq x) (Bl b (Ak x)) (Aq y) (Ak y)=_;rw [<- hs,hpl,<- hp,e,e3];show By be (Aq x) ((b::p)::ps) (true::Aq l) (_::q::qs)=_;rw [Y4,Al1 rfl,<- e3,<- e,ih];show _=front be (.ins b::comp x l);rw [Hx x l,e3];rw [show(Atom.ins b::(List.map Atom.ins ((q::qs).headD [])++comp x (Dr l)))=(b::q).map Atom.ins++comp x (Dr l) from rfl,VW];simp
  | .drop::l,hn=>
   rw [hy]at hs hp;simp only [Aq,Ak]at hs hp;injection hp with _ hp
   obtain ⟨q,qs,e3,_⟩:=Bv l;have ih:=LH x (be++[]++q) l (by simpa [nS] using hn.symm);rw [comp];show By be (Aq x) (Bl b (Ak x)) (Aq y) (Ak y)=_;rw [<- hs,hpl,<- hp,e,e3];show By be (Aq x) ((b::p)::ps) (false::Aq l) (_::q::qs)=_;rw [Y4,AlZ Z,<- e3,<- e,ih];rw [Hx x l,e3,show((q::qs).headD [])=q from rfl,VW];simp
 | .keep::x,be,y,h=>by
  have hs:=Kg y;have hp:=Jc y;have hn:nS (Dr y)=nT x+1:=by rw [Sw];exact h.symm
  have hpl:Ak y=(Ak y).headD []::(Ak y).tail:=by obtain ⟨a,as,e2,_⟩:=Bv y;rw [e2];rfl
  match hy:Dr y,hn with
  | .ins c::l,_=>
   exfalso;rw [hy]at hp;obtain ⟨p',ps',e',_⟩:=Bv l;simp only [Ak,e',Bl]at hp;injection hp with h1 _
   cases h1
  | [],hn=>simp [nS]at hn
  | .keep::l,hn=>
   rw [hy]at hs hp;simp only [Aq,Ak]at hs hp;injection hp with _ hp
   obtain ⟨q,qs,e3,_⟩:=Bv l;have ih:=LH x q l (by simpa [nS] using hn.symm);rw [comp];show By be (true::Aq x) ([]::Ak x) (Aq y) (Ak y)=_;rw [<- hs,hpl,<- hp,e3];simp only [By,Amd,Amp,AmX,List.getD_cons_zero,List.getD_cons_succ,An3,inn,Amf];rw [<- e3,ih];unfold front;simp only [Aq,Ak,List.headD_cons,List.tail_cons,Amf];rw [Hx x l,e3,Hp,Im];simp
  | .drop::l,hn=>
   rw [hy]at hs hp;simp only [Aq,Ak]at hs hp;injection hp with _ hp
   obtain ⟨q,qs,e3,_⟩:=Bv l;have ih:=LH x q l (by simpa [nS] using hn.symm);rw [comp];show By be (true::Aq x) ([]::Ak x) (Aq y) (Ak y)=_;rw [<- hs,hpl,<- hp,e3];simp only [By,Amd,Amp,AmX,List.getD_cons_zero,List.getD_cons_succ,An3,inn,Amf];rw [<- e3,ih];unfold front;simp only [Aq,Ak,List.headD_cons,List.tail_cons,Amf];rw [Hx x l,e3,Hp,Im];simp
 | .drop::x,be,y,h=>by
  have ih:=LH x [] y h;have hc:comp (.drop::x) (Dr y)=.drop::comp x (Dr y):=by
   match hy:Dr y with
   | .ins c::l=>
    exfalso;have hp:=Jc y;rw [hy]at hp;obtain ⟨p',ps',e',_⟩:=Bv l;simp only [Ak,e',Bl]at hp;injection hp with h1 _
    cases h1
   | []=>rw [comp]
   | .keep::l=>rw [comp]
   | .drop::l=>rw [comp]
  rw [hc];show By be (false::Aq x) ([]::Ak x) (Aq y) (Ak y)=_;simp only [By,Al8,Amv,Amp,AmX,NW,Amf];rw [ih];unfold front;simp only [Aq,Ak,List.headD_cons,List.tail_cons,Amf,Ams];obtain ⟨a,as,e2,_⟩:=Bv (comp x (Dr y));rw [e2];rfl
theorem VL (x y:List Atom) (h:nT x=nS y):By ((Ak y).headD []) (Aq x) (Ak x) (Aq y) (Ak y)=(Aq (comp x y),Ak (comp x y)):=by
 rw [LH x _ y h,Hx x y,Hp,Im];rfl
end Go.V.G
set_option maxRecDepth 100000
namespace Go.V.G
open Go.V
def tot (P:List (List UInt8)):Nat:=(P.map List.length).sum
theorem G4 (p:List UInt8) (P:List (List UInt8)):tot (p::P)=p.length+tot P:=by simp [tot]
theorem YE (P:List (List UInt8)):∀n,tot (P.drop n)<=tot P:=by
 induction P with
 | nil=>intro n;simp [tot]
 | cons p P ih=>
  intro n;cases n with
  | zero=>simp
  | succ n=>rw [An3,G4];have:=ih n;omega
theorem NU:∀{P:List (List UInt8)} {p:List UInt8},p∈P->p.length<=tot P
 | q::P,p,h=>by
  rw [G4];rcases Ame.1 h with rfl | h
  .omega
  .have:=NU h;omega
def Oq:List Bool->Nat
 | []=>0
 | b::l=>(if b=true then 1 else 0)+Oq l
def rem (S:List Bool) (P:List (List UInt8)):Nat:=tot P+Oq S
theorem Mz:∀l:List Atom,tot (Ak l)=Dx l
 | []=>rfl
 | .ins b::l=>by
  obtain ⟨p,ps,e,_⟩:=Bv l;have ih:=Mz l;show tot (Bl b (Ak l))=Dx l+1;rw [e]at ih ⊢;simp only [Bl,G4,Al7]at ih ⊢;omega
 | .keep::l=>by show tot ([]::Ak l)=Dx l;rw [G4,Mz l];simp
 | .drop::l=>by show tot ([]::Ak l)=Dx l;rw [G4,Mz l];simp
theorem Kf:∀l:List Atom,Oq (Aq l)=nK l
 | []=>rfl
 | .ins _::l=>Kf l
 | .keep::l=>by show 1+Oq (Aq l)=nK l+1;rw [Kf l];omega
 | .drop::l=>by show 0+Oq (Aq l)=nK l;rw [Kf l];omega
theorem Aja (l:List Atom):rem (Aq l) (Ak l)=nT l:=by rw [rem,Mz,Kf,Is]
theorem UO:∀(Sc:List Bool) (Pc:List (List UInt8)) (s:List UInt8),(inn Sc Pc s).length<=s.length+tot Pc.tail
 | [],_,s=>by simp [inn]
 | _::_,[],s=>by simp [inn]
 | _::_,[_],s=>by simp [inn]
 | _::_,_::_::_,[]=>by rw [NW];simp
 | sc::Sc,r::q::Pc,b::s=>by
  have ih:=UO Sc (q::Pc) s;rw [JL];simp only [Al0,Al7,List.tail_cons,G4]at ih ⊢;split <;> simp <;> omega
theorem SO:∀(s:List UInt8) (Sc:List Bool) (Pc:List (List UInt8)) (b:UInt8) (h1:s.length < Sc.length) (h2:Pc.length=Sc.length+1),
  inn Sc Pc (s++[b])=inn Sc Pc s++((if Sc[s.length]=true then [b]else [])++Pc[s.length+1]' O)
 | [],sc::Sc,r::q::Pc,b,h1,h2=>by simp [JL,NW]
 | [],sc::Sc,[],b,h1,h2=>by simp at h2
 | [],sc::Sc,[_],b,h1,h2=>by simp at h2
 | [],[],_,b,h1,h2=>by simp at h1
 | a::s,[],_,b,h1,h2=>by simp at h1
 | a::s,sc::Sc,[],b,h1,h2=>by simp at h2
 | a::s,sc::Sc,[_],b,h1,h2=>by simp at h2
 | a::s,sc::Sc,r::q::Pc,b,h1,h2=>by
  have ih:=SO s Sc (q::Pc) b (by simpa using h1) (by simpa using h2);rw [AmH,JL,JL,ih];simp [Al5]
structure CR (Sb:List Bool) (Pb:List (List UInt8)) (Sc:List Bool) (Pc:List (List UInt8)):Prop where
 x:Pb.length=Sb.length+1
 y:Pc.length=Sc.length+1
 r:rem Sb Pb=Sc.length
 n:Sb.length<=1000
 m:Sc.length<=1000
 py:tot Pc<=1000
theorem Agz {S:List Bool} {P:List (List UInt8)} (h:P.length=S.length+1) {g:Nat} (hg:g < P.length):rem (S.drop g) (P.drop g)=P[g].length+(if h:g < S.length then(if S[g]=true then 1 else 0)else 0)+rem (S.drop (g+1)) (P.drop (g+1)):=by
 rw [Amx hg];by_cases hs:g < S.length
 .rw [Amx hs,dif_pos hs];simp only [rem,G4,Oq];omega
 .rw [dif_neg hs,AnO (O:S.length<=g),AnO (O:S.length<=g+1)];simp only [rem,G4,Oq];omega
section
variable {Sb:List Bool} {Pb:List (List UInt8)} {Sc:List Bool} {Pc:List (List UInt8)} (h:CR Sb Pb Sc Pc)
include h
theorem TY {t:Nat} {g n g2:Int} {s text:List UInt8} {oS:List Bool} {oP:List (List UInt8)} (hs:t+s.length<=Sc.length) (ht:text.length<=1000) :
  Ab Hh ((t:Int),g,s,text,Pb,n,g2,(List.length s:Int),0,Sb,Sc,Pc,oS,oP) =
   some (((t+s.length:Nat):Int),g,text++inn (Sc.drop t) (Pc.drop t) s,Pb,n,g2,Sb,Sc,Pc,oS,oP):=by
 obtain ⟨hx,hy,hr,hn,hm,hpy⟩:=h;have:=Ai Hh (λi=>(((t+i:Nat):Int),g,s,text++inn (Sc.drop t) (Pc.drop t) (s.take i),Pb,n,g2,(List.length s:Int),((i:Nat):Int),Sb,Sc,Pc,oS,oP)) s.length
  (((t+s.length:Nat):Int),g,text++inn (Sc.drop t) (Pc.drop t) s,Pb,n,g2,Sb,Sc,Pc,oS,oP) (by
   intro i hi;have hti:t+i < Sc.length:=O
   have htp:t+i+1 < Pc.length:=O
   have hl:(s.take i).length=i:=by rw [Al4];omega
   have sn:=SO (s.take i) (Sc.drop t) (Pc.drop t) s[i] (by rw [hl,Amm];omega) (by rw [Amm,Amm];omega);rw [<- Ama hi]at sn;simp only [hl,List.getElem_drop]at sn;have il:=UO (Sc.drop t) (Pc.drop t) (s.take i);have tl:tot (Pc.drop t).tail<=tot Pc:=by rw [List.tail_drop];exact YE _ _
   have pq:(Pc[t+i+1]).length<=tot Pc:=NU (Amc htp);have e1:IntKind.wrap .i64 (((i:Nat):Int)+1)=((i+1:Nat):Int):=An (n:=s.length) O hi;have e2:IntKind.wrap .i64 (((t+i:Nat):Int)+1)=((t+i+1:Nat):Int):=An (n:=Sc.length) O hti;have g0:(0:Int)<=((t+i:Nat):Int):=O
   have g1:((t+i:Nat):Int) < (List.length Sc:Int):=O
   have g2':(0:Int)<=((i:Nat):Int):=O
   have g3:((i:Nat):Int)<=((i+1:Nat):Int):=O
   have g4:((i+1:Nat):Int)<=(List.length s:Int):=O
   have g5:((i:Nat):Int) < (List.length s:Int):=O
   have g6:((t+i+1:Nat):Int) < (List.length Pc:Int):=O
   have g7:(0:Int)<=((t+i+1:Nat):Int):=O
   have cut:(s.drop i).take (i+1 - i)=[s[i]]:=by rw [(O:i+1 - i=1),Amx hi];rfl
   have b1:List.length (text++inn (Sc.drop t) (Pc.drop t) (s.take i))+List.length [s[i]]<=9223372036854775807:=by rw [Al0];simp only [Amb];omega
   have b2:∀z:List UInt8,z.length<=1->List.length (text++inn (Sc.drop t) (Pc.drop t) (s.take i)++z)+List.length (Pc[t+i+1])<=9223372036854775807:=λz hz=>by rw [Al0,Al0];omega
   unfold Hh cK cZ sX wI;simp only [g0,g1,g2',g3,g4,g5,e1,e2,decide_true,Amd,AlX,Amk,AlW hti,AlU,Am6,cut,b1];cases hb:Sc[t+i]with
   | true=>
    rw [hb,Al1 rfl]at sn;have b3:=b2 [s[i]] Z;simp only [Amd,AlU,e1,e2,g6,g7,decide_true,AlX,AlW htp,b3];simp only [sn,Al5,Ani]
   | false=>
    rw [hb,AlZ Z]at sn;have b3:=b2 [] Z;rw [Amf]at b3;simp only [Al8,Amv,AlU,e1,e2,g6,g7,decide_true,Amd,AlX,AlW htp,b3];simp only [sn,Al5,Ani,Ams]) (by
   simp only [AmL];simp [Hh,cK,cZ,sX,wI])
 simpa [NW] using this
theorem Abh {g t:Nat} (hg:g < Pb.length) (be:List UInt8) (ht:t+rem (Sb.drop g) (Pb.drop g)=Sc.length) :
  t+Pb[g].length<=Sc.length/\(g=Sb.length->By be (Sb.drop g) (Pb.drop g) (Sc.drop t) (Pc.drop t)=([],[be++inn (Sc.drop t) (Pc.drop t) Pb[g]]))/\
  ∀h1:g < Sb.length,(Sb[g]=false->t+Pb[g].length+rem (Sb.drop (g+1)) (Pb.drop (g+1))=Sc.length/\By be (Sb.drop g) (Pb.drop g) (Sc.drop t) (Pc.drop t) =
    (false::(By [] (Sb.drop (g+1)) (Pb.drop (g+1)) (Sc.drop (t+Pb[g].length)) (Pc.drop (t+Pb[g].length))).1,(be++inn (Sc.drop t) (Pc.drop t) Pb[g])::(By [] (Sb.drop (g+1)) (Pb.drop (g+1)) (Sc.drop (t+Pb[g].length)) (Pc.drop (t+Pb[g].length))).2))/\
   (Sb[g]=true->t+Pb[g].length+1+rem (Sb.drop (g+1)) (Pb.drop (g+1))=Sc.length/\∃(h2:t+Pb[g].length < Sc.length) (h3:t+Pb[g].length+1 < Pc.length),By be (Sb.drop g) (Pb.drop g) (Sc.drop t) (Pc.drop t) =
    (Sc[t+Pb[g].length]::(By Pc[t+Pb[g].length+1] (Sb.drop (g+1)) (Pb.drop (g+1)) (Sc.drop (t+Pb[g].length+1)) (Pc.drop (t+Pb[g].length+1))).1,
     (be++inn (Sc.drop t) (Pc.drop t) Pb[g])::(By Pc[t+Pb[g].length+1] (Sb.drop (g+1)) (Pb.drop (g+1)) (Sc.drop (t+Pb[g].length+1)) (Pc.drop (t+Pb[g].length+1))).2)):=by
 obtain ⟨hx,hy,hr,hn,hm,hpy⟩:=h;have rd:=Agz hx hg;rw [rd]at ht;refine⟨O,λhe=>?_,λh1=>⟨λhb=>⟨?_,?_⟩,λhb=>⟨?_,?_⟩⟩⟩
 .subst he;rw [AnM,Amx hg];simp [By]
 .simp only [h1,hb,Al8,Amv,dif_pos]at ht;omega
 .rw [Amx hg,Amx h1,hb];simp only [By,Al8,Amv,An8]
 .simp only [h1,hb,Amd,dif_pos]at ht;omega
 .simp only [h1,hb,Amd,dif_pos]at ht;have h2:t+Pb[g].length < Sc.length:=O
  have h3:t+Pb[g].length+1 < Pc.length:=O
  refine⟨h2,h3,?_⟩;rw [Amx hg,Amx h1,hb];simp only [By,Amd,An8];have e1:(Sc.drop (t+Pb[g].length)).getD 0 false=Sc[t+Pb[g].length]:=by rw [Amx h2];rfl
  have e2:(Pc.drop (t+Pb[g].length)).getD 1 []=Pc[t+Pb[g].length+1]:=by
   rw [Amx O,Amx h3];rfl
  rw [e1,e2]
theorem UC (be:List UInt8) (hbe:be.length<=1000):Ab Mb (0,be,Pb,(List.length Pb:Int),0,Sb,Sc,Pc,[],[])=some (By be Sb Pb Sc Pc):=by
 refine Ok.eq (Ok.loop (λy=>y.2.2.1=Pb/\y.2.2.2.1=(List.length Pb:Int)/\y.2.2.2.2.2.1=Sb/\y.2.2.2.2.2.2.1=Sc/\y.2.2.2.2.2.2.2.1=Pc/\∃t g:Nat,y.1=(t:Int)/\y.2.2.2.2.1=(g:Int)/\g < Pb.length/\
   y.2.1.length<=1000/\t+rem (Sb.drop g) (Pb.drop g)=Sc.length/\y.2.2.2.2.2.2.2.2.1.length=g/\y.2.2.2.2.2.2.2.2.2.length=g/\
   (y.2.2.2.2.2.2.2.2.1++(By y.2.1 (Sb.drop g) (Pb.drop g) (Sc.drop t) (Pc.drop t)).1,y.2.2.2.2.2.2.2.2.2++(By y.2.1 (Sb.drop g) (Pb.drop g) (Sc.drop t) (Pc.drop t)).2)=By be Sb Pb Sc Pc) (λy=>((List.length Pb:Int) - y.2.2.2.2.1).toNat)
  ⟨rfl,rfl,rfl,rfl,rfl,0,0,rfl,rfl,by rw [h.x];omega,hbe,by have:=h.r;simpa using this,rfl,rfl,Z⟩ ?_)
 rintro ⟨t',be',pb,n,g',sb,sc,pc,oS,oP⟩ ⟨e1,e2,e3,e4,e5,t,g,e6,e7,hg,hbe',hrem,hoS,hoP,hf⟩;dsimp only at e1 e2 e3 e4 e5 e6 e7 hbe' hoS hoP hf;subst e1 e2 e3 e4 e5 e6 e7;have hCR:=h;obtain ⟨hx,hy,hr,hn,hm,hpy⟩:=h;obtain ⟨c1,c2,c3⟩:=Abh hCR hg be' hrem;unfold Mb cK cZ wI;dsimp only;refine Ok.yes (by simpa using hg) ?_;have r16:∀z:List UInt8,Aa (List.length oP+List.length [z]) 16=true:=λz=>OD O O
 have r1:∀z:Bool,Aa (List.length oS+List.length [z]) 1=true:=λz=>OD O O
 have hin:=TY hCR (g:=(g:Int)) (n:=(List.length pb:Int)) (g2:=(g:Int)) (text:=be') (oS:=oS) (oP:=oP) c1 hbe';refine Ok.bind (Q:=λv=>match v with
   | .inl y=>∃t2 be2 oS2 oP2,y=(((t2:Nat):Int),be2,pb,(List.length pb:Int),(g:Int),sb,sc,pc,oS2,oP2)/\g+1 < pb.length/\List.length be2<=1000/\t2+rem (sb.drop (g+1)) (pb.drop (g+1))=sc.length/\List.length oS2=g+1/\List.length oP2=g+1/\
     (oS2++(By be2 (sb.drop (g+1)) (pb.drop (g+1)) (sc.drop t2) (pc.drop t2)).1,oP2++(By be2 (sb.drop (g+1)) (pb.drop (g+1)) (sc.drop t2) (pc.drop t2)).2)=By be sb pb sc pc
   | .inr z=>z=By be sb pb sc pc) ?_ ?_
 .refine Ok.yes Z (Ok.yes (by simpa using hg) (Ok.bind_eq (r:=pb[g]) (by simp [AlW hg]) (Ok.bind_eq hin (Ok.yes (r16 _) ?_))));dsimp only;refine Ok.ite (λhq=>?_) λhq=>?_
  .have he:g=sb.length:=by
    have:(g:Int)=(List.length sb:Int):=by simpa using hq
    omega
   rw [c2 he]at hf;exact Ok.mk (by rw [<- hf,Amf])
  .have hks:g < sb.length:=by
    have:¬ (g:Int)=(List.length sb:Int):=by simpa using hq
    omega
   refine Ok.yes Z (Ok.yes (by simpa using hks) (Ok.bind_eq (r:=sb[g]) (by simp [AlW hks]) ?_));cases hb:sb[g]with
   | false=>
    obtain ⟨k1,k2⟩:=(c3 hks).1 hb;rw [k2]at hf;refine Ok.yes Z (Ok.yes (r1 _) (Ok.mk ⟨_,_,_,_,rfl,O,Z,k1,by simp [hoS],by simp [hoP],?_⟩));rw [<- hf];simp
   | true=>
    obtain ⟨k1,k2,k3,k4⟩:=(c3 hks).2 hb;rw [k4]at hf;have e9:IntKind.wrap .i64 (((t+pb[g].length:Nat):Int)+1)=((t+pb[g].length+1:Nat):Int):=An (n:=sc.length) O k2;have hq2:(pc[t+pb[g].length+1]).length<=tot pc:=NU (Amc k3);rw [e9];refine Ok.no Z (Ok.yes (decide_eq_true O) (Ok.yes (decide_eq_true O) (Ok.bind_eq (r:=sc[t+pb[g].length]) (by rw [Amk,AlX];exact AlW k2) (Ok.yes (r1 _)
     (Ok.yes (decide_eq_true O) (Ok.yes (decide_eq_true O) (Ok.bind_eq (r:=pc[t+pb[g].length+1]) (by rw [Amk,AlX];exact AlW k3) (Ok.mk ⟨_,_,_,_,rfl,O,O,k1,by simp [hoS],by simp [hoP],?_⟩))))))))
    rw [<- hf];simp
 rintro (y | z) hv
 .obtain ⟨t2,be2,oS2,oP2,rfl,k1,k2,k3,k4,k5,k6⟩:=hv;dsimp only;have e9:IntKind.wrap .i64 ((g:Int)+1)=((g+1:Nat):Int):=An (n:=pb.length) O hg;rw [e9];exact Ok.mk ⟨⟨rfl,rfl,rfl,rfl,rfl,t2,g+1,rfl,rfl,k1,k2,k3,k4,k5,k6⟩,AlT⟩
 .exact Ok.mk hv
end
end Go.V.G
set_option maxRecDepth 100000
namespace Go.V.G
open Go.V
def stP (S:List Bool) (k:Nat):List Prt:=match S[k]? with
 | some true=>[(1,0,[])]
 | some false=>[(0,1,[])]
 | none=>[]
theorem RN {S:List Bool} {P:List (List UInt8)} (h:P.length=S.length+1) {k:Nat} (hk:k < P.length):BB (S.drop k) (P.drop k)=(0,0,P[k])::(stP S k++BB (S.drop (k+1)) (P.drop (k+1))):=by
 rw [Amx hk];by_cases hs:k < S.length
 .rw [Amx hs];simp only [BB,stP,AlW hs];cases S[k] <;> rfl
 .rw [AnO (O:S.length<=k),AnO (O:S.length<=k+1),AnO (O:P.length<=k+1)];simp [BB,stP,Amn (O:S.length<=k)]
structure PR (S:List Bool) (P:List (List UInt8)):Prop where
 x:P.length=S.length+1
 n:S.length<=1000
 p:∀q∈P,q.length<=1000
theorem Ad6 (l:List Prt):Ch l (0,0,[])=l:=by simp [Ch]
theorem AdG {S:List Bool} {P:List (List UInt8)} (h:PR S P):Ok (Jl S P) λz=>z=Gu (BB S P)/\Sm 4004004 z:=by
 unfold Jl;refine Ok.bind (Q:=λz=>z=Gu (BB S P)/\Sm 4004004 z) ?_ (λz hz=>Ok.mk hz);refine Ok.loop (λy=>y.1=P/\y.2.1=(List.length P:Int)/\y.2.2.2.1=S/\∃k:Nat,y.2.2.1=(k:Int)/\k<=P.length/\Sm (k * 4000) y.2.2.2.2.2/\(BB (S.drop k) (P.drop k)).foldl Ch y.2.2.2.2.2=Gu (BB S P)) (λy=>((List.length P:Int) - y.2.2.1).toNat)
  ⟨rfl,rfl,rfl,0,rfl,Ane _,Sm.nil _,rfl⟩ ?_
 rintro ⟨p1,n,k',s,p2,o⟩ ⟨e1,e2,e3,k,e4,hk,ho,hf⟩;dsimp only at e1 e2 e3 e4 ho hf;subst e1 e2 e3 e4;obtain ⟨hx,hn,hp⟩:=h;have z:=one_I.2;unfold Ni gX wI;dsimp only;refine Ok.ite (λhc=>?_) λhc=>?_
 .have hlt:k < p1.length:=by simpa using hc
  have lp:=hp _ (Amc hlt);rw [RN hx hlt,Anw,AnD]at hf;refine Ok.yes Z (Ok.bind_eq (r:=p1[k]) (by simp [AlW hlt]) ?_);refine Ok.bind (Q:=λv=>v=((k:Int),p1,(List.length p1:Int),(k:Int),s,p2,Ch o (0,0,p1[k]))) ?_ ?_
  .refine Ok.ite (λhq=>Ok.bind_eq (S7 ho O 0 0 _ O) (Ok.mk rfl)) λhq=>Ok.mk ?_
   have:p1[k]=[]:=by simpa using hq
   rw [this,Ad6]
  rintro _ rfl;dsimp only;have so:Sm (k * 4000+1000) (Ch o (0,0,p1[k])):=LD ho ⟨z,z⟩ O AlT;refine Ok.bind (Q:=λv=>v=(p1,(List.length p1:Int),(k:Int),s,p2,(stP s k).foldl Ch (Ch o (0,0,p1[k])))) ?_ ?_
  .refine Ok.ite (λhq=>Ok.mk ?_) λhq=>?_
   .have:k=s.length:=by
     have:(k:Int)=(List.length s:Int):=by simpa using hq
     omega
    simp [stP,this]
   .have hks:k < s.length:=by
     have:¬ (k:Int)=(List.length s:Int):=by simpa using hq
     omega
    refine Ok.yes Z (Ok.bind_eq (r:=s[k]) (by simp [AlW hks]) ?_);refine Ok.bind (Q:=λv=>v=(p1,(List.length p1:Int),(k:Int),s,p2,(stP s k).foldl Ch (Ch o (0,0,p1[k])))) ?_ (λv hv=>Ok.mk hv);simp only [stP,AlW hks];cases s[k]with
    | true=>exact Ok.yes rfl (Ok.bind_eq (S7 so O 1 0 [] Z) (Ok.mk rfl))
    | false=>exact Ok.no Z (Ok.bind_eq (S7 so O 0 1 [] Z) (Ok.mk rfl))
  rintro _ rfl;dsimp only;have so4:Sm ((k+1) * 4000) ((stP s k).foldl Ch (Ch o (0,0,p1[k]))):=by
   unfold stP;split
   .exact LD (p:=(1,0,[])) (C:=(k+1) * 4000) so ⟨one_I.1,z⟩ O AlR
   .exact LD (p:=(0,1,[])) (C:=(k+1) * 4000) so ⟨z,one_I.1⟩ O AlR
   .exact so.mono O
  exact Ok.mk ⟨⟨rfl,rfl,rfl,k+1,An (n:=p1.length) O hlt,O,so4,hf⟩,by rw [An (n:=p1.length) O hlt];dsimp only;omega⟩
 .have:k=p1.length:=by
   have:¬ ((k:Int) < (List.length p1:Int)):=by simpa using hc
   omega
  subst this;refine Ok.mk ⟨?_,ho.mono O⟩;rw [<- hf,AnM,AnO (O:s.length<=p1.length)];rfl
theorem Adm {S:List Bool} {P:List (List UInt8)} (h:PR S P):Ok (Nd S P) λz=>z=Gu (BB S P)/\Sm 4004004 z:=by
 unfold Nd;refine Ok.bind (Q:=λz=>z=Gu (BB S P)/\Sm 4004004 z) ?_ (λz hz=>Ok.mk hz);refine Ok.loop (λy=>y.2.1=P/\y.2.2.1=(List.length P:Int)/\y.2.2.2.2.1=S/\∃k:Nat,y.2.2.2.1=(k:Int)/\k<=P.length/\Sm (k * 4000) y.1/\(BB (S.drop k) (P.drop k)).foldl Ch y.1=Gu (BB S P)) (λy=>((List.length P:Int) - y.2.2.2.1).toNat)
  ⟨rfl,rfl,rfl,0,rfl,Ane _,Sm.nil _,rfl⟩ ?_
 rintro ⟨o,p1,n,k',s,p2⟩ ⟨e1,e2,e3,k,e4,hk,ho,hf⟩;dsimp only at e1 e2 e3 e4 ho hf;subst e1 e2 e3 e4;obtain ⟨hx,hn,hp⟩:=h;have z:=one_I.2;unfold QU gX wI;dsimp only;refine Ok.ite (λhc=>?_) λhc=>?_
 .have hlt:k < p1.length:=by simpa using hc
  have lp:=hp _ (Amc hlt);rw [RN hx hlt,Anw,AnD]at hf;have so:Sm (k * 4000+1000) (Ch o (0,0,p1[k])):=LD ho ⟨z,z⟩ O AlT;refine Ok.yes Z (Ok.bind_eq (r:=p1[k]) (by simp [AlW hlt]) (Ok.bind_eq (OL ho O 0 0 _ O) ?_));refine Ok.bind (Q:=λv=>v=((stP s k).foldl Ch (Ch o (0,0,p1[k])),p1,(List.length p1:Int),(k:Int),s,p2)) ?_ ?_
  .refine Ok.ite (λhq=>?_) λhq=>Ok.mk ?_
   .have hks:k < s.length:=by
     have:(k:Int) < (List.length s:Int):=by simpa using hq
     omega
    refine Ok.yes Z (Ok.bind_eq (r:=s[k]) (by simp [AlW hks]) ?_);refine Ok.bind (Q:=λv=>v=((stP s k).foldl Ch (Ch o (0,0,p1[k])),p1,(List.length p1:Int),(k:Int),s,p2)) ?_ (λv hv=>Ok.mk hv);simp only [stP,AlW hks];cases s[k]with
    | true=>exact Ok.yes rfl (Ok.bind_eq (OL so O 1 0 [] Z) (Ok.mk rfl))
    | false=>exact Ok.no Z (Ok.bind_eq (OL so O 0 1 [] Z) (Ok.mk rfl))
   .have:s.length<=k:=by
     have:¬ (k:Int) < (List.length s:Int):=by simpa using hq
     omega
    simp [stP,Amn this]
  rintro _ rfl;dsimp only;have so4:Sm ((k+1) * 4000) ((stP s k).foldl Ch (Ch o (0,0,p1[k]))):=by
   unfold stP;split
   .exact LD (p:=(1,0,[])) (C:=(k+1) * 4000) so ⟨one_I.1,z⟩ O AlR
   .exact LD (p:=(0,1,[])) (C:=(k+1) * 4000) so ⟨z,one_I.1⟩ O AlR
   .exact so.mono O
  exact Ok.mk ⟨⟨rfl,rfl,rfl,k+1,An (n:=p1.length) O hlt,O,so4,hf⟩,by rw [An (n:=p1.length) O hlt];dsimp only;omega⟩
 .have:k=p1.length:=by
   have:¬ ((k:Int) < (List.length p1:Int)):=by simpa using hc
   omega
  subst this;refine Ok.mk ⟨?_,ho.mono O⟩;rw [<- hf,AnM,AnO (O:s.length<=p1.length)];rfl
section
variable {Sb:List Bool} {Pb:List (List UInt8)} {Sc:List Bool} {Pc:List (List UInt8)} (h:CR Sb Pb Sc Pc)
include h
theorem TV {t g:Nat} {n g2:Int} {s text:List UInt8} {oS:List Bool} {oP:List (List UInt8)} (hs:t+s.length<=Sc.length) (ht:text.length<=1000) (hg:oP[g]?=some text) :
  Ab Ft ((t:Int),(g:Int),s,0,Pb,n,g2,Sb,Sc,Pc,oS,oP) =
   some (((t+s.length:Nat):Int),(g:Int),Pb,n,g2,Sb,Sc,Pc,oS,oP.set g (text++inn (Sc.drop t) (Pc.drop t) s)):=by
 obtain ⟨hx,hy,hr,hn,hm,hpy⟩:=h;have hgl:g < oP.length:=(Amy.1 hg).1;have h0:oP.set g text=oP:=by
  have:=(Amy.1 hg).2;rw [<- this];exact List.set_getElem_self hgl
 have:=Ai Ft (λi=>(((t+i:Nat):Int),(g:Int),s,((i:Nat):Int),Pb,n,g2,Sb,Sc,Pc,oS,oP.set g (text++inn (Sc.drop t) (Pc.drop t) (s.take i)))) s.length
  (((t+s.length:Nat):Int),(g:Int),Pb,n,g2,Sb,Sc,Pc,oS,oP.set g (text++inn (Sc.drop t) (Pc.drop t) s)) (by
   intro i hi;have hti:t+i < Sc.length:=O
   have htp:t+i+1 < Pc.length:=O
   have hl:(s.take i).length=i:=by rw [Al4];omega
   have sn:=SO (s.take i) (Sc.drop t) (Pc.drop t) s[i] (by rw [hl,Amm];omega) (by rw [Amm,Amm];omega);rw [<- Ama hi]at sn;simp only [hl,List.getElem_drop]at sn;have il:=UO (Sc.drop t) (Pc.drop t) (s.take i);have tl:tot (Pc.drop t).tail<=tot Pc:=by rw [List.tail_drop];exact YE _ _
   have pq:(Pc[t+i+1]).length<=tot Pc:=NU (Amc htp);have e1:IntKind.wrap .i64 (((i:Nat):Int)+1)=((i+1:Nat):Int):=An (n:=s.length) O hi;have e2:IntKind.wrap .i64 (((t+i:Nat):Int)+1)=((t+i+1:Nat):Int):=An (n:=Sc.length) O hti;have g0:(0:Int)<=((t+i:Nat):Int):=O
   have g1:((t+i:Nat):Int) < (List.length Sc:Int):=O
   have g2':(0:Int)<=((i:Nat):Int):=O
   have g3:((i:Nat):Int)<=((i+1:Nat):Int):=O
   have g4:((i+1:Nat):Int)<=(List.length s:Int):=O
   have g5:((i:Nat):Int) < (List.length s:Int):=O
   have g6:((t+i+1:Nat):Int) < (List.length Pc:Int):=O
   have g7:(0:Int)<=((t+i+1:Nat):Int):=O
   have g8:(0:Int)<=(g:Int):=O
   have cut:(s.drop i).take (i+1 - i)=[s[i]]:=by rw [(O:i+1 - i=1),Amx hi];rfl
   have b1:List.length (text++inn (Sc.drop t) (Pc.drop t) (s.take i))+List.length [s[i]]<=9223372036854775807:=by rw [Al0];simp only [Amb];omega
   have b2:∀z:List UInt8,z.length<=1->List.length (text++inn (Sc.drop t) (Pc.drop t) (s.take i)++z)+List.length (Pc[t+i+1])<=9223372036854775807:=λz hz=>by rw [Al0,Al0];omega
   have gl:∀z,(g:Int) < (List.length (oP.set g z):Int):=λz=>by rw [Am0];omega
   have gs:∀z,(oP.set g z)[g]?=some z:=λz=>Ant hgl
   unfold Ft cK cZ sX wI;simp only [g0,g1,g2',g3,g4,g5,g8,gl,gs,e1,e2,decide_true,Amd,AlX,Amk,AlW hti,AlU,Am6,cut,b1,List.set_set];cases hb:Sc[t+i]with
   | true=>
    rw [hb,Al1 rfl]at sn;have b3:=b2 [s[i]] Z;simp only [Amd,AlU,e1,e2,g6,g7,g8,gl,gs,decide_true,AlX,AlW htp,b3,List.set_set];simp only [sn,Al5,Ani]
   | false=>
    rw [hb,AlZ Z]at sn;have b3:=b2 [] Z;rw [Amf]at b3;simp only [Al8,Amv,AlU,e1,e2,g6,g7,g8,gl,gs,decide_true,Amd,AlX,AlW htp,b3,List.set_set];simp only [sn,Al5,Ani,Ams]) (by
   simp only [AmL];simp [Ft,cK,cZ,sX,wI])
 simpa [NW,h0] using this
theorem Vf (be:List UInt8) (hbe:be.length<=1000):Ab JG (0,Pb,(List.length Pb:Int),0,Sb,Sc,Pc,[],be::List.replicate (Pb.length - 1) [])=some (By be Sb Pb Sc Pc):=by
 refine Ok.eq (Ok.loop (λy=>y.2.1=Pb/\y.2.2.1=(List.length Pb:Int)/\y.2.2.2.2.1=Sb/\y.2.2.2.2.2.1=Sc/\y.2.2.2.2.2.2.1=Pc/\∃(t g:Nat) (be2:List UInt8) (done:List (List UInt8)),y.1=(t:Int)/\y.2.2.2.1=(g:Int)/\g < Pb.length/\
   be2.length<=1000/\t+rem (Sb.drop g) (Pb.drop g)=Sc.length/\y.2.2.2.2.2.2.2.1.length=g/\done.length=g/\y.2.2.2.2.2.2.2.2=done++be2::List.replicate (Pb.length - 1 - g) []/\
   (y.2.2.2.2.2.2.2.1++(By be2 (Sb.drop g) (Pb.drop g) (Sc.drop t) (Pc.drop t)).1,done++(By be2 (Sb.drop g) (Pb.drop g) (Sc.drop t) (Pc.drop t)).2)=By be Sb Pb Sc Pc) (λy=>((List.length Pb:Int) - y.2.2.2.1).toNat)
  ⟨rfl,rfl,rfl,rfl,rfl,0,0,be,[],rfl,rfl,by rw [h.x];omega,hbe,by have:=h.r;simpa using this,rfl,rfl,Z,Z⟩ ?_)
 rintro ⟨t',pb,n,g',sb,sc,pc,oS,oP⟩ ⟨e1,e2,e3,e4,e5,t,g,be',done,e6,e7,hg,hbe',hrem,hoS,hdone,hoP,hf⟩;dsimp only at e1 e2 e3 e4 e5 e6 e7 hbe' hoS hoP hf;subst e1 e2 e3 e4 e5 e6 e7 hoP;have hCR:=h;obtain ⟨hx,hy,hr,hn,hm,hpy⟩:=h;obtain ⟨c1,c2,c3⟩:=Abh hCR hg be' hrem;unfold JG cK cZ wI;dsimp only;refine Ok.yes (by simpa using hg) ?_;have r1:∀z:Bool,Aa (List.length oS+List.length [z]) 1=true:=λz=>OD O O
 have hat:(done++be'::List.replicate (pb.length - 1 - g) ([]:List UInt8))[g]?=some be':=by rw [AmE O,hdone,AnF];rfl
 have hin:=TV hCR (g:=g) (n:=(List.length pb:Int)) (g2:=(g:Int)) (oS:=oS) c1 hbe' hat;have hset:(done++be'::List.replicate (pb.length - 1 - g) ([]:List UInt8)).set g (be'++inn (sc.drop t) (pc.drop t) pb[g])=done++(be'++inn (sc.drop t) (pc.drop t) pb[g])::List.replicate (pb.length - 1 - g) []:=by
  rw [Aol _ _ O,hdone,AnF];rfl
 rw [hset]at hin;refine Ok.bind (Q:=λv=>match v with
   | .inl y=>∃t2 be2 oS2 done2,y=(((t2:Nat):Int),pb,(List.length pb:Int),(g:Int),sb,sc,pc,oS2,done2++be2::List.replicate (pb.length - 1 - (g+1)) [])/\g+1 < pb.length/\List.length be2<=1000/\t2+rem (sb.drop (g+1)) (pb.drop (g+1))=sc.length/\List.length oS2=g+1/\List.length done2=g+1/\
     (oS2++(By be2 (sb.drop (g+1)) (pb.drop (g+1)) (sc.drop t2) (pc.drop t2)).1,done2++(By be2 (sb.drop (g+1)) (pb.drop (g+1)) (sc.drop t2) (pc.drop t2)).2)=By be sb pb sc pc
   | .inr z=>z=By be sb pb sc pc) ?_ ?_
 .refine Ok.yes (decide_eq_true O) (Ok.yes (by simpa using hg) (Ok.bind_eq (r:=pb[g]) (by simp [AlW hg]) (Ok.bind_eq hin ?_)));dsimp only;refine Ok.ite (λhq=>?_) λhq=>?_
  .have he:g=sb.length:=by
    have:(g:Int)=(List.length sb:Int):=by simpa using hq
    omega
   rw [c2 he]at hf;refine Ok.mk ?_;rw [<- hf,Amf,(O:pb.length - 1 - g=0)];rfl
  .have hks:g < sb.length:=by
    have:¬ (g:Int)=(List.length sb:Int):=by simpa using hq
    omega
   have rep:List.replicate (pb.length - 1 - g) ([]:List UInt8)=[]::List.replicate (pb.length - 1 - (g+1)) []:=by rw [(O:pb.length - 1 - g=(pb.length - 1 - (g+1))+1),AmZ]
   refine Ok.yes (decide_eq_true O) (Ok.yes (by simpa using hks) (Ok.bind_eq (r:=sb[g]) (by simp [AlW hks]) ?_));cases hb:sb[g]with
   | false=>
    obtain ⟨k1,k2⟩:=(c3 hks).1 hb;rw [k2]at hf;refine Ok.yes Z (Ok.yes (r1 _) (Ok.mk ⟨t+pb[g].length,[],oS++[false],done++[be'++inn (sc.drop t) (pc.drop t) pb[g]],?_,O,Z,k1,by simp [hoS],by simp [hdone],?_⟩))
    .rw [rep];simp
    .rw [<- hf];simp
   | true=>
    obtain ⟨k1,k2,k3,k4⟩:=(c3 hks).2 hb;rw [k4]at hf;have e9:IntKind.wrap .i64 (((t+pb[g].length:Nat):Int)+1)=((t+pb[g].length+1:Nat):Int):=An (n:=sc.length) O k2;have e10:IntKind.wrap .i64 ((g:Int)+1)=((g+1:Nat):Int):=An (n:=pb.length) O hg;have hq2:(pc[t+pb[g].length+1]).length<=tot pc:=NU (Amc k3);have hlen:(done++(be'++inn (sc.drop t) (pc.drop t) pb[g])::List.replicate (pb.length - 1 - g) ([]:List UInt8)).length=pb.length:=by simp;omega
    have hget:(done++(be'++inn (sc.drop t) (pc.drop t) pb[g])::List.replicate (pb.length - 1 - g) ([]:List UInt8))[0+Int.toNat ((g+1:Nat):Int)]?=some []:=by
     rw [rep,AlX,Amk,AmE O,hdone,(O:g+1 - g=1)];rfl
    have hset2:(done++(be'++inn (sc.drop t) (pc.drop t) pb[g])::List.replicate (pb.length - 1 - g) ([]:List UInt8)).set (0+Int.toNat ((g+1:Nat):Int)) pc[t+pb[g].length+1]=(done++[be'++inn (sc.drop t) (pc.drop t) pb[g]])++pc[t+pb[g].length+1]::List.replicate (pb.length - 1 - (g+1)) []:=by
     rw [rep,AlX,Amk,Aol _ _ O,hdone,(O:g+1 - g=1)];simp
    rw [e9,e10];refine Ok.no Z (Ok.yes (decide_eq_true O) (Ok.yes (decide_eq_true O) (Ok.bind_eq (r:=sc[t+pb[g].length]) (by rw [Amk,AlX];exact AlW k2) (Ok.yes (r1 _)
     (Ok.yes (decide_eq_true O) (Ok.yes (decide_eq_true O) (Ok.bind_eq (r:=pc[t+pb[g].length+1]) (by rw [Amk,AlX];exact AlW k3)
      (Ok.yes (decide_eq_true O) (Ok.yes (decide_eq_true (by rw [hlen];omega)) (Ok.bind_eq hget (Ok.bind_eq hget (Ok.mk ⟨t+pb[g].length+1,pc[t+pb[g].length+1],oS++[sc[t+pb[g].length]],done++[be'++inn (sc.drop t) (pc.drop t) pb[g]],?_,O,O,k1,by simp [hoS],by simp [hdone],?_⟩))))))))))))
    .rw [hset2]
    .rw [<- hf];simp
 rintro (y | z) hv
 .obtain ⟨t2,be2,oS2,done2,rfl,k1,k2,k3,k4,k5,k6⟩:=hv;dsimp only;have e9:IntKind.wrap .i64 ((g:Int)+1)=((g+1:Nat):Int):=An (n:=pb.length) O hg;rw [e9];exact Ok.mk ⟨⟨rfl,rfl,rfl,rfl,rfl,t2,g+1,be2,done2,rfl,rfl,k1,k2,k3,k4,k5,rfl,k6⟩,AlT⟩
 .exact Ok.mk hv
end
end Go.V.G
set_option maxRecDepth 100000
namespace Go.V.G
open Go.V
theorem XQ:∀(x y:List Atom),nT x=nS y->nS (comp x y)=nS x/\nT (comp x y)=nT y:=by
 intro x y
 induction x,y using comp.induct with
 | case1 x b y ih=>intro h;rw [comp];have:=ih h;simp only [nS,nT];omega
 | case2 x ih=>intro h;rw [comp];have:=ih h;simp only [nS,nT]at this ⊢;omega
 | case3 x y ih=>intro h;rw [comp];have:=ih h;simp only [nS,nT]at this ⊢;omega
 | case4 x y ih=>intro h;rw [comp];have:=ih h;simp only [nS,nT]at this ⊢;omega
 | case5 b x y ih=>intro h;rw [comp];have:=ih (by simpa [nS,nT] using h);simp only [nS,nT];omega
 | case6 b x y ih=>intro h;rw [comp];have:=ih (by simpa [nS,nT] using h);simp only [nS,nT];omega
 | case7 x y ih=>intro h;rw [comp];have:=ih (by simpa [nS,nT] using h);simp only [nS,nT];omega
 | case8 x y ih=>intro h;rw [comp];have:=ih (by simpa [nS,nT] using h);simp only [nS,nT];omega
 | case9 x y h1 h2 h3 h4 h5 h6 h7 h8=>
  intro g
  match x,y with
  | x,.ins b::y=>exact absurd rfl (h1 b y)
  | .drop::x,[]=>exact absurd rfl (h2 x rfl)
  | .drop::x,.keep::y=>exact absurd rfl (h3 x y rfl)
  | .drop::x,.drop::y=>exact absurd rfl (h4 x y rfl)
  | .ins b::x,.keep::y=>exact absurd rfl (h5 b x y rfl)
  | .ins b::x,.drop::y=>exact absurd rfl (h6 b x y rfl)
  | .keep::x,.keep::y=>exact absurd rfl (h7 x y rfl)
  | .keep::x,.drop::y=>exact absurd rfl (h8 x y rfl)
  | [],[]=>simp [comp,nS,nT]
  | .ins b::x,[]=>simp [nS,nT]at g
  | .keep::x,[]=>simp [nS,nT]at g
  | [],.keep::y=>simp [nS,nT]at g
  | [],.drop::y=>simp [nS,nT]at g
theorem Adt:∀(b c:List Atom) (a:List Atom),nT b=nS c->nT a=nS b->comp (comp a b) c=comp a (comp b c):=by
 intro b c
 induction b,c using comp.induct with
 | case1 b d c ih=>intro a h g;rw [comp,comp,comp,ih a h g]
 | case2 b ih=>
  intro a h g;rw [comp.eq_2 b]
  induction a with
  | nil=>simp [nS,nT]at g
  | cons u a iha=>
   cases u with
   | ins d=>rw [comp,comp];exact ih a h (by simpa [nS,nT] using g)
   | keep=>rw [comp,comp,comp,ih a h (by simpa [nS,nT] using g)]
   | drop=>rw [comp,comp,comp,iha (by simpa [nS,nT] using g)]
 | case3 b c ih=>
  intro a h g;rw [comp.eq_3 b c]
  induction a with
  | nil=>simp [nS,nT]at g
  | cons u a iha=>
   cases u with
   | ins d=>rw [comp,comp];exact ih a h (by simpa [nS,nT] using g)
   | keep=>rw [comp,comp,comp,ih a h (by simpa [nS,nT] using g)]
   | drop=>rw [comp,comp,comp,iha (by simpa [nS,nT] using g)]
 | case4 b c ih=>
  intro a h g;rw [comp.eq_4 b c]
  induction a with
  | nil=>simp [nS,nT]at g
  | cons u a iha=>
   cases u with
   | ins d=>rw [comp,comp];exact ih a h (by simpa [nS,nT] using g)
   | keep=>rw [comp,comp,comp,ih a h (by simpa [nS,nT] using g)]
   | drop=>rw [comp,comp,comp,iha (by simpa [nS,nT] using g)]
 | case5 d b c ih=>intro a h g;rw [comp.eq_5 d b c,comp,comp,comp,ih a (by simpa [nS,nT] using h) g]
 | case6 d b c ih=>intro a h g;rw [comp.eq_6 d b c,comp,comp];exact ih a (by simpa [nS,nT] using h) g
 | case7 b c ih=>
  intro a h g;rw [comp.eq_7 b c]
  induction a with
  | nil=>simp [nS,nT]at g
  | cons u a iha=>
   cases u with
   | ins d=>rw [comp,comp,comp,ih a (by simpa [nS,nT] using h) (by simpa [nS,nT] using g)]
   | keep=>rw [comp,comp,comp,ih a (by simpa [nS,nT] using h) (by simpa [nS,nT] using g)]
   | drop=>rw [comp,comp,comp,iha (by simpa [nS,nT] using g)]
 | case8 b c ih=>
  intro a h g;rw [comp.eq_8 b c]
  induction a with
  | nil=>simp [nS,nT]at g
  | cons u a iha=>
   cases u with
   | ins d=>rw [comp,comp,comp];exact ih a (by simpa [nS,nT] using h) (by simpa [nS,nT] using g)
   | keep=>rw [comp,comp,comp,ih a (by simpa [nS,nT] using h) (by simpa [nS,nT] using g)]
   | drop=>rw [comp,comp,comp,iha (by simpa [nS,nT] using g)]
 | case9 b c h1 h2 h3 h4 h5 h6 h7 h8=>
  intro a g gt
  match b,c with
  | b,.ins d::c=>exact absurd rfl (h1 d c)
  | .drop::b,[]=>exact absurd rfl (h2 b rfl)
  | .drop::b,.keep::c=>exact absurd rfl (h3 b c rfl)
  | .drop::b,.drop::c=>exact absurd rfl (h4 b c rfl)
  | .ins d::b,.keep::c=>exact absurd rfl (h5 d b c rfl)
  | .ins d::b,.drop::c=>exact absurd rfl (h6 d b c rfl)
  | .keep::b,.keep::c=>exact absurd rfl (h7 b c rfl)
  | .keep::b,.drop::c=>exact absurd rfl (h8 b c rfl)
  | [],[]=>
   have:comp [] []=[]:=by simp [comp]
   rw [this];have key:∀a:List Atom,comp (comp a []) []=comp a []:=by
    intro a
    induction a with
    | nil=>simp [comp]
    | cons u a ih=>
     cases u with
     | drop=>rw [comp,comp,ih]
     | keep=>simp [comp]
     | ins d=>simp [comp]
   exact key a
  | .ins d::b,[]=>simp [nS,nT]at g
  | .keep::b,[]=>simp [nS,nT]at g
  | [],.keep::c=>simp [nS,nT]at g
  | [],.drop::c=>simp [nS,nT]at g
end Go.V.G
set_option maxRecDepth 100000
namespace Go.V.G
open Go.V
theorem LQ {a b:List Prt} (ha:AA a=true) (hb:AA b=true) (h:tgt a=src b):nT (Ac a)=nS (Ac b)/\CR (Aq (Ac a)) (Ak (Ac a)) (Aq (Ac b)) (Ak (Ac b)):=by
 have sa:=A7 (As ha).1;have sb:=A7 (As hb).1;have la:=IQ sa;have lb:=IQ sb;have ta:=Jy sa;have tb:=Jy sb;have sb':=NQ sb;have:=(As ha).2.1;have:=(As hb).2.1;have:=(As hb).2.2;have hn:nT (Ac a)=nS (Ac b):=O
 refine⟨hn,EK _,EK _,by rw [Aja,hn,C2],O,O,?_⟩;rw [Mz];rw [Is]at tb;omega
theorem ZJ (l:List Atom):((Ak l).headD []).length<=Dx l:=by
 obtain ⟨p,ps,e,_⟩:=Bv l;have:=Ob l p (by rw [e];simp);rw [e];exact this
def AO (a b:List Prt):List Prt:=Gu (BB (Aq (comp (Ac a) (Ac b))) (Ak (comp (Ac a) (Ac b))))
theorem DK {a b:List Prt} (ha:AA a=true) (hb:AA b=true) (h:tgt a=src b) :
  AA (AO a b)=true/\Ac (AO a b)=comp (Ac a) (Ac b)/\src (AO a b)=src a/\tgt (AO a b)=tgt b:=by
 have sa:=A7 (As ha).1;have sb:=A7 (As hb).1;obtain ⟨hn,_⟩:=LQ ha hb h;obtain ⟨l1,l2⟩:=XQ _ _ hn;have hf:=Sa (Aq (comp (Ac a) (Ac b))) (Ak (comp (Ac a) (Ac b)));have he:=Jj (comp (Ac a) (Ac b));have s1:=Zs hf;have t1:=ZG hf;rw [he]at s1 t1;have s2:=NQ sa;have t2:=Jy sb;have:=(As ha).2.1;have:=(As hb).2.2;obtain ⟨k1,k2,k3,k4⟩:=AdZ hf ⟨O,O⟩;refine⟨?_,by rw [<- he];exact k2,?_,?_⟩
 .unfold AA;rw [show okk 0 (AO a b)=true from k1,show src (AO a b)=src (BB _ _) from k3,show tgt (AO a b)=tgt (BB _ _) from k4];simp;omega
 .rw [show src (AO a b)=src (BB _ _) from k3];omega
 .rw [show tgt (AO a b)=tgt (BB _ _) from k4];omega
theorem Abs {a b:List Prt} (ha:AA a=true) (hb:AA b=true) (h:tgt a=src b):PR (Aq (comp (Ac a) (Ac b))) (Ak (comp (Ac a) (Ac b))):=by
 have sa:=A7 (As ha).1;have sb:=A7 (As hb).1;obtain ⟨hn,_⟩:=LQ ha hb h;obtain ⟨l1,l2⟩:=XQ _ _ hn;have s2:=NQ sa;have t2:=Jy sb;have:=(As ha).2.1;have:=(As hb).2.2;refine⟨EK _,by rw [<- C2];omega,λq hq=>?_⟩;have:=Ob _ q hq;rw [Is]at l2;omega
theorem Zp {a b:List Prt} (ha:AA a=true) (hb:AA b=true) (h:tgt a=src b):M4 a b=some (AO a b):=by
 have sa:=A7 (As ha).1;have sb:=A7 (As hb).1;have:=(As ha).2.1;have:=(As hb).2.1;have t2:=Jy sb;have:=(As hb).2.2;obtain ⟨hn,hCR⟩:=LQ ha hb h;have hl:=ZJ (Ac b);rw [Is]at t2;unfold M4 cK cZ;rw [Wz (Ci ha) O sa O,Wz (Ci hb) O sb O,AlU,AlU];obtain ⟨q,qs,e,_⟩:=Bv (Ac b);have hlp:=UC hCR ((Ak (Ac b)).headD []) O;rw [VL _ _ hn]at hlp;refine Ok.eq (Ok.yes Z (Ok.yes (by rw [e];simp) (Ok.bind_eq (r:=(Ak (Ac b)).headD []) (by rw [e];rfl) (Ok.bind_eq hlp ?_))));refine(AdG (Abs ha hb h)).bind ?_;rintro _ ⟨rfl,_⟩;exact Ok.mk rfl
theorem ZZ {a b:List Prt} (ha:AA a=true) (hb:AA b=true) (h:tgt a=src b):Kj a b=some (AO a b):=by
 have sa:=A7 (As ha).1;have sb:=A7 (As hb).1;have:=(As ha).2.1;have:=(As hb).2.1;have t2:=Jy sb;have:=(As hb).2.2;obtain ⟨hn,hCR⟩:=LQ ha hb h;have hl:=ZJ (Ac b);rw [Is]at t2;have hx:=hCR.x;have hnn:=hCR.n;unfold Kj cK cZ;rw [Wc (Ci ha) O sa O,Wc (Ci hb) O sb O,AlU,AlU];obtain ⟨q,qs,e,_⟩:=Bv (Ac b);have hlp:=Vf hCR ((Ak (Ac b)).headD []) O;rw [VL _ _ hn]at hlp;have rep:List.replicate (Int.toNat (List.length (Ak (Ac a)):Int)) ([]:List UInt8)=[]::List.replicate ((Ak (Ac a)).length - 1) []:=by
  rw [AlX,show(Ak (Ac a)).length=((Ak (Ac a)).length - 1)+1 by omega,AmZ,Nat.add_sub_cancel]
 dsimp only;rw [rep];refine Ok.eq (Ok.yes Z (Ok.yes Z (Ok.yes (by simp [Aa];omega) (Ok.yes Z (Ok.yes (by rw [e];simp) (Ok.bind_eq (r:=(Ak (Ac b)).headD []) (by rw [e];rfl) (Ok.yes Z (Ok.yes Z (Ok.bind_eq (r:=[]) rfl (Ok.bind_eq (r:=[]) rfl (Ok.bind_eq hlp ?_)))))))))));obtain ⟨r,hr,rfl,_⟩:=Adm (Abs ha hb h);dsimp only;simp only [hr,AlU];exact Ok.mk rfl
theorem Ahi (p:Prt):kd p=0\/kd p=1\/kd p=2\/kd p=3:=by
 unfold kd;split;omega;split;omega;split <;> omega
end Go.V.G
set_option maxRecDepth 100000
namespace Go.V.G
open Go.V
abbrev Rn:=Int×Int
def Az:List Rn->Int
 | []=>0
 | r::l=>r.2+Az l
def AX:List Rn->List Int
 | []=>[]
 | r::l=>List.replicate r.2.toNat r.1++AX l
def alt:Option Int->List Rn->Bool
 | _,[]=>true
 | p,r::l=>!(decide (p=some r.1)) && alt (some r.1) l
def RG (p:Option Int) (l:List Rn):Option Int:=match l.getLast? with
 | none=>p
 | some q=>some q.1
theorem EI:∀a b:List Rn,Az (a++b)=Az a+Az b
 | [],b=>by simp [Az]
 | p::a,b=>by simp only [AmH,Az,EI a b];omega
theorem Ia:∀a b:List Rn,AX (a++b)=AX a++AX b
 | [],b=>rfl
 | p::a,b=>by simp only [AmH,AX,Ia a b,Al5]
theorem Aco (p:Option Int) (r:Rn) (l:List Rn):RG p (r::l)=RG (some r.1) l:=by
 cases l with
 | nil=>rfl
 | cons q l=>
  obtain ⟨x,hx⟩:∃x,(q::l).getLast?=some x:=⟨_,List.getLast?_eq_some_getLast Z⟩
  simp only [RG,List.getLast?_cons_cons,hx]
theorem Ls:∀(p:Option Int) (a b:List Rn),alt p (a++b)=(alt p a && alt (RG p a) b)
 | p,[],b=>by simp [alt,RG]
 | p,r::a,b=>by
  rw [AmH,alt,alt,Ls (some r.1) a b,Aco,AnW]
def Pos (l:List Rn):Prop:=∀q∈l,1<=q.2
theorem Pos.nil:Pos []:=λq h=>by cases h
theorem Pos.tail {r:Rn} {l:List Rn} (h:Pos (r::l)):Pos l:=λq hq=>h q (by simp [hq])
theorem CY:∀{l:List Rn},Pos l->0<=Az l
 | [],_=>Am6 _
 | r::l,h=>by
  have:=h r Z;have:=CY h.tail;simp only [Az];omega
theorem J3:∀{l:List Rn},Pos l->∀q∈l,q.2<=Az l
 | r::l,h,q,hq=>by
  have h1:=h r Z;have h2:=CY h.tail;rcases Ame.1 hq with rfl | hq
  .simp only [Az];omega
  .have:=J3 h.tail q hq;simp only [Az];omega
theorem Gi:∀{l:List Rn},Pos l->(l.length:Int)<=Az l
 | [],_=>Am6 _
 | r::l,h=>by
  have:=h r Z;have:=Gi h.tail;simp only [Az,Al7];omega
theorem LY:∀{l:List Rn},Pos l->(((AX l).length:Nat):Int)=Az l
 | [],_=>rfl
 | r::l,h=>by
  have:=h r Z;have:=LY h.tail;simp only [AX,Az,Al0,AmM];omega
def E3 (l:List Rn) (r:Rn):List Rn:=
 if r.2=0 then l else
 match l.getLast? with
 | none=>[r]
 | some q=>if q.1=r.1 then l.dropLast++[(q.1,IntKind.wrap .i64 (q.2+r.2))]else l++[r]
structure Rs (l:List Rn) (n:Int):Prop where
 pos:Pos l
 sum:Az l=n
 alt:alt none l=true
theorem Rs.nil:Rs [] 0:=⟨Pos.nil,rfl,rfl⟩
theorem AeO {l:List Rn} {r:Rn} {n:Int} (h:Rs l n) (hr:0<=r.2) (hb:n+r.2<=1000000000):Rs (E3 l r) (n+r.2)/\AX (E3 l r)=AX l++List.replicate r.2.toNat r.1:=by
 unfold E3;split
 .rename_i h0;rw [h0];exact⟨by rw [Int.add_zero];exact h,Z⟩
 .rename_i h0;cases hg:l.getLast? with
  | none=>
   obtain rfl:l=[]:=by simpa using hg
   refine⟨⟨λq hq=>?_,?_,by simp [G.alt]⟩,by simp [AX]⟩
   .rw [Al6.1 hq];omega
   .have:=h.sum;simp only [Az]at this ⊢;omega
  | some q=>
   obtain ⟨l',rfl⟩:=Aoa.1 hg;have hp:=h.pos q Z;have hm:=J3 h.pos q Z;have hs:=h.sum;have ha:=h.alt;rw [EI]at hs;simp only [Az]at hs;rw [Ls]at ha;rw [h.sum]at hm;have w:IntKind.wrap .i64 (q.2+r.2)=q.2+r.2:=w64 O O;dsimp only;split
   .rename_i he;rw [Aob,w];refine⟨⟨λx hx=>?_,?_,?_⟩,?_⟩
    .rcases Al3.1 hx with hx | hx
     .exact h.pos x (by simp [hx])
     .rw [Al6.1 hx];dsimp only;omega
    .rw [EI];simp only [Az];omega
    .rw [Ls];exact ha
    .rw [Ia,Ia];simp only [AX,Amf,Al5];rw [he,List.replicate_append_replicate]
     congr 2;omega
   .rename_i he;refine⟨⟨λx hx=>?_,?_,?_⟩,?_⟩
    .rcases Al3.1 hx with hx | hx
     .exact h.pos x hx
     .rw [Al6.1 hx];omega
    .rw [EI,h.sum];simp only [Az];omega
    .rw [Ls,h.alt];simp only [RG,List.getLast?_concat,G.alt,Anv,Amg,Al9,decide_eq_false_iff_not,AlV];exact he
    .rw [Ia];simp [AX]
def Dj (l:List Rn) (x:List Int):List Rn:=x.foldl (λa v=>E3 a (v,1)) l
def BG (x:List Int):List Rn:=Dj [] x
theorem KU (l:List Rn) (x y:List Int):Dj l (x++y)=Dj (Dj l x) y:=by simp [Dj]
theorem HX:∀(x:List Int) {l:List Rn} {n:Int},Rs l n->n+x.length<=1000000000->Rs (Dj l x) (n+x.length)/\AX (Dj l x)=AX l++x
 | [],l,n,h,_=>⟨by simpa [Dj] using h,by simp [Dj]⟩
 | v::x,l,n,h,hb=>by
  simp only [Al7]at hb;obtain ⟨h1,h2⟩:=AeO (r:=(v,1)) h O AlT;obtain ⟨h3,h4⟩:=HX x h1 AlT;have e:Dj l (v::x)=Dj (E3 l (v,1)) x:=rfl;rw [e];refine⟨?_,?_⟩
  .have:n+(((v::x).length:Nat):Int)=n+(((v,(1:Int)):Rn).2)+(x.length:Int):=by simp only [Al7];omega
   rw [this];exact h3
  .rw [h4,h2];simp
theorem Aey {l:List Rn} {v a b n:Int} (h:Rs l n) (ha:1<=a) (hb:0<=b) (hs:n+a+b<=1000000000):E3 (E3 l (v,a)) (v,b)=E3 l (v,a+b):=by
 by_cases h0:b=0
 .subst h0;simp [E3]
 .have g1:¬ a=0:=O
  have g2:¬ a+b=0:=O
  have hn:=h.sum ▸ CY h.pos;unfold E3;simp only [h0,g1,g2,Amv];cases hg:l.getLast? with
  | none=>
   simp only [List.getLast?_singleton,Amd,List.dropLast_singleton,Ams];rw [w64 O O]
  | some q=>
   have hm:=J3 h.pos q (List.mem_of_getLast? hg);have hp:=h.pos q (List.mem_of_getLast? hg);rw [h.sum]at hm;dsimp only;by_cases he:q.1=v
   .simp only [he,Amd,List.getLast?_concat,Aob];rw [w64 (n:=q.2+a) O O,w64 (n:=q.2+(a+b)) O O,Int.add_assoc,w64 O O]
   .simp only [he,Amv,List.getLast?_concat,Amd,Aob];rw [w64 O O]
theorem Wi {l:List Rn} {n:Int} (h:Rs l n) (v:Int):∀m:Nat,n+m<=1000000000->E3 l (v,(m:Int))=Dj l (List.replicate m v)
 | 0,_=>by simp [E3,Dj]
 | 1,_=>rfl
 | m+2,hb=>by
  have ih:=Wi h v (m+1) O;rw [Aoe,KU,<- ih];show _=E3 (E3 l (v,_)) (v,1);rw [Aey h O O O]
  congr 2
def ML (most:Int) (l:List Rn):Bool:=l.all λr=>decide (0<=r.1/\r.1<=most)
def grn (most:Int):Option Int->Int->List Rn->Bool
 | _,left,[]=>decide (left=0)
 | p,left,r::l=>(decide (0<=r.1/\r.1<=most) && (decide (1<=r.2/\r.2<=left) && !(decide (p=some r.1)))) && grn most (some r.1) (left - r.2) l
def AB (l:List Rn) (many most:Int):Bool:=(decide (0<=many/\many<=120) && decide (0<=most/\most<=60)) && grn most none many l
theorem Ab5 (most:Int):∀(l:List Rn) (p:Option Int) (left:Int),grn most p left l=true↔(ML most l=true/\Pos l/\Az l=left/\alt p l=true)
 | [],p,left=>by
  simp only [grn,decide_eq_true_eq,ML,List.all_nil,Az,G.alt,true_and];exact⟨λh=>⟨Pos.nil,h.symm,trivial⟩,λh=>h.2.1.symm⟩
 | r::l,p,left=>by
  have ih:=Ab5 most l (some r.1) (left - r.2);simp only [grn,Al2,decide_eq_true_eq,ih,ML,Anc,Az,G.alt];constructor
  .rintro ⟨⟨h1,h2,h3⟩,h4,h5,h6,h7⟩;refine⟨⟨h1,h4⟩,λq hq=>?_,O,h3,h7⟩;rcases Ame.1 hq with rfl | hq
   .exact h2.1
   .exact h5 q hq
  .rintro ⟨⟨h1,h4⟩,h5,h6,h3,h7⟩;have h8:=h5 r Z;have h9:=CY h5.tail;exact⟨⟨h1,⟨h8,O⟩,h3⟩,h4,h5.tail,O,h7⟩
theorem goodRuns_iff {l:List Rn} {many most:Int}:AB l many most=true↔((0<=many/\many<=120)/\(0<=most/\most<=60))/\ML most l=true/\Rs l many:=by
 simp only [AB,Al2,decide_eq_true_eq,Ab5];constructor
 .rintro ⟨h,h1,h2,h3,h4⟩;exact⟨h,h1,h2,h3,h4⟩
 .rintro ⟨h,h1,h2⟩;exact⟨h,h1,h2.pos,h2.sum,h2.alt⟩
def brg (rev:Int):List Int->List Prt->List Int
 | _,[]=>[]
 | a,p::c=>(a.take p.1.toNat++List.replicate p.2.2.length rev)++brg rev (a.drop (p.1+p.2.1).toNat) c
theorem Lq (rev:Int):∀(c d:List Prt) (a:List Int),(∀p∈c,Some1 p)->brg rev a (c++d)=brg rev a c++brg rev (a.drop (src c).toNat) d
 | [],d,a,_=>by simp [brg,src]
 | p::c,d,a,h=>by
  have h1:=h p Z;have:=h1.k;have:=h1.d;have h2:=AR (l:=c) λq hq=>h q (by simp [hq])
  rw [AmH,brg,brg,Lq rev c d _ λq hq=>h q (by simp [hq])];simp only [Al5,An8,src]
  congr 5
  congr 1
  omega
theorem Rg (rev:Int):∀(c:List Prt) (a:List Int),(∀p∈c,Some1 p)->(a.length:Int)=src c->(((brg rev a c).length:Nat):Int)=tgt c
 | [],a,_,_=>rfl
 | p::c,a,h,hl=>by
  have h1:=h p Z;have:=h1.k;have:=h1.d;have h2:=AR (l:=c) λq hq=>h q (by simp [hq])
  simp only [src]at hl;have ih:=Rg rev c (a.drop (p.1+p.2.1).toNat) (λq hq=>h q (by simp [hq])) (by rw [Amm];omega);simp only [brg,tgt,Al0,Al4,AmM];omega
theorem AbI {rev:Int} {P:Int->Prop} (hr:P rev):∀(c:List Prt) (a:List Int),(∀v∈a,P v)->∀v∈brg rev a c,P v
 | [],a,_,v,hv=>by cases hv
 | p::c,a,h,v,hv=>by
  simp only [brg,Al3]at hv;rcases hv with(hv | hv) | hv
  .exact h v (Am7 hv)
  .rw [(List.mem_replicate.1 hv).2];exact hr
  .exact AbI hr c _ (λv hv=>h v (AnA hv)) v hv
def Mm (l:List Rn) (c:List Prt) (rev:Int):List Rn:=BG (brg rev (AX l) c)
theorem Ab2 {most:Int}:∀{l:List Rn},ML most l=true->∀v∈AX l,0<=v/\v<=most
 | [],_,v,hv=>by cases hv
 | r::l,h,v,hv=>by
  simp only [ML,Anc,Al2,decide_eq_true_eq]at h;simp only [AX,Al3]at hv;rcases hv with hv | hv
  .rw [(List.mem_replicate.1 hv).2];exact h.1
  .exact Ab2 (l:=l) h.2 v hv
theorem AbB {most:Int}:∀{l:List Rn},Pos l->(∀v∈AX l,0<=v/\v<=most)->ML most l=true
 | [],_,_=>rfl
 | r::l,hp,h=>by
  have h1:=hp r Z;simp only [ML,Anc,Al2,decide_eq_true_eq];refine⟨h r.1 ?_,AbB hp.tail λv hv=>h v (by simp [AX,hv])⟩;exact Al3.2 (.inl (List.mem_replicate.2 ⟨O,rfl⟩))
theorem Aen {l:List Rn} {c:List Prt} {rev most m2:Int} (hg:AA c=true) (hl:AB l (src c) most=true) (h1:most<=m2) (h2:0<=rev/\rev<=m2) (h3:m2<=60) :
  AB (Mm l c rev) (tgt c) m2=true/\AX (Mm l c rev)=brg rev (AX l) c:=by
 obtain ⟨k1,k2,k3⟩:=As hg;have hs:=A7 k1;obtain ⟨⟨q1,q2⟩,q3,q4⟩:=goodRuns_iff.1 hl;have hlen:(((AX l).length:Nat):Int)=src c:=by rw [LY q4.pos,q4.sum]
 have hbl:=Rg rev c (AX l) hs hlen;have ht:=B8 hs;obtain ⟨r1,r2⟩:=HX (brg rev (AX l) c) Rs.nil O;rw [Int.zero_add,hbl]at r1;have hrv:AX (Mm l c rev)=brg rev (AX l) c:=by
  show AX (Dj [] _)=_;rw [r2];rfl
 refine⟨goodRuns_iff.2 ⟨⟨⟨ht,k3⟩,O,O⟩,AbB r1.pos ?_,r1⟩,hrv⟩;show ∀v∈AX (Mm l c rev),_;rw [hrv];exact AbI h2 c (AX l) λv hv=>by have:=Ab2 q3 v hv;omega
end Go.V.G
set_option maxRecDepth 100000
namespace Go.V.G
open Go.V
def idc (n:Int):List Prt:=if n=0 then []else [(n,0,[])]
theorem ZK {n:Int} (h0:0<=n) (h:n<=120):AA (idc n)=true/\Ac (idc n)=List.replicate n.toNat .keep/\src (idc n)=n/\tgt (idc n)=n:=by
 unfold idc;split
 .rename_i e;subst e;exact⟨rfl,rfl,rfl,rfl⟩
 .rename_i hn;have hp:0 < n:=O
  have hk:kd (n,0,[])=1:=by simp [kd,hp]
  refine⟨?_,?_,?_,?_⟩
  .simp [AA,okk,hk,src,tgt,h]
  .simp only [Ac,Ana,List.flatMap_nil,Amf];exact Gq h0
  .simp [src]
  .simp [tgt]
theorem MX:∀y:List Atom,comp (List.replicate (nS y) .keep) y=y
 | []=>by simp [nS,comp]
 | .ins b::y=>by rw [nS,comp,MX y]
 | .keep::y=>by rw [nS,AmZ,comp,MX y]
 | .drop::y=>by rw [nS,AmZ,comp,MX y]
theorem Vk {c:List Prt} (h:AA c=true):nS (Ac c)=(src c).toNat/\0<=src c/\src c<=120/\0<=tgt c/\tgt c<=120/\nT (Ac c)=(tgt c).toNat:=by
 obtain ⟨h1,h2,h3⟩:=As h;have hs:=A7 h1;have:=NQ hs;have:=Jy hs;have:=AR hs;have:=B8 hs;omega
theorem Aap {c:List Prt} (h:AA c=true):AO (idc (src c)) c=c:=by
 obtain ⟨q1,q2,q3,q4,q5,q6⟩:=Vk h;obtain ⟨i1,i2,i3,i4⟩:=ZK q2 q3;obtain ⟨k1,k2,k3,k4⟩:=DK i1 h i4;refine Nq (k:=0) (j:=0) (As k1).1 (As h).1 ?_;rw [k2,i2,<- q1,MX]
def chn:Int->List (List Prt)->Bool
 | _,[]=>true
 | n,c::cs=>(AA c && decide (src c=n)) && chn (tgt c) cs
def Dq:Int->List (List Prt)->Int
 | n,[]=>n
 | _,c::cs=>Dq (tgt c) cs
theorem Pg:∀(n:Int) (a b:List (List Prt)),chn n (a++b)=(chn n a && chn (Dq n a) b)
 | _,[],b=>by simp [chn,Dq]
 | n,c::a,b=>by simp only [AmH,chn,Dq,Pg (tgt c) a b,AnW]
theorem NC:∀(n:Int) (a b:List (List Prt)),Dq n (a++b)=Dq (Dq n a) b
 | _,[],b=>rfl
 | n,c::a,b=>NC (tgt c) a b
theorem EH {n:Int} {c:List Prt} {cs:List (List Prt)} (h:chn n (c::cs)=true):AA c=true/\src c=n/\chn (tgt c) cs=true:=by
 simp only [chn,Al2,decide_eq_true_eq]at h;exact⟨h.1.1,h.1.2,h.2⟩
theorem Vr:∀{n:Int} {cs:List (List Prt)},chn n cs=true->0<=n->n<=120->0<=Dq n cs/\Dq n cs<=120
 | n,[],_,h0,h1=>⟨h0,h1⟩
 | n,c::cs,h,h0,h1=>by
  obtain ⟨k1,k2,k3⟩:=EH h;obtain ⟨_,_,_,q4,q5,_⟩:=Vk k1;exact Vr (n:=tgt c) k3 q4 q5
theorem Rb:∀{n:Int} {cs:List (List Prt)},chn n cs=true->∀c∈cs,AA c=true
 | n,c::cs,h,x,hx=>by
  obtain ⟨k1,k2,k3⟩:=EH h;rcases Ame.1 hx with rfl | hx
  .exact k1
  .exact Rb k3 x hx
theorem C5 {n:Int} {cs:List (List Prt)} (h:chn n cs=true) (k:Nat):chn n (cs.take k)=true/\chn (Dq n (cs.take k)) (cs.drop k)=true:=by
 have:=Pg n (cs.take k) (cs.drop k);rw [AmJ,h]at this;have:=this.symm
 rwa [Al2]at this
def txt (t:List UInt8) (cs:List (List Prt)):List UInt8:=cs.foldl (λt c=>apply t c) t
theorem Ad4 {t:List UInt8} {c:List Prt} (hg:AA c=true) (h:(t.length:Int)=src c):(((apply t c).length:Nat):Int)=tgt c:=by
 obtain ⟨q1,q2,q3,q4,q5,q6⟩:=Vk hg;have:=P5 (Ac c) t O;unfold apply;omega
theorem Ra:∀{cs:List (List Prt)} {t:List UInt8},chn (t.length:Int) cs=true->(((txt t cs).length:Nat):Int)=Dq (t.length:Int) cs
 | [],t,_=>rfl
 | c::cs,t,h=>by
  obtain ⟨k1,k2,k3⟩:=EH h;have hl:=Ad4 k1 k2.symm;show(((txt (apply t c) cs).length:Nat):Int)=Dq (tgt c) cs;rw [<- hl]at k3 ⊢;exact Ra k3
def btw (n:Int) (cs:List (List Prt)):List Prt:=cs.foldl (λa c=>AO a c) (idc n)
theorem Na:∀{cs:List (List Prt)} {a:List Prt},AA a=true->chn (tgt a) cs=true->
  AA (cs.foldl (λa c=>AO a c) a)=true/\src (cs.foldl (λa c=>AO a c) a)=src a/\tgt (cs.foldl (λa c=>AO a c) a)=Dq (tgt a) cs
 | [],a,h,_=>⟨h,rfl,rfl⟩
 | c::cs,a,h,hc=>by
  obtain ⟨k1,k2,k3⟩:=EH hc;obtain ⟨q1,q2,q3,q4⟩:=DK h k1 k2.symm;rw [<- q4]at k3;obtain ⟨r1,r2,r3⟩:=Na q1 k3;exact⟨r1,by rw [Anw,r2,q3],by rw [Anw,r3,q4];rfl⟩
theorem ZC {n:Int} {cs:List (List Prt)} (h:chn n cs=true) (h0:0<=n) (h1:n<=120):AA (btw n cs)=true/\src (btw n cs)=n/\tgt (btw n cs)=Dq n cs:=by
 obtain ⟨i1,i2,i3,i4⟩:=ZK h0 h1;obtain ⟨r1,r2,r3⟩:=Na i1 (by rw [i4];exact h);exact⟨r1,by rw [btw,r2,i3],by rw [btw,r3,i4]⟩
theorem Tc {n:Int} {c:List Prt} {cs:List (List Prt)} (h:chn n (c::cs)=true):btw n (c::cs)=cs.foldl (λa c=>AO a c) c:=by
 obtain ⟨k1,k2,k3⟩:=EH h;subst k2;unfold btw;rw [Anw,Aap k1]
def blm:Int->List Rn->List (List Prt)->List Rn
 | _,l,[]=>l
 | rev,l,c::cs=>blm (rev+1) (Mm l c rev) cs
theorem Uj:∀(rev:Int) (l:List Rn) (a b:List (List Prt)),blm rev l (a++b)=blm (rev+a.length) (blm rev l a) b
 | rev,l,[],b=>by simp [blm]
 | rev,l,c::a,b=>by
  simp only [AmH,blm,Uj (rev+1) (Mm l c rev) a b,Al7]
  congr 1;omega
theorem Yi:∀{cs:List (List Prt)} {rev n:Int} {l:List Rn},chn n cs=true->AB l n (rev - 1)=true->rev - 1+cs.length<=60->0<=rev->AB (blm rev l cs) (Dq n cs) (rev - 1+cs.length)=true
 | [],rev,n,l,_,h,_,_=>by simpa [blm,Dq] using h
 | c::cs,rev,n,l,hc,h,hb,h0=>by
  obtain ⟨k1,k2,k3⟩:=EH hc;subst k2;simp only [Al7]at hb ⊢;have h1:=(Aen (rev:=rev) (m2:=rev) k1 h O O O).1;have:=Yi (rev:=rev+1) k3 (by rw [(O:rev+1 - 1=rev)];exact h1) O O;rw [(O:rev+1 - 1+(cs.length:Int)=rev - 1+((cs.length+1:Nat):Int))]at this;exact this
def Ea (f:Int) (t:List UInt8) (r:List Rn) (cs:List (List Prt)):Bool:=
 decide (0<=f/\f<=60) && (decide ((t.length:Int)<=120) && (AB r (t.length:Int) f && (decide ((cs.length:Int)<=60 - f) && chn (t.length:Int) cs)))
structure GH (f:Int) (t:List UInt8) (r:List Rn) (cs:List (List Prt)):Prop where
 hf:0<=f/\f<=60
 ht:(t.length:Int)<=120
 hr:AB r (t.length:Int) f=true
 hn:(cs.length:Int)<=60 - f
 hc:chn (t.length:Int) cs=true
theorem goodH_iff {f:Int} {t:List UInt8} {r:List Rn} {cs:List (List Prt)}:Ea f t r cs=true↔GH f t r cs:=by
 simp only [Ea,Al2,decide_eq_true_eq];exact⟨λ⟨h1,h2,h3,h4,h5⟩=>⟨h1,h2,h3,h4,h5⟩,λ⟨h1,h2,h3,h4,h5⟩=>⟨h1,h2,h3,h4,h5⟩⟩
structure HB (t:List UInt8) (r:List Rn) (cs:List (List Prt)):Prop where
 ht:t.length<=1099511627776
 hr:r.length<=1099511627776
 hn:cs.length<=1099511627776
 hc:∀c∈cs,Sm 1099511627776 c
theorem GH.hb {f:Int} {t:List UInt8} {r:List Rn} {cs:List (List Prt)} (h:GH f t r cs):HB t r cs:=by
 have h1:=h.ht;have h2:=h.hn;have h3:=h.hf;obtain ⟨_,_,h6⟩:=goodRuns_iff.1 h.hr;have:=Gi h6.pos;rw [h6.sum]at this;exact⟨O,O,O,λc hc=>(Ci (Rb h.hc c hc)).mono O⟩
def Ir (f:Int) (t:List UInt8) (r:List Rn) (cs:List (List Prt)) (a b:Int):Int:=
 if Ea f t r cs=true then(if f<=a/\a<=b/\b<=f+cs.length then 0 else 2)else 1
end Go.V.G