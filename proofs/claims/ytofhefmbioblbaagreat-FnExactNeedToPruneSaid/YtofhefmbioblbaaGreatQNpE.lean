import Derived.Test.YtofhefmbioblbaaGreatQNpA
import Derived.Test.YtofhefmbioblbaaGreatQNpD
import Derived.MapKept
import Derived.Lib.SliceRun
import Derived.Calls
import Derived.Orders
import Derived.Tactics
set_option linter.unusedVariables false
set_option linter.unusedSimpArgs false
namespace Go.V
open Go.RowKit
structure New where
 o:Own
 h:Value
 F:List Nat
theorem Inv.many {b:Base} {S S':St} {c:Cc} {w w':World} (hi:Inv b S w c) (news:Nat->Option New) (gs rws:List Nat) (ks:List Kl)
  (how:∀k,S'.ow k=match news k with | some n=>some n.o | none=>if k∈gs then none else S.ow k) (hms:S'.ms=S.ms) (hmc:∀k i,k∉rws->S'.mc k i=(S.mc k i).kp ks)
  (hgs:∀k o,S.ow k=some o->(k∈gs\/news k≠none)->.all k∈ks\/(.deep k∈ks/\∃n xs',news k=some n/\n.h=c.hv k/\n.o=⟨o.e,o.r,xs'⟩/\xs'.length=o.xs.length))
  (hst:Step w w' λg=>(∃k,k∈gs/\S.ow k≠none/\g∈c.F k)\/∃k,k∈rws/\S.ms k≠none/\c.mb k=g)
  (hF:∀k n,news k=some n->∀g,g∈n.F->g < w'.heap.size/\((∃k,k∈gs/\S.ow k≠none/\g∈c.F k)\/w.heap.size<=g))
  (hnd:∀k n,news k=some n->n.F.Nodup) (hdis:∀k n k' n',k≠k'->news k=some n->news k'=some n'->∀g,g∈n.F->g∉n'.F)
  (hR:∀K',KSame w w' (Kok b S c) K'->(∀g,(w.heap.size<=g\/∃k,k∈gs/\S.ow k≠none/\g∈c.F k)->(∀k n,news k=some n->g∉n.F)->K' g)->∀k n,news k=some n->Rp w' K' (.sl true n.o.e n.o.r) n.o.xs [n.h] n.F)
  (hrow:∀K' c',c'.mb=c.mb/\c'.mo=c.mo->(∀l v,LeafOk S c w (Kok b S c) l v->LeafOk S' c' w' K' (l.kp ks) v)->KSame w w' (Kok b S c) K'->(∀g,(w.heap.size<=g\/∃k,k∈gs/\S.ow k≠none/\g∈c.F k)->(∀k n,news k=some n->g∉n.F)->K' g)->(∀k n,news k=some n->c'.hv k=n.h)->∀k n,k∈rws->S.ms k=some n->0 < n->
   ∃cs e fr,w'.heap[c.mb k]?=some (.cells cs e fr)/\c.mo k+n<=cs.size/\NF fr cs.size/\(∀i v,i < n->cs[c.mo k+i]?=some v->LeafOk S' c' w' K' (S'.mc k i) v)/\AlY b.w0 (c.mb k) (c.mo k) n cs e fr)
  (hmap:∀k,k∈rws->S.ms k=some 0->∃xs,S'.mc k 0=.md xs/\MapAt w' (c.mb k) xs) :
  ∃c',(c'.mb=c.mb/\c'.mo=c.mo)/\(∀k n,news k=some n->c'.hv k=n.h/\c'.F k=n.F)/\Inv b S' w' c'/\Stay S S' c c' w w' (Kok b S c) (Kok b S' c') ks/\
   ∀g,(w.heap.size<=g\/∃k,k∈gs/\S.ow k≠none/\g∈c.F k)->(∀k n,news k=some n->g∉n.F)->Kok b S' c' g:=by
 let c':Cc:=⟨c.mb,c.mo,λk=>match news k with | some n=>n.h | none=>c.hv k,λk=>match news k with | some n=>n.F | none=>c.F k⟩
 have hcF:∀k,news k=none->c'.F k=c.F k:=λk hk=>by simp [c',hk]
 have hch:∀k,news k=none->c'.hv k=c.hv k:=λk hk=>by simp [c',hk]
 have hcN:∀k n,news k=some n->c'.hv k=n.h/\c'.F k=n.F:=λk n hk=>by simp [c',hk]
 have hT:∀g,((∃k,k∈gs/\S.ow k≠none/\g∈c.F k)\/∃k,k∈rws/\S.ms k≠none/\c.mb k=g)->A5 S c g:=by
  rintro g (⟨k,_,h1,h2⟩ | ⟨k,_,h1,h2⟩)
  .exact .inr ⟨k,h1,h2⟩
  .exact .inl ⟨k,h1,h2⟩
 have hkept:∀k,news k=none->S'.ow k≠none->k∉gs/\S.ow k≠none:=by
  grind
 have hown:∀g,A5 S' c' g->A5 S c g\/w.heap.size<=g:=by
  rintro g (⟨k,hk,rfl⟩ | ⟨k,hk,hg⟩)
  .exact .inl (.inl ⟨k,by grind,rfl⟩)
  .cases hn:news k with
   | some n=>
    grind
   | none=>
    rw [hcF k hn]at hg;exact .inl (.inr ⟨k,(hkept k hn hk).2,hg⟩)
 have kk:KSame w w' (Kok b S c) (Kok b S' c'):=P7 hst hT hown;have hsame:∀k,k∉gs->S.ow k≠none->Do w w' (c.F k):=λk hg ho g hgF=>hst.same g (hi.fr g (.inr ⟨k,ho,hgF⟩)).1 (by
  rintro (⟨k2,h1,h2,h3⟩ | ⟨k2,h1,h2,h3⟩)
  .have hne:k≠k2:=by grind
   exact hi.oo k k2 hne ho h2 g hgF h3
  .subst h3;exact hi.mo k2 k h2 ho hgF)
 have stay:Stay S S' c c' w w' (Kok b S c) (Kok b S' c') ks:=by
  refine Stay.of hi ?_ ?_ kk
  .grind
  grind
 have hfree:∀g,(w.heap.size<=g\/∃k,k∈gs/\S.ow k≠none/\g∈c.F k)->(∀k n,news k=some n->g∉n.F)->Kok b S' c' g:=by
  rintro g (hg | ⟨k,hk,hko,hkg⟩) hgF
  .refine⟨.inr (.inl (Ao2 hi.size hg)),?_⟩;rintro (⟨k2,h1,h9⟩ | ⟨k2,h1,h2⟩)
   .rw [hms]at h1;have:=(hi.fr (c.mb k2) (.inl ⟨k2,h1,rfl⟩)).1
    grind
   .cases hn:news k2 with
    | some n=>grind
    | none=>
     rw [hcF k2 hn]at h2;have:=(hi.fr g (.inr ⟨k2,(hkept k2 hn h1).2,h2⟩)).1;omega
  .refine⟨.inr (hi.fr g (.inr ⟨k,hko,hkg⟩)).2,?_⟩;rintro (⟨k2,h1,h9⟩ | ⟨k2,h1,h2⟩)
   .rw [hms]at h1;exact hi.mo k2 k h1 hko (by grind)
   .cases hn:news k2 with
    | some n=>grind
    | none=>
     rw [hcF k2 hn]at h2;have h5:=hkept k2 hn h1;exact hi.oo k k2 (by grind) hko h5.2 g hkg h2
 refine⟨c',⟨rfl,rfl⟩,hcN,?_,stay,hfree⟩;refine⟨?_,?_,?_,?_,?_,?_,?_,hi.fix' hst hT,hst.os.trans hi.os,hst.tape.trans hi.tape,hst.output.trans hi.output,Ao2 hi.size hst.size,hi.an,λk hk0=>?_⟩
 rotate_left 7
 .rw [hms]at hk0;by_cases hk:k∈rws
  .grind
  .exact Kg (ks:=ks) hi hk0 (hmc k 0 hk) rfl (hst.same _ (hi.fr _ (.inl ⟨k,by grind,rfl⟩)).1 (by
    rintro (⟨k2,_,h5,h6⟩ | ⟨k2,h4,h5,h6⟩)
    .exact hi.mo k k2 (by grind) h5 h6
    .have hne:k≠k2:=by grind
     exact hi.mm k k2 hne (by grind) h5 h6.symm))
 .intro k n hn h0n;rw [hms]at hn;by_cases hk:k∈rws
  .exact hrow _ c' ⟨rfl,rfl⟩ (λ_ _ h=>stay.leaf h) kk hfree (λk n h=>(hcN k n h).1) k n hk hn h0n
  .obtain ⟨cs,e,fr,h1,h2,h3,h4,h5⟩:=hi.ms k n hn h0n;refine⟨cs,e,fr,?_,h2,h3,λi u hlt hu=>by rw [hmc k i hk];exact stay.leaf (h4 i u hlt hu),h5⟩;show w'.heap[c.mb k]?=_;rw [hst.same _ (B5 h1) (by
    rintro (⟨k2,_,h5,h6⟩ | ⟨k2,h4,h5,h6⟩)
    .exact hi.mo k k2 (by rw [hn];simp) h5 h6
    .have hne:k≠k2:=by grind
     exact hi.mm k k2 hne (by rw [hn];simp) h5 h6.symm)]
   exact h1
 .intro k o ho;cases hn:news k with
  | some n=>
   grind
  | none=>
   have h1:=hkept k hn (by rw [ho];simp);rw [how,hn]at ho;simp only [h1.1,Apa]at ho;rw [hch k hn,hcF k hn];exact Rp.frame kk _ _ (hi.ow k o ho) (hsame k h1.1 h1.2)
 .intro k hk;cases hn:news k with
  | some n=>grind
  | none=>rw [hcF k hn];exact hi.nd k (hkept k hn hk).2
 .intro k1 k2 hne h1 h2 g hg;cases hn1:news k1 with
  | some n1=>
   rw [(hcN k1 n1 hn1).2]at hg;cases hn2:news k2 with
   | some n2=>grind
   | none=>
    have h4:=hkept k2 hn2 h2;rw [hcF k2 hn2];rcases (hF k1 n1 hn1 g hg).2 with⟨k3,h5,h6,h7⟩ | h5
    .have hne3:k3≠k2:=by grind
     exact hi.oo k3 k2 hne3 h6 h4.2 g h7
    .intro hx;have:=(hi.fr g (.inr ⟨k2,h4.2,hx⟩)).1;omega
  | none=>
   have h3:=hkept k1 hn1 h1;rw [hcF k1 hn1]at hg;cases hn2:news k2 with
   | some n2=>
    rw [(hcN k2 n2 hn2).2];intro hx;rcases (hF k2 n2 hn2 g hx).2 with⟨k3,h5,h6,h7⟩ | h5
    .have hne3:k1≠k3:=by grind
     exact hi.oo k1 k3 hne3 h3.2 h6 g hg h7
    .have:=(hi.fr g (.inr ⟨k1,h3.2,hg⟩)).1;omega
   | none=>
    rw [hcF k2 hn2];exact hi.oo k1 k2 hne h3.2 (hkept k2 hn2 h2).2 g hg
 .intro k1 k2 hne h1 h2;rw [hms]at h1 h2;exact hi.mm k1 k2 hne h1 h2
 .intro k1 k2 h1 h2;rw [hms]at h1;cases hn2:news k2 with
  | some n2=>
   rw [(hcN k2 n2 hn2).2];intro hx;rcases (hF k2 n2 hn2 _ hx).2 with⟨k3,_,h6,h7⟩ | h5
   .exact hi.mo k1 k3 h1 h6 h7
   .have:=(hi.fr (c.mb k1) (.inl ⟨k1,h1,rfl⟩)).1
    grind
  | none=>rw [hcF k2 hn2];exact hi.mo k1 k2 h1 (hkept k2 hn2 h2).2
 .intro g hg;refine⟨?_,?_⟩
  .rcases hg with⟨k,hk,rfl⟩ | ⟨k,hk,hg⟩
   .rw [hms]at hk;exact ApD (hi.fr (c.mb k) (.inl ⟨k,hk,rfl⟩)).1 hst.size
   .cases hn:news k with
    | some n=>grind
    | none=>
     rw [hcF k hn]at hg;exact ApD (hi.fr g (.inr ⟨k,(hkept k hn hk).2,hg⟩)).1 hst.size
  .rcases hown g hg with h | h
   .exact(hi.fr g h).2
   .exact .inl (Ao2 hi.size h)
theorem Agi {A A' B B':Type} (h1:A=A') (h2:B=B') (h:(A×B)=(A'×B')) (x:A×B):cast h x=(cast h1 x.1,cast h2 x.2):=by grind
theorem Agm {A A':Type} (h1:A=A') (h:List A=List A') (xs:List A):cast h xs=xs.map (cast h1):=by
 subst h1;have:(cast rfl:A->A)=id:=rfl
 simp_all
theorem Rp.frz {w:World} {K K':Nat->Prop} (hK:∀g,g < w.heap.size->K g->K' g):∀(t:Ty) (x:t.D) {vs F},Rp w K t x vs F->(∀g,g∈F->K' g)->Rp w K' t.frz (Ju t x) vs []
 | .int _,_,_,_,h,_=>by simp only [Rp]at h;simp only [Ty.frz,Rp];exact⟨h.1,trivial⟩
 | .bool,_,_,_,h,_=>by simp only [Rp]at h;simp only [Ty.frz,Rp];exact⟨h.1,trivial⟩
 | .lp,_,_,_,h,_=>by assumption
 | .mh,_,_,_,h,_=>by simp only [Rp]at h;simp only [Ty.frz,Rp];exact⟨h.1,trivial,h.2.2⟩
 | .mp,_,_,_,h,_=>by assumption
 | .er,_,_,_,h,_=>by simp only [Rp]at h;obtain ⟨v,h1,_,h2⟩:=h;simp only [Ty.frz,Rp];exact⟨v,h1,trivial,h2⟩
 | .str,_,_,_,h,_=>by simp only [Rp]at h;simp only [Ty.frz,Rp];exact⟨h.1,trivial⟩
 | .unit,_,_,_,h,_=>by simp only [Rp]at h;simp only [Ty.frz,Rp];grind
 | .pair a b,x,_,_,h,hF=>by
  simp only [Rp]at h;obtain ⟨v1,v2,F1,F2,rfl,rfl,h1,h2⟩:=h;have e:Ju (.pair a b) x=(Ju a x.1,Ju b x.2):=Agi (Ty.frz_D a).symm (Ty.frz_D b).symm _ x;rw [e];simp only [Ty.frz,Rp];exact⟨v1,v2,[],[],rfl,rfl,Rp.frz hK a _ h1 λg hg=>hF g (by simp [hg]),Rp.frz hK b _ h2 λg hg=>hF g (by simp [hg])⟩
 | .sl o e r,xs,_,_,h,hF=>by
  have e0:Ju (.sl o e r) xs=(List.map (Ju r) xs:List r.frz.D):=Agm (Ty.frz_D r).symm _ xs;have key:∀(ys:List r.D) (us:List Value) (G:List Nat),(∀g,g∈G->K' g)->RpL (Rp w K r) ys us G->RpL (Rp w K' r.frz) (ys.map (Ju r)) us []:=by
   intro ys
   induction ys with
   | nil=>intro us G _ h;exact⟨h.1,rfl⟩
   | cons y ys ih=>
    rintro us G hG ⟨v1,v2,F1,F2,rfl,rfl,h1,h2⟩;exact⟨v1,v2,[],[],rfl,rfl,Rp.frz hK r y h1 λg hg=>hG g (by simp [hg]),ih _ _ (λg hg=>hG g (by simp [hg])) h2⟩
  rw [e0];cases o with
  | true=>
   simp only [Rp]at h;show Rp w K' (.sl false e r.frz) _ _ _;rw [Rp];rcases h with⟨rfl,rfl,rfl⟩ | ⟨g,off,c,cs,fr,F',rfl,rfl,hh,hn,hc,hl,hr⟩
   .exact⟨rfl,none,0,[],rfl,Ao4 _,⟨rfl,rfl⟩,.inl rfl⟩
   .refine⟨rfl,some ⟨g,off,none⟩,c,_,Z,by grind,key _ _ _ (λg hg=>hF g (by simp [hg])) hr,.inr ⟨_,rfl,hF g Z,B5 hh,λj hj=>?_⟩⟩;rw [AoQ,Apr,Array.length_toList (xs:=cs)]at hj;rw [Be,Bf hh,Apf O,Apu,Ao8]
  | false=>
   simp only [Rp]at h;show Rp w K' (.sl false e r.frz) _ _ _;rw [Rp]
   grind
 | .pt t,none,_,_,h,_=>by
  simp only [Rp]at h;show Rp w K' (.pt t) none _ _;simp only [Rp]
  grind
 | .pt t,some x,_,_,h,_=>by
  simp only [Rp]at h;show Rp w K' (.pt t) (some x) _ _;simp only [Rp];obtain ⟨_,ad,ws,e,h0,h1,h2,h3⟩:=h;exact⟨trivial,ad,ws,e,Rp.frame ⟨Ao4 _,λg hg hlt=>⟨rfl,hK g hlt hg⟩⟩ t x h0 (λg hg=>by cases hg),hK _ h2 h1,h2,h3⟩
theorem AhO (l:Leaf) (k:Nat) (ks:List Kl):(l.kp (.all k::ks)).kp [.all k]=l.kp (.all k::ks):=by
 cases l with
 | vw k' st win=>
  by_cases h:((Kl.all k::ks).all λx=>x.okV k' st)=true
  .have h1:(Kl.all k).okV k' st=true:=by grind
   have e1:Leaf.kp (.all k::ks) (.vw k' st win)=.vw k' st win:=AoJ h;have e2:Leaf.kp [.all k] (.vw k' st win)=.vw k' st win:=AoJ (by simp [h1]);rw [e1,e2]
  .have e1:Leaf.kp (.all k::ks) (.vw k' st win)=.no:=AoH h;rw [e1];rfl
 | p k' off=>
  by_cases h:((Kl.all k::ks).all λx=>x.okM k')=true
  .have e1:Leaf.kp (.all k::ks) (.p k' off)=.p k' off:=AoJ h;have e2:Leaf.kp [.all k] (.p k' off)=.p k' off:=by rfl
   rw [e1,e2]
  .have e1:Leaf.kp (.all k::ks) (.p k' off)=.no:=AoH h;rw [e1];rfl
 | mh k'=>
  by_cases h:((Kl.all k::ks).all λx=>x.okM k')=true
  .have e1:Leaf.kp (.all k::ks) (.mh k')=.mh k':=AoJ h;have e2:Leaf.kp [.all k] (.mh k')=.mh k':=by rfl
   rw [e1,e2]
  .have e1:Leaf.kp (.all k::ks) (.mh k')=.no:=AoH h;rw [e1];rfl
 | _=>rfl
theorem AkQ {b:Base} {S:St} {c:Cc} {w w':World} {key:Nat} {o:Own} {gs:List Nat} {v:Value} (hd:Did b S c w (BZ key o gs) v w') :
  Did b S c w ⟨.s (.one (.v (Ty.frz (.sl true o.e o.r)) (Ju (.sl true o.e o.r) o.xs))),(BZ key o gs).ks,(BZ key o gs).us++[.ow key none]⟩ v w':=by
 obtain ⟨c1,hi1,st1,hv1⟩:=hd;have hgu:=P3 gs (S.kp (.all key::Ct gs));have hS1:(S.kp (BZ key o gs).ks).ups (BZ key o gs).us=((S.kp (.all key::Ct gs)).ups (Cw gs)).up (.ow key (some o)):=EH _ _ _;have ho:((S.kp (BZ key o gs).ks).ups (BZ key o gs).us).ow key=some o:=by rw [hS1];show(if key=key then _ else _)=_;simp
 have hmc:∀k i,((S.kp (BZ key o gs).ks).ups (BZ key o gs).us).mc k i=(S.mc k i).kp (.all key::Ct gs):=by
  intro k i;rw [hS1];show((S.kp (.all key::Ct gs)).ups (Cw gs)).mc k i=_;rw [hgu.2.1];rfl
 generalize hS:(S.kp (BZ key o gs).ks).ups (BZ key o gs).us=S1 at hi1 st1 hv1 ho hmc;have hS2:(S.kp (BZ key o gs).ks).ups ((BZ key o gs).us++[.ow key none])=S1.up (.ow key none):=by rw [EH,hS];rfl
 obtain ⟨o0,e,r,ys,hh,q1,q2,q3,q4⟩:=hv1;simp only [hdr,AoD]at q3;obtain rfl:v=hh:=q4;subst q3;obtain ⟨c2,_,_,e4,e5,hfree⟩:=hi1.many (S':=S1.up (.ow key none)) (w':=w') (λ_=>none) [key] [] [.all key]
  (by intro k';show(if k'=key then _ else S1.ow k')=_;simp)
  rfl (by
   intro k' i _;show S1.mc k' i=_;rw [hmc,AhO]) (λk' o _ hk'=>.inl (hk'.elim (λh=>by grind) λh=>absurd rfl h))
  (Step.refl _ _) (λ_ _ h=>by cases h) (λ_ _ h=>by cases h) (λ_ _ _ _ _ h=>by cases h) (λ_ _ _ _ _ h=>by cases h) (λ_ _ _ _ _ _ _ _ _ h=>by cases h) (λ_ h=>by cases h)
 unfold Did;rw [hS2];refine⟨c2,e4,⟨λk st win v hk hl=>?_,λk st v hk hl=>?_,λk off v hk hl=>?_,λk v hk hl=>?_,?_⟩,?_⟩
 .refine e5.vw k st win v ?_ (st1.vw k st win v hk hl);simp only [BZ,ApZ,AoI]at hk;simp [hk.1]
 .refine e5.el k st v ?_ (st1.el k st v hk hl);simp only [BZ,ApZ,AoI]at hk;simp [hk.1]
 .refine e5.pl k off v ?_ (st1.pl k off v hk hl);rfl
 .refine e5.mh k v ?_ (st1.mh k v hk hl);rfl
 .exact⟨Ao2 st1.kk.1 e5.kk.1,λg hg hlt=>by
   obtain ⟨h1,h2⟩:=st1.kk.2 g hg hlt;obtain ⟨h3,h4⟩:=e5.kk.2 g h2 (ApD hlt st1.kk.1)
   grind⟩
 .exact Rp.frz (λg hlt hg=>(e5.kk.2 g hg hlt).2) _ _ (hi1.ow key o ho) λg hg=>hfree g (.inr ⟨key,Z,by rw [ho];simp,hg⟩) (λ_ _ h=>by cases h)
theorem Ahd {ti ti2:TI} {d:Nat} {x y:Leaf} {S:St} {out:Out} (h:(Aae ti ti2 d x y).ev S=some out):∃o gs,out=BZ (kd d 0) o gs:=by
 have key:∀{out:Out},(Mi ti ti2 d x y).ev S=some out->∃o gs,out=BZ (kd d 0) o gs:=by
  intro out h;unfold Mi at h;split at h
  .simp only [Ak,AoG]at h;obtain ⟨r,_,h⟩:=h;split at h
   .simp only [Ak,AoG]at h;obtain ⟨p1,_,p2,_,h⟩:=h
    replace h:=BN h
    split at h
    .simp only [Tr.ev,AoD]at h
     grind
    .simp [Tr.ev]at h
   .simp [Tr.ev]at h
  .simp [Tr.ev]at h
 unfold Aae at h;split at h
 .split at h
  .unfold Ae1 at h;split at h
   .simp only [Tr.ev]at h;split at h
    .split at h
     .replace h:=BN h
      obtain ⟨_,h⟩:=h
      replace h:=BN h
      obtain ⟨_,h⟩:=h
      replace h:=BN h
      obtain ⟨_,h⟩:=h
      replace h:=BN h
      simp only [Tr.ev,AoD]at h
      grind
     .simp [Tr.ev]at h
    .simp [Tr.ev]at h
   .simp [Tr.ev]at h
  grind
 grind
theorem Aky {P:Program} {ti:TypeId->TI} {b:Base} {S:St} {c:Cc} {w:World} (hT:TabOk P ti) (hi:Inv b S w c) {t t2 ty:TypeId} {hn:List (Nat×List Ty)} {d:Nat} {x y:Leaf} {u v:Value} {out:Out} (hx:LeafOk S c w (Kok b S c) x u) (hy:LeafOk S c w (Kok b S c) y v)
  (h:(AiK hn (ti t) (ti t2) d x y).ev S=some out):∃r w',(Builtin.append_ #[t,t2] ty #[u,v]).run P w=.ok r w'/\Did b S c w out r w':=by
 unfold AiK at h;simp only [Ak,AoG]at h;obtain ⟨out0,h0,h⟩:=h;obtain ⟨r,w',h1,h2⟩:=Alk (ty:=ty) hT hi hx hy h0;obtain ⟨o,gs,rfl⟩:=Ahd h0;split at h
 .unfold Agk at h;have e:(BZ (kd d 0) o gs).us.getLast?=some (.ow (kd d 0) (some o)):=by
   show(Cw gs++[U.ow (kd d 0) (some o)]).getLast?=_;simp
  rw [e]at h;simp only [Tr.ev,AoD]at h;subst h;exact⟨r,w',h1,AkQ h2⟩
 .simp only [Tr.ev,AoD]at h
  grind
end Go.V
namespace Go.V
open Go.RowKit
def Ly:List MapEntry->List (Int×Int)->Nat->Prop
 | [],[],_=>True
 | e::es,p::xs,n=>e = { key:=.int .i64 p.1,val:=.int .i64 p.2,born:=n }/\Ly es xs (n+1)
 | _,_,_=>False
theorem Aa7:∀{es:List MapEntry} {xs:List (Int×Int)} {n:Nat},Ly es xs n->es.length=xs.length
 | [],[],_,_=>rfl
 | _::_,_::_,_,h=>by simp [Aa7 h.2]
 | [],_::_,_,h=>h.elim
 | _::_,[],_,h=>h.elim
theorem AcT:∀(es:List MapEntry) (xs:List (Int×Int)) (n:Nat),es.length=xs.length->(∀i p,xs[i]?=some p->es[i]?=some ({ key:=.int .i64 p.1,val:=.int .i64 p.2,born:=n+i }:MapEntry))->Ly es xs n
 | [],[],_,_,_=>trivial
 | e::es,p::xs,n,hl,h=>by
  refine⟨?_,AcT es xs (n+1) (by simpa using hl) λi q hq=>?_⟩
  .have:=h 0 p rfl;simpa using this
  .have:=h (i+1) q (by simpa using hq);rw [(O:n+1+i=n+(i+1))];simpa using this
 | [],_::_,_,hl,_=>by simp at hl
 | _::_,[],_,hl,_=>by simp at hl
theorem AcK:∀{es:List MapEntry} {xs:List (Int×Int)} {n:Nat},Ly es xs n->∀i p,xs[i]?=some p->es[i]?=some ({ key:=.int .i64 p.1,val:=.int .i64 p.2,born:=n+i }:MapEntry)
 | [],[],_,_,i,p,hp=>by simp at hp
 | e::es,q::xs,n,h,0,p,hp=>by
  simp only [Aqr,AoD]at hp;subst hp;rw [h.1];rfl
 | e::es,q::xs,n,h,i+1,p,hp=>by
  have:=AcK h.2 i p (by simpa using hp);rw [(O:n+(i+1)=n+1+i)];simpa using this
 | [],_::_,_,h,_,_,_=>h.elim
 | _::_,[],_,h,_,_,_=>h.elim
theorem MapAt.en {w:World} {g:Nat} {xs:List (Int×Int)} (h:MapAt w g xs):∃es:Array MapEntry,w.heap[g]?=some (.map es es.size)/\Ly es.toList xs 0:=by
 obtain ⟨es,h1,h2,h3⟩:=h;refine⟨es,h1,AcT _ _ _ (by simpa using h2) λi p hp=>?_⟩;rw [AoS,Ao8];exact h3 i p hp
theorem MapAt.of {w:World} {g:Nat} {xs:List (Int×Int)} {es:Array MapEntry} {n:Nat} (h1:w.heap[g]?=some (.map es n)) (h2:Ly es.toList xs 0) (hn:n=es.size):MapAt w g xs:=by
 subst hn;refine⟨es,h1,by simpa using Aa7 h2,λi p hp=>?_⟩;have:=AcK h2 i p hp
 rwa [AoS,Ao8]at this
theorem WD (k:Int) (y:Int):∀{es:List MapEntry} {xs:List (Int×Int)} {n:Nat} (m:Nat),Ly es xs n->
  (∃j v,Instr.findNow (.int .i64) (.int .i64 k) es m=some (some (m+j,.int .i64 v))/\C3 xs k=v/\es[j]?=some ({ key:=.int .i64 k,val:=.int .i64 v,born:=n+j }:MapEntry)/\
   Ly (es.modify j λe=>{ e with key:=.int .i64 k,val:=.int .i64 y }) (DM xs k y) n)\/
  (Instr.findNow (.int .i64) (.int .i64 k) es m=some none/\C3 xs k=0/\Ly (es++[({ key:=.int .i64 k,val:=.int .i64 y,born:=n+es.length }:MapEntry)]) (DM xs k y) n)
 | [],[],n,m,_=>.inr ⟨rfl,rfl,⟨rfl,trivial⟩⟩
 | e::es,p::xs,n,m,h=>by
  obtain ⟨rfl,h2⟩:=h;by_cases hk:p.1=k
  .subst hk;refine .inl ⟨0,p.2,?_,?_,rfl,?_⟩
   .simp [Instr.findNow,Instr.sameNow]
   .simp [C3]
   .simp only [DM,AoU];exact⟨rfl,h2⟩
  .have hs:Instr.findNow (.int .i64) (.int .i64 k) ({ key:=.int .i64 p.1,val:=.int .i64 p.2,born:=n }::es) m=Instr.findNow (.int .i64) (.int .i64 k) es (m+1):=by
    have:(k == p.1)=false:=by simpa using λh=>hk h.symm
    simp [Instr.findNow,Instr.sameNow,this]
   have hg:C3 (p::xs) k=C3 xs k:=by simp [C3,hk]
   have hp:DM (p::xs) k y=p::DM xs k y:=by simp [DM,hk]
   rw [hs,hg,hp];rcases WD k y (m+1) h2 with⟨j,v,h3,h4,h5,h6⟩ | ⟨h3,h4,h5⟩
   .refine .inl ⟨j+1,v,by rw [h3,(O:m+1+j=m+(j+1))],h4,?_,⟨rfl,h6⟩⟩;rw [List.getElem?_cons_succ,h5,(O:n+1+j=n+(j+1))]
   .refine .inr ⟨h3,h4,⟨rfl,?_⟩⟩;rw [AoV,(O:n+(es.length+1)=n+1+es.length)];exact h5
 | [],_::_,_,_,h=>h.elim
 | _::_,[],_,_,h=>h.elim
section
variable {P:Program} {ti:TypeId->TI} {b:Base} {S:St} {c:Cc} {w:World}
theorem AcZ {x:SV} {v:Value} {tt:TI} {f:Nat->List (Int×Int)->Tr Out} {out:Out} (hi:Inv b S w c) (hx:AX S c w (Kok b S c) x v) (h:(Ad8 tt x f).ev S=some out) :
  tt=.map/\∃k xs,S.ms k=some 0/\v=.map (some (c.mb k))/\MapAt w (c.mb k) xs/\(f k xs).ev S=some out:=by
 unfold Ad8 at h;split at h
 .rename_i k;obtain ⟨h1,h2⟩:=(AY hx:LeafOk S c w (Kok b S c) (.mh k) v)
  simp only [Tr.ev,h1]at h;obtain ⟨xs,h3,h4⟩:=hi.mp k h1;rw [AoJ trivial]at h;simp only [Tr.ev,h3]at h;exact⟨rfl,k,xs,h1,h2,h4,h⟩
 .simp [Tr.ev]at h
theorem Aef (hi:Inv b S w c) (t:TypeId) (d:Nat) (hdn:d < b.n1) :
  ∃v w',(Instr.makeMap t none).run P w=.ok v w'/\Did b S c w ⟨.s (.one (.mh d)),[.m d],[.ms d [.md []]]⟩ v w':=by
 obtain ⟨c',h1,h2,h3⟩:=hi.newMap d hdn rfl;refine⟨.map (some w.heap.size),{ w with heap:=w.heap.push (.map #[] 0) },by simp [Instr.makeMap],c',h2,h3,?_,?_⟩
 .simp [St.ups,St.up,Lz]
 .rw [h1.1]
theorem Ahe (hT:TabOk P ti) (_hi:Inv b S w c) {t:TypeId} (ht:ti t=.map) {k:Nat} {xs:List (Int×Int)} (hm:MapAt w (c.mb k) xs) (i:Int) :
  (Instr.lookup t (.map (some (c.mb k))) (.int .i64 i) false).run P w=.ok (.int .i64 (C3 xs i)) w:=by
 obtain ⟨⟨kt,et,h1,h2,z,h3,h4⟩,_⟩:=hT.map ht;obtain ⟨es,h5,h6⟩:=hm.en;have hkey:MapKept.IsKey (.int .i64) (.int .i64 i):=rfl;unfold Instr.lookup;simp only [Sem.run_bind,run_underlying h1,Result.andThen_ok,MapKept.run_getObj_map h5,Sem.run_pure];rw [show(10000:Nat)=9999+1 from rfl,MapKept.run_checkKey h2 hkey];simp only [Result.andThen_ok];rcases WD i 0 0 h6 with⟨j,v,h7,h8,_⟩ | ⟨h7,h8,_⟩
 .rw [MapKept.run_findKey h2 h7,h8];simp
 .rw [MapKept.run_findKey h2 h7,h8];simp [Ub h3 h4]
theorem Y5 (hT:TabOk P ti) (hi:Inv b S w c) {t:TypeId} (ht:ti t=.map) {k:Nat} {xs:List (Int×Int)} (hk:S.ms k=some 0) (hm:MapAt w (c.mb k) xs) (i y:Int) :
  ∃w',(Instr.mapUpdate t (.map (some (c.mb k))) (.int .i64 i) (.int .i64 y)).run P w=.ok () w'/\Did b S c w ⟨.no,[],[.mc k 0 (.md (DM xs i y))]⟩ undef w':=by
 obtain ⟨⟨kt,et,h1,h2,_⟩,_⟩:=hT.map ht;obtain ⟨es,h5,h6⟩:=hm.en;have hkey:MapKept.IsKey (.int .i64) (.int .i64 i):=rfl;have hlt:=B5 h5;have hgo:∀es':Array MapEntry,Ly es'.toList (DM xs i y) 0->Did b S c w ⟨.no,[],[.mc k 0 (.md (DM xs i y))]⟩ undef { w with heap:=w.heap.setIfInBounds (c.mb k) (.map es' es'.size) }:=by
  intro es' hen;obtain ⟨h7,h8⟩:=MapKept.heap_set (o':=.map es' es'.size) h5;obtain ⟨k1,k2⟩:=hi.setMap (S':=S.up (.mc k 0 (.md (DM xs i y)))) (w':={ w with heap:=w.heap.setIfInBounds (c.mb k) (.map es' es'.size) }) k (DM xs i y) hk rfl
   ⟨rfl,rfl,rfl,Z,λg hg hn=>h8 g hn⟩ (MapAt.of h7 hen rfl)
  exact⟨c,k1,k2,trivial⟩
 unfold Instr.mapUpdate;simp only [Sem.run_bind,run_underlying h1,Result.andThen_ok,MapKept.run_getObj_map h5];rw [show(10000:Nat)=9999+1 from rfl,MapKept.run_checkKey h2 hkey];simp only [Result.andThen_ok];rcases WD i y 0 h6 with⟨j,v,h7,_,h9,h10⟩ | ⟨h7,_,h10⟩
 .rw [MapKept.run_findKey h2 h7];simp only [Result.andThen_ok,AoS];rw [Ao8]at h9;rw [h9];simp only [Apz,Apo,Sem.run_bind,MapKept.run_keyThatStays hkey,Result.andThen_ok,MapKept.run_setObj_map _ h5];have hsz:es.size=(es.modify j λe=>{ e with key:=.int .i64 i,val:=.int .i64 y }).size:=by simp
  refine⟨_,rfl,?_⟩;have:=hgo (es.modify j λe=>{ e with key:=.int .i64 i,val:=.int .i64 y }) (by simpa using h10);rw [<- hsz]at this;exact this
 .rw [MapKept.run_findKey h2 h7];simp only [Result.andThen_ok,MapKept.run_setObj_map _ h5];refine⟨_,rfl,?_⟩;have:=hgo (es.push { key:=.int .i64 i,val:=.int .i64 y,born:=es.size }) (by
   have e:(es.push ({ key:=.int .i64 i,val:=.int .i64 y,born:=es.size }:MapEntry)).toList=es.toList++[{ key:=.int .i64 i,val:=.int .i64 y,born:=0+es.toList.length }]:=by simp
   rw [e];exact h10)
  rw [Array.size_push]at this;exact this
end
end Go.V
namespace Go.V
open Go.RowKit
def P9 (P:Program) (o:Oper) (a:Act) (w:World) (post:Value->World->Prop):Prop:=
 ∀(next:Act->World->Prop) (Q:Exit->Act->World->Prop),(∀v w',post v w'->next (a.put o.dst v) w')->o.wp P a w next Q
section
variable {P:Program} {E:Env} {b:Base} {S:St} {c:Cc} {w:World} {a:Act} {o:Oper} {post:Value->World->Prop}
theorem AD {s:Sem Value} (he:execOp a.eval o=(do pure (.value (<- s)))) (hr:∃v w',s.run P w=.ok v w'/\post v w'):P9 P o a w post:=by
 intro next Q h;obtain ⟨v,w',h1,h2⟩:=hr;unfold Oper.wp;rw [he];simp only [Sem.run_bind,h1,Result.andThen_ok,Sem.run_pure];exact h v w' h2
theorem Ri {s:Sem Unit} (he:execOp a.eval o=(do s;pure .skip)) (hr:∃w',s.run P w=.ok () w'/\post undef w'):P9 P o a w post:=by
 intro next Q h;obtain ⟨w',h1,h2⟩:=hr;unfold Oper.wp;rw [he];simp only [Sem.run_bind,h1,Result.andThen_ok,Sem.run_pure];exact h undef w' h2
theorem Ky {v:Value} (he:execOp a.eval o=pure (.value v)) (hr:post v w):P9 P o a w post:=by
 intro next Q h;unfold Oper.wp;rw [he,Sem.run_pure];exact h v w hr
theorem Ahg (hr:∃v w',(execOp a.eval o).run P w=.ok (.value v) w'/\post v w'):P9 P o a w post:=by
 intro next Q h;obtain ⟨v,w',h1,h2⟩:=hr;unfold Oper.wp;rw [h1];exact h v w' h2
theorem AiL {K:Nat->Prop} {op:BinOp} {x y l:Leaf} {u:Value} (hx:LeafOk S c w K x u) (h:(AaT op x y).ev S=some l):u.oneCell'=true/\u≠.nilIface:=by
 unfold AaT at h;split at h
 .obtain rfl:=B7 hx;exact⟨rfl,Z⟩
 .obtain rfl:=EK hx;exact⟨rfl,Z⟩
 .obtain rfl:=Es hx;exact⟨rfl,Z⟩
 .simp [Tr.ev]at h
theorem RV {N:Nat} {K:Nat->Prop} (hs:Slots N S c w K a):∀(ps:List (Nat×Operand)),All2 (λ(p:Nat×SV) u=>AX S c w K p.2 u) (ps.map λp=>(p.1,Cu S p.2)) (ps.map λp=>a.eval p.2)
 | []=>.nil
 | p::ps=>.cons (AI hs p.2) (RV hs ps)
theorem Xd {S:St} {a:Act}:∀(ps:List (Nat×Operand)),ps.map (λ(p:Nat×Operand)=>(p.1,a.eval p.2))=((ps.map λp=>(p.1,Cu S p.2)).map (·.1)).zip (ps.map λp=>a.eval p.2)
 | []=>rfl
 | p::ps=>by grind
theorem X5 {a:Act} (ps:Array (Nat×Operand)):(ps.map λ(i,x)=>(i,a.eval x))=(ps.toList.map λp=>(p.1,a.eval p.2)).toArray:=by
 grind
theorem Ha {N:Nat} {K:Nat->Prop} (hs:Slots N S c w K a):∀(ps:List Operand),All2 (AX S c w K) (ps.map (Cu S)) (ps.map a.eval)
 | []=>.nil
 | p::ps=>.cons (AI hs p) (Ha hs ps)
theorem G4 {N:Nat} {f:Builtin} {args:Array Operand} {ts:Array TypeId} {dst:Option Tmp} {ty:TypeId} {pos:String} {aft:Array Edge} {gd:Option (Nat×Bool)} {s:Sem Value} (_:Slots N S c w (Kok b S c) a)
  (he:∀consts,builtin f ts ty consts (args.map a.eval)=(do pure (.value (<- s)))) (hr:∃v w',s.run P w=.ok v w'/\post v w'):P9 P ⟨dst,.call ⟨.builtin f,args,ts⟩,ty,pos,aft,gd⟩ a w post:=by
 intro next Q h;obtain ⟨v,w',h1,h2⟩:=hr;unfold Oper.wp;simp only [execOp,resolve,Sem.run_bind,Sem.run_pure,Result.andThen_ok,invoke,he,h1];exact h v w' h2
theorem AcE {K:Nat->Prop}:∀{xs:List SV} {vs:List Value} {l:List (Nat×Nat)},All2 (AX S c w K) xs vs->Uv xs=some l->All2 (Wh S c) l vs
 | [],_,l,.nil,h=>by
  simp only [Uv,AoD]at h;subst h;exact .nil
 | x::xs,_,l,.cons (b:=v) (bs:=vs) h1 h2,h=>by
  unfold Uv at h;split at h
  .grind
  .rename_i k off xs' e;injection e with e1 e2
   subst e1 e2;split at h
   .rename_i l' hl';simp only [AoD]at h;subst h;exact .cons h1 (AcE h2 hl')
   .cases h
  .cases h
theorem Ak5 (hi:Inv b S w c) {x l:Leaf} {v:Value} (hx:LeafOk S c w (Kok b S c) x v) (h:(Ah8 x).ev S=some l) :
  ∃A n cap,v=.slice A n cap/\LeafOk S c w (Kok b S c) l (.bool A.isNone):=by
 unfold Ah8 at h;split at h
 .simp only [Tr.ev,AoD]at h;subst h;exact⟨none,0,0,hx,Cv⟩
 .rename_i o e r xs;simp only [Tr.ev,AoD]at h;subst h;have hd:(LU (.v (.sl o e r) xs)).ev S=some ⟨e,r,xs⟩:=by rfl
  obtain ⟨A,cap,ws,F',rfl,hr,hz⟩:=HG hi hx hd;refine⟨A,_,cap,rfl,_,rfl,λhA=>?_⟩
  grind
 .rename_i k st win;simp only [Ak,AoG,Tr.ev,AoD]at h;obtain ⟨o,ho,rfl⟩:=h;obtain ⟨A,cap,ws,F',rfl,hr,hz⟩:=HG hi hx (show(LU (.vw k st win)).ev S=some o from ho);refine⟨A,_,cap,rfl,_,rfl,λhA=>?_⟩
  grind
 .simp [Tr.ev]at h
theorem AkP (hT:TabOk P E.ti) {N:Nat} (hi:Inv b S w c) (hs:Slots N S c w (Kok b S c) a) (o:Oper) {d:Nat} (hdn:d < b.n1) {out:Out}
  (hcall:∀fo f cs args ts out,o.op=.call ⟨.value fo,args,ts⟩->Cu S fo=.s (.fv f cs)->args.size=ts.size->(YO E d f cs ((args.toList.map (Cu S)).zip ts.toList)).ev S=some out->P9 P o a w λv w'=>Did b S c w out v w')
  (hen:∀s p,Ze E.en s=some p->(Instr.entry (a.eval (.tmp s))).run P w=.ok (.tuple #[.int .i64 p.1,.int .i64 p.2]) w)
  (h:(Km E (Cu S) d o.op).ev S=some out):P9 P o a w λv w'=>Did b S c w out v w':=by
 obtain ⟨dst,op,ty,pos,aft,gd⟩:=o;simp only at h hcall;unfold Km at h;split at h
 .rename_i x;split at h
  .simp [Tr.ev]at h
  .simp [Tr.ev]at h
  .simp only [Tr.ev,AoD]at h;subst h;exact Ky rfl (Did.same hi (AI hs x))
 .rename_i x;split at h
  .simp [Tr.ev]at h
  .simp [Tr.ev]at h
  .simp only [Tr.ev,AoD]at h;subst h;exact Ky rfl (Did.same hi (AI hs x))
 .rename_i cc x y;split at h
  .rename_i cb hc;have hb:a.eval cc=.bool cb:=by
    have:=AI hs cc;rw [hc]at this;exact EK (AY this)
   simp only [Tr.ev]at h;refine Ahg ⟨if cb then a.eval x else a.eval y,w,?_,?_⟩
   .simp [execOp,hb,asBool]
   .split at h
    .rename_i hcb;rw [AoJ hcb];split at h
     .simp [Tr.ev]at h
     .simp [Tr.ev]at h
     .simp only [Tr.ev,AoD]at h;subst h;exact Did.same hi (AI hs x)
    .rename_i hcb;rw [AoH hcb];split at h
     .simp [Tr.ev]at h
     .simp [Tr.ev]at h
     .simp only [Tr.ev,AoD]at h;subst h;exact Did.same hi (AI hs y)
  .simp [Tr.ev]at h
 .rename_i t;split at h
  .rename_i ts ht;split at h
   .simp [Tr.ev]at h
   .rename_i hne;simp only [Tr.ev,AoD]at h;subst h;exact AD rfl (Aiq hT hi ht (by grind) d hdn)
  .simp [Tr.ev]at h
 .rename_i t x;split at h
  .rename_i ts ls ht hl;split at h
   .rename_i hln;simp only [Tr.ev,AoD]at h;subst h;exact AD rfl (Amc hi (AI hs x) hl (by grind) d hdn)
   .simp [Tr.ev]at h
  .simp [Tr.ev]at h
 .rename_i t ps;split at h
  .rename_i fs row eq ht;split at h
   .rename_i ls hl;simp only [Tr.ev,AoD]at h;subst h;obtain ⟨u,h1,h2⟩:=Aik (P:=P) hT hi ht (RV hs ps.toList) (Xd ps.toList) hl;rw [<- X5]at h1;exact AD rfl ⟨u,w,h1,Did.same hi h2⟩
   .simp [Tr.ev]at h
  .simp [Tr.ev]at h
 .rename_i t len ps;obtain ⟨u,w',h1,h2⟩:=Yf (P:=P) hT hi (RV hs ps.toList) (Xd ps.toList) h;rw [<- X5]at h1;exact AD rfl ⟨u,w',h1,h2⟩
 .rename_i t x;split at h
  .rename_i a1 ts hx ht;split at h
   .simp [Tr.ev]at h
   .rename_i hne;simp only [Ak,AoG]at h;obtain ⟨r,hr,h⟩:=h;simp only [Tr.ev,AoD]at h;subst h;have hv:=AI hs x;rw [hx]at hv;have hpos:0 < ts.length:=by
     grind
    obtain ⟨u,h1,h2⟩:=AdO (P:=P) hT hi hv ht hr hpos;exact AD rfl ⟨u,w,h1,Did.same hi h2⟩
  .simp [Tr.ev]at h
 .rename_i t p x;split at h
  .rename_i a1 ts ls hx ht hl;split at h
   .rename_i hn;simp only [Ak,AoG,Tr.ev,AoD]at h;obtain ⟨r,hr,h⟩:=h;subst h;have hv:=AI hs p;rw [hx]at hv
    match a1,hv,hr with
    | .pl k off,hv,hr=>exact Ri rfl (AjS hT hi hv ht (AI hs x) hl hn hr)
    | .el k st,hv,hr=>exact Ri rfl (Aj6 hT hi hv ht (AI hs x) hl hn hr)
    | .one _,_,hr=>simp [HJ,Tr.ev]at hr
    | .ag _,_,hr=>simp [HJ,Tr.ev]at hr
    | .rp _ _ _,_,hr=>simp [HJ,Tr.ev]at hr
    | .fv _ _,_,hr=>simp [HJ,Tr.ev]at hr
   .simp [Tr.ev]at h
  .simp [Tr.ev]at h
 .rename_i x;have hx:=AI hs x;split at h
  all_goals first
   | (simp [Tr.ev]at h;done)
   | skip
  .rename_i k off he;simp only [Tr.ev,AoD]at h;subst h;rw [he]at hx;have hx':=hx;obtain ⟨m,hm,hv⟩:=hx';refine Ky (v:=a.eval x) ?_ (Did.same hi hx);simp only [execOp,hv]
  .rename_i k st he;simp only [Tr.ev,AoD]at h;subst h;rw [he]at hx;have hx':=hx;obtain ⟨o0,ad,ho,had,hv,_⟩:=hx';refine Ky (v:=a.eval x) ?_ (Did.same hi hx);simp only [execOp,hv]
  .rename_i u y off he;simp only [Tr.ev,AoD]at h;subst h;rw [he]at hx;have hx':=hx;obtain ⟨ad,vs,hv,_⟩:=hx';refine Ky (v:=a.eval x) ?_ (Did.same hi hx);simp only [execOp,hv]
  .rename_i u o' he;cases o' with
   | none=>simp [Tr.ev]at h
   | some y=>
    simp only [Tr.ev,AoC,AoD]at h;subst h;rw [he]at hx;have hp:=Ajy (AY hx);have hp':=hp;obtain ⟨ad,vs,hv,_⟩:=hp';refine Ky (v:=a.eval x) ?_ (Did.same hi (x:=.s (.rp u y 0)) hp);simp only [execOp,hv]
 .rename_i op t x y z;split at h
  .rename_i l1 hx hy;split at h
   .split at h
    .rename_i hsl;simp only [Ak,AoG,Tr.ev,AoD]at h;obtain ⟨l,hl,h⟩:=h;subst h;have h1:=AI hs x;have h2:=AI hs y;rw [hx]at h1;rw [hy]at h2;obtain ⟨A,n,cap,hv,hlf⟩:=Ak5 hi (AY h1) hl;have hy0:a.eval y=.slice none 0 0:=h2;obtain ⟨e,_,hu,_⟩:=K9 hT hsl;refine AD rfl ⟨.bool A.isNone,w,?_,Did.same hi (CZ hlf)⟩;rw [hv,hy0,XN .eql t x y rfl Z];simp only [Sem.run_bind,Sem.run_pure,Result.andThen_ok];exact Lib.run_eql_slice_nil w t e A n cap 0 0 hu
    .simp [Tr.ev]at h
   .simp [Tr.ev]at h
  .rename_i e e2 hx hy;have h1:=AI hs x;rw [hx]at h1;have hE:=Aj7 (AY h1);split at h
   .rename_i ht;simp only [Tr.ev,AoD]at h;subst h;refine AD rfl ⟨.bool e,w,?_,Did.same hi (CZ Cv)⟩;obtain ⟨ms,hu⟩:=AgA hT ht;exact Ak2 t x hE hu
   .simp [Tr.ev]at h
  .rename_i l1 l2 _ _ hx hy;split at h
   .rename_i hb;simp only [Ak,AoG,Tr.ev,AoD]at h;obtain ⟨l,hl,h⟩:=h;subst h;have h1:=AI hs x;have h2:=AI hs y;rw [hx]at h1;rw [hy]at h2;obtain ⟨r,h3,h4⟩:=AjR (P:=P) op t l1 l2 _ _ l (AY h1) (AY h2) hl (λq hq=>by
     subst hq;cases ht:E.ti t with
     | cell u=>
      cases u with
      | bool=>exact Ahj hT ht
      | _=>rw [ht]at hb;simp [Abm]at hb
     | _=>rw [ht]at hb;simp [Abm]at hb)
    obtain ⟨g1,g2⟩:=AiL (AY h1) hl;refine AD rfl ⟨r,w,?_,Did.same hi (CZ h4)⟩;rw [XN op t x y g1 g2]
    grind
   .simp [Tr.ev]at h
  .rename_i xs ys hx hy;have h1:=AI hs x;have h2:=AI hs y;rw [hx]at h1;rw [hy]at h2;obtain ⟨us,e1,k1⟩:=h1;obtain ⟨vs,e2,k2⟩:=h2;split at h
   .rename_i fs row ht;obtain ⟨fields,f1,f2,f3,_⟩:=hT.struct ht;obtain ⟨f4,f5,f6,f7⟩:=f3 rfl;have hfo:P.fieldsOf t=fields:=by simp [Program.fieldsOf,f1]
    split at h
    .rename_i r hr;simp only [Tr.ev,AoD]at h;subst h;have:=Adi (w:=w) t us vs fields f1 f6 (Uk (w:=w) row fields.toList fs 0 xs ys us vs [] [] f4 f2 f5 rfl rfl k1 k2 hr);refine AD rfl ⟨.bool r,w,?_,Did.same hi (CZ Cv)⟩;rw [e1,e2];simp only [Sem.run_bind,run_eqGuard_agg w _ _ _ _ _ _ f7,Result.andThen_ok,this.1]
    .rename_i r hr;simp only [Tr.ev,AoD]at h;subst h;have:=Adi (w:=w) t us vs fields f1 f6 (Uk (w:=w) row fields.toList fs 0 xs ys us vs [] [] f4 f2 f5 rfl rfl k1 k2 hr);refine AD rfl ⟨.bool (!r),w,?_,Did.same hi (CZ Cv)⟩;rw [e1,e2];simp only [Sem.run_bind,run_eqGuard_agg w _ _ _ _ _ _ f7,Result.andThen_ok,this.2]
    .simp [Tr.ev]at h
   .simp [Tr.ev]at h
  .simp [Tr.ev]at h
 .rename_i op t x;split at h
  .rename_i l1 hx;simp only [Ak,AoG,Tr.ev,AoD]at h;obtain ⟨l,hl,h⟩:=h;subst h;have h1:=AI hs x;rw [hx]at h1;obtain ⟨r,h3,h4⟩:=Ams (P:=P) op l1 _ l (AY h1) hl;exact AD rfl ⟨r,w,h3,Did.same hi (CZ h4)⟩
  .simp [Tr.ev]at h
 .rename_i s t x;split at h
  .rename_i l1 hx;have h1:=AI hs x;rw [hx]at h1;exact AD rfl (AkC hT hi (AY h1) h)
  .simp [Tr.ev]at h
 .rename_i t l m;exact AD rfl (AaJ hT hi (AI hs l) (AI hs m) h)
 .rename_i t x lo hi' mx;split at h
  .rename_i l1 hx;simp only [Ak,AoG,Tr.ev,AoD]at h;obtain ⟨r,hr,h⟩:=h;subst h;have h1:=AI hs x;rw [hx]at h1;obtain ⟨u,h2,h3⟩:=Ajh (P:=P) hT hi hs (AY h1) hr;exact AD rfl ⟨u,w,h2,Did.same hi h3⟩
  .simp [Tr.ev]at h
 .rename_i t x f;split at h
  .rename_i fs row eq ht;have h1:=AI hs x;split at h
   all_goals first
    | (simp [Tr.ev]at h;done)
    | skip
   .rename_i hf hx;simp only [Tr.ev,AoD]at h;subst h;rw [hx]at h1;obtain ⟨u,h2,h3⟩:=MI (P:=P) hT ht hf h1 (.inl ⟨_,_,rfl,rfl⟩);exact AD rfl ⟨u,w,h2,Did.same hi h3⟩
   .rename_i hf hx;simp only [Tr.ev,AoD]at h;subst h;rw [hx]at h1;obtain ⟨u,h2,h3⟩:=MI (P:=P) hT ht hf h1 (.inr (.inl ⟨_,_,rfl,rfl⟩));exact AD rfl ⟨u,w,h2,Did.same hi h3⟩
   .rename_i hf hx;simp only [Tr.ev,AoD]at h;subst h;rw [hx]at h1;obtain ⟨u,h2,h3⟩:=MI (P:=P) hT ht hf h1 (.inr (.inr ⟨_,_,_,rfl,rfl⟩));exact AD rfl ⟨u,w,h2,Did.same hi h3⟩
  .simp [Tr.ev]at h
 .rename_i t x f;split at h
  .rename_i fs row eq ls ht hx;have h1:=AI hs x;rw [hx]at h1;split at h
   .rename_i o n hf;simp only [Tr.ev,AoD]at h;subst h;obtain ⟨u,h2,h3⟩:=Z2 (P:=P) (w:=w) hT ht hf h1 (r:=.s (.ag ((ls.drop o).take n))) Z;exact AD rfl ⟨u,w,h2,Did.same hi h3⟩
   .rename_i o n hf;split at h
    .rename_i l hl;simp only [Tr.ev,AoD]at h;subst h;obtain ⟨u,h2,h3⟩:=Z2 (P:=P) (w:=w) hT ht hf h1 (r:=.s (GR l)) (by simp [hl]);exact AD rfl ⟨u,w,h2,Did.same hi h3⟩
    .simp [Tr.ev]at h
   .simp [Tr.ev]at h
  .simp [Tr.ev]at h
 .rename_i t x i;split at h
  .rename_i l1 k n hx hn;simp only [Ak,AoG,Tr.ev,AoD]at h;obtain ⟨r,hr,h⟩:=h;subst h;have h1:=AI hs x;have h2:=AI hs i;rw [hx]at h1;rw [hn]at h2;obtain ⟨u,h3,h4⟩:=T9 (P:=P) (k:=k) hT hi (AY h1) hr;refine AD (s:=Instr.indexAt t (a.eval x) (a.eval i)) rfl ⟨u,w,?_,Did.same hi h4⟩;rw [B7 (AY h2)];exact h3
  .simp [Tr.ev]at h
 .rename_i t x i;split at h
  .rename_i s k n hx hn
   replace h:=BN h
   obtain ⟨c1,h⟩:=h
   replace h:=BN h
   obtain ⟨c2,h⟩:=h;simp only [decide_eq_true_eq]at c2;simp only [Tr.ev,AoG,AoD]at h;obtain ⟨u,hu,h⟩:=h;subst h;have h1:=AI hs x;have h2:=AI hs i;rw [hx]at h1;rw [hn]at h2;obtain ⟨h3,h4⟩:=AgK (P:=P) (S:=S) (c:=c) (w:=w) (K:=Kok b S c) (k:=k) (NJ hT c1) c2 hu;refine AD (s:=Instr.index t (a.eval x) (a.eval i)) rfl ⟨_,w,?_,Did.same hi h4⟩;rw [B7 (AY h2),Es (AY h1)];exact h3
  .simp [Tr.ev]at h
 .rename_i x i;split at h
  .rename_i xs hx;split at h
   .rename_i y hy;simp only [Tr.ev,AoD]at h;subst h;have h1:=AI hs x;rw [hx]at h1;obtain ⟨vs,hv,hall⟩:=h1;obtain ⟨u,hu,h2⟩:=hall.get hy;refine AD (s:=Instr.extract (a.eval x) i) rfl ⟨u,w,?_,Did.same hi h2⟩;rw [hv];simp [Instr.extract,hu]
   .simp [Tr.ev]at h
  .simp [Tr.ev]at h
 .rename_i as ts;split at h
  .rename_i x t has hts;simp only [Ak,AoG,Tr.ev,AoD]at h;obtain ⟨n,hn,h⟩:=h;subst h;have hall:=Ha hs as.toList;rw [has]at hall;generalize hus:as.toList.map a.eval=us at hall;cases hall with
   | cons h1 h2=>
    cases h2;rename_i u;have ha:as.map a.eval = #[u]:=by grind
    have ht:ts = #[t]:=by grind
    subst ht;refine G4 hs (s:=Builtin.len_ #[t] ty (as.map a.eval)) (λ_=>rfl) ⟨goInt n,w,?_,Did.same hi (CZ Db)⟩;rw [ha];rcases AmA hi (AY h1) hn with⟨s,rfl,hsz,hst⟩ | ⟨hsl,A,cap,rfl⟩
    .rw [run_len_string w t ty s (NJ hT hst),hsz]
    .obtain ⟨e,ie,hu,_⟩:=K9 hT hsl;simp [Builtin.len_,run_underlying hu]
  .simp [Tr.ev]at h
 .rename_i as ts;split at h
  .rename_i x y t t2 has hts;have hall:=Ha hs as.toList;rw [has]at hall;generalize hus:as.toList.map a.eval=us at hall;cases hall with
   | cons h1 h2=>
    cases h2 with
    | cons h2 h3=>
     cases h3;rename_i u v;have ha:as.map a.eval = #[u,v]:=by grind
     have ht:ts = #[t,t2]:=by grind
     subst ht;refine G4 hs (s:=Builtin.append_ #[t,t2] ty (as.map a.eval)) (λ_=>rfl) ?_;rw [ha];exact Aky hT hi (AY h1) (AY h2) h
  .simp [Tr.ev]at h
 .rename_i as ts;split at h
  .rename_i x y t t2 has hts;have hall:=Ha hs as.toList;rw [has]at hall;generalize hus:as.toList.map a.eval=us at hall;cases hall with
   | cons h1 h2=>
    cases h2 with
    | cons h2 h3=>
     cases h3;rename_i u v;have ha:as.map a.eval = #[u,v]:=by grind
     have ht:ts = #[t,t2]:=by grind
     subst ht;refine G4 hs (s:=Builtin.copy_ #[t,t2] ty (as.map a.eval)) (λ_=>rfl) ?_;rw [ha];exact Akb hT hi (AY h1) (AY h2) h
  .simp [Tr.ev]at h
 .rename_i as ts;simp only [Ak,AoG,Tr.ev,AoD]at h;obtain ⟨r,hr,h⟩:=h;subst h;have ha:as.map a.eval=(as.toList.map a.eval).toArray:=by grind
  rcases Xi (P:=P) (w:=w) ts ty (Ha hs as.toList) hr with⟨_,u,h1,h2⟩ | ⟨h0,_⟩
  .refine G4 hs (s:=Builtin.min_ ts ty (as.map a.eval)) (λ_=>rfl) ⟨u,w,?_,Did.same hi h2⟩
   grind
  .cases h0
 .rename_i as ts;simp only [Ak,AoG,Tr.ev,AoD]at h;obtain ⟨r,hr,h⟩:=h;subst h;have ha:as.map a.eval=(as.toList.map a.eval).toArray:=by grind
  rcases Xi (P:=P) (w:=w) ts ty (Ha hs as.toList) hr with⟨h0,_⟩ | ⟨_,u,h1,h2⟩
  .cases h0
  .refine G4 hs (s:=Builtin.max_ ts ty (as.map a.eval)) (λ_=>rfl) ⟨u,w,?_,Did.same hi h2⟩
   grind
 .rename_i fo as ts;split at h
  .rename_i f cs hfo;split at h
   .grind
   .simp [Tr.ev]at h
  .simp [Tr.ev]at h
 .rename_i t;split at h
  .simp only [Tr.ev,AoD]at h;subst h;exact AD rfl (Aef hi t d hdn)
  .simp [Tr.ev]at h
 .rename_i t x i;split at h
  .rename_i n hn;obtain ⟨ht,k,xs,h1,h2,h3,h4⟩:=AcZ hi (AI hs x) h;simp only [Tr.ev,AoD]at h4;subst h4;have hiv:a.eval i=.int .i64 n:=by
    have:=AI hs i;rw [hn]at this;exact B7 (AY this)
   refine AD rfl ⟨_,w,?_,Did.same hi (v:=.int .i64 (C3 xs n)) ?_⟩
   .rw [h2,hiv];exact Ahe hT hi ht h3 n
   .exact(show LeafOk S c w (Kok b S c) (.v (.int .i64) (C3 xs n)) (.int .i64 (C3 xs n)) from⟨rfl,rfl⟩)
  .simp [Tr.ev]at h
 .rename_i t x i y;split at h
  .rename_i n m hn hm;obtain ⟨ht,k,xs,h1,h2,h3,h4⟩:=AcZ hi (AI hs x) h;simp only [Tr.ev,AoD]at h4;subst h4;have hiv:a.eval i=.int .i64 n:=by
    have:=AI hs i;rw [hn]at this;exact B7 (AY this)
   have hyv:a.eval y=.int .i64 m:=by
    have:=AI hs y;rw [hm]at this;exact B7 (AY this)
   refine Ri rfl ?_;rw [h2,hiv,hyv];exact Y5 hT hi ht h1 h3 n m
  .simp [Tr.ev]at h
 .rename_i s;split at h
  .rename_i p hp;simp only [Tr.ev,AoD]at h;subst h;exact AD rfl ⟨_,w,hen s p hp,Did.same hi (c:=c) (x:=.tu [.one (.v (.int .i64) p.1),.one (.v (.int .i64) p.2)]) ⟨[.int .i64 p.1,.int .i64 p.2],rfl,.cons ⟨rfl,rfl⟩ (.cons ⟨rfl,rfl⟩ .nil)⟩⟩
  .simp [Tr.ev]at h
 .rename_i f first cs
  split at h
  .rename_i hf;split at h
   .rename_i l hl;simp only [Tr.ev,AoD]at h;subst h;have hfirst:first = #[]:=by grind
    subst hfirst;refine AD rfl ⟨_,w,rfl,Did.same hi ?_⟩;refine⟨cs.toList.map a.eval,by congr 1 <;> (apply Array.ext';simp),?_⟩;have hall:=Ha hs cs.toList;revert hl hall;generalize cs.toList.map (Cu S)=xs;generalize cs.toList.map a.eval=vs;intro hl hall;exact AcE hall hl
   .simp [Tr.ev]at h
  .simp [Tr.ev]at h
 .simp [Tr.ev]at h
end
end Go.V
namespace Go.V
open Go.RowKit
def FL {α β:Type} (p:α->β->List Nat->Prop):List α->List β->List Nat->Prop
 | [],vs,F=>vs=[]/\F=[]
 | x::xs,vs,F=>∃v vs' F1 F2,vs=v::vs'/\F=F1++F2/\p x v F1/\FL p xs vs' F2
section
variable {α β:Type} {p q:α->β->List Nat->Prop}
theorem FL.mono (h:∀x v F,p x v F->q x v F):∀{xs:List α} {vs:List β} {F},FL p xs vs F->FL q xs vs F
 | [],_,_,hx=>hx
 | _::_,_,_,⟨v,vs',F1,F2,e1,e2,h1,h2⟩=>⟨v,vs',F1,F2,e1,e2,h _ _ _ h1,FL.mono h h2⟩
theorem FL.mono':∀{xs:List α} {vs:List β} {F},(∀x∈xs,∀v F',(∀g,g∈F'->g∈F)->p x v F'->q x v F')->FL p xs vs F->FL q xs vs F
 | [],_,_,_,hx=>hx
 | _::_,_,_,h,⟨v,vs',F1,F2,e1,e2,h1,h2⟩=>by
  subst e2;exact⟨v,vs',F1,F2,e1,rfl,h _ Z _ _ (λg hg=>by simp [hg]) h1,FL.mono' (λx hx v F hF=>h x (by simp [hx]) v F λg hg=>by grind) h2⟩
theorem FL.len:∀{xs:List α} {vs:List β} {F},FL p xs vs F->vs.length=xs.length
 | [],_,_,⟨e,_⟩=>by subst e;rfl
 | _::_,_,_,⟨v,vs',F1,F2,e1,_,_,h2⟩=>by subst e1;simp [FL.len h2]
theorem FL.append:∀{xs ys:List α} {vs ws:List β} {F G},FL p xs vs F->FL p ys ws G->FL p (xs++ys) (vs++ws) (F++G)
 | [],_,_,_,_,_,⟨e1,e2⟩,h=>by grind
 | _::_,_,_,_,_,_,⟨v,vs',F1,F2,e1,e2,h1,h2⟩,h=>by
  subst e1 e2;exact⟨v,_,F1,_,rfl,AoN ..,h1,FL.append h2 h⟩
theorem FL.snoc {xs:List α} {vs:List β} {F G:List Nat} {x:α} {v:β} (h:FL p xs vs F) (hx:p x v G):FL p (xs++[x]) (vs++[v]) (F++G):=
 h.append ⟨v,[],G,[],rfl,Z,hx,rfl,rfl⟩
end
def Ty.own:Ty->Bool
 | .sl true _ _=>true
 | _=>false
def ALOk (w:World) (K:Nat->Prop) (l:Ae) (v:Value) (F:List Nat):Prop:=Rp w K l.1 l.2 [v] F/\(l.1.own=false->F=[])
def A1Ok (w:World) (K:Nat->Prop) (ms:List (Nat×Nat)):A1->Value->List Nat->Prop
 | .one l,v,F=>ALOk w K l v F
 | .ag ls,v,F=>∃vs:List Value,v=.agg vs.toArray/\FL (ALOk w K) ls vs F
 | .pl m off,v,F=>F=[]/\∃g,ms[m]?=some g/\v=.pointer (some ⟨g.1,g.2+off,none⟩)
 | .rp t x off,v,F=>F=[]/\∃(a:Addr) (vs:List Value),v=.pointer (some (a.add off))/\Rp w K t x vs []/\K a.block/\a.block < w.heap.size/\∀j,j < vs.length->w.cell? (a.add j)=vs[j]?
 | .fv f cs,v,F=>F=[]/\∃vs:List Value,v=.func (.func f) #[] vs.toArray/\All2 (λp v=>∃g,ms[p.1]?=some g/\v=.pointer (some ⟨g.1,g.2+p.2,none⟩)) cs vs
def ROk (w:World) (K:Nat->Prop) (ms:List (Nat×Nat)) (l:Ae) (v:Value) (F:List Nat):Prop:=
 ALOk w K l v F\/((F=[]/\∃(p g:Nat×Nat),l=⟨.lp,p⟩/\ms[p.1]?=some g/\v=.pointer (some ⟨g.1,g.2+p.2,none⟩))\/
  (F=[]/\∃(m:Nat) (g:Nat×Nat),l=⟨.mh,m+1⟩/\ms[m]?=some g/\v=.map (some g.1)/\∃es n,w.heap[g.1]?=some (.map es n)))
def RowOk (w:World) (K:Nat->Prop) (ms:List (Nat×Nat)) (g:Nat×Nat) (r:List Ae) (F:List Nat):Prop:=
 (∃cs e fr,w.heap[g.1]?=some (.cells cs e fr)/\NF fr cs.size/\g.2+r.length<=cs.size/\FL (ROk w K ms) r ((cs.toList.drop g.2).take r.length) F)\/
 ∃xs:List (Int×Int),r=[⟨.mp,xs⟩]/\MapAt w g.1 xs/\F=[]
def RowsOk (w:World) (K:Nat->Prop) (ms:List (Nat×Nat)):List (Nat×Nat)->List (List Ae)->List Nat->Prop
 | [],rs,F=>rs=[]/\F=[]
 | g::gs,rs,F=>∃r rs' F1 F2,rs=r::rs'/\F=F1++F2/\RowOk w K ms g r F1/\RowsOk w K ms gs rs' F2
def RestOk (w w':World) (ms:List (Nat×Nat)) (rows:List (List Ae)):Prop:=
 (∀(m:Nat) (g:Nat×Nat) (es:Array MapEntry) (n:Nat),ms[m]?=some g->w.heap[g.1]?=some (.map es n)->∃es' n',w'.heap[g.1]?=some (.map es' n'))/\
 ∀(m:Nat) (g:Nat×Nat) (row:List Ae) (cs:Array Value) (e:TypeId) (fr:Nat×Nat),ms[m]?=some g->rows[m]?=some row->w.heap[g.1]?=some (.cells cs e fr)->∃cs',w'.heap[g.1]?=some (.cells cs' e fr)/\cs'.size=cs.size/\∀i,(i < g.2\/g.2+row.length<=i)->cs'[i]?=cs[i]?
def WE:List Value->Value
 | [v]=>v
 | vs=>.tuple vs.toArray
def Fe (vals:List Value) (p:Nat×Nat):Option Value:=match vals[p.1]? with
 | some (.agg vs)=>vs[p.2]?
 | some v=>if p.2=0 then some v else none
 | none=>none
def LentOk (w:World) (K:Nat->Prop) (vals:List Value):List ((Nat×Nat)×Ae)->List Nat->Prop
 | [],F=>F=[]
 | p::l,F=>∃v F1 F2,F=F1++F2/\Fe vals p.1=some v/\ALOk w K p.2 v F1/\LentOk w K vals l F2
def IY (w:World) (Ro:Nat->Prop) (ms:List (Nat×Nat)) (F:List Nat) (vals:List Value) (r:Res) (v:Value) (w':World):Prop:=
 ∃(vs:List Value) (F1 F2 F3:List Nat),v=WE vs/\FL (A1Ok w' (λg=>(Ro g\/w.heap.size<=g\/g∈F)/\g∉ms.map (·.1)++(F1++(F2++F3))) ms) r.val vs F1/\RowsOk w' (λg=>(Ro g\/w.heap.size<=g\/g∈F)/\g∉ms.map (·.1)++(F1++(F2++F3))) ms ms r.rows F2/\
  LentOk w' (λg=>(Ro g\/w.heap.size<=g\/g∈F)/\g∉ms.map (·.1)++(F1++(F2++F3))) vals r.lent F3/\
  (ms.map (·.1)++(F1++(F2++F3))).Nodup/\(∀g,g∈F1++(F2++F3)->g < w'.heap.size/\(g∈F\/w.heap.size<=g))/\Step w w' (λg=>g∈ms.map (·.1)++F)/\RestOk w w' ms r.rows
theorem RestOk.nil {w w':World} {rows:List (List Ae)}:RestOk w w' [] rows:=⟨λ_ _ _ _ h=>by simp at h,λ_ _ _ _ _ _ h=>by simp at h⟩
def B6 (P:Program) (f:FuncId) (as:List A1) (rows:List (List Ae)) (r:Res):Prop:=
 (∃ fn, P.funcs[f]? = some fn ∧ (fn.name == "runtime.NumGoroutine") = false ∧ fn.body.isNone = false) ∧
 ∀(w:World) (vals:List Value) (Ro:Nat->Prop) (ms:List (Nat×Nat)) (F1 F2:List Nat),FL (A1Ok w Ro ms) as vals F1->RowsOk w Ro ms ms rows F2->(ms.map (·.1)++(F1++F2)).Nodup->(∀g,g∈ms.map (·.1)++(F1++F2)->g < w.heap.size/\¬ Ro g)->(GlF w/\∀g,glo g->Ro g)->
  Calls P f vals.toArray w λout w'=>∃v,out=.returned v/\IY w Ro ms (F1++F2) vals r v w'
structure EnvOk (P:Program) (E:Env):Prop where
 ti:TabOk P E.ti
 mix:P.follows .mixedOrders=true
 ca:∀f as rows S r,(E.ca f as rows).ev S=some r->B6 P f as rows r
theorem Rp.mono {w:World} {K K':Nat->Prop} (hK:∀g,g < w.heap.size->K g->K' g) (t:Ty) (x:t.D) {vs F} (h:Rp w K t x vs F):Rp w K' t x vs F:=
 Rp.frame ⟨Ao4 _,λg hg hlt=>⟨rfl,hK g hlt hg⟩⟩ t x h λ_ _=>rfl
theorem Rp.noRo {w:World} {K K':Nat->Prop}:∀(t:Ty) (x:t.D) {vs F},t.hasRo=false->Rp w K t x vs F->Rp w K' t x vs F
 | .int _,_,_,_,_,h=>by assumption
 | .bool,_,_,_,_,h=>by assumption
 | .er,_,_,_,_,h=>by assumption
 | .lp,_,_,_,_,h=>by assumption
 | .mh,_,_,_,_,h=>by assumption
 | .mp,_,_,_,_,h=>by assumption
 | .str,_,_,_,_,h=>by assumption
 | .unit,_,_,_,_,h=>by assumption
 | .pair a b,x,_,_,hr,h=>by
  simp only [Ty.hasRo,Bool.or_eq_false_iff]at hr;simp only [Rp]at h ⊢;obtain ⟨v1,v2,F1,F2,rfl,rfl,h1,h2⟩:=h;exact⟨v1,v2,F1,F2,rfl,rfl,Rp.noRo a _ hr.1 h1,Rp.noRo b _ hr.2 h2⟩
 | .sl true _ r,xs,_,_,hr,h=>by
  simp only [Ty.hasRo,Apv,ApR]at hr;simp only [Rp]at h ⊢;rcases h with h | ⟨g,off,c,cs,fr,F',rfl,rfl,hh,hn,hc,hl,hx⟩
  .exact .inl h
  .exact .inr ⟨g,off,c,cs,fr,F',rfl,rfl,hh,hn,hc,hl,RpL.mono (λx vs F h=>Rp.noRo r x hr h) hx⟩
 | .sl false _ _,_,_,_,hr,_=>by simp [Ty.hasRo]at hr
 | .pt _,_,_,_,hr,_=>by simp [Ty.hasRo]at hr
theorem ALOk.mono {w:World} {K K':Nat->Prop} (hK:∀g,g < w.heap.size->K g->K' g) {l:Ae} {v F} (h:ALOk w K l v F):ALOk w K' l v F:=⟨Rp.mono hK _ _ h.1,h.2⟩
theorem A1Ok.mono {w:World} {K K':Nat->Prop} (hK:∀g,g < w.heap.size->K g->K' g) {ms:List (Nat×Nat)} {a:A1} {v F} (h:A1Ok w K ms a v F):A1Ok w K' ms a v F:=by
 cases a with
 | one l=>exact ALOk.mono hK h
 | ag ls=>obtain ⟨vs,e,h⟩:=h;exact⟨vs,e,h.mono λx v F h=>ALOk.mono hK h⟩
 | pl m off=>exact h
 | rp t x off=>
  obtain ⟨e,a,vs,h1,h2,h3,h4,h5⟩:=h;exact⟨e,a,vs,h1,Rp.mono hK _ _ h2,hK _ h4 h3,h4,h5⟩
 | fv f cs=>exact h
theorem ROk.mono {w:World} {K K':Nat->Prop} (hK:∀g,g < w.heap.size->K g->K' g) {ms:List (Nat×Nat)} {l:Ae} {v F} (h:ROk w K ms l v F):ROk w K' ms l v F:=h.imp (ALOk.mono hK) id
theorem RowOk.mono {w:World} {K K':Nat->Prop} (hK:∀g,g < w.heap.size->K g->K' g) {mk:List (Nat×Nat)} {g:Nat×Nat} {r F} (h:RowOk w K mk g r F):RowOk w K' mk g r F:=
 h.imp (λ⟨cs,e,fr,h1,h2,h3,h4⟩=>⟨cs,e,fr,h1,h2,h3,h4.mono λ_ _ _ h=>ROk.mono hK h⟩) id
theorem RowsOk.mono {w:World} {K K':Nat->Prop} (hK:∀g,g < w.heap.size->K g->K' g) {mk:List (Nat×Nat)}:∀{ms:List (Nat×Nat)} {rs F},RowsOk w K mk ms rs F->RowsOk w K' mk ms rs F
 | [],_,_,h=>h
 | _::_,_,_,⟨r,rs',F1,F2,e1,e2,h1,h2⟩=>⟨r,rs',F1,F2,e1,e2,h1.mono hK,RowsOk.mono hK h2⟩
theorem ALOk.noRo {w:World} {K K':Nat->Prop} {l:Ae} {v F} (hr:l.1.hasRo=false) (h:ALOk w K l v F):ALOk w K' l v F:=⟨Rp.noRo _ _ hr h.1,h.2⟩
theorem ALs.noRo {w:World} {K K':Nat->Prop} {ls:List Ae} {vs F} (hr:(ls.any λl=>l.1.hasRo)=false) (h:FL (ALOk w K) ls vs F):FL (ALOk w K') ls vs F:=by
 exact FL.mono' (λx hx v F _ h=>ALOk.noRo (by grind) h) h
theorem RLs.noRo {w:World} {K K':Nat->Prop} {ms:List (Nat×Nat)} {ls:List Ae} {vs F} (hr:(ls.any λl=>l.1.hasRo)=false) (h:FL (ROk w K ms) ls vs F):FL (ROk w K' ms) ls vs F:=by
 exact FL.mono' (λx hx v F _ h=>h.imp (ALOk.noRo (by grind)) id) h
theorem A1Ok.noRo {w:World} {K K':Nat->Prop} {ms:List (Nat×Nat)} {a:A1} {v F} (hr:a.hasRo=false) (h:A1Ok w K ms a v F):A1Ok w K' ms a v F:=by
 cases a with
 | one l=>exact ALOk.noRo hr h
 | ag ls=>obtain ⟨vs,e,h⟩:=h;exact⟨vs,e,ALs.noRo hr h⟩
 | pl m off=>exact h
 | rp t x off=>cases hr
 | fv f cs=>exact h
theorem RowsOk.noRo {w:World} {K K':Nat->Prop} {mk:List (Nat×Nat)}:∀{ms:List (Nat×Nat)} {rs:List (List Ae)} {F},(rs.any λl=>l.any λx=>x.1.hasRo)=false->RowsOk w K mk ms rs F->RowsOk w K' mk ms rs F
 | [],_,_,_,h=>h
 | _::_,_,_,hr,⟨r,rs',F1,F2,e1,e2,h1,h2⟩=>by
  subst e1;simp only [List.any_cons,Bool.or_eq_false_iff]at hr;exact⟨r,rs',F1,F2,rfl,e2,h1.imp (λ⟨cs,e,fr,k1,k2,k3,k4⟩=>⟨cs,e,fr,k1,k2,k3,RLs.noRo hr.1 k4⟩) id,RowsOk.noRo hr.2 h2⟩
section
variable {b:Base} {S:St} {c:Cc} {w:World}
def KB (b:Base) (S:St) (c:Cc) (B:List Nat) (g:Nat):Prop:=Kok b S c g\/(∃k,k∈B/\S.ow k≠none/\g∈c.F k)\/∃k,k∈B/\S.ms k≠none/\g=c.mb k
theorem LG (hi:Inv b S w c) {mv:Bool} {t:Ty} {l:Leaf} {v:Value} {y:Ae×List Nat×List Nat} (hl:LeafOk S c w (Kok b S c) l v) (h:(Jg mv t l).ev S=some y) :
  Ows S y.2.1/\Ows S y.2.2/\(mv=true->y.2.1=[])/\∃G,(∀B,(∀k,k∈y.2.1->k∈B)->ALOk w (KB b S c B) y.1 v G)/\G.Nodup/\CK c y.2.2 G:=by
 have hn:Ows S []:=λk hk=>(by cases hk)
 have hh:CK c [] []:=λg hg=>(by cases hg)
 unfold Jg at h;split at h
 .simp only [Tr.ev,AoD]at h;subst h;exact⟨hn,hn,λ_=>rfl,[],λB _=>⟨Rp.mono (λg _ h=>.inl h) _ _ hl,λ_=>rfl⟩,Z,hh⟩
 .obtain rfl:v=.slice none 0 0:=hl;split at h
  .split at h
   .simp only [Tr.ev,AoD]at h;subst h;refine⟨hn,hn,λ_=>rfl,[],λB _=>⟨?_,λ_=>rfl⟩,Z,hh⟩;simp only [Rp];simp
   .simp only [Tr.ev,AoD]at h;subst h;refine⟨hn,hn,λ_=>rfl,[],λB _=>⟨?_,λ_=>rfl⟩,Z,hh⟩;rw [Rp];exact⟨rfl,none,0,[],rfl,Ao4 _,⟨rfl,rfl⟩,.inl rfl⟩
  .simp [Tr.ev]at h
 .rename_i k st win;split at h
  .rename_i hmv;split at h
   .simp only [Ak,AoG,Tr.ev,AoD]at h;obtain ⟨o,ho,h⟩:=h;subst h;obtain ⟨h1,F',h2,h3,h4⟩:=IT hi hl ho;exact⟨hn,λk' hk'=>(by grind),λ_=>rfl,F',λB _=>⟨Rp.mono (λg _ h=>.inl h) _ _ h2,λh=>(by simp [Ty.own]at h)⟩,h4,λg hg=>⟨k,Z,h3 g hg⟩⟩
   .simp [Tr.ev]at h
  .rename_i hmv;simp only [Ak,AoG,Tr.ev,AoD]at h;obtain ⟨o,ho,h⟩:=h;subst h;obtain ⟨h1,F',h2,h3,h4⟩:=IT hi hl ho;exact⟨λk' hk'=>(by grind),hn,λh=>absurd h hmv,[],λB hB=>⟨Rp.frz (λg _ h=>.inl h) _ _ h2 λg hg=>.inr (.inl ⟨k,hB k Z,h1,h3 g hg⟩),λ_=>rfl⟩,Z,hh⟩
 .simp [Tr.ev]at h
def AnU (S:St) (c:Cc) (w:World) (K:Nat->Prop) (k:Nat) (st:AT) (v:Value) (Fa Fb:List Nat):Prop:=
 ∃o0,S.ow k=some o0/\(∃G,c.F k=Fa++(G++Fb))/\
  ∀(d:(u:Ty)×u.D) (z:d.1.D) (zs:(Ty.sl true o0.e o0.r).D),(Aw (.sl true o0.e o0.r) o0.xs st).run=some d->(Gc (.sl true o0.e o0.r) o0.xs st d.1 z).run=some zs->
   ∀(w':World) (K':Nat->Prop) (G':List Nat),Rp w' K' d.1 z [v] G'->KSame w w' K K'->Do w w' Fa->Do w w' Fb->Rp w' K' (.sl true o0.e o0.r) zs [c.hv k] (Fa++(G'++Fb))
def LnOk (S:St) (c:Cc) (w:World) (K:Nat->Prop) (q:Option (Nat×AT)) (v:Value) (gv G:List Nat):Prop:=match q with
 | none=>v=.slice none 0 0
 | some (k,st)=>k∈gv/\∃Fa Fb,AnU S c w K k st v Fa Fb/\∀g,g∈G->g∉Fa/\g∉Fb
theorem Rp.back {w:World} {K:Nat->Prop}:∀(st:AT) (t:Ty) (x:t.D) {h:Value} {F:List Nat} {c:(u:Ty)×u.D},Rp w K t x [h] F->(Aw t x st).run=some c->
  ∃h' Fa G Fb,hdr w h t st=some h'/\F=Fa++(G++Fb)/\Rp w K c.1 c.2 [h'] G/\∀(z:c.1.D) (y:t.D),(Gc t x st c.1 z).run=some y->
   ∀(w':World) (K':Nat->Prop) (G':List Nat),Rp w' K' c.1 z [h'] G'->KSame w w' K K'->Do w w' Fa->Do w w' Fb->Rp w' K' t y [h] (Fa++(G'++Fb))
 | [],t,x,h,F,c,hp,hg=>by
  simp only [Aw,Tr.run,AoD]at hg;subst hg;refine⟨h,[],F,[],rfl,Z,hp,λz y hs w' K' G' hz _ _ _=>?_⟩;simp only [Gc]at hs;split at hs
  .simp only [Tr.run,AoD]at hs
   grind
  grind
 | (i,j)::ps,t,x,h,F,c,hp,hg=>by
  match t,x,hp,hg with
  | .sl true e r,xs,hp,hg=>
   obtain ⟨row,d,hrow,hd,hrest⟩:=DT hg;obtain ⟨g,off,cap,cs,fr,v,F1,Fa0,G0,Fb0,F2,rfl,rfl,hh,hn,_,_,hcell,hlt,hv,hput⟩:=Rp.elem hp hrow hd;have hc?:w.cell? ⟨g,off+(i * r.size+j),none⟩=some v:=by rw [Bf hh];exact hcell
   obtain ⟨h',Ga,G,Gb,hhd,rfl,hp',hset2⟩:=Rp.back ps d.1 d.2 hv hrest;refine⟨h',g::(F1++(Fa0++Ga)),G,Gb++(Fb0++F2),?_,Z,hp',?_⟩
   .cases ps with
    | nil=>
     simp only [hdr,AoD]at hhd;subst hhd;simp only [hdr,adr,Be];exact hc?
    | cons p ps=>
     simp only [hdr,adr,Be,hc?,Dw r row j hd]
     assumption
   .intro z y hs w' K' G' hz hK sa sb;have hs':∃yy row',(Gc d.1 d.2 ps c.1 z).run=some yy/\setCell r row j d.1 yy=some row'/\y=(xs:List r.D).set i row':=by
     simp only [Gc,Dl,AoG]at hs;obtain ⟨row2,hrow2,hs⟩:=hs;obtain rfl:row=row2:=by grind
     rw [hd]at hs;simp only [run_bind,AoG]at hs;obtain ⟨yy,h1,hs⟩:=hs;split at hs
     .rename_i row' hr;simp only [Tr.run,AoD]at hs;grind
     .simp [Tr.run]at hs
    obtain ⟨yy,row',hsy,hset,rfl⟩:=hs';have hinner:=hset2 z yy hsy w' K' G' hz hK (λb hb=>sa b (by simp [hb])) (λb hb=>sb b (by simp [hb]));have hgs:w'.heap[g]?=some (.cells cs e fr):=by rw [sa g Z];exact hh
    have hsame:cs=cs.setIfInBounds (off+(i * r.size+j)) v:=by
     grind
    have:=hput w' K' yy v (Ga++(G'++Gb)) row' cs hset hinner hK hgs hsame (λb hb=>sa b (by simp [hb])) (λb hb=>sa b (by simp [hb])) (λb hb=>sb b (by simp [hb])) (λb hb=>sb b (by simp [hb]))
    grind
  | .sl false _ _,_,_,hg=>simp [Aw,Tr.run]at hg
  | .int _,_,_,hg=>simp [Aw,Tr.run]at hg
  | .bool,_,_,hg=>simp [Aw,Tr.run]at hg
  | .er,_,_,hg=>simp [Aw,Tr.run]at hg
  | .lp,_,_,hg=>simp [Aw,Tr.run]at hg
  | .mh,_,_,hg=>simp [Aw,Tr.run]at hg
  | .mp,_,_,hg=>simp [Aw,Tr.run]at hg
  | .str,_,_,hg=>simp [Aw,Tr.run]at hg
  | .pt _,_,_,hg=>simp [Aw,Tr.run]at hg
  | .unit,_,_,hg=>simp [Aw,Tr.run]at hg
  | .pair _ _,_,_,hg=>simp [Aw,Tr.run]at hg
theorem Acq (hi:Inv b S w c) {t:Ty} {l:Leaf} {v:Value} {y:Ae×List Nat×List Nat} (hl:LeafOk S c w (Kok b S c) l v) (h:(Ul t l).ev S=some y) :
  Ows S y.2.1/\Ows S y.2.2/\∃G,(∀B,(∀k,k∈y.2.1->k∈B)->ALOk w (KB b S c B) y.1 v G)/\G.Nodup/\CK c y.2.2 G/\∀p e,e∈ML p l->e.1=p/\LnOk S c w (Kok b S c) e.2 v y.2.2 G:=by
 unfold Ul at h;split at h
 .rename_i k st;simp only [Ak,AoG,Tr.ev,AoD]at h;obtain ⟨o,ho,h⟩:=h;subst h;obtain ⟨o0,e,r,ys,hd,ho0,hg,hh,hw⟩:=hl;have hw':v=hd:=hw;subst hw';obtain ⟨h',Fa,G,Fb,k1,k2,k3,k4⟩:=Rp.back st _ _ (hi.ow k o0 ho0) hg;rw [hh]at k1;injection k1 with k1
  subst k1;have hnd:=hi.nd k (by grind);rw [k2]at hnd;obtain ⟨n1,n2,n3⟩:=Apc.1 hnd;obtain ⟨m1,m2,m3⟩:=Apc.1 n2;have hoo:o=⟨e,r,ys⟩:=by
   simp only [E6,Tr.ev,ho0,Ak,AoG]at ho;obtain ⟨c0,hc0,ho⟩:=ho;rw [Lm,hg]at hc0;injection hc0 with hc0
   subst hc0;simp only [Tr.ev,AoD]at ho;exact ho.symm
  subst hoo;refine⟨λk hk=>(by cases hk),λk' hk'=>(by grind),G,λB _=>⟨Rp.mono (λg _ h=>.inl h) _ _ k3,λh=>(by simp [Ty.own]at h)⟩,m1,λg hg=>⟨k,Z,by grind⟩,?_⟩;intro p e' he';simp only [ML,AoZ]at he';subst he';refine⟨rfl,Z,Fa,Fb,⟨o0,ho0,⟨G,k2⟩,?_⟩,λg hg=>⟨λhx=>n3 g hx g (by simp [hg]) rfl,λhx=>m3 g hg g hx rfl⟩⟩;intro d z zs hd' hs';rw [hg]at hd';injection hd' with hd'
  subst hd'
  grind
 .simp [Tr.ev]at h
 .rename_i hn1 hn2;obtain ⟨k1,k2,_,G,k4,k5,k6⟩:=LG hi hl h;refine⟨k1,k2,G,k4,k5,k6,λp e he=>?_⟩;cases l with
  | vw k st win=>
   cases win with
   | none=>grind
   | some w=>grind
  | nil=>
   simp only [ML,AoZ]at he;subst he;exact⟨rfl,hl⟩
  | v t x=>cases he
  | qn q=>cases he
  | p k off=>cases he
  | np=>cases he
  | mh k=>cases he
  | md xs=>cases he
  | no=>cases he
theorem Tb (hi:Inv b S w c) {m:Nat} {t:Ty} {l:Leaf} {v:Value} {y:Ae×List Nat×List Nat} (hl:LeafOk S c w (Kok b S c) l v) (h:(Pz m t l).ev S=some y) :
  Ows S y.2.1/\Ows S y.2.2/\∃G,(∀B,(∀k,k∈y.2.1->k∈B)->ALOk w (KB b S c B) y.1 v G)/\G.Nodup/\CK c y.2.2 G/\(m=2->∀p e,e∈ML p l->e.1=p/\LnOk S c w (Kok b S c) e.2 v y.2.2 G):=by
 unfold Pz at h;split at h
 .obtain ⟨k1,k2,G,k3,k4,k5,k6⟩:=Acq hi hl h
  grind
 .rename_i hm;obtain ⟨k1,k2,_,G,k4,k5,k6⟩:=LG hi hl h
  grind
theorem LnOk.left (hi:Inv b S w c) {q:Option (Nat×AT)} {v:Value} {g1 g2 G1 G2:List Nat} (h:LnOk S c w (Kok b S c) q v g1 G1) (hh:CK c g2 G2) (ho:Ows S g1) (ho2:Ows S g2) (hu:AO (g1++g2)=true):LnOk S c w (Kok b S c) q v (g1++g2) (G1++G2):=by
 cases q with
 | none=>exact h
 | some q=>
  obtain ⟨k,st⟩:=q;obtain ⟨hk,Fa,Fb,hB,hd⟩:=h;refine⟨by simp [hk],Fa,Fb,hB,λg hg=>?_⟩;rcases AoK.1 hg with hg | hg
  .exact hd g hg
  .obtain ⟨k2,q1,q2⟩:=hh g hg;obtain ⟨_,_,u⟩:=AU hu;have hne:k2≠k:=by grind
   have hno:=hi.oo k2 k hne (ho2 k2 q1) (ho k hk) g q2;obtain ⟨_,_,⟨G0,hF⟩,_⟩:=hB
   grind
theorem LnOk.right (hi:Inv b S w c) {q:Option (Nat×AT)} {v:Value} {g1 g2 G1 G2:List Nat} (h:LnOk S c w (Kok b S c) q v g2 G2) (hh:CK c g1 G1) (ho:Ows S g1) (ho2:Ows S g2) (hu:AO (g1++g2)=true):LnOk S c w (Kok b S c) q v (g1++g2) (G1++G2):=by
 cases q with
 | none=>exact h
 | some q=>
  obtain ⟨k,st⟩:=q;obtain ⟨hk,Fa,Fb,hB,hd⟩:=h;refine⟨by simp [hk],Fa,Fb,hB,λg hg=>?_⟩;rcases AoK.1 hg with hg | hg
  .obtain ⟨k2,q1,q2⟩:=hh g hg;obtain ⟨_,_,u⟩:=AU hu;have hne:k2≠k:=by grind
   have hno:=hi.oo k2 k hne (ho k2 q1) (ho2 k hk) g q2;obtain ⟨_,_,⟨G0,hF⟩,_⟩:=hB
   grind
  grind
theorem RZ (hi:Inv b S w c) {m:Nat}:∀{ls:List Leaf} {ts:List Ty} {vs:List Value} {y:List Ae×List Nat×List Nat},All2 (LeafOk S c w (Kok b S c)) ls vs->(Lv m ts ls).ev S=some y->
  Ows S y.2.1/\Ows S y.2.2/\∃G,(∀B,(∀k,k∈y.2.1->k∈B)->FL (ALOk w (KB b S c B)) y.1 vs G)/\(AO y.2.2=true->G.Nodup)/\CK c y.2.2 G/\
   (m=2->AO y.2.2=true->∀i j e,e∈Sl i j ls->∃n u,e.1=(i,j+n)/\vs[n]?=some u/\LnOk S c w (Kok b S c) e.2 u y.2.2 G)
 | [],ts,_,y,.nil,h=>by
  rw [Lv]at h;simp only [Tr.ev,AoD]at h;subst h;exact⟨λk hk=>(by cases hk),λk hk=>(by cases hk),[],λB _=>⟨rfl,rfl⟩,λ_=>by simp,λg hg=>(by cases hg),λ_ _ i j e he=>by cases he⟩
 | l::ls,ts,_,y,.cons (b:=v) (bs:=vs) h1 h2,h=>by
  rw [Lv]at h;simp only [Ak,AoG,Tr.ev,AoD]at h;obtain ⟨y1,hy1,y2,hy2,rfl⟩:=h;obtain ⟨k1,k2,G,k4,k5,k6,k7⟩:=Tb hi h1 hy1;obtain ⟨m1,m2,H,m4,m5,m6,m7⟩:=RZ hi h2 hy2;refine⟨CM k1 m1,CM k2 m2,G++H,λB hB=>⟨v,vs,G,H,rfl,rfl,k4 B λk hk=>hB k (by simp [hk]),m4 B λk hk=>hB k (by simp [hk])⟩,?_,?_,?_⟩
  rotate_left 2
  .intro hm hu i j e he;obtain ⟨u1,u2,_⟩:=AU hu;simp only [Sl]at he;rcases AoK.1 he with he | he
   .obtain ⟨q1,q2⟩:=k7 hm _ e he;exact⟨0,v,q1,rfl,q2.left hi m6 k2 m2 hu⟩
   .obtain ⟨n,u,q1,q2,q3⟩:=m7 hm u2 i (j+1) e he;exact⟨n+1,u,by grind,by grind,q3.right hi k6 k2 m2 hu⟩
  .intro hu;obtain ⟨u1,u2,_⟩:=AU hu;exact(C5 hi k6 m6 k2 m2 hu k5 (m5 u2)).2
  .intro g hg;rcases AoK.1 hg with hg | hg
   .obtain ⟨k,h,h'⟩:=k6 g hg;grind
   .obtain ⟨k,h,h'⟩:=m6 g hg;grind
abbrev plc (c:Cc) (p:(Nat×Nat)×List Ty):Nat×Nat:=(c.mb p.1.1,c.mo p.1.1+p.1.2)
structure AInv (b:Base) (S:St) (c:Cc) (w:World) (C:AC) (vals:List Value) (F:List Nat):Prop where
 fl:∀eb em,FL (A1Ok w (KB b S c (C.bw++eb)) ((C.ms++em).map (plc c))) C.as vals F
 held:CK c C.gv F
 gv:Ows S C.gv
 bw:True
 nd:AO C.gv=true->F.Nodup
 ms:∀p,p∈C.ms->∃n,S.ms p.1.1=some n/\(0 < n/\p.1.2+p.2.length<=n\/n=0/\p.1.2=0/\p.2=[.mp])
 un:(C.ms.map (·.1.1)).Nodup
 ln:AO C.gv=true->∀e,e∈C.ln->∃v,Fe vals e.1=some v/\LnOk S c w (Kok b S c) e.2 v C.gv F
theorem Gj {vals more:List Value} {p:Nat×Nat} {v:Value} (h:Fe vals p=some v):Fe (vals++more) p=some v:=by
 unfold Fe at h ⊢
 grind
theorem AgL {vals:List Value} {v:Value} (hv:∀vs,v≠.agg vs):Fe (vals++[v]) (vals.length,0)=some v:=by
 unfold Fe;simp
theorem Aif {vals:List Value} {vs:List Value} {n:Nat} {u:Value} (hu:vs[n]?=some u):Fe (vals++[.agg vs.toArray]) (vals.length,n)=some u:=by
 unfold Fe
 grind
theorem AInv.step (hi:Inv b S w c) {C:AC} {vals:List Value} {F:List Nat} (h:AInv b S c w C vals F) {a:A1} {v:Value} {bw gv:List Nat} {G:List Nat}
  (_h1:Ows S bw) (h2:Ows S gv) (h3:∀B ms,(∀k,k∈bw->k∈B)->A1Ok w (KB b S c B) ms a v G) (h4:AO gv=true->G.Nodup) (h5:CK c gv G)
  {L:List ((Nat×Nat)×Option (Nat×AT))} (h6:AO gv=true->∀e,e∈L->∃u,Fe (vals++[v]) e.1=some u/\LnOk S c w (Kok b S c) e.2 u gv G) :
  AInv b S c w { C with as:=C.as++[a],bw:=C.bw++bw,gv:=C.gv++gv,ln:=C.ln++L } (vals++[v]) (F++G):=by
 refine⟨?_,?_,CM h.gv h2,trivial,?_,h.ms,h.un,?_⟩
 rotate_left 3
 .intro hu e he;obtain ⟨u1,u2,_⟩:=AU hu;rcases AoK.1 he with he | he
  .obtain ⟨u,q1,q2⟩:=h.ln u1 e he;exact⟨u,Gj q1,q2.left hi h5 h.gv h2 hu⟩
  .obtain ⟨u,q1,q2⟩:=h6 u2 e he;exact⟨u,q1,q2.right hi h.held h.gv h2 hu⟩
 .intro eb em;have:=h.fl (bw++eb) em;rw [<- AoN]at this;exact this.snoc (h3 _ _ λk hk=>by simp [hk])
 .intro g hg;rcases AoK.1 hg with hg | hg
  .obtain ⟨k,q,q'⟩:=h.held g hg;grind
  .obtain ⟨k,q,q'⟩:=h5 g hg;grind
 .intro hu;obtain ⟨u1,u2,_⟩:=AU hu;exact(C5 hi h.held h5 h.gv h2 hu (h.nd u1) (h4 u2)).2
theorem Ae9:∀(l:List Nat) (k:Nat),l.contains k=true->l[l.findIdx (· == k)]?=some k
 | [],_,h=>by simp at h
 | x::l,k,h=>by
  grind
theorem QT {C:AC} {vals:List Value} {F:List Nat} (hA:AInv b S c w C vals F) {k off n:Nat} {ts:Option (List Ty)} {y:(Nat×Nat)×AC} (hn:S.ms k=some n) (h:(Mu k off ts C).ev S=some y) :
  AInv b S c w y.2 vals F/\(∃more,y.2.ms=C.ms++more)/\(y.2.as=C.as/\y.2.bw=C.bw/\y.2.gv=C.gv)/\∀em,∃q,((y.2.ms++em).map (plc c))[y.1.1]?=some q/\q.1=c.mb k/\q.2+y.1.2=c.mo k+off:=by
 unfold Mu at h;split at h
 .rename_i ts;split at h
  .rename_i hc;have hf:=Ae9 (C.ms.map (·.1.1)) k hc;split at h
   .rename_i m hm;split at h
    .rename_i hle;simp only [Tr.ev,AoD]at h;subst h;have hmk:m.1.1=k:=by
      rw [Apl,show C.ms[List.findIdx (· == k) (C.ms.map (·.1.1))]?=some m from hm]at hf;injection hf
     refine⟨hA,⟨[],Z⟩,⟨rfl,rfl,rfl⟩,λem=>⟨plc c m,?_,by rw [<- hmk],?_⟩⟩
     .grind
     grind
    .simp [Tr.ev]at h
   .simp [Tr.ev]at h
  .rename_i hc;simp only [Tr.ev,hn]at h;split at h
   .rename_i hle;simp only [Tr.ev,AoD]at h;subst h;refine⟨⟨λeb em=>?_,hA.held,hA.gv,hA.bw,hA.nd,?_,?_,hA.ln⟩,⟨_,rfl⟩,⟨rfl,rfl,rfl⟩,λem=>⟨(c.mb k,c.mo k+off),?_,rfl,rfl⟩⟩
    .have:=hA.fl eb (((k,off),ts)::em)
     grind
    .intro p hp;rcases AoK.1 hp with hp | hp
     .exact hA.ms p hp
     grind
    .rw [Ape,Apc];refine⟨hA.un,Z,?_⟩
     grind
    simp
   .simp [Tr.ev]at h
 .simp [Tr.ev]at h
theorem AgU {C:AC} {k off n:Nat} {ts:Option (List Ty)} {y:(Nat×Nat)×AC} (hn:S.ms k=some n) (h:(Mu k off ts C).ev S=some y):y.2.ln=C.ln:=by
 unfold Mu at h;split at h
 .split at h
  .split at h
   .split at h
    .simp only [Tr.ev,AoD]at h;subst h;rfl
    .simp [Tr.ev]at h
   .simp [Tr.ev]at h
  .simp only [Tr.ev,hn]at h;split at h
   .simp only [Tr.ev,AoD]at h;subst h;rfl
   .simp [Tr.ev]at h
 .simp [Tr.ev]at h
theorem Af4 {C C':AC} {vals:List Value} {F:List Nat} (hA:AInv b S c w C vals F) {k:Nat} (hc:k∉C.ms.map (·.1.1)) (h:(AaP k C).ev S=some C') :
  AInv b S c w C' vals F/\(∃more,C'.ms=C.ms++more)/\C'.as=C.as/\C'.bw=C.bw/\C'.gv=C.gv/\C'.ln=C.ln:=by
 simp only [AaP,Tr.ev]at h;split at h
 .rename_i hn;simp only [Tr.ev,AoD]at h;subst h;refine⟨⟨λeb em=>?_,hA.held,hA.gv,hA.bw,hA.nd,?_,?_,hA.ln⟩,⟨_,rfl⟩,rfl,rfl,rfl,rfl⟩
  .have:=hA.fl eb (((k,0),[.mp])::em)
   grind
  .intro p hp;rcases AoK.1 hp with hp | hp
   .exact hA.ms p hp
   grind
  .rw [Ape,Apc];refine⟨hA.un,Z,?_⟩
   grind
 .simp [Tr.ev]at h
def AiO (c:Cc) (C:AC) (p:Nat×Nat) (v:Value):Prop:=∀em,∃g,((C.ms++em).map (plc c))[p.1]?=some g/\v=.pointer (some ⟨g.1,g.2+p.2,none⟩)
theorem Ud:∀(cs:List (Nat×Nat)) (tss:List (List Ty)) {vs:List Value} {C:AC} {vals:List Value} {F:List Nat} {y:List (Nat×Nat)×AC},All2 (Wh S c) cs vs->AInv b S c w C vals F->(SN cs tss C).ev S=some y->
  AInv b S c w y.2 vals F/\((∃more,y.2.ms=C.ms++more)/\y.2.as=C.as/\y.2.bw=C.bw/\y.2.gv=C.gv)/\All2 (AiO c y.2) y.1 vs
 | [],tss,_,C,vals,F,y,.nil,hA,h=>by
  rw [SN]at h;simp only [Tr.ev,AoD]at h;subst h;exact⟨hA,⟨⟨[],Z⟩,rfl,rfl,rfl⟩,.nil⟩
 | p::cs,tss,_,C,vals,F,y,.cons (b:=v) (bs:=vs) h1 h2,hA,h=>by
  rw [SN]at h;simp only [Ak,AoG,Tr.ev,AoD]at h;obtain ⟨y1,hy1,y2,hy2,rfl⟩:=h;obtain ⟨n,hn,rfl⟩:=h1;obtain ⟨q1,⟨m1,e1⟩,⟨a1,a2,a3⟩,q4⟩:=QT hA hn hy1;obtain ⟨r1,⟨⟨m2,e2⟩,b1,b2,b3⟩,r3⟩:=Ud cs _ h2 q1 hy2;refine⟨r1,⟨⟨m1++m2,by grind⟩,b1.trans a1,b2.trans a2,b3.trans a3⟩,.cons (λem=>?_) r3⟩;obtain ⟨q,g1,g2,g3⟩:=q4 (m2++em)
  grind
theorem AeQ (hi:Inv b S w c) {l:Leaf} {v:Value} (hl:LeafOk S c w (Kok b S c) l v) {p:Nat×Nat} {e:(Nat×Nat)×Option (Nat×AT)} (he:e∈ML p l):∀vs,v≠.agg vs:=by
 intro vs;cases l with
 | vw k st win=>obtain ⟨A,n,cap,rfl⟩:=Ui hi hl;simp
 | nil=>rw [show v=.slice none 0 0 from hl];simp
 | v t x=>cases he
 | qn q=>cases he
 | p k off=>cases he
 | np=>cases he
 | mh k=>cases he
 | md xs=>cases he
 | no=>cases he
theorem AeP {t:Ty} {l:Leaf} {y:Ae×List Nat×List Nat} (h:(Jg false t l).ev S=some y):y.2.2=[]:=by
 unfold Jg at h;split at h
 .simp only [Tr.ev,AoD]at h;subst h;rfl
 .split at h
  .simp only [AoO,Apa,Tr.ev,AoD]at h;subst h;rfl
  .simp [Tr.ev]at h
 .simp only [AoO,Apa,Ak,AoG,Tr.ev,AoD]at h
  grind
 .simp [Tr.ev]at h
theorem Tw (hi:Inv b S w c) (k:Nat):∀(ts:List Ty) (i:Nat) (vs:List Value) {y:List Ae×List Nat},vs.length=ts.length->(∀j v,vs[j]?=some v->LeafOk S c w (Kok b S c) (S.mc k (i+j)) v)->(MX k ts i).ev S=some y->
  ∀B,(∀k',k'∈y.2->k'∈B)->FL (ALOk w (KB b S c B)) y.1 vs []
 | [],i,vs,y,hl,_,h=>by
  rw [MX]at h;simp only [Tr.ev,AoD]at h;subst h;obtain rfl:vs=[]:=Ao1 hl;exact λB _=>⟨rfl,rfl⟩
 | t::ts,i,[],y,hl,_,_=>by simp at hl
 | t::ts,i,v::vs,y,hl,hc,h=>by
  rw [MX]at h;simp only [Tr.ev,Ak,AoG,AoD]at h;obtain ⟨y1,hy1,y2,hy2,rfl⟩:=h;obtain ⟨k1,k2,k3,G,k4,k5,k6⟩:=LG hi (hc 0 v rfl) hy1;have hG:G=[]:=by
   rw [AeP hy1]at k6;cases G with
   | nil=>rfl
   | cons g G=>obtain ⟨k,hk,_⟩:=k6 g Z;cases hk
  subst hG;have m:=Tw hi k ts (i+1) vs (by grind) (λj v hv=>by
   have:=hc (j+1) v (by grind)
   grind) hy2
  exact λB hB=>⟨v,vs,[],[],rfl,rfl,k4 B λk hk=>hB k (by simp [hk]),m B λk hk=>hB k (by simp [hk])⟩
theorem NH {K:Nat->Prop}:∀(ls:List Ae) {vs:List Value},FL (ALOk w K) ls vs []->Rp w K (CA ls).1 (CA ls).2 vs []
 | [],vs,h=>by
  assumption
 | [l],vs,h=>by
  obtain ⟨v,vs',F1,F2,rfl,hF,h1,rfl,rfl⟩:=h;obtain ⟨rfl,_⟩:=Aqg.1 hF.symm;exact h1.1
 | l::m::ls,vs,h=>by
  obtain ⟨v,vs',F1,F2,rfl,hF,h1,h2⟩:=h;obtain ⟨rfl,rfl⟩:=Aqg.1 hF.symm;have:=NH (m::ls) h2;exact⟨[v],vs',[],[],rfl,rfl,h1.1,this⟩
theorem Us {K:Nat->Prop} {t:Ty} {x:t.D} {vs:List Value} (h:Rp w K t x vs []):∀(n i:Nat) {ls:List Ae},ON t x i n=some ls->
  ∃ws,FL (ALOk w K) ls ws []/\(∀j,j < ws.length->vs[i+j]?=ws[j]?)/\∀j,j < ws.length->i+j < vs.length
 | 0,i,ls,hl=>by
  simp only [ON,AoD]at hl;subst hl;exact⟨[],⟨rfl,rfl⟩,λj hj=>by simp at hj,λj hj=>by simp at hj⟩
 | n+1,i,ls,hl=>by
  simp only [ON]at hl;split at hl
  .rename_i c0 ls' hc hl';injection hl with hl
   subst hl;obtain ⟨ws,k1,k2,k3⟩:=Us h n (i+1) hl';obtain ⟨pre,u,post,Fa,G,Fb,rfl,hpl,hF,hu,_⟩:=Rp.cell t x i h hc;obtain ⟨rfl,h4⟩:=Aqg.1 hF.symm;obtain ⟨rfl,rfl⟩:=Aqg.1 h4;refine⟨u::ws,⟨u,ws,[],[],rfl,rfl,⟨hu,λ_=>rfl⟩,k1⟩,λj hj=>?_,λj hj=>?_⟩
   .cases j with
    | zero=>grind
    | succ j=>
     grind
   .cases j with
    | zero=>grind
    | succ j=>
     have:=k3 j (by grind);omega
  .cases hl
theorem Gu (hi:Inv b S w c) {E:Env} {d:Nat}:∀(xs:List (SV×TypeId)) (mvs:List Nat) (us:List Value) (C:AC) (vals:List Value) (F:List Nat) {C':AC},All2 (λx u=>AX S c w (Kok b S c) x.1 u) xs us->AInv b S c w C vals F->
  (IC E d mvs xs C).ev S=some C'->∃F',AInv b S c w C' (vals++us) F'
 | [],mvs,_,C,vals,F,C',.nil,hA,h=>by
  rw [IC]at h;simp only [Tr.ev,AoD]at h
  grind
 | (x,t)::xs,mvs,_,C,vals,F,C',.cons (b:=u) (bs:=us) h1 h2,hA,h=>by
  unfold IC at h;rw [show vals++u::us=(vals++[u])++us by simp];simp only at h h1;split at h
  .simp only [Ak,AoG]at h;obtain ⟨y,hy,h⟩:=h;rename_i l;obtain ⟨k1,k2,G,k4,k5,k6,k7⟩:=Tb hi (AY h1) hy;refine Gu hi xs _ us _ _ _ h2 (hA.step hi (a:=.one y.1) k1 k2 (λB ms hB=>k4 B hB) (λ_=>k5) k6 ?_) h;intro _ e he;split at he
   .rename_i hm;obtain ⟨q1,q2⟩:=k7 hm _ e he;have hlen:C.as.length=vals.length:=(hA.fl [] []).len.symm;refine⟨u,?_,q2⟩;rw [q1,hlen];exact AgL (AeQ hi (AY h1) he)
   .cases he
  .simp only [Ak,AoG]at h;obtain ⟨y,hy,h⟩:=h;obtain ⟨vs,rfl,hall⟩:=h1;obtain ⟨k1,k2,G,k4,k5,k6,k7⟩:=RZ hi hall hy;refine Gu hi xs _ us _ _ _ h2 (hA.step hi (a:=.ag y.1) k1 k2 (λB ms hB=>⟨vs,rfl,k4 B hB⟩) k5 k6 ?_) h;intro hu e he;split at he
   .rename_i hm;obtain ⟨n,u,q1,q2,q3⟩:=k7 hm hu _ _ e he;have hlen:C.as.length=vals.length:=(hA.fl [] []).len.symm;refine⟨u,?_,q3⟩;rw [q1,hlen,AoS];exact Aif q2
   .cases he
  .rename_i u' x' off;have hx:AInv b S c w { C with as:=C.as++[A1.rp u' x' off] } (vals++[u]) F:=by
    refine⟨λeb em=>?_,hA.held,hA.gv,hA.bw,hA.nd,hA.ms,hA.un,λhu e he=>(hA.ln hu e he).imp λ_ h=>⟨Gj h.1,h.2⟩⟩;obtain ⟨a,vs,e,q1,q2,q3,q4⟩:=h1;have:=(hA.fl eb em).snoc (x:=A1.rp u' x' off) (v:=u) (G:=[]) ⟨rfl,a,vs,e,Rp.mono (λg _ h=>.inl h) _ _ q1,.inl q2,q3,q4⟩
    grind
   split at h
   .split at h
    .split at h
     .exact Gu hi xs _ us _ _ _ h2 hx h
     .split at h
      .rename_i ls hls;obtain ⟨a,vs,e,q1,q2,q3,q4⟩:=h1;obtain ⟨ws,k1,k2,k3⟩:=Us q1 _ _ hls;have hx2:AInv b S c w { C with as:=C.as++[A1.rp (CA ls).1 (CA ls).2 0] } (vals++[u]) F:=by
        refine⟨λeb em=>?_,hA.held,hA.gv,hA.bw,hA.nd,hA.ms,hA.un,λhu e he=>(hA.ln hu e he).imp λ_ h=>⟨Gj h.1,h.2⟩⟩;have:=(hA.fl eb em).snoc (x:=A1.rp (CA ls).1 (CA ls).2 0) (v:=u) (G:=[]) ⟨rfl,a.add off,ws,by assumption,NH _ (k1.mono λ_ _ _ h=>ALOk.mono (λg _ h=>.inl h) h),by rw [DG];exact .inl q2,by rw [DG];exact q3,λj hj=>by
         rw [add_add,q4 _ (k3 j hj)];exact k2 j hj⟩
        grind
       exact Gu hi xs _ us _ _ _ h2 hx2 h
      .simp [Tr.ev]at h
    .simp [Tr.ev]at h
   .exact Gu hi xs _ us _ _ _ h2 hx h
  .rename_i k off;split at h
   .split at h
    .rename_i ts _;simp only [Tr.ev]at h;obtain ⟨n,hn,rfl⟩:=h1;simp only [hn]at h;split at h
     .rename_i hle;simp only [Ak,AoG]at h;obtain ⟨y,hy,h⟩:=h;obtain ⟨hle,hn0⟩:=hle;obtain ⟨cs,e,fr,g1,g2,g3,g4,_⟩:=hi.ms k _ hn (Aqk hn0);have hwl:((cs.toList.drop (c.mo k+off)).take ts.length).length=ts.length:=by
       grind
      have hwg:∀j,j < ts.length->((cs.toList.drop (c.mo k+off)).take ts.length)[j]?=cs[c.mo k+(off+j)]?:=by
       grind
      have hfl:=Tw hi k ts off _ hwl (λj v hv=>by
       grind) hy
      have hlt:c.mb k < w.heap.size:=(hi.fr _ (.inl ⟨k,by rw [hn];simp,rfl⟩)).1;have hx:AInv b S c w { C with as:=C.as++[A1.rp (CA y.1).1 (CA y.1).2 0],bw:=C.bw++k::y.2 } (vals++[.pointer (some ⟨c.mb k,c.mo k+off,none⟩)]) F:=by
       refine⟨λeb em=>?_,hA.held,hA.gv,trivial,hA.nd,hA.ms,hA.un,λhu e he=>(hA.ln hu e he).imp λ_ h=>⟨Gj h.1,h.2⟩⟩;have h0:=hA.fl ((k::y.2)++eb) em;rw [<- AoN]at h0;have:=h0.snoc (x:=A1.rp (CA y.1).1 (CA y.1).2 0) (v:=.pointer (some ⟨c.mb k,c.mo k+off,none⟩)) (G:=[]) ⟨rfl,⟨c.mb k,c.mo k+off,none⟩,_,by rfl,NH _ (hfl _ λk' hk'=>by simp [hk']),
        .inr (.inr ⟨k,Z,by rw [hn];simp,rfl⟩),hlt,λj hj=>by
         rw [Be,Bf g1,Nat.add_assoc]
         grind⟩
       grind
      exact Gu hi xs _ us _ _ _ h2 hx h
     .simp [Tr.ev]at h
    .simp [Tr.ev]at h
   simp only [Ak,AoG]at h;obtain ⟨y,hy,h⟩:=h;obtain ⟨n,hn,rfl⟩:=h1;obtain ⟨q1,q2,_,q4⟩:=QT hA hn hy;have hx:AInv b S c w { y.2 with as:=y.2.as++[A1.pl y.1.1 y.1.2] } (vals++[.pointer (some ⟨c.mb k,c.mo k+off,none⟩)]) F:=by
    refine⟨λeb em=>?_,q1.held,q1.gv,q1.bw,q1.nd,q1.ms,q1.un,λhu e he=>(q1.ln hu e he).imp λ_ h=>⟨Gj h.1,h.2⟩⟩;obtain ⟨q,g1,g2,g3⟩:=q4 em;have:=(q1.fl eb em).snoc (x:=A1.pl y.1.1 y.1.2) (v:=.pointer (some ⟨c.mb k,c.mo k+off,none⟩)) (G:=[]) ⟨rfl,q,g1,by rw [g2,g3]⟩
    grind
   exact Gu hi xs _ us _ _ _ h2 hx h
  .rename_i f cs;simp only [Ak,AoG]at h;obtain ⟨y,hy,h⟩:=h;obtain ⟨vs,rfl,hvs⟩:=h1;obtain ⟨q1,_,q2⟩:=Ud cs _ hvs hA hy;have hx:AInv b S c w { y.2 with as:=y.2.as++[A1.fv f y.1] } (vals++[.func (.func f) #[] vs.toArray]) F:=by
    refine⟨λeb em=>?_,q1.held,q1.gv,q1.bw,q1.nd,q1.ms,q1.un,λhu e he=>(q1.ln hu e he).imp λ_ h=>⟨Gj h.1,h.2⟩⟩;have:=(q1.fl eb em).snoc (x:=A1.fv f y.1) (v:=.func (.func f) #[] vs.toArray) (G:=[]) ⟨rfl,vs,rfl,q2.mono λp v h=>⟨_,(h em).choose_spec⟩⟩
    grind
   exact Gu hi xs _ us _ _ _ h2 hx h
  .simp [Tr.ev]at h
abbrev loc (mb mo:Nat->Nat) (p:Nat×Nat):Nat×Nat:=(mb p.1,mo p.1+p.2)
theorem AeF (hi:Inv b S w c) {mk:List (Nat×Nat)} {t:Ty} {l:Leaf} {v:Value} {y:Ae×List Nat×List Nat} (hl:LeafOk S c w (Kok b S c) l v) (h:(Ss mk t l).ev S=some y) :
  Ows S y.2.2/\∃G,(∀B,ROk w (KB b S c B) (mk.map (loc c.mb c.mo)) y.1 v G)/\G.Nodup/\CK c y.2.2 G:=by
 unfold Ss at h;split at h
 .rename_i k off;split at h
  .rename_i a ha;simp only [Tr.ev,AoD]at h;subst h;obtain ⟨n,_,rfl⟩:=hl;unfold AdG at ha;split at ha
   .rename_i m hm;split at ha
    .rename_i hmk;injection ha with ha
     subst ha;refine⟨λk hk=>(by cases hk),[],λB=>.inr (.inl ⟨rfl,_,_,rfl,by rw [Apl,hm];rfl,?_⟩),Z,λg hg=>(by cases hg)⟩
     grind
    .cases ha
   .cases ha
  .simp [Tr.ev]at h
 .rename_i k;split at h
  .rename_i a ha;simp only [Tr.ev,AoD]at h;subst h;obtain ⟨hk0,rfl⟩:=hl;obtain ⟨_,_,es,hes,_⟩:=hi.mp _ hk0;unfold Ado at ha;split at ha
   .rename_i m hm;split at ha
    .rename_i hmk;injection ha with ha
     subst ha;refine⟨λk hk=>(by cases hk),[],λB=>.inr (.inr ⟨rfl,_,_,rfl,by rw [Apl,hm];rfl,?_,es,es.size,?_⟩),Z,λg hg=>(by cases hg)⟩
     .grind
     grind
    .cases ha
   .cases ha
  .simp [Tr.ev]at h
 .exact hl.elim
 .obtain ⟨k1,k2,k3,G,k4,k5,k6⟩:=LG hi hl h;exact⟨k2,G,λB=>.inl (k4 B λk hk=>by grind),k5,k6⟩
theorem Rt (hi:Inv b S w c) (mk:List (Nat×Nat)) (k:Nat):∀(ts:List Ty) (i:Nat) (vs:List Value) {y:List Ae×List Nat},vs.length=ts.length->(∀j v,vs[j]?=some v->LeafOk S c w (Kok b S c) (S.mc k (i+j)) v)->(Jl mk k ts i).ev S=some y->
  Ows S y.2/\∃G,(∀B,FL (ROk w (KB b S c B) (mk.map (loc c.mb c.mo))) y.1 vs G)/\(AO y.2=true->G.Nodup)/\CK c y.2 G
 | [],i,vs,y,hl,_,h=>by
  rw [Jl]at h;simp only [Tr.ev,AoD]at h;subst h;obtain rfl:vs=[]:=Ao1 hl;exact⟨λk hk=>(by cases hk),[],λB=>⟨rfl,rfl⟩,λ_=>by simp,λg hg=>(by cases hg)⟩
 | t::ts,i,[],y,hl,_,_=>by simp at hl
 | t::ts,i,v::vs,y,hl,hc,h=>by
  rw [Jl]at h;simp only [Tr.ev,Ak,AoG,AoD]at h;obtain ⟨y1,hy1,y2,hy2,rfl⟩:=h;obtain ⟨k2,G,k4,k5,k6⟩:=AeF hi (hc 0 v rfl) hy1;obtain ⟨m2,H,m4,m5,m6⟩:=Rt hi mk k ts (i+1) vs (by grind) (λj v hv=>by
   have:=hc (j+1) v (by grind)
   grind) hy2
  refine⟨CM k2 m2,G++H,λB=>⟨v,vs,G,H,rfl,rfl,k4 B,m4 B⟩,?_,?_⟩
  .intro hu;obtain ⟨u1,u2,_⟩:=AU hu;exact(C5 hi k6 m6 k2 m2 hu k5 (m5 u2)).2
  .intro g hg;rcases AoK.1 hg with hg | hg
   .obtain ⟨k,h,h'⟩:=k6 g hg;grind
   .obtain ⟨k,h,h'⟩:=m6 g hg;grind
theorem X2 (hi:Inv b S w c) (mk:List (Nat×Nat)):∀(ms:List ((Nat×Nat)×List Ty)) {y:List (List Ae)×List Nat},(∀p,p∈ms->∃n,S.ms p.1.1=some n/\(0 < n/\p.1.2+p.2.length<=n\/n=0/\p.1.2=0/\p.2=[.mp]))->(RW mk ms).ev S=some y->
  Ows S y.2/\∃G,(∀B,RowsOk w (KB b S c B) (mk.map (loc c.mb c.mo)) (ms.map (plc c)) y.1 G)/\(AO y.2=true->G.Nodup)/\CK c y.2 G
 | [],y,_,h=>by
  rw [RW]at h;simp only [Tr.ev,AoD]at h;subst h;exact⟨λk hk=>(by cases hk),[],λB=>⟨rfl,rfl⟩,λ_=>by simp,λg hg=>(by cases hg)⟩
 | ((k,o),ts)::ms,y,hm,h=>by
  rw [RW]at h;simp only [Tr.ev,Ak,AoG,AoD]at h;obtain ⟨y1,hy1,y2,hy2,rfl⟩:=h;obtain ⟨n,hk,hle⟩:=hm ((k,o),ts) Z;obtain ⟨m2,H,m4,m5,m6⟩:=X2 hi mk ms (λp hp=>hm p (by simp [hp])) hy2;rcases hle with⟨hn0,hle⟩ | ⟨rfl,rfl,rfl⟩
  rotate_left
  .obtain ⟨xs,hxs,hmap⟩:=hi.mp k hk;simp only [Jl,Tr.ev,hxs,Ss,Ak,AoC,AoD]at hy1;subst hy1;exact⟨CM (λk hk=>by cases hk) m2,H,λB=>⟨_,_,[],H,rfl,rfl,.inr ⟨xs,rfl,hmap,rfl⟩,m4 B⟩,λhu=>m5 (by grind),λg hg=>by simpa using m6 g hg⟩
  obtain ⟨cs,e,fr,h1,h2,h3,h4,_⟩:=hi.ms k _ hk hn0;have hwl:((cs.toList.drop (c.mo k+o)).take ts.length).length=ts.length:=by
   grind
  obtain ⟨k2,G,k4,k5,k6⟩:=Rt hi mk k ts o _ hwl (λj v hv=>by
   grind) hy1
  have hl1:y1.1.length=ts.length:=by rw [<- hwl];exact(k4 []).len.symm
  refine⟨CM k2 m2,G++H,λB=>⟨y1.1,y2.1,G,H,rfl,rfl,.inl ⟨cs,e,fr,h1,h3,by grind,by grind⟩,m4 B⟩,?_,?_⟩
  .intro hu;obtain ⟨u1,u2,_⟩:=AU hu;exact(C5 hi k6 m6 k2 m2 hu (k5 u1) (m5 u2)).2
  .intro g hg;rcases AoK.1 hg with hg | hg
   .obtain ⟨k,h,h'⟩:=k6 g hg;grind
   .obtain ⟨k,h,h'⟩:=m6 g hg;grind
theorem GN (k:Nat):∀(n j:Nat) (ts:List (List Ty)) {C:AC} {vals:List Value} {F:List Nat} {y:List (List Ty)×AC},AInv b S c w C vals F->(Gp k n j ts C).ev S=some y->
  AInv b S c w y.2 vals F/\(∃more,y.2.ms=C.ms++more)/\y.2.as=C.as/\y.2.bw=C.bw/\y.2.gv=C.gv/\y.2.ln=C.ln
 | 0,j,ts,C,vals,F,y,hA,h=>by
  simp only [Gp,Tr.ev,AoD]at h;subst h
  simp_all
 | n+1,j,ts,C,vals,F,y,hA,h=>by
  simp only [Gp,Tr.ev]at h;split at h
  .rename_i k' _ _;split at h
   .exact GN k n (j+1) ts hA h
   .simp only [Tr.ev]at h;split at h
    .rename_i hm;obtain ⟨m,hm⟩:=Ap0.1 hm;simp only [Ak,AoG]at h;obtain ⟨y1,hy1,h⟩:=h;obtain ⟨q1,⟨m1,e1⟩,⟨a1,a2,a3⟩,_⟩:=QT hA hm hy1;obtain ⟨r1,⟨m2,e2⟩,b1,b2,b3,b4⟩:=GN k n (j+1) ts.tail q1 h;exact⟨r1,⟨m1++m2,by grind⟩,b1.trans a1,b2.trans a2,b3.trans a3,b4.trans (AgU hm hy1)⟩
    .simp [Tr.ev]at h
  .rename_i k' _;split at h
   .exact GN k n (j+1) ts hA h
   .rename_i hc;simp only [Ak,AoG]at h;obtain ⟨y1,hy1,h⟩:=h;obtain ⟨q1,⟨m1,e1⟩,a1,a2,a3,a4⟩:=Af4 hA (by grind) hy1;obtain ⟨r1,⟨m2,e2⟩,b1,b2,b3,b4⟩:=GN k n (j+1) ts q1 h
    grind
  .exact GN k n (j+1) ts hA h
theorem WZ:∀(n i:Nat) (ts:List (List Ty)) {C C':AC} {vals:List Value} {F:List Nat},AInv b S c w C vals F->(QU n i ts C).ev S=some C'->
  AInv b S c w C' vals F/\(∃more,C'.ms=C.ms++more)/\C'.as=C.as/\C'.bw=C.bw/\C'.gv=C.gv/\C'.ln=C.ln
 | 0,i,ts,C,C',vals,F,hA,h=>by
  simp only [QU,Tr.ev,AoD]at h
  simp_all
 | n+1,i,ts,C,C',vals,F,hA,h=>by
  simp only [QU]at h;split at h
  .simp only [Ak,AoG]at h;obtain ⟨y,hy,h⟩:=h;obtain ⟨q1,⟨m1,e1⟩,a1,a2,a3,a4⟩:=GN _ _ _ _ hA hy;obtain ⟨r1,⟨m2,e2⟩,b1,b2,b3,b4⟩:=WZ n (i+1) y.1 q1 h
   grind
  .simp only [Tr.ev,AoD]at h
   simp_all
end
end Go.V
namespace Go.V
open Go.RowKit
theorem AM {β:Type}:∀{l:List (Nat×β)} {k:Nat} {x:β},find l k=some x->(k,x)∈l
 | [],_,_,h=>by simp [find]at h
 | (i,y)::l,k,x,h=>by
  simp only [find]at h;split at h
  .grind
  .exact ApM _ (AM h)
theorem DX {β:Type}:∀{l:List (Nat×β)} {k:Nat} {x:β},(l.map (·.1)).Nodup->(k,x)∈l->find l k=some x
 | [],_,_,_,h=>by cases h
 | (i,y)::l,k,x,hn,h=>by
  rw [Apk,ApB]at hn;simp only [find];rcases AoY.1 h with h' | h'
  .grind
  .have hne:¬ k=i:=by
    grind
   rw [AoH hne];exact DX hn.2 h'
theorem Jh {β:Type}:∀{l:List (Nat×β)} {k:Nat},k∉l.map (·.1)->find l k=none
 | [],_,_=>rfl
 | (i,y)::l,k,h=>by
  simp only [Apk,AoY,not_or]at h;simp only [find,AoH h.1];exact Jh h.2
theorem Cr:∀{l:List Nat},AO l=true->l.Nodup
 | [],_=>by simp
 | k::l,h=>by
  obtain ⟨h1,h2⟩:=Th h;exact ApB.2 ⟨h1,Cr h2⟩
theorem TX:∀(l:List (Nat×Own)) (S:St),(l.map (·.1)).Nodup->(S.ups (HI l)).ms=S.ms/\(S.ups (HI l)).mc=S.mc/\(S.ups (HI l)).sl=S.sl/\∀k,(S.ups (HI l)).ow k=match find l k with | some o=>some o | none=>S.ow k
 | [],S,_=>⟨rfl,rfl,rfl,λ_=>rfl⟩
 | p::l,S,h=>by
  rw [Apk,ApB]at h;obtain ⟨h1,h2,h3,h4⟩:=TX l (S.up (.ow p.1 (some p.2))) h.2;refine⟨h1,h2,h3,λk=>?_⟩;show((S.up (.ow p.1 (some p.2))).ups (HI l)).ow k=_;rw [h4];obtain ⟨i,o⟩:=p;simp only [find];by_cases hk:k=i
  .subst hk;rw [Jh h.1];simp [St.up]
  .simp only [AoH hk];have:(S.up (.ow i (some o))).ow k=S.ow k:=by show(if k=i then some o else S.ow k)=_;grind
   rw [this]
theorem Aaz (k:Nat):∀(ls:List Leaf) (off:Nat) (S:St),(S.ups (H9 k ls off)).ms=S.ms/\(S.ups (H9 k ls off)).ow=S.ow/\(S.ups (H9 k ls off)).sl=S.sl/\
  ∀k' i,(S.ups (H9 k ls off)).mc k' i=if k'=k/\off<=i/\i < off+ls.length then ls.getD (i - off) .no else S.mc k' i
 | [],off,S=>⟨rfl,rfl,rfl,λk' i=>by rw [AoH Z];rfl⟩
 | l::ls,off,S=>by
  obtain ⟨h1,h2,h3,h4⟩:=Aaz k ls (off+1) (S.up (.mc k off l));refine⟨h1,h2,h3,λk' i=>?_⟩;show((S.up (.mc k off l)).ups (H9 k ls (off+1))).mc k' i=_;rw [h4];by_cases hk:k'=k
  .subst hk;by_cases h5:off+1<=i/\i < off+1+ls.length
   .grind
   .rw [AoH O];show(if k'=k' then(if i=off then l else S.mc k' i)else S.mc k' i)=_
    grind
  .rw [AoH O,AoH O];show(if k'=k then _ else S.mc k' i)=_
   grind
theorem Aag:∀(l:List ((Nat×Nat)×List Leaf)) (S:St),(l.map (·.1.1)).Nodup->(S.ups (IG l)).ms=S.ms/\(S.ups (IG l)).ow=S.ow/\(S.ups (IG l)).sl=S.sl/\
  (∀k i,k∉l.map (·.1.1)->(S.ups (IG l)).mc k i=S.mc k i)/\∀p,p∈l->∀i,(S.ups (IG l)).mc p.1.1 i=if p.1.2<=i/\i < p.1.2+p.2.length then p.2.getD (i - p.1.2) .no else S.mc p.1.1 i
 | [],S,_=>⟨rfl,rfl,rfl,λ_ _ _=>rfl,λ_ h=>by cases h⟩
 | p::l,S,h=>by
  rw [Apk,ApB]at h;obtain ⟨a1,a2,a3,a4⟩:=Aaz p.1.1 p.2 p.1.2 S;obtain ⟨h1,h2,h3,h4,h5⟩:=Aag l (S.ups (H9 p.1.1 p.2 p.1.2)) h.2;have e:S.ups (IG (p::l))=(S.ups (H9 p.1.1 p.2 p.1.2)).ups (IG l):=EH _ _ _;rw [e];refine⟨h1.trans a1,h2.trans a2,h3.trans a3,λk i hk=>?_,λq hq i=>?_⟩
  .grind
  grind
def Kk (w:World) (K:Nat->Prop) (p:Nat×Own) (n:New) (F:List Nat):Prop:=n.o=p.2/\F=n.F/\Rp w K (.sl true n.o.e n.o.r) n.o.xs [n.h] n.F
def Hv (S:St) (c:Cc) (l:List (Nat×Own)) (ns:List New):Prop:=∀k n,(k,n)∈(l.map (·.1)).zip ns->S.ow k=some n.o/\c.hv k=n.h
section
variable {w:World} {K:Nat->Prop}
theorem Hv.left {S:St} {c:Cc} {l l':List (Nat×Own)} {ns ns':List New} (hl:ns.length=l.length) (h:Hv S c (l++l') (ns++ns')):Hv S c l ns:=λk n hk=>h k n (by
 grind)
theorem Hv.right {S:St} {c:Cc} {l l':List (Nat×Own)} {ns ns':List New} (hl:ns.length=l.length) (h:Hv S c (l++l') (ns++ns')):Hv S c l' ns':=λk n hk=>h k n (by
 grind)
theorem Ou (key:Nat) {l:Ae} {v:Value} {F:List Nat} (h:ALOk w K l v F):∃ns,FL (Kk w K) (Da key l).2 ns F/\∀S c,Hv S c (Da key l).2 ns->LeafOk S c w K (Da key l).1 v:=by
 obtain ⟨t,x⟩:=l;have other:Da key ⟨t,x⟩=(.v t x,[])->t.own=false->∃ns,FL (Kk w K) (Da key ⟨t,x⟩).2 ns F/\∀S c,Hv S c (Da key ⟨t,x⟩).2 ns->LeafOk S c w K (Da key ⟨t,x⟩).1 v:=by
  intro e ho;have hF:=h.2 ho;subst hF;rw [e];exact⟨[],⟨rfl,rfl⟩,λ_ _ _=>h.1⟩
 cases t with
 | sl o e r=>
  cases o with
  | true=>
   refine⟨[⟨⟨e,r,x⟩,v,F⟩],⟨_,[],F,[],rfl,Z,⟨rfl,rfl,h.1⟩,rfl,rfl⟩,λS c hv=>?_⟩;obtain ⟨h1,h2⟩:=hv key ⟨⟨e,r,x⟩,v,F⟩ (by simp [Da]);exact⟨_,e,r,x,v,h1,rfl,by rw [h2];rfl,rfl⟩
  | false=>exact other rfl rfl
 | _=>exact other rfl rfl
theorem QF:∀(ls:List Ae) (key:Nat) {vs:List Value} {F:List Nat},FL (ALOk w K) ls vs F->
  ∃ns,FL (Kk w K) (Gq key ls).2 ns F/\∀S c,Hv S c (Gq key ls).2 ns->All2 (LeafOk S c w K) (Gq key ls).1 vs
 | [],key,_,_,h=>by
  obtain ⟨rfl,rfl⟩:=h;exact⟨[],⟨rfl,rfl⟩,λ_ _ _=>.nil⟩
 | l::ls,key,_,_,h=>by
  obtain ⟨v,vs,F1,F2,rfl,rfl,h1,h2⟩:=h;obtain ⟨n1,k1,k2⟩:=Ou key h1;obtain ⟨n2,k3,k4⟩:=QF ls (key+1) h2;exact⟨n1++n2,k1.append k3,λS c hv=>.cons (k2 S c (Hv.left k1.len hv)) (k4 S c (Hv.right k1.len hv))⟩
theorem Aig (msK:List (Nat×Nat)) (mb mo:Nat->Nat) (key:Nat) {a:A1} {v:Value} {F:List Nat} {x:S1×List (Nat×Own)} (h:A1Ok w K (msK.map (loc mb mo)) a v F) (hb:Qf msK key a=some x) :
  ∃ns,FL (Kk w K) x.2 ns F/\∀S c,Hv S c x.2 ns->(∀k,k∈msK->S.ms k.1≠none)->(∀k,k∈msK->c.mb k.1=mb k.1/\c.mo k.1=mo k.1)->S1Ok S c w K x.1 v:=by
 cases a with
 | one l=>
  simp only [Qf,AoD]at hb;subst hb;obtain ⟨ns,h1,h2⟩:=Ou key h;exact⟨ns,h1,λS c hv _ _=>h2 S c hv⟩
 | ag ls=>
  simp only [Qf,AoD]at hb;subst hb;obtain ⟨vs,rfl,h⟩:=h;obtain ⟨ns,h1,h2⟩:=QF ls key h;exact⟨ns,h1,λS c hv _ _=>⟨vs,rfl,h2 S c hv⟩⟩
 | pl m off=>
  simp only [Qf]at hb;split at hb
  .rename_i k hk;simp only [AoD]at hb;subst hb;obtain ⟨rfl,g,hg,rfl⟩:=h;rw [Apl,hk]at hg;simp only [Apz,AoD]at hg;subst hg;refine⟨[],⟨rfl,rfl⟩,λS c _ h1 h2=>?_⟩;have hm:=Api hk;obtain ⟨n,hn⟩:=ApK.1 (h1 k hm);exact⟨n,hn,by grind⟩
  .cases hb
 | rp t y off=>
  simp only [Qf,AoD]at hb;subst hb;obtain ⟨rfl,h⟩:=h;exact⟨[],⟨rfl,rfl⟩,λS c _ _ _=>h⟩
 | fv f cs=>
  simp only [Qf]at hb;split at hb
  .rename_i l hl;simp only [AoD]at hb;subst hb;obtain ⟨rfl,vs,rfl,h⟩:=h;refine⟨[],⟨rfl,rfl⟩,λS c _ h1 h2=>⟨vs,rfl,?_⟩⟩;have key:∀(cs l:List (Nat×Nat)) (vs:List Value),All2 (λp v=>∃g,(msK.map (loc mb mo))[p.1]?=some g/\v=.pointer (some ⟨g.1,g.2+p.2,none⟩)) cs vs->O7 msK cs=some l->All2 (Wh S c) l vs:=by
    intro cs l vs h
    induction h generalizing l with
    | nil=>intro hl;simp only [O7,AoD]at hl;subst hl;exact .nil
    | @cons p v cs vs q1 _ ih=>
     intro hl;simp only [O7]at hl;split at hl
     .rename_i k l' e1 e2;simp only [AoD]at hl;subst hl;obtain ⟨g,hg,rfl⟩:=q1;rw [Apl,e1]at hg;simp only [Apz,AoD]at hg;subst hg;have hm:=Api e1;obtain ⟨n,hn⟩:=ApK.1 (h1 k hm);exact .cons ⟨n,hn,by grind⟩ (ih l' e2)
     .cases hl
   grind
  .cases hb
theorem Of (msK:List (Nat×Nat)) (mb mo:Nat->Nat):∀(as:List A1) (key:Nat) {vs:List Value} {F:List Nat} {x:List S1×List (Nat×Own)},FL (A1Ok w K (msK.map (loc mb mo))) as vs F->IV msK key as=some x->
  ∃ns,FL (Kk w K) x.2 ns F/\∀S c,Hv S c x.2 ns->(∀k,k∈msK->S.ms k.1≠none)->(∀k,k∈msK->c.mb k.1=mb k.1/\c.mo k.1=mo k.1)->All2 (S1Ok S c w K) x.1 vs
 | [],key,_,_,x,h,hb=>by
  obtain ⟨rfl,rfl⟩:=h;simp only [IV,AoD]at hb;subst hb;exact⟨[],⟨rfl,rfl⟩,λ_ _ _ _ _=>.nil⟩
 | a::as,key,_,_,x,h,hb=>by
  obtain ⟨v,vs,F1,F2,rfl,rfl,h1,h2⟩:=h;simp only [IV]at hb;split at hb
  .rename_i x1 x2 e1 e2;simp only [AoD]at hb;subst hb;obtain ⟨n1,k1,k2⟩:=Aig msK mb mo key h1 e1;obtain ⟨n2,k3,k4⟩:=Of msK mb mo as (key+64) h2 e2;exact⟨n1++n2,k1.append k3,λS c hv g1 g2=>.cons (k2 S c (Hv.left k1.len hv) g1 g2) (k4 S c (Hv.right k1.len hv) g1 g2)⟩
  .cases hb
theorem AbH (mk:List (Nat×Nat)) (mb mo:Nat->Nat) (key:Nat) {l:Ae} {v:Value} {F:List Nat} (h:ROk w K (mk.map (loc mb mo)) l v F) :
  ∃ns,FL (Kk w K) (Gn mk key l).2 ns F/\∀S c,Hv S c (Gn mk key l).2 ns->(∀k,k∈mk->S.ms k.1≠none)->(∀k,k∈mk->c.mb k.1=mb k.1/\c.mo k.1=mo k.1)->(∀k,k∈mk->∀es n,w.heap[mb k.1]?=some (.map es n)->S.ms k.1=some 0)->LeafOk S c w K (Gn mk key l).1 v:=by
 rcases h with h | ⟨rfl,p,g,rfl,hg,rfl⟩ | ⟨rfl,m,g,rfl,hg,rfl,es,n,hes⟩
 .have e:Gn mk key l=Da key l:=by
   unfold Gn;split
   .exact absurd h.1 (by simp only [Rp];simp)
   .rename_i m;have h0:=h.1;obtain ⟨_,_,h0⟩:=h0;rw [show m=(0:Nat) from h0];rfl
   .exact absurd h.1 (by simp only [Rp];simp)
   .rfl
  obtain ⟨ns,h1,h2⟩:=Ou key h
  grind
 .rw [Apl,Apx]at hg;obtain ⟨k,hk,rfl⟩:=hg;refine⟨[],⟨rfl,rfl⟩,λS c _ h1 h2 _=>?_⟩;have hm:=Api hk;obtain ⟨n,hn⟩:=ApK.1 (h1 k hm);simp only [Gn,hk];exact⟨n,hn,by grind⟩
 .rw [Apl,Apx]at hg;obtain ⟨k,hk,rfl⟩:=hg;refine⟨[],⟨rfl,rfl⟩,λS c _ h1 h2 h3=>?_⟩;have hm:=Api hk;simp only [Gn,hk];exact⟨h3 k hm es n hes,by grind⟩
theorem RT (mk:List (Nat×Nat)) (mb mo:Nat->Nat):∀(ls:List Ae) (key:Nat) {vs:List Value} {F:List Nat},FL (ROk w K (mk.map (loc mb mo))) ls vs F->
  ∃ns,FL (Kk w K) (EO mk key ls).2 ns F/\∀S c,Hv S c (EO mk key ls).2 ns->(∀k,k∈mk->S.ms k.1≠none)->(∀k,k∈mk->c.mb k.1=mb k.1/\c.mo k.1=mo k.1)->(∀k,k∈mk->∀es n,w.heap[mb k.1]?=some (.map es n)->S.ms k.1=some 0)->All2 (LeafOk S c w K) (EO mk key ls).1 vs
 | [],key,_,_,h=>by
  obtain ⟨rfl,rfl⟩:=h;exact⟨[],⟨rfl,rfl⟩,λ_ _ _ _ _ _=>.nil⟩
 | l::ls,key,_,_,h=>by
  obtain ⟨v,vs,F1,F2,rfl,rfl,h1,h2⟩:=h;obtain ⟨n1,k1,k2⟩:=AbH mk mb mo key h1;obtain ⟨n2,k3,k4⟩:=RT mk mb mo ls (key+1) h2;exact⟨n1++n2,k1.append k3,λS c hv g1 g2 g3=>.cons (k2 S c (Hv.left k1.len hv) g1 g2 g3) (k4 S c (Hv.right k1.len hv) g1 g2 g3)⟩
theorem GA (mk:List (Nat×Nat)):∀(ls:List Ae) (key:Nat),(EO mk key ls).1.length=ls.length
 | [],_=>rfl
 | l::ls,key=>by simp [EO,GA mk ls (key+1)]
theorem Oa (mk:List (Nat×Nat)) (mb mo:Nat->Nat):∀(msK:List (Nat×Nat)) (rs:List (List Ae)) (key:Nat) {F:List Nat} {x:List ((Nat×Nat)×List Leaf)×List (Nat×Own)},RowsOk w K (mk.map (loc mb mo)) (msK.map (loc mb mo)) rs F->F5 mk key msK rs=some x->
  x.1.map (·.1)=msK/\x.1.map (·.2.length)=rs.map List.length/\(∀p,p∈x.1->(∃cs e fr,w.heap[mb p.1.1]?=some (.cells cs e fr))\/∃xs,p.2=[.md xs]/\MapAt w (mb p.1.1) xs)/\
  ∃ns,FL (Kk w K) x.2 ns F/\∀S c,Hv S c x.2 ns->(∀k,k∈mk->S.ms k.1≠none)->(∀k,k∈mk->c.mb k.1=mb k.1/\c.mo k.1=mo k.1)->(∀k,k∈mk->∀es n,w.heap[mb k.1]?=some (.map es n)->S.ms k.1=some 0)->∀p,p∈x.1->(∃cs e fr,w.heap[mb p.1.1]?=some (.cells cs e fr)/\NF fr cs.size/\mo p.1.1+p.1.2+p.2.length<=cs.size/\All2 (LeafOk S c w K) p.2 ((cs.toList.drop (mo p.1.1+p.1.2)).take p.2.length))\/∃xs,p.2=[.md xs]/\MapAt w (mb p.1.1) xs
 | [],[],key,F,x,h,hb=>by
  simp only [F5,AoD]at hb;subst hb;exact⟨rfl,rfl,(λp hp=>by cases hp),[],⟨rfl,h.2⟩,λ_ _ _ _ _ _ p hp=>by cases hp⟩
 | k::ms,r::rs,key,F,x,h,hb=>by
  obtain ⟨r',rs',F1,F2,e1,rfl,h1,h4⟩:=h;injection e1 with e1 e2
  subst e1 e2;simp only [F5]at hb;split at hb
  .rename_i y hy;simp only [AoD]at hb;subst hb;obtain ⟨g1,g2,g3,n2,k3,k4⟩:=Oa mk mb mo ms rs (key+64) h4 hy;rcases h1 with⟨cs,e,fr,h1,h2,h3,h5⟩ | ⟨xs,rfl,hm,rfl⟩
   .obtain ⟨n1,k1,k2⟩:=RT mk mb mo r key h5;refine⟨by simp [g1],by simp [g2,GA],λp hp=>(AoY.1 hp).elim (λh=>by grind) (g3 p),n1++n2,k1.append k3,λS c hv c1 c2 c3 p hp=>?_⟩;rcases AoY.1 hp with rfl | hp
    .exact .inl ⟨cs,e,fr,h1,h2,by simp only [GA];exact h3,by simp only [GA];exact k2 S c (Hv.left k1.len hv) c1 c2 c3⟩
    .exact k4 S c (Hv.right k1.len hv) c1 c2 c3 p hp
   .refine⟨by simp [g1],by simp [g2,GA],λp hp=>(AoY.1 hp).elim (λh=>by subst h;exact .inr ⟨xs,rfl,hm⟩) (g3 p),n2,k3,λS c hv c1 c2 c3 p hp=>?_⟩;rcases AoY.1 hp with rfl | hp
    .exact .inr ⟨xs,rfl,hm⟩
    .exact k4 S c hv c1 c2 c3 p hp
  .cases hb
 | [],r::rs,key,F,x,h,hb=>by simp [F5]at hb
 | k::ms,[],key,F,x,h,hb=>by simp [F5]at hb
theorem Af8 {S:St} {c:Cc}:∀{xs:List S1} {vs:List Value},All2 (S1Ok S c w K) xs vs->AX S c w K (Z0 xs) (WE vs)
 | [],_,.nil=>⟨[],rfl,.nil⟩
 | [_],_,.cons h .nil=>h
 | _::_::_,_,.cons (b:=v) h (.cons (b:=u) (bs:=vs) h1 h2)=>⟨v::u::vs,rfl,.cons h (.cons h1 h2)⟩
theorem Rh:∀{l:List (Nat×Own)} {ns:List New} {F:List Nat},FL (Kk w K) l ns F->∀k,(match find ((l.map (·.1)).zip ns) k with | some n=>some n.o | none=>none)=find l k
 | [],_,_,h,k=>by rw [h.1];rfl
 | (i,o)::l,_,_,⟨n,ns,F1,F2,e1,_,h1,h2⟩,k=>by
  subst e1;simp only [Apk,List.zip_cons_cons,find];by_cases hk:k=i
  .rw [AoJ hk,AoJ hk];simp [h1.1]
  .rw [AoH hk,AoH hk];exact Rh h2 k
theorem EC:∀{l:List (Nat×Own)} {ns:List New} {F:List Nat},FL (Kk w K) l ns F->∀k n,find ((l.map (·.1)).zip ns) k=some n->k∈l.map (·.1)/\(∀g,g∈n.F->g∈F)/\(F.Nodup->n.F.Nodup)/\Rp w K (.sl true n.o.e n.o.r) n.o.xs [n.h] n.F
 | [],_,_,h,k,n,hf=>by simp [find]at hf
 | (i,o)::l,_,_,⟨n',ns,F1,F2,e1,e2,⟨h1,h1',h1''⟩,h2⟩,k,n,hf=>by
  subst e1 e2;simp only [Apk,List.zip_cons_cons,find]at hf;split at hf
  .grind
  .obtain ⟨a1,a2,a3,a4⟩:=EC h2 k n hf
   grind
theorem Ug:∀{l:List (Nat×Own)} {ns:List New} {F:List Nat},FL (Kk w K) l ns F->F.Nodup->∀k n k' n',k≠k'->find ((l.map (·.1)).zip ns) k=some n->find ((l.map (·.1)).zip ns) k'=some n'->∀g,g∈n.F->g∉n'.F
 | [],_,_,h,_,k,n,_,_,_,hf,_=>by simp [find]at hf
 | (i,o)::l,_,_,⟨m,ns,F1,F2,e1,e2,⟨h1,h1',h1''⟩,h2⟩,hn,k,n,k',n',hne,hf,hf'=>by
  subst e1 e2;obtain ⟨d1,d2,d3⟩:=Apc.1 hn;simp only [Apk,List.zip_cons_cons,find]at hf hf';intro g hg hg';split at hf
  .rename_i hk;injection hf with hf
   subst hf h1';rw [AoH (λh=>hne (hk.trans h.symm))]at hf';exact d3 g hg g ((EC h2 k' n' hf').2.1 g hg') rfl
  .split at hf'
   .injection hf' with hf'
    subst hf' h1';exact d3 g hg' g ((EC h2 k n hf).2.1 g hg) rfl
   .exact Ug h2 d2 k n k' n' hne hf hf' g hg hg'
end
theorem LeafOk.mono {S:St} {c:Cc} {w:World} {K K':Nat->Prop} (hK:∀g,g < w.heap.size->K g->K' g) {l:Leaf} {v:Value} (h:LeafOk S c w K l v):LeafOk S c w K' l v:=by
 cases l with
 | v t x=>exact Rp.mono hK _ _ h
 | _=>exact h
theorem S1Ok.mono {S:St} {c:Cc} {w:World} {K K':Nat->Prop} (hK:∀g,g < w.heap.size->K g->K' g) {x:S1} {v:Value} (h:S1Ok S c w K x v):S1Ok S c w K' x v:=by
 cases x with
 | one l=>exact LeafOk.mono hK h
 | ag ls=>obtain ⟨vs,e,h⟩:=h;exact⟨vs,e,h.mono λ_ _ h=>LeafOk.mono hK h⟩
 | rp t x off=>obtain ⟨a,vs,h1,h2,h3,h4,h5⟩:=h;exact⟨a,vs,h1,Rp.mono hK _ _ h2,hK _ h4 h3,h4,h5⟩
 | _=>exact h
section
variable {P:Program} {E:Env} {b:Base} {S:St} {c:Cc} {w:World}
theorem Ai8 (S:St) (ks:List Kl):(S.kp ks).ms=S.ms/\(S.kp ks).ow=S.ow/\∀k i,(S.kp ks).mc k i=(S.mc k i).kp ks:=
 ⟨GX S ks,Gr S ks,λk i=>E8 S ks k i⟩
theorem LentOk.mono {w:World} {K K':Nat->Prop} {vals:List Value} (hK:∀g,g < w.heap.size->K g->K' g):∀{l:List ((Nat×Nat)×Ae)} {F},LentOk w K vals l F->LentOk w K' vals l F
 | [],_,h=>h
 | _::_,_,⟨v,F1,F2,e,h1,h2,h3⟩=>⟨v,F1,F2,e,h1,ALOk.mono hK h2,LentOk.mono hK h3⟩
theorem LentOk.noRo {w:World} {K K':Nat->Prop} {vals:List Value}:∀{l:List ((Nat×Nat)×Ae)} {F},(l.any λx=>x.2.1.hasRo)=false->LentOk w K vals l F->LentOk w K' vals l F
 | [],_,_,h=>h
 | _::_,_,hr,⟨v,F1,F2,e,h1,h2,h3⟩=>by
  simp only [List.any_cons,Bool.or_eq_false_iff]at hr;exact⟨v,F1,F2,e,h1,ALOk.noRo hr.1 h2,LentOk.noRo hr.2 h3⟩
theorem Pn (hi:Inv b S w c) {w':World} {K2:Nat->Prop} {vals:List Value} {gv F:List Nat} (hgv:Ows S gv) (hKS:KSame w w' (Kok b S c) K2) (hsame:∀k,S.ow k≠none->∀g,g∈c.F k->g∉F->w'.heap[g]?=w.heap[g]?) :
  ∀(L:List ((Nat×Nat)×Option (Nat×AT))) (rl:List ((Nat×Nat)×Ae)) {lts:List (Nat×Own)} {F3:List Nat},(∀e,e∈L->∃v,Fe vals e.1=some v/\LnOk S c w (Kok b S c) e.2 v gv F)->(FF L rl).ev S=some lts->
   LentOk w' K2 vals rl F3->F3.Nodup->(∀g,g∈F3->g∈F\/w.heap.size<=g)->(lts.map (·.1)).Nodup->
   lts.map (·.1)=Ee L/\(∀k,k∈Ee L->k∈gv)/\∃ns FL3,FL (Kk w' K2) lts ns FL3/\FL3.Nodup/\(∀g,g∈FL3->g∈F3\/∃k,k∈Ee L/\g∈c.F k/\g∉F)/\
    ∀k n,(k,n)∈(lts.map (·.1)).zip ns->n.h=c.hv k/\∃o xs',S.ow k=some o/\n.o=⟨o.e,o.r,xs'⟩/\xs'.length=o.xs.length
 | [],[],lts,F3,_,h,hl,_,_,_=>by
  simp only [FF,Tr.ev,AoD]at h;subst h;exact⟨rfl,λk hk=>(by cases hk),[],[],⟨rfl,rfl⟩,Z,λg hg=>(by cases hg),λk n hk=>(by cases hk)⟩
 | [],_::_,_,_,_,h,_,_,_,_=>by simp [FF,Tr.ev]at h
 | (p,none)::L,[],_,_,_,h,_,_,_,_=>by simp [FF,Tr.ev]at h
 | (p,some (k,st))::L,[],_,_,_,h,_,_,_,_=>by simp [FF,Tr.ev]at h
 | (p,none)::L,(p',a)::rl,lts,F3,hL,h,hl,hnd,hF3,hk=>by
  simp only [FF]at h;split at h
  .rename_i hp;subst hp;obtain ⟨v,F1,F2,rfl,h1,h2,h3⟩:=hl;obtain ⟨n1,n2,n3⟩:=Apc.1 hnd;obtain ⟨q1,q2,ns,FL3,q3,q4,q5,q6⟩:=Pn hi hgv hKS hsame L rl (λe he=>hL e (by simp [he])) h h3 n2 (λg hg=>hF3 g (by simp [hg])) hk;exact⟨q1,q2,ns,FL3,q3,q4,λg hg=>(q5 g hg).imp (λh=>by simp [h]) id,q6⟩
  .simp [Tr.ev]at h
 | (p,some (k,st))::L,(p',⟨at',ax⟩)::rl,lts,F3,hL,h,hl,hnd,hF3,hk=>by
  simp only [FF]at h;split at h
  .rename_i hp;subst hp;obtain ⟨v,F1,F2,rfl,h1,h2,h3⟩:=hl;obtain ⟨v',hv',hkg,Fa,Fb,⟨o0,ho0,⟨G0,hF0⟩,hback⟩,hdis⟩:=hL (p,some (k,st)) Z;obtain rfl:v=v':=by grind
   simp only [Tr.ev,ho0,Ak,AoG]at h;obtain ⟨⟨dt,dx⟩,hd,h⟩:=h;split at h
   .rename_i hty;simp only at hty;subst hty;simp only [Ak,AoG,Tr.ev,AoD]at h;obtain ⟨zs,hzs,y,hy,rfl⟩:=h;rw [Lm]at hd;rw [Uo]at hzs;obtain ⟨n1,n2,n3⟩:=Apc.1 hnd;simp only [Apk,ApB]at hk;obtain ⟨q1,q2,ns,FL3,q3,q4,q5,q6⟩:=Pn hi hgv hKS hsame L rl (λe he=>hL e (by simp [he])) hy h3 n2 (λg hg=>hF3 g (by simp [hg])) hk.2;have hko:S.ow k≠none:=by grind
    have hnk:=hi.nd k hko;have hlt:∀g,g∈c.F k->g < w.heap.size:=λg hg=>(hi.fr g (.inr ⟨k,hko,hg⟩)).1
    have hin:∀g,g∈Fa\/g∈Fb->g∈c.F k:=λg hg=>by grind
    have hnF:∀g,g∈Fa\/g∈Fb->g∉F:=λg hg hx=>hg.elim (hdis g hx).1 (hdis g hx).2
    have hFF:∀g,g∈F1++F2->¬ (g∈Fa\/g∈Fb):=by
     grind
    have hkr:k∉Ee L:=by grind
    have hR:=hback ⟨at',dx⟩ ax zs hd hzs w' K2 F1 h2.1 hKS (λg hg=>hsame k hko g (hin g (.inl hg)) (hnF g (.inl hg))) (λg hg=>hsame k hko g (hin g (.inr hg)) (hnF g (.inr hg)));have hlen:zs.length=o0.xs.length:=by
     obtain ⟨A,cp,e1,_⟩:=N0 hR;obtain ⟨A',cp',e2,_⟩:=N0 (hi.ow k o0 ho0)
     grind
    rw [hF0]at hnk;obtain ⟨a1,a2,a3⟩:=Apc.1 hnk;obtain ⟨b1,b2,b3⟩:=Apc.1 a2;have hX:∀g,g∈FL3->¬ (g∈Fa\/g∈Fb)/\g∉F1:=by
     intro g hg;rcases q5 g hg with h | ⟨k',hk',hg',hgF⟩
     .grind
     .have hne:k≠k':=by grind
      have hko':S.ow k'≠none:=hgv k' (q2 k' hk');refine⟨λhx=>hi.oo k k' hne hko hko' g (hin g hx) hg',λhx=>?_⟩;rcases hF3 g (by simp [hx])with h | h
      .exact hgF h
      .have:=(hi.fr g (.inr ⟨k',hko',hg'⟩)).1;omega
    refine⟨by simp [Ee,q1],?_,⟨⟨o0.e,o0.r,zs⟩,c.hv k,Fa++(F1++Fb)⟩::ns,(Fa++(F1++Fb))++FL3,⟨_,ns,_,FL3,rfl,rfl,⟨rfl,rfl,hR⟩,q3⟩,?_,?_,?_⟩
    .intro k' hk';simp only [Ee,AoY]at hk'
     grind
    .grind
    .intro g hg;simp only [AoK]at hg;rcases hg with(hg | hg | hg) | hg
     .exact .inr ⟨k,by simp [Ee],hin g (.inl hg),hnF g (.inl hg)⟩
     .grind
     .exact .inr ⟨k,by simp [Ee],hin g (.inr hg),hnF g (.inr hg)⟩
     .rcases q5 g hg with h | ⟨k',h1,h2⟩
      .grind
      .exact .inr ⟨k',by simp [Ee,h1],h2⟩
    .intro k' n hm;simp only [Apk,List.zip_cons_cons,AoY,Prod.mk.injEq]at hm
     grind
   .simp [Tr.ev]at h
  .simp [Tr.ev]at h
set_option maxHeartbeats 1000000 in
theorem Ai9 (hi:Inv b S w c) {C:AC} {us:List Value} {F1:List Nat} (hA:AInv b S c w C us F1) {rows:List (List Ae)×List Nat} {r:Res}
  (hro:C.bw=[]\/((r.val.any A1.hasRo=false/\(r.rows.any λl=>l.any λx=>x.1.hasRo)=false)/\(r.lent.any λx=>x.2.1.hasRo)=false)) {d:Nat} {vs:List S1×List (Nat×Own)} {rs:List ((Nat×Nat)×List Leaf)×List (Nat×Own)} {lts:List (Nat×Own)}
  (hlt:(FF C.ln r.lent).ev S=some lts)
  (hv:IV (C.ms.map (·.1)) (kd d 0) r.val=some vs) (hr:F5 (C.ms.map (·.1)) (kd d 512) (C.ms.map (·.1)) r.rows=some rs) (hu2:AO ((vs.2++(rs.2++lts)).map (·.1))=true) (hlen:r.rows.map List.length=C.ms.map λm=>m.2.length)
  {F2:List Nat} (hF2:CK c rows.2 F2) (hgv2:Ows S rows.2) (hun:AO (C.gv++rows.2)=true) {more:List Value} {v:Value} {w':World} (hp:IY w (KB b S c C.bw) (C.ms.map (plc c)) (F1++F2) (us++more) r v w') :
  Did b S c w ⟨Z0 vs.1,Ct (YF (Ee C.ln) C.gv++rows.2)++((Ee C.ln).map Kl.deep++Ct ((vs.2++rs.2).map (·.1))),Cw (C.gv++rows.2)++(HI (vs.2++(rs.2++lts))++IG rs.1)⟩ v w':=by
 obtain ⟨vals,G1,G2,G3,rfl,p1,p2,p2',p3,p4,p5,p6⟩:=hp;have hmap:C.ms.map (plc c)=(C.ms.map (·.1)).map (loc c.mb c.mo):=by simp
 rw [hmap]at p1 p2 p2' p3 p5 p6;have hmap1:((C.ms.map (·.1)).map (loc c.mb c.mo)).map (·.1)=(C.ms.map (·.1.1)).map c.mb:=by simp
 rw [hmap1]at p1 p2 p2' p3 p5;have hms1:(C.ms.map (·.1)).map (·.1)=C.ms.map (·.1.1):=by simp
 have hun1:=hA.un;have hmsA:=hA.ms;generalize hmsQ:C.ms.map (·.1.1)=msQ at *;generalize hms:C.ms.map (·.1)=msK at *
 let K2:Nat->Prop:=λg=>(Kok b S c g/\g < w.heap.size)\/((w.heap.size<=g\/g∈F1++F2)/\g∉G1++(G2++G3))
 have q12:FL (A1Ok w' K2 (msK.map (loc c.mb c.mo))) r.val vals G1/\RowsOk w' K2 (msK.map (loc c.mb c.mo)) (msK.map (loc c.mb c.mo)) r.rows G2/\LentOk w' K2 (us++more) r.lent G3:=by
  rcases hro with hb | ⟨⟨h1,h2⟩,h3⟩
  .have hK:∀g,g < w'.heap.size->((KB b S c C.bw g\/w.heap.size<=g\/g∈F1++F2)/\g∉msQ.map c.mb++(G1++(G2++G3)))->K2 g:=by
    rintro g _ ⟨h1,h2⟩;have h3:g∉G1++(G2++G3):=λh=>h2 (by simp only [AoK]at h ⊢;exact .inr h)
    rcases h1 with h1 | h1 | h1
    .rcases h1 with h1 | ⟨k,hk,_⟩ | ⟨k,hk,_⟩
     .by_cases hg:g < w.heap.size
      .exact .inl ⟨h1,hg⟩
      .exact .inr ⟨.inl O,h3⟩
     .rw [hb]at hk;cases hk
     .rw [hb]at hk;cases hk
    .exact .inr ⟨.inl h1,h3⟩
    grind
   exact⟨p1.mono λ_ _ _ h=>A1Ok.mono hK h,RowsOk.mono hK p2,LentOk.mono hK p2'⟩
  .rw [Ap8]at h1;exact⟨FL.mono' (λx hx v F _ h=>A1Ok.noRo (by simpa using h1 x hx) h) p1,RowsOk.noRo h2 p2,LentOk.noRo h3 p2'⟩
 obtain ⟨q1,q2,q3⟩:=q12;obtain ⟨n1,a1,a2⟩:=Of msK c.mb c.mo r.val (kd d 0) q1 hv;obtain ⟨b1,b2,b5,n2,b3,b4⟩:=Oa msK c.mb c.mo msK r.rows (kd d 512) q2 hr;generalize hgs:C.gv++rows.2=gs at *;have hgo:Ows S gs:=by rw [<- hgs];exact CM hA.gv hgv2
 have hFh:CK c gs (F1++F2):=by
  intro g hg;rw [<- hgs];rcases AoK.1 hg with hg | hg
  .obtain ⟨k,h,h'⟩:=hA.held g hg;exact⟨k,by simp [h],h'⟩
  .obtain ⟨k,h,h'⟩:=hF2 g hg;exact⟨k,by simp [h],h'⟩
 have hnl:n1.length=vs.2.length:=a1.len;have hkeys:=Cr hu2;have hnd0:(G1++(G2++G3)).Nodup:=(Apc.1 p3).2.1;obtain ⟨hndA,hndB,hndC⟩:=Apc.1 hnd0;obtain ⟨hndD,hndE,hndF⟩:=Apc.1 hndB;have hkeys3:(lts.map (·.1)).Nodup:=by
  rw [Ape,Ape]at hkeys;exact(Apc.1 (Apc.1 hkeys).2.1).2.1
 have hOwn:∀g,g∈msQ.map c.mb++(F1++F2)->A5 S c g:=by
  intro g hg;rcases AoK.1 hg with hg | hg
  .obtain ⟨k,hk,rfl⟩:=Ao0.1 hg;rw [<- hmsQ]at hk;obtain ⟨p,hp,rfl⟩:=Ao0.1 hk;obtain ⟨n,hn,_⟩:=hmsA p hp;exact .inl ⟨p.1.1,by rw [hn];simp,rfl⟩
  .obtain ⟨k,h,h'⟩:=hFh g hg;exact .inr ⟨k,hgo k h,h'⟩
 have hKS:KSame w w' (Kok b S c) K2:=⟨p5.size,λg hg hlt=>⟨p5.same g hlt λh=>hg.2 (hOwn g h),.inl ⟨hg,hlt⟩⟩⟩
 have hsm:∀k,S.ow k≠none->∀g,g∈c.F k->g∉F1++F2->w'.heap[g]?=w.heap[g]?:=by
  intro k hk g hg hgF;refine p5.same g (hi.fr g (.inr ⟨k,hk,hg⟩)).1 λh=>?_
  rcases AoK.1 h with h | h
  .obtain ⟨k',hk',rfl⟩:=Ao0.1 h;rw [<- hmsQ]at hk';obtain ⟨p,hp,rfl⟩:=Ao0.1 hk';obtain ⟨n,hn,_⟩:=hmsA p hp;exact hi.mo p.1.1 k (by rw [hn];simp) hk hg
  .exact hgF h
 obtain ⟨t1,t2,n3,FL3,t3,t4,t5,t6⟩:=Pn hi hgo hKS hsm C.ln r.lent (λe he=>by
   have hun2:AO (C.gv++rows.2)=true:=by rw [hgs];exact hun
   obtain ⟨u1,_,_⟩:=AU hun2;obtain ⟨u,k1,k2⟩:=hA.ln u1 e he;refine⟨u,Gj k1,?_⟩;have:=k2.left hi hF2 hA.gv hgv2 hun2
   grind) hlt q3 hndE (λg hg=>(p4 g (by simp [hg])).2) hkeys3
 have hall:FL (Kk w' K2) (vs.2++(rs.2++lts)) (n1++(n2++n3)) (G1++(G2++FL3)):=a1.append (b3.append t3);have hFL3:∀g,g∈FL3->g∉G1/\g∉G2:=by
  intro g hg;rcases t5 g hg with h | ⟨k,hk,hgk,hgF⟩
  .exact⟨λhx=>hndC g hx g (by simp [h]) rfl,λhx=>hndF g hx g h rfl⟩
  .have hlt':=(hi.fr g (.inr ⟨k,hgo k (t2 k hk),hgk⟩)).1;refine⟨λhx=>?_,λhx=>?_⟩
   .rcases (p4 g (by simp [hx])).2 with h | h
    .exact hgF h
    .omega
   .rcases (p4 g (by simp [hx])).2 with h | h
    .exact hgF h
    .omega
 have hnd:(G1++(G2++FL3)).Nodup:=by
  refine Apc.2 ⟨hndA,Apc.2 ⟨hndD,t4,?_⟩,?_⟩
  .rintro x hx x' hx' rfl;exact(hFL3 x hx').2 hx
  .rintro x hx x' hx' rfl;rcases AoK.1 hx' with h | h
   .exact hndC x hx x (by simp [h]) rfl
   .exact(hFL3 x h).1 hx
 have hGin:∀g,g∈G1++(G2++FL3)->g < w'.heap.size/\((∃k,k∈gs/\S.ow k≠none/\g∈c.F k)\/w.heap.size<=g):=by
  intro g hg;have hcase:g∈G1++(G2++G3)\/∃k,k∈Ee C.ln/\g∈c.F k/\g∉F1++F2:=by
   rcases AoK.1 hg with h | h
   .exact .inl (by simp [h])
   .rcases AoK.1 h with h | h
    .exact .inl (by simp [h])
    .rcases t5 g h with h | h
     .exact .inl (by simp [h])
     .exact .inr h
  rcases hcase with h | ⟨k,hk,hgk,_⟩
  .refine⟨(p4 g h).1,(p4 g h).2.imp (λh=>?_) id⟩;obtain ⟨k,h,h'⟩:=hFh g h;exact⟨k,h,hgo k h,h'⟩
  .have hko:=hgo k (t2 k hk);exact⟨ApD (hi.fr g (.inr ⟨k,hko,hgk⟩)).1 p5.size,.inl ⟨k,t2 k hk,hko,hgk⟩⟩
 have hmsK:∀k,k∈msK->S.ms k.1≠none:=by
  intro k hk;rw [<- hms]at hk;obtain ⟨p,hp,rfl⟩:=Ao0.1 hk;obtain ⟨n,hn,_⟩:=hmsA p hp;rw [hn];simp
 have hmsQK:∀k,k∈msQ->S.ms k≠none:=by
  intro k hk;rw [<- hms1]at hk;obtain ⟨p,hp,rfl⟩:=Ao0.1 hk;exact hmsK p hp
 have hmsN:msQ.Nodup:=hun1;have hkind:∀p,p∈C.ms->∀n,S.ms p.1.1=some n->(0 < n->∃cs e fr,w'.heap[c.mb p.1.1]?=some (.cells cs e fr))/\(n=0->∃es n',w'.heap[c.mb p.1.1]?=some (.map es n')):=by
  intro p hp n hn;obtain ⟨i,hi',hip⟩:=Ao3 hp;have hm:C.ms[i]?=some p:=by rw [AoF hi',hip]
  have hloc:(msK.map (loc c.mb c.mo))[i]?=some (c.mb p.1.1,c.mo p.1.1+p.1.2):=by
   rw [<- hms,ApF,Apl,hm];rfl
  refine⟨λh0=>?_,λh0=>?_⟩
  .obtain ⟨cs,e,fr,z,_⟩:=hi.ms _ n hn h0;have hl2:i < r.rows.length:=by
    have:=congrArg List.length hlen;simp only [Ao9]at this;omega
   obtain ⟨cs',y,_⟩:=p6.2 i _ _ cs e fr hloc (AoF hl2) z
   grind
  .subst h0;obtain ⟨_,_,es,z,_⟩:=hi.mp _ hn;exact p6.1 i _ es _ hloc z
 have hmapK:∀k,k∈msK->∀es n',w'.heap[c.mb k.1]?=some (.map es n')->S.ms k.1=some 0:=by
  intro k hk es n' hh;rw [<- hms]at hk;obtain ⟨p,hp,rfl⟩:=Ao0.1 hk;obtain ⟨n,hn,_⟩:=hmsA p hp;rcases Nat.eq_zero_or_pos n with h | h
  .rw [hn,h]
  .obtain ⟨cs,e,fr,z⟩:=(hkind p hp n hn).1 h
   grind
 generalize hl:vs.2++(rs.2++lts)=l at *;generalize hns:n1++(n2++n3)=ns at *;generalize hks:Ct (YF (Ee C.ln) C.gv++rows.2)++((Ee C.ln).map Kl.deep++Ct ((vs.2++rs.2).map (·.1)))=ks;generalize hS:(S.kp ks).ups (Cw gs++(HI l++IG rs.1))=S';have hg:=P3 gs (S.kp ks);obtain ⟨o1,o2,_,o4⟩:=TX l ((S.kp ks).ups (Cw gs)) hkeys;obtain ⟨r1,r2,_,r4,r5⟩:=Aag rs.1 (((S.kp ks).ups (Cw gs)).ups (HI l)) (by grind);rw [EH,EH]at hS;obtain ⟨e1,e2,e3⟩:=Ai8 S ks
 let news:Nat->Option New:=λk=>find ((l.map (·.1)).zip ns) k
 have how:∀k,S'.ow k=match news k with | some n=>some n.o | none=>if k∈gs then none else S.ow k:=by
  intro k;rw [<- hS,r2,o4,hg.2.2,e2];have:=Rh hall k;show _=match find ((l.map (·.1)).zip ns) k with | some n=>some n.o | none=>if k∈gs then none else S.ow k
  cases hf:find ((l.map (·.1)).zip ns) k with
  | none=>grind
  | some n=>grind
 have hms':S'.ms=S.ms:=by grind
 have hrsq:rs.1.map (·.1.1)=msQ:=by rw [<- hms1,<- b1,ApF];rfl
 have hmc:∀k i,k∉msQ->S'.mc k i=(S.mc k i).kp ks:=by
  grind
 have hrowmc:∀p,p∈rs.1->∀i,S'.mc p.1.1 i=if p.1.2<=i/\i < p.1.2+p.2.length then p.2.getD (i - p.1.2) .no else(S.mc p.1.1 i).kp ks:=by
  intro p hp i;rw [<- hS,r5 p hp i,o2,hg.2.1,e3]
 have hHv:∀c',(∀k n,news k=some n->c'.hv k=n.h)->Hv S' c' l ns:=by
  intro c' hc' k n hk;have hf:find ((l.map (·.1)).zip ns) k=some n:=DX (by
   rw [List.map_fst_zip (by rw [hall.len];simp)];exact hkeys) hk
  grind
 have hK2:∀K',KSame w w' (Kok b S c) K'->(∀g,(w.heap.size<=g\/∃k,k∈gs/\S.ow k≠none/\g∈c.F k)->(∀k n,news k=some n->g∉n.F)->K' g)->∀g,g < w'.heap.size->K2 g->K' g:=by
  rintro K' hK hfr g _ (⟨h1,h2⟩ | ⟨h1,h2⟩)
  .exact(hK.2 g h1 h2).2
  .refine hfr g (h1.imp id λh1=>?_) λk n hk hg=>?_
   .obtain ⟨k,h,h'⟩:=hFh g h1;exact⟨k,h,hgo k h,h'⟩
   have hx:=(EC hall k n hk).2.1 g hg;rcases AoK.1 hx with h | h
   .grind
   .rcases AoK.1 h with h | h
    .grind
    .rcases t5 g h with h | ⟨k',hk',hgk,hnF⟩
     .grind
     .have:=(hi.fr g (.inr ⟨k',hgo k' (t2 k' hk'),hgk⟩)).1
      grind
 have hstay:∀k o,S.ow k=some o->(k∈gs\/news k≠none)->.all k∈ks\/(.deep k∈ks/\∃n xs',news k=some n/\n.h=c.hv k/\n.o=⟨o.e,o.r,xs'⟩/\xs'.length=o.xs.length):=by
  intro k o ho hk;by_cases hkl:k∈Ee C.ln
  .right;rw [<- t1]at hkl;have hlen3:n3.length=lts.length:=t3.len;obtain ⟨i,hi',hik⟩:=Ao3 hkl;have hi3:i < n3.length:=by grind
   have hz:(k,n3[i])∈(lts.map (·.1)).zip n3:=by
    have:((lts.map (·.1)).zip n3)[i]?=some (k,n3[i]):=by
     grind
    grind
   have hz2:(k,n3[i])∈(l.map (·.1)).zip ns:=by
    rw [<- hl,<- hns,Ape,Ape,List.zip_append (by simp [hnl]),List.zip_append (by rw [Ao9];exact b3.len.symm)];simp [hz]
   have hf:news k=some n3[i]:=DX (by rw [List.map_fst_zip (by rw [hall.len];simp)];exact hkeys) hz2;obtain ⟨g1,o',xs',g2,g3,g4⟩:=t6 k _ hz;obtain rfl:o=o':=by grind
   refine⟨?_,_,xs',hf,g1,g3,g4⟩
   grind
  .left;rw [<- hks];rcases hk with hk | hk
   .rw [<- hgs]at hk;refine AoK.2 (.inl (Ao0.2 ⟨k,?_,rfl⟩));rcases AoK.1 hk with hk | hk
    .exact AoK.2 (.inl (by simp only [YF,Aqe];grind))
    grind
   .obtain ⟨n,hn⟩:=ApK.1 hk;have hm:=(EC hall k n hn).1;rw [<- hl,Ape,Ape]at hm;refine AoK.2 (.inr (AoK.2 (.inr (Ao0.2 ⟨k,?_,rfl⟩))))
    grind
 have hmany:=hi.many (S':=S') (w':=w') news gs msQ ks how hms' hmc hstay
  (p5.mono (by
   intro g hg;rcases AoK.1 hg with hg | hg
   .obtain ⟨k,hk,rfl⟩:=Ao0.1 hg
    grind
   .obtain ⟨k,h,h'⟩:=hFh g hg;exact .inl ⟨k,h,hgo k h,h'⟩))
  (λk n hk g hg=>hGin g ((EC hall k n hk).2.1 g hg))
  (λk n hk=>(EC hall k n hk).2.2.1 hnd) (λk n k' n' hne hk hk'=>Ug hall hnd k n k' n' hne hk hk')
  (λK' hK hfr k n hk=>Rp.mono (hK2 K' hK hfr) _ _ (EC hall k n hk).2.2.2)
  (λK' c' hcb hstayL hK hfr hhv k n hk hn hn0=>by
   have hb:=hHv c' hhv;rw [<- hl,<- hns]at hb;rw [<- hrsq]at hk;obtain ⟨p,hp,rfl⟩:=Ao0.1 hk;have hb4:=b4 S' c' (Hv.left b3.len (Hv.right hnl hb)) (λk hk=>by grind) (λk _=>by grind) (λk hk es n hh=>by grind) p hp;obtain ⟨i0,hi0,hpi⟩:=Ao3 hp;have q0:rs.1[i0]?=some p:=by grind
   have q1:(rs.1.map (·.1))[i0]?=some p.1:=by grind
   have q2:(rs.1.map (·.2.length))[i0]?=some p.2.length:=by grind
   rw [b1,<- hms,Apl,Apx]at q1;obtain ⟨m,hm,hm1⟩:=q1;rw [b2]at q2;rw [Apl,Apx]at q2;obtain ⟨row,hrow,hrl⟩:=q2;obtain ⟨n',hn',hle'⟩:=hmsA m (Api hm);have hsz:m.2.length=p.2.length:=by
    have:=congrArg (·[i0]?) hlen
    grind
   rw [hm1]at hn' hle';obtain rfl:n=n':=by grind
   obtain ⟨cs0,e0,fr0,z1,z2,z3,z4,z5⟩:=hi.ms _ _ hn hn0
   replace hle':p.1.2+m.2.length<=n:=by
    omega
   rcases hb4 with⟨cs,e,fr,h1,h2,hwin,h3⟩ | ⟨xs,_,es,hmp,_⟩
   rotate_left
   .obtain ⟨_,_,_,hcl⟩:=(hkind m (Api hm) n (by grind)).1 hn0
    grind
   have hloc:(msK.map (loc c.mb c.mo))[i0]?=some (c.mb p.1.1,c.mo p.1.1+p.1.2):=by
    grind
   obtain ⟨cs',y1,y2,y3⟩:=p6.2 i0 _ row cs0 e0 fr0 hloc hrow z1;simp only at y1 y3;rw [h1]at y1;injection y1 with y1
   injection y1 with y1a y1b y1c
   subst y1a y1b y1c;refine⟨cs,e,fr,h1,O,h2,λi u hlt hu=>?_,?_⟩
   .rw [hrowmc p hp i];by_cases hc:p.1.2<=i/\i < p.1.2+p.2.length
    .rw [AoJ hc];have hlt:i - p.1.2 < p.2.length:=O
     obtain ⟨u',hu1,hu2⟩:=h3.get (AoF hlt);rw [ApG,AoF hlt,Apo];have:u'=u:=by
      rw [Apf hlt,Apu,Ao8,(O:c.mo p.1.1+p.1.2+(i - p.1.2)=c.mo p.1.1+i),hu]at hu1
      grind
     subst this;exact LeafOk.mono (hK2 K' hK hfr) hu2
    .rw [AoH hc]
     grind
   .intro cs1 e1 fr1 h0;obtain ⟨x1,x2,x3,x4⟩:=z5 cs1 e1 fr1 h0;refine⟨x1,x2,O,λi hio=>?_⟩;rw [<- x4 i hio];exact y3 i O)
  (λk hk hn=>by
   rw [<- hrsq]at hk;obtain ⟨p,hp,rfl⟩:=Ao0.1 hk;have hpK:p.1∈msK:=by grind
   rw [<- hms]at hpK;obtain ⟨m,hm,hm1⟩:=Ao0.1 hpK;obtain ⟨es,n',hh⟩:=(hkind m hm 0 (by grind)).2 rfl;rw [hm1]at hh;obtain ⟨n'',hn'',hle'⟩:=hmsA m hm;rw [hm1]at hn'' hle';obtain rfl:0=n'':=by grind
   obtain ⟨_,ho,_⟩:=hle'.resolve_left λh=>by omega
   rcases b5 p hp with⟨cs,e,fr,h1⟩ | ⟨xs,h1,h2⟩
   .grind
   simp [*])
 obtain ⟨c',m1,m2,m3,m4,m5⟩:=hmany;have hS':(S.kp ks).ups (Cw gs++(HI l++IG rs.1))=S':=by rw [EH,EH];exact hS
 unfold Did;simp only;rw [hS'];refine⟨c',m3,m4,?_⟩;have hb:=hHv c' λk n hk=>(m2 k n hk).1
 rw [<- hl,<- hns]at hb;refine Af8 ?_;have:=a2 S' c' (Hv.left hnl hb) (λk hk=>by grind) (λk _=>by grind);exact this.mono λ_ _ h=>S1Ok.mono (hK2 _ m4.kk m5) h
theorem AdS {p:SV->Value->Prop}:∀{xs:List SV} {us:List Value} {ts:List TypeId},All2 p xs us->xs.length=ts.length->All2 (λ(x:SV×TypeId) u=>p x.1 u) (xs.zip ts) us
 | [],_,[],.nil,_=>.nil
 | _::_,_,_::_,.cons h1 h2,h=>.cons h1 (AdS h2 (by simpa using h))
 | [],_,_::_,_,h=>by simp at h
 | _::_,_,[],_,h=>by simp at h
theorem Acz {K:Nat->Prop} {C:AC}:∀{ps:List (Nat×Nat)} {vs:List Value},All2 (AiO c C) ps vs->FL (A1Ok w K (C.ms.map (plc c))) (ps.map λp=>A1.pl p.1 p.2) vs []
 | [],_,.nil=>⟨rfl,rfl⟩
 | p::ps,_,.cons (b:=v) (bs:=vs) h1 h2=>by
  obtain ⟨g,h3,h4⟩:=h1 [];rw [AoW]at h3;exact⟨v,vs,[],[],rfl,rfl,⟨rfl,g,h3,h4⟩,Acz h2⟩
theorem Ag2 (hE:EnvOk P E) {N:Nat} {a:Act} (hi:Inv b S w c) (hs:Slots N S c w (Kok b S c) a) {o:Oper} {f:FuncId} {fo:Operand} {caps:List (Nat×Nat)} {args:Array Operand} {ts:Array TypeId} {d:Nat} {out:Out} (ho:o.op=.call ⟨.value fo,args,ts⟩) (hfo:Cu S fo=.s (.fv f caps))
  (hsz:args.size=ts.size) (h:(Abc E d f caps ((args.toList.map (Cu S)).zip ts.toList)).ev S=some out):P9 P o a w λv w'=>Did b S c w out v w':=by
 unfold Abc at h;simp only [Ak,AoG]at h;obtain ⟨C0,hC0,⟨ps,C1⟩,hcaps,C,hreach,h⟩:=h;have hfv:=AI hs fo;rw [hfo]at hfv;obtain ⟨cvs,hfval,hcvs⟩:=hfv;have hall:=AdS (Ha hs args.toList) (by grind:(args.toList.map (Cu S)).length=ts.toList.length);obtain ⟨F1,hA0⟩:=Gu hi _ _ _ {} [] [] hall ⟨λ_ _=>⟨rfl,rfl⟩,λg hg=>(by cases hg),λk hk=>(by cases hk),trivial,λ_=>by simp,λp hp=>(by cases hp),Z,λ_ e he=>(by cases he)⟩ hC0;rw [Ao6]at hA0;obtain ⟨hA1,_,hps1⟩:=Ud caps _ hcvs hA0 hcaps;simp only at hA1 hps1 hreach h;obtain ⟨hA,⟨mr,hmr⟩,-,-,-,-⟩:=WZ _ _ _ hA1 hreach;have hps:All2 (AiO c C) ps cvs:=hps1.mono λp v hp em=>by
  have:=hp (mr++em)
  grind
 unfold Agd at h;simp only [Ak,AoG]at h;obtain ⟨rows,hrows,h⟩:=h;split at h
 .rename_i hun;simp only [AoI,Apb,Ao7]at hun;obtain ⟨hun,hbw⟩:=hun;simp only [Ak,AoG]at h;obtain ⟨r,hr,lts,hlts,h⟩:=h;split at h
  .rename_i hro;split at h
   .rename_i vs rs hv hrs;split at h
    .rename_i hu;simp only [AoI,decide_eq_true_eq]at hu;obtain ⟨hu2,hlen⟩:=hu;simp only [Tr.ev,AoD]at h;subst h;obtain ⟨hgv2,F2,hR,hnd2,hF2⟩:=X2 hi (C.ms.map (·.1)) C.ms hA.ms hrows;obtain ⟨u1,u2,u3⟩:=AU hun;have hFn:=C5 hi hA.held hF2 hA.gv hgv2 hun (hA.nd u1) (hnd2 u2);obtain ⟨hFh,hFnd⟩:=hFn;have hgo:=CM hA.gv hgv2;obtain ⟨⟨fn,hf,hname,hbody⟩,hcs⟩:=hE.ca f _ rows.1 S r hr;have hfl0:=hA.fl [] [];rw [AoW,AoW]at hfl0;have hfl:=hfl0.append (Acz (w:=w) (K:=KB b S c C.bw) hps);rw [AoW]at hfl;have hmb1:(C.ms.map (plc c)).map (·.1)=(C.ms.map (·.1.1)).map c.mb:=by simp
     have hmsO:∀g,g∈(C.ms.map (plc c)).map (·.1)->∃k,S.ms k≠none/\c.mb k=g/\k∈C.ms.map (·.1.1):=by
      intro g hg;rw [hmb1]at hg;obtain ⟨k,hk,rfl⟩:=Ao0.1 hg;obtain ⟨p,hp,rfl⟩:=Ao0.1 hk;obtain ⟨n,hn,_⟩:=hA.ms p hp
      grind
     have hmsN:((C.ms.map (plc c)).map (·.1)).Nodup:=by
      have h2:∀k,k∈C.ms.map (·.1.1)->S.ms k≠none:=by
       intro k hk;obtain ⟨p,hp,rfl⟩:=Ao0.1 hk;obtain ⟨n,hn,_⟩:=hA.ms p hp;rw [hn];simp
      rw [hmb1];have h3:=hA.un;revert h2 h3;generalize C.ms.map (·.1.1)=l;intro h2 h3
      induction l with
      | nil=>simp
      | cons k l ih=>
       obtain ⟨g1,g2⟩:=ApB.1 h3;rw [Apk,ApB];refine⟨λhm=>?_,ih (λk hk=>h2 k (ApM _ hk)) g2⟩;obtain ⟨k',hk',he⟩:=Ao0.1 hm;have hne:k'≠k:=by grind
       exact hi.mm k' k hne (h2 k' (ApM _ hk')) (h2 k Z) he
     have hcall:=hcs w (args.toList.map a.eval++cvs) (KB b S c C.bw) (C.ms.map (plc c)) F1 F2 hfl (by
      have:=hR C.bw
      rwa [show(C.ms.map (·.1)).map (loc c.mb c.mo)=C.ms.map (plc c) by simp]at this) (by
      refine Apc.2 ⟨hmsN,hFnd,?_⟩;rintro g hg g' hg' rfl;obtain ⟨k,hk,rfl,_⟩:=hmsO g hg;obtain ⟨k',hk',hgk⟩:=hFh _ hg';exact hi.mo k k' hk (hgo k' hk') hgk) (by
      intro g hg;rcases AoK.1 hg with hg | hg
      .obtain ⟨k,hk,rfl,hkm⟩:=hmsO g hg;have hO:A5 S c (c.mb k):=.inl ⟨k,hk,rfl⟩;refine⟨(hi.fr _ hO).1,?_⟩;rintro (h | ⟨k',hk',how,hgk⟩ | ⟨k',hk',hms',hgk⟩)
       .exact h.2 hO
       .exact hi.mo k k' hk how hgk
       .have hne:k≠k':=by
         grind
        exact hi.mm k k' hne hk hms' hgk
      .obtain ⟨k,hk,hgk⟩:=hFh g hg;have hO:A5 S c g:=.inr ⟨k,hgo k hk,hgk⟩;refine⟨(hi.fr _ hO).1,?_⟩;rintro (h | ⟨k',hk',how,hgk'⟩ | ⟨k',hk',hms',hgk'⟩)
       .exact h.2 hO
       rotate_left
       .subst hgk';exact hi.mo k' k hms' (hgo k hk) hgk
       .have hne:k≠k':=by
         grind
        exact hi.oo k k' hne (hgo k hk) how g hgk hgk') ⟨(Aad hi).1,λg hg=>.inl ((Aad hi).2 g hg)⟩
     intro next Q hnext;have hargs:args.map a.eval++cvs.toArray=(args.toList.map a.eval++cvs).toArray:=by simp
     unfold Oper.wp;have hrun:(execOp a.eval o).run P w=.ok (.enter f (args.toList.map a.eval++cvs).toArray) w:=by
      rw [<- hargs]
      have hname' : ¬ fn.name = "runtime.NumGoroutine" := by grind
      have hbody':¬ fn.body=none:=by
       grind
      simp [execOp,ho,resolve,Deferred.ofValue,hfval,invoke,callFunc,hf,hname',hbody']
     rw [hrun];refine Calls.mono hcall ?_;rintro e w' ⟨v,rfl,hp⟩;refine hnext v w' (Ai9 hi hA ?_ hlts hv hrs hu2 hlen hF2 hgv2 hun hp)
     grind
    .simp [Tr.ev]at h
   .simp [Tr.ev]at h
  .simp [Tr.ev]at h
 .simp [Tr.ev]at h
theorem Pt (kc:List (Nat×Nat)):∀(us:List U) {us':List U},(L1 kc us).ev S=some us'->∀T:St,(∀p,p∈kc->∀i (x:Int),S.mc p.1 p.2=.v (.int i) x->T.mc p.1 p.2=.v (.int i) x)->T.ups us'=T.ups us
 | [],us',h,T,_=>by
  simp only [L1,Tr.ev,AoD]at h;subst h;rfl
 | .mc k off l::us,us',h,T,hT=>by
  unfold L1 at h;split at h
  .rename_i hc;split at h
   .rename_i i y;simp only [Tr.ev]at h;split at h
    .rename_i i' x hx;split at h
     .rename_i hi;simp only [Tr.ev]at h;split at h
      .rename_i hxy;obtain rfl:x=y:=of_decide_eq_true hxy;have h2:T.up (.mc k off (.v (.int i) x))=T:=St.ext' (λ_=>rfl) (λ_=>rfl) (λa b=>by
        show(if a=k then(if b=off then _ else T.mc a b)else T.mc a b)=T.mc a b
        grind) (λ_=>rfl)
       show T.ups us'=(T.up _).ups us;rw [h2];exact Pt kc us h T hT
      .cases h
     .simp [Tr.ev]at h
    .simp [Tr.ev]at h
   .simp [Tr.ev]at h
  .rename_i hc;simp only [Ak,AoG,Tr.ev,AoD]at h;obtain ⟨r,hr,rfl⟩:=h;refine Pt kc us hr (T.up (.mc k off l)) λp hp i x hx=>?_
   show(if p.1=k then(if p.2=off then l else T.mc p.1 p.2)else T.mc p.1 p.2)=_
   grind
 | .ow k o::us,us',h,T,hT=>by
  simp only [L1,Ak,AoG,Tr.ev,AoD]at h;obtain ⟨r,hr,rfl⟩:=h;exact Pt kc us hr (T.up (.ow k o)) hT
 | .ms _ _::_,us',h,T,_=>by simp [L1,Tr.ev]at h
theorem AhC (hE:EnvOk P E) {N:Nat} {a:Act} (hi:Inv b S w c) (hs:Slots N S c w (Kok b S c) a) {o:Oper} {f:FuncId} {fo:Operand} {caps:List (Nat×Nat)} {args:Array Operand} {ts:Array TypeId} {d:Nat} {out:Out} (ho:o.op=.call ⟨.value fo,args,ts⟩) (hfo:Cu S fo=.s (.fv f caps))
  (hsz:args.size=ts.size) (h:(YO E d f caps ((args.toList.map (Cu S)).zip ts.toList)).ev S=some out):P9 P o a w λv w'=>Did b S c w out v w':=by
 unfold YO at h;rw [Ak,AoG]at h;obtain ⟨out0,h0,h1⟩:=h;have h2:=Ag2 hE hi hs ho hfo hsz h0;unfold Ajx at h1;split at h1
 .rename_i p hp;simp only [Ak,AoG,Tr.ev,AoD]at h1;obtain ⟨us,hus,rfl⟩:=h1;have h3:(S.kp out0.ks).ups us=(S.kp out0.ks).ups out0.us:=Pt p.2 _ hus _ λq _ i x hx=>by rw [E8,hx];rfl
  intro next Q hn;refine h2 next Q λv w' hd=>hn v w' ?_
  unfold Did at hd ⊢
  grind
 .simp only [Tr.ev,AoD]at h1
  grind
end
end Go.V
namespace Go.V
open Go.RowKit
theorem Aku (vs:List (Nat×Ae)) (t:Ty) (i:Nat):tuple vs [t] i=match find vs i with
 | some ⟨u,x⟩=>if h:u=t then some (h ▸ x)else none
 | none=>none:=rfl
theorem AkK (vs:List (Nat×Ae)) (t u:Ty) (ts:List Ty) (i:Nat):tuple vs (t::u::ts) i=match find vs i with
 | some ⟨u',x⟩=>if h:u'=t then match tuple vs (u::ts) (i+1)with
  | some y=>some (h ▸ x,y)
  | none=>none
  else none
 | none=>none:=rfl
theorem Ab6 (vs:List (Nat×Ae)):∀(ts:List Ty) (i:Nat) (x:(AW ts).D),tuple vs ts i=some x->∀j,j < ts.length->find vs (i+j)=(split ts x)[j]?:=by
 intro ts
 induction ts with
 | nil=>simp
 | cons t ts ih=>
  intro i x h j hj;cases ts with
  | nil=>
   obtain rfl:j=0:=by grind
   rw [Aku]at h;show find vs (i+0)=[(⟨t,x⟩:Ae)][0]?
   grind
  | cons u ts=>
   rw [AkK]at h;split at h
   .rename_i u' y hf;split at h
    .rename_i hu;subst hu;split at h
     .rename_i z hz;injection h with h
      subst h;show find vs (i+j)=((⟨_,y⟩:Ae)::split (u::ts) z)[j]?;cases j with
      | zero=>exact hf
      | succ j=>
       grind
     .cases h
    .cases h
   .cases h
structure Le (m m':Mt):Prop where
 ro:∀x,x∈m.ro->x∈m'.ro
 rm:∀x,x∈m.rm->x∈m'.rm
 nl:∀x,x∈m.nl->x∈m'.nl
 vs:∀x,x∈m.vs->x∈m'.vs
theorem Le.refl (m:Mt):Le m m:=⟨λ_ h=>h,λ_ h=>h,λ_ h=>h,λ_ h=>h⟩
theorem Le.trans {a b c:Mt} (h:Le a b) (k:Le b c):Le a c:=⟨λx hx=>k.ro x (h.ro x hx),λx hx=>k.rm x (h.rm x hx),λx hx=>k.nl x (h.nl x hx),λx hx=>k.vs x (h.vs x hx)⟩
theorem Hf {l l':List (Nat×Nat)} {a b:Nat} (h:Jw l a b=some l'):(a,b)∈l'/\∀x,x∈l->x∈l':=by
 unfold Jw at h;split at h
 .rename_i c hc;split at h
  .rename_i hcb;subst hcb;injection h with h
   subst h;exact⟨AM hc,λ_ h=>h⟩
  .cases h
 grind
section
variable {holes:List Ty} {S S0:St} {c c0:Cc} {w:World} {K K0:Nat->Prop}
structure Fin (hs:List Ae) (m:Mt) (S S0:St) (c c0:Cc) (w:World) (K K0:Nat->Prop):Prop where
 k:∀g,g < w.heap.size->K g->K0 g
 vs:∀i x,(i,x)∈m.vs->hs[i]?=some x
 ro:∀ κ k,(κ,k)∈m.ro->S0.ow κ=S.ow k/\c0.hv κ=c.hv k
 nl:∀ κ,κ∈m.nl->(∃e r,S0.ow κ=some ⟨e,r,[]⟩)/\c0.hv κ=.slice none 0 0
 rm:∀ κ k,(κ,k)∈m.rm->(∀n,S.ms k=some n->S0.ms κ=some n)/\c0.mb κ=c.mb k/\c0.mo κ=c.mo k
theorem YW {hs:List Ae} {mf:Mt} {m m':Mt} {t:TL} {l:Leaf} (h:t.mt holes m l=some m'):Le m m'/\(Le m' mf->Fin hs mf S S0 c c0 w K K0->∀v,LeafOk S c w K l v->LeafOk S0 c0 w K0 (t.inj hs) v):=by
 unfold TL.mt at h;split at h
 .rename_i i t x;injection h with h
  subst h;refine⟨⟨λ_ h=>h,λ_ h=>h,λ_ h=>h,λx hx=>by simp [hx]⟩,λhl hf v hv=>?_⟩;have:=hf.vs i ⟨t,x⟩ (hl.vs _ Z);simp only [TL.inj,this];exact LeafOk.mono hf.k hv
 .rename_i i;split at h
  .rename_i e r _;injection h with h
   subst h;refine⟨⟨λ_ h=>h,λ_ h=>h,λ_ h=>h,λx hx=>by simp [hx]⟩,λhl hf v hv=>?_⟩;have:=hf.vs i ⟨.sl false e r,[]⟩ (hl.vs _ Z);simp only [TL.inj,this];obtain rfl:v=.slice none 0 0:=hv;show Rp w K0 (.sl false e r) [] _ _;rw [Rp];exact⟨rfl,none,0,[],rfl,Ao4 _,⟨rfl,rfl⟩,.inl rfl⟩
  .cases h
 .rename_i κ k;split at h
  .rename_i l hl;injection h with h
   subst h;obtain ⟨h1,h2⟩:=Hf hl;refine⟨⟨h2,λ_ h=>h,λ_ h=>h,λ_ h=>h⟩,λhle hf v hv=>?_⟩;obtain ⟨h3,h4⟩:=hf.ro κ k (hle.ro _ h1);obtain ⟨o,e,r,ys,hd,q1,q2,q3,q4⟩:=hv;exact⟨o,e,r,ys,hd,by grind,q2,by grind,q4⟩
  .cases h
 .rename_i κ;injection h with h
  subst h;refine⟨⟨λ_ h=>h,λ_ h=>h,λx hx=>by simp [hx],λ_ h=>h⟩,λhle hf v hv=>?_⟩;obtain ⟨⟨e,r,h3⟩,h4⟩:=hf.nl κ (hle.nl _ Z);obtain rfl:v=.slice none 0 0:=hv;exact⟨_,e,r,[],.slice none 0 0,h3,rfl,by rw [h4];rfl,rfl⟩
 .rename_i κ i f k n g;split at h
  .rename_i hfg;subst hfg;split at h
   .rename_i l hl;injection h with h
    subst h;obtain ⟨h1,h2⟩:=Hf hl;refine⟨⟨h2,λ_ h=>h,λ_ h=>h,λx hx=>by simp [hx]⟩,λhle hf v hv=>?_⟩;obtain ⟨h3,h4⟩:=hf.ro κ k (hle.ro _ h1);have:=hf.vs i ⟨.int .i64,(n:Int)⟩ (hle.vs _ Z);obtain ⟨o,e,r,ys,hd,q1,q2,q3,q4⟩:=hv;simp only [TL.inj,this,Pm,AoE];exact⟨o,e,r,ys,hd,by grind,q2,by grind,q4⟩
   .cases h
  .cases h
 .rename_i κ i j k n g;split at h
  .rename_i l hl;injection h with h
   subst h;obtain ⟨h1,h2⟩:=Hf hl;refine⟨⟨h2,λ_ h=>h,λ_ h=>h,λx hx=>by simp [hx]⟩,λhle hf v hv=>?_⟩;obtain ⟨h3,h4⟩:=hf.ro κ k (hle.ro _ h1);have t1:=hf.vs i ⟨.int .i64,(n:Int)⟩ (hle.vs _ Z);have t2:=hf.vs j ⟨.int .i64,(g:Int)⟩ (hle.vs _ Z);obtain ⟨o,e,r,ys,hd,q1,q2,q3,q4⟩:=hv;simp only [TL.inj,t1,t2,Pm,AoE];exact⟨o,e,r,ys,hd,by grind,q2,by grind,q4⟩
  .cases h
 .rename_i κ i f x y k n g a b;split at h
  .rename_i hfg;subst hfg;split at h
   .rename_i l hl;injection h with h
    subst h;obtain ⟨h1,h2⟩:=Hf hl;refine⟨⟨h2,λ_ h=>h,λ_ h=>h,λx hx=>by simp [hx]⟩,λhle hf v hv=>?_⟩;obtain ⟨h3,h4⟩:=hf.ro κ k (hle.ro _ h1);have t1:=hf.vs i ⟨.int .i64,(n:Int)⟩ (hle.vs _ Z);have t2:=hf.vs x ⟨.int .i64,(a:Int)⟩ (hle.vs _ Z);have t3:=hf.vs y ⟨.int .i64,(b:Int)⟩ (hle.vs _ Z);obtain ⟨o,e,r,ys,hd,q1,q2,q3,q4⟩:=hv;simp only [TL.inj,t1,t2,t3,Pm,AoE];exact⟨o,e,r,ys,hd,by grind,q2,by grind,q4⟩
   .cases h
  .cases h
 .injection h with h
  subst h;exact⟨Le.refl _,λ_ _ v hv=>hv⟩
 .injection h with h
  subst h;exact⟨Le.refl _,λ_ _ v hv=>hv⟩
 .rename_i i;split at h
  .rename_i t _;injection h with h
   subst h;refine⟨⟨λ_ h=>h,λ_ h=>h,λ_ h=>h,λx hx=>by simp [hx]⟩,λhl hf v hv=>?_⟩;have:=hf.vs i ⟨.pt t,none⟩ (hl.vs _ Z);simp only [TL.inj,this];obtain rfl:v=.pointer none:=hv;show Rp w K0 (.pt t) none _ _;simp only [Rp];simp
  .cases h
 .rename_i κ off k off';split at h
  .rename_i ho;subst ho;split at h
   .rename_i l hl;injection h with h
    subst h;obtain ⟨h1,h2⟩:=Hf hl;refine⟨⟨λ_ h=>h,h2,λ_ h=>h,λ_ h=>h⟩,λhle hf v hv=>?_⟩;obtain ⟨h3,h4⟩:=hf.rm κ k (hle.rm _ h1);obtain ⟨n,hn,rfl⟩:=hv;exact⟨n,h3 n hn,by grind⟩
   .cases h
  .cases h
 .injection h with h
  subst h;exact⟨Le.refl _,λ_ _ v _=>trivial⟩
 .rename_i κ k;split at h
  .rename_i l hl;injection h with h
   subst h;obtain ⟨h1,h2⟩:=Hf hl;refine⟨⟨λ_ h=>h,h2,λ_ h=>h,λ_ h=>h⟩,λhle hf v hv=>?_⟩;obtain ⟨h3,h4⟩:=hf.rm κ k (hle.rm _ h1);obtain ⟨hn,rfl⟩:=hv;exact⟨h3 0 hn,by rw [h4.1]⟩
  .cases h
 .injection h with h
  subst h;exact⟨⟨λ_ h=>h,λ_ h=>h,λ_ h=>h,λx hx=>by simp [hx]⟩,λ_ _ v hv=>hv.elim⟩
 .cases h
theorem Adv {hs:List Ae} {mf:Mt}:∀(ts:List TL) (ls:List Leaf) {m m':Mt},TL.mts holes m ts ls=some m'->Le m m'/\(Le m' mf->Fin hs mf S S0 c c0 w K K0->∀vs,All2 (LeafOk S c w K) ls vs->All2 (LeafOk S0 c0 w K0) (ts.map (TL.inj hs)) vs)
 | [],[],m,m',h=>by
  rw [TL.mts]at h;injection h with h
  subst h;exact⟨Le.refl _,λ_ _ vs hv=>by cases hv;exact .nil⟩
 | t::ts,l::ls,m,m',h=>by
  rw [TL.mts]at h;split at h
  .rename_i m1 h1;obtain ⟨q1,q2⟩:=YW (hs:=hs) (mf:=mf) (S:=S) (S0:=S0) (c:=c) (c0:=c0) (w:=w) (K:=K) (K0:=K0) h1;obtain ⟨q3,q4⟩:=Adv ts ls h;refine⟨q1.trans q3,λhle hf vs hv=>?_⟩;cases hv with
   | cons a1 a2=>exact .cons (q2 (q3.trans hle) hf _ a1) (q4 hle hf _ a2)
  .cases h
 | [],_::_,_,_,h=>by simp [TL.mts]at h
 | _::_,[],_,_,h=>by simp [TL.mts]at h
theorem AmB {hs:List Ae} {mf:Mt} {m m':Mt} {t:TS} {x:SV} (h:t.mt holes m x=some m'):Le m m'/\(Le m' mf->Fin hs mf S S0 c c0 w K K0->∀v,AX S c w K x v->AX S0 c0 w K0 (.s (t.inj hs)) v):=by
 unfold TS.mt at h;split at h
 .obtain ⟨q1,q2⟩:=YW (hs:=hs) (mf:=mf) (S:=S) (S0:=S0) (c:=c) (c0:=c0) (w:=w) (K:=K) (K0:=K0) h;exact⟨q1,λhle hf v hv=>q2 hle hf v hv⟩
 .obtain ⟨q1,q2⟩:=Adv (hs:=hs) (mf:=mf) (S:=S) (S0:=S0) (c:=c) (c0:=c0) (w:=w) (K:=K) (K0:=K0) _ _ h;refine⟨q1,λhle hf v hv=>?_⟩;obtain ⟨vs,rfl,hv⟩:=hv;exact⟨vs,rfl,q2 hle hf vs hv⟩
 .rename_i κ off k off';split at h
  .rename_i ho;subst ho;split at h
   .rename_i l hl;injection h with h
    subst h;obtain ⟨h1,h2⟩:=Hf hl;refine⟨⟨λ_ h=>h,h2,λ_ h=>h,λ_ h=>h⟩,λhle hf v hv=>?_⟩;obtain ⟨h3,h4⟩:=hf.rm κ k (hle.rm _ h1);obtain ⟨n,hn,rfl⟩:=hv;exact⟨n,h3 n hn,by grind⟩
   .cases h
  .cases h
 .rename_i f cs f' cs';split at h
  .rename_i hq;obtain ⟨rfl,rfl,hall⟩:=hq;injection h with h
   subst h;refine⟨Le.refl _,λhle hf v hv=>?_⟩;obtain ⟨vs,rfl,hvs⟩:=hv;refine⟨vs,rfl,?_⟩
   induction hvs with
   | nil=>exact .nil
   | @cons p v cs vs h1 _ ih=>
    simp only [ApZ,AoI,beq_iff_eq]at hall;obtain ⟨n,hn,rfl⟩:=h1;obtain ⟨h3,h4⟩:=hf.rm p.1 p.1 (hle.rm _ (AM hall.1));exact .cons ⟨n,h3 n hn,by grind⟩ (ih hall.2)
  .cases h
 .rename_i i off u x off';split at h
  .rename_i ho;subst ho;injection h with h
   subst h;refine⟨⟨λ_ h=>h,λ_ h=>h,λ_ h=>h,λx hx=>by simp [hx]⟩,λhle hf v hv=>?_⟩;have:=hf.vs i ⟨u,x⟩ (hle.vs _ Z);simp only [TS.inj,this];obtain ⟨a,vs,q0,q1,q2,q3,q4⟩:=hv;exact⟨a,vs,q0,Rp.mono hf.k _ _ q1,hf.k _ q3 q2,q3,q4⟩
  .cases h
 .cases h
theorem UK {hs:List Ae} {mf:Mt}:∀(l:List (Nat×TS)) {m m':Mt},Pi holes S l m=some m'->Le m m'/\(Le m' mf->Fin hs mf S S0 c c0 w K K0->∀i t,(i,t)∈l->∀v,AX S c w K (S.sl i) v->AX S0 c0 w K0 (.s (t.inj hs)) v)
 | [],m,m',h=>by
  rw [Pi]at h;injection h with h
  subst h;exact⟨Le.refl _,λ_ _ i t hm=>by cases hm⟩
 | (i,t)::l,m,m',h=>by
  rw [Pi]at h;split at h
  .rename_i m1 h1;obtain ⟨q1,q2⟩:=AmB (hs:=hs) (mf:=mf) (S:=S) (S0:=S0) (c:=c) (c0:=c0) (w:=w) (K:=K) (K0:=K0) h1;obtain ⟨q3,q4⟩:=UK l h;refine⟨q1.trans q3,λhle hf j u hm v hv=>?_⟩;rcases AoY.1 hm with hm | hm
   .injection hm with e1 e2
    subst e1 e2;exact q2 (q3.trans hle) hf v hv
   .exact q4 hle hf j u hm v hv
  .cases h
theorem Abf {hs:List Ae} {mf:Mt} (k:Nat):∀(ts:List TL) (i:Nat) {m m':Mt},P1 holes S k ts i m=some m'->
  Le m m'/\(Le m' mf->Fin hs mf S S0 c c0 w K K0->∀j t,ts[j]?=some t->∀v,LeafOk S c w K (S.mc k (i+j)) v->LeafOk S0 c0 w K0 (t.inj hs) v)
 | [],i,m,m',h=>by
  rw [P1]at h;injection h with h
  subst h;exact⟨Le.refl _,λ_ _ j t hm=>by simp at hm⟩
 | t::ts,i,m,m',h=>by
  rw [P1]at h;split at h
  .rename_i m1 h1;obtain ⟨q1,q2⟩:=YW (hs:=hs) (mf:=mf) (S:=S) (S0:=S0) (c:=c) (c0:=c0) (w:=w) (K:=K) (K0:=K0) h1;obtain ⟨q3,q4⟩:=Abf k ts (i+1) h;refine⟨q1.trans q3,λhle hf j u hm v hv=>?_⟩;cases j with
   | zero=>
    simp only [Aqr,AoD]at hm;subst hm;exact q2 (q3.trans hle) hf v hv
   | succ j=>exact q4 hle hf j u (by grind) v (by grind)
  .cases h
theorem Akd {k i:Nat} {m m':Mt} (h:P1 holes S k [.md i] 0 m=some m'):∃xs,S.mc k 0=.md xs/\(i,(⟨.mp,xs⟩:Ae))∈m'.vs:=by
 simp only [P1]at h;split at h
 .rename_i m1 h1;injection h with h
  generalize hl:S.mc k 0=l at h1;cases l with
  | md xs=>
   injection h1 with h1
   grind
  | _=>cases h1
 .cases h
theorem R6 {hs:List Ae} {mf:Mt}:∀(l:List (Nat×List TL)) {m m':Mt},RE holes S l m=some m'->
  Le m m'/\(Le m' mf->∀ κ row,(κ,row)∈l->∃k,(κ,k)∈mf.rm/\S.ms k=some (PS row)/\(∀i,row=[.md i]->∃xs,S.mc k 0=.md xs/\(i,(⟨.mp,xs⟩:Ae))∈mf.vs)/\(Fin hs mf S S0 c c0 w K K0->∀j t,row[j]?=some t->∀v,LeafOk S c w K (S.mc k j) v->LeafOk S0 c0 w K0 (t.inj hs) v))
 | [],m,m',h=>by
  rw [RE]at h;injection h with h
  subst h;exact⟨Le.refl _,λ_ i t hm=>by cases hm⟩
 | (κ,row)::l,m,m',h=>by
  rw [RE]at h;split at h
  .rename_i k hk;split at h
   .rename_i hn;split at h
    .rename_i m1 h1;obtain ⟨q1,q2⟩:=Abf (hs:=hs) (mf:=mf) (S:=S) (S0:=S0) (c:=c) (c0:=c0) (w:=w) (K:=K) (K0:=K0) k row 0 h1;obtain ⟨q3,q4⟩:=R6 l h;refine⟨q1.trans q3,λhle κ' row' hm=>?_⟩;rcases AoY.1 hm with hm | hm
     .injection hm with e1 e2
      subst e1 e2;exact⟨k,(q1.trans (q3.trans hle)).rm _ (AM hk),hn,(λi hi=>by
       subst hi;obtain ⟨xs,e1,e2⟩:=Akd h1;exact⟨xs,e1,(q3.trans hle).vs _ e2⟩),λhf j t ht v hv=>q2 (q3.trans hle) hf j t ht v (by grind)⟩
     .exact q4 hle κ' row' hm
    .cases h
   .cases h
  .cases h
theorem RP:∀(l:List (Nat×Nat)) {m m':Mt},RL holes S l m=some m'->
  Le m m'/\m'.ro=m.ro/\m'.nl=m.nl/\∀ κ h,(κ,h)∈l->(∃k o,(κ,k)∈m.ro/\S.ow k=some o/\(h,(⟨.sl true o.e o.r,o.xs⟩:Ae))∈m'.vs)\/(κ∈m.nl/\∃e r,(h,(⟨.sl true e r,[]⟩:Ae))∈m'.vs)
 | [],m,m',h=>by
  injection h with h
  subst h;exact⟨Le.refl _,rfl,rfl,λ_ _ hm=>by cases hm⟩
 | (κ,hh)::l,m,m',h=>by
  rw [RL]at h;have add:∀(x:Ae),Le m { m with vs:=(hh,x)::m.vs }:=λx=>⟨λ_ h=>h,λ_ h=>h,λ_ h=>h,λy hy=>by simp [hy]⟩
  split at h
  .rename_i k hk;split at h
   .rename_i o ho;obtain ⟨q1,q2,q3,q4⟩:=RP l h;refine⟨(add _).trans q1,q2,q3,λκ' h' hm=>?_⟩;rcases AoY.1 hm with hm | hm
    .injection hm with e1 e2
     subst e1 e2;exact .inl ⟨k,o,AM hk,ho,q1.vs _ Z⟩
    grind
   .cases h
  .split at h
   .rename_i hc;split at h
    .rename_i e r _;obtain ⟨q1,q2,q3,q4⟩:=RP l h;refine⟨(add _).trans q1,q2,q3,λκ' h' hm=>?_⟩;rcases AoY.1 hm with hm | hm
     .injection hm with e1 e2
      subst e1 e2;exact .inr ⟨by grind,e,r,q1.vs _ Z⟩
     grind
    .cases h
   .cases h
end
theorem Wa:∀{l:List (Nat×Nat)} {a b k:Nat},(l.map (·.2)).Nodup->(a,k)∈l->(b,k)∈l->a=b
 | [],_,_,_,_,h,_=>by cases h
 | (i,j)::l,a,b,k,hn,h1,h2=>by
  rw [Apk,ApB]at hn;rcases AoY.1 h1 with e1 | h1'
  .grind
  .rcases AoY.1 h2 with e2 | h2'
   .grind
   .exact Wa hn.2 h1' h2'
theorem Tpl.ok0 {b:Base} {N:Nat} {S:St} {a:Act} {w:World} (t:Tpl) {x:t.D} (h:t.prj0 S=some x) (hs:Sim b N S a w):Sim b N (t.inj x) a w:=by
 unfold Tpl.prj0 at h;split at h
 .rename_i m hm;split at h
  .rename_i hfine;simp only [Mt.fine,AoI,Apb,decide_eq_true_eq,Ao7,beq_iff_eq]at hfine;obtain ⟨⟨⟨⟨⟨⟨⟨⟨⟨f1,f2⟩,f3⟩,f4⟩,f5⟩,f6⟩,f7⟩,f8⟩,f9⟩,f10⟩:=hfine;obtain ⟨c,hi,hsl,hfx⟩:=hs;unfold Tpl.mt at hm;split at hm
   .rename_i m1 hm1;split at hm
    .rename_i m2 hm2;obtain ⟨w1,w2,w3,w4⟩:=RP t.owns hm;generalize hhs:split t.holes x=hs;have hinj:t.inj x=t.injH hs:=by rw [<- hhs];rfl
     rw [hinj];have hvs:∀i y,(i,y)∈m.vs->hs[i]?=some y:=by
      intro i y hy;have:=Ab6 m.vs t.holes 0 x h i (f2 _ hy);rw [AoS,hhs]at this;rw [<- this];exact DX (Cr f1) hy
     let c0:Cc:=⟨c.mb,c.mo,λκ=>match find m.ro κ with | some k=>c.hv k | none=>.slice none 0 0,λκ=>match find m.ro κ with | some k=>c.F k | none=>[]⟩
     have how:∀ κ,(t.injH hs).ow κ≠none->(∃k o,find m.ro κ=some k/\S.ow k=some o/\(t.injH hs).ow κ=some o)\/(find m.ro κ=none/\∃e r,(t.injH hs).ow κ=some ⟨e,r,[]⟩):=by
      intro κ hκ;simp only [Tpl.injH]at hκ ⊢;split at hκ
      .rename_i hh hfo;rcases w4 κ hh (AM hfo)with⟨k,o,k1,k2,k3⟩ | ⟨k1,e,r,k3⟩
       .rw [<- w2]at k1;refine .inl ⟨k,o,DX (Cr f3) k1,k2,?_⟩;rw [hvs _ _ k3];rfl
       .rw [<- w3]at k1;have:=(f7 κ k1).1;refine .inr ⟨Jh (by grind),e,r,?_⟩;rw [hvs _ _ k3];rfl
      grind
     have hroO:∀ κ k,(κ,k)∈m.ro->(t.injH hs).ow κ=S.ow k/\S.ow k≠none:=by
      intro κ k hk;have h8:=f8 _ hk;obtain ⟨hh,hho⟩:=Ap0.1 h8;rcases w4 κ hh (AM hho)with⟨k',o,k1,k2,k3⟩ | ⟨k1,e,r,k3⟩
      .rw [<- w2]at k1;have e1:=DX (Cr f3) k1;have e2:=DX (Cr f3) hk;rw [e1]at e2;injection e2 with e2
       subst e2;refine⟨?_,by rw [k2];simp⟩;simp only [Tpl.injH,hho,hvs _ _ k3,k2];rfl
      grind
     have hrm:∀ κ,(t.injH hs).ms κ≠none->∃row,find t.mems κ=some row/\(t.injH hs).ms κ=some (PS row):=by
      intro κ hκ;simp only [Tpl.injH]at hκ ⊢;cases hfm:find t.mems κ with
      | none=>grind
      | some row=>simp
     have hrmf:∀ κ k,(κ,k)∈m.rm->find m.rm κ=some k:=λκ k hk=>DX (Cr f5) hk
     have hcmb:∀ κ k,find m.rm κ=some k->c0.mb κ=c.mb k:=λκ k hk=>by show c.mb κ=_;rw [show κ=k from f10 _ (AM hk)]
     have hcmo:∀ κ k,find m.rm κ=some k->c0.mo κ=c.mo k:=λκ k hk=>by show c.mo κ=_;rw [show κ=k from f10 _ (AM hk)]
     have hchv:∀ κ k,find m.ro κ=some k->c0.hv κ=c.hv k/\c0.F κ=c.F k:=λκ k hk=>⟨by grind,by grind⟩
     have hcno:∀ κ,find m.ro κ=none->c0.hv κ=.slice none 0 0/\c0.F κ=[]:=λκ hk=>⟨by grind,by grind⟩
     have hmem:∀ κ row,find t.mems κ=some row->∃k,find m.rm κ=some k/\S.ms k=some (PS row):=by
      intro κ row hrow;obtain ⟨_,q2⟩:=R6 (hs:=hs) (mf:=m) (S:=S) (S0:=S) (c:=c) (c0:=c) (w:=w) (K:=Kok b S c) (K0:=Kok b S c) t.mems hm2;obtain ⟨k,k1,k2,_⟩:=q2 w1 κ row (AM hrow)
      grind
     have hK:∀g,g < w.heap.size->Kok b S c g->Kok b (t.injH hs) c0 g:=by
      rintro g _ ⟨h1,h2⟩;refine⟨h1,?_⟩;rintro (⟨κ,hκ,rfl⟩ | ⟨κ,hκ,hg⟩)
      .obtain ⟨row,hrow,_⟩:=hrm κ hκ;obtain ⟨k,hk,hn⟩:=hmem κ row hrow;exact h2 (.inl ⟨k,by rw [hn];simp,(hcmb κ k hk).symm⟩)
      .rcases how κ hκ with⟨k,o,k1,k2,k3⟩ | ⟨k1,_⟩
       .rw [(hchv κ k k1).2]at hg;exact h2 (.inr ⟨k,by rw [k2];simp,hg⟩)
       grind
     have hfin:Fin hs m S (t.injH hs) c c0 w (Kok b S c) (Kok b (t.injH hs) c0):=by
      refine⟨hK,hvs,?_,?_,?_⟩
      .intro κ k hk;exact⟨(hroO κ k hk).1,(hchv κ k (DX (Cr f3) hk)).1⟩
      .intro κ hκ;have h7:=f7 κ hκ;have hno:find m.ro κ=none:=Jh (by grind);refine⟨?_,(hcno κ hno).1⟩;obtain ⟨hh,hho⟩:=Ap0.1 h7.2;rcases w4 κ hh (AM hho)with⟨k',o,k1,k2,k3⟩ | ⟨k1,e,r,k3⟩
       .grind
       .refine⟨e,r,?_⟩;simp only [Tpl.injH,hho,hvs _ _ k3];rfl
      .intro κ k hk;refine⟨λn hn=>?_,hcmb κ k (hrmf κ k hk),hcmo κ k (hrmf κ k hk)⟩;obtain ⟨row,hrow⟩:=Ap0.1 (f9 _ hk);obtain ⟨k',k1,k2⟩:=hmem κ row hrow;rw [hrmf κ k hk]at k1;injection k1 with k1
       subst k1;rw [<- hn,k2];simp only [Tpl.injH,hrow];rfl
     obtain ⟨l1,g1⟩:=UK (hs:=hs) (mf:=m) (S:=S) (S0:=t.injH hs) (c:=c) (c0:=c0) (w:=w) (K:=Kok b S c) (K0:=Kok b (t.injH hs) c0) t.slots hm1;obtain ⟨l2,g2⟩:=R6 (hs:=hs) (mf:=m) (S:=S) (S0:=t.injH hs) (c:=c) (c0:=c0) (w:=w) (K:=Kok b S c) (K0:=Kok b (t.injH hs) c0) t.mems hm2;have hinjr:∀ κ κ' k,find m.ro κ=some k->find m.ro κ'=some k->κ=κ':=by
      intro κ κ' k h1 h2;exact Wa (Cr f4) (AM h1) (AM h2)
     have hinjm:∀ κ κ' k,find m.rm κ=some k->find m.rm κ'=some k->κ=κ':=by
      intro κ κ' k h1 h2;exact Wa (Cr f6) (AM h1) (AM h2)
     have hmk:∀ κ n,(t.injH hs).ms κ=some n->∃row k,find t.mems κ=some row/\n=PS row/\find m.rm κ=some k/\S.ms k=some n:=by
      grind
     refine⟨c0,⟨?_,?_,?_,?_,?_,?_,?_,hi.fix,hi.os,hi.tape,hi.output,hi.size,hi.an,?_⟩,⟨?_,hsl.n,hsl.d⟩,hfx⟩
     .intro κ n hn hn0;obtain ⟨row,k,h1,rfl,h2,h3⟩:=hmk κ n hn;obtain ⟨cs,e,fr,p1,p2,p3,p4,p5⟩:=hi.ms k _ h3 hn0;rw [hcmb κ k h2,hcmo κ k h2];refine⟨cs,e,fr,p1,p2,p3,λi v hlt hv=>?_,p5⟩;obtain ⟨k',k1,_,_,k3⟩:=g2 w1 κ row (AM h1);have:k'=k:=by
       grind
      subst this;by_cases hlr:i < row.length
      rotate_left
      .have:(t.injH hs).mc κ i=.no:=by simp only [Tpl.injH,h1,App (O:row.length<=i)]
       rw [this];trivial
      have hrow:row[i]?=some row[i]:=AoF hlr;have hmc:(t.injH hs).mc κ i=(row[i]).inj hs:=by simp only [Tpl.injH,h1,hrow]
      grind
     .intro κ o ho;rcases how κ (by rw [ho];simp)with⟨k,o',k1,k2,k3⟩ | ⟨k1,e,r,k3⟩
      .rw [ho]at k3;injection k3 with k3
       subst k3;rw [(hchv κ k k1).1,(hchv κ k k1).2];exact Rp.mono hK _ _ (hi.ow k o k2)
      .rw [ho]at k3;injection k3 with k3
       subst k3;rw [(hcno κ k1).1,(hcno κ k1).2];simp only [Rp];simp
     .intro κ hκ;rcases how κ hκ with⟨k,o',k1,k2,k3⟩ | ⟨k1,_⟩
      .rw [(hchv κ k k1).2];exact hi.nd k (by rw [k2];simp)
      grind
     .intro κ κ' hne h1 h2 g hg;rcases how κ h1 with⟨k,o1,k1,k2,k3⟩ | ⟨k1,_⟩
      .rw [(hchv κ k k1).2]at hg;rcases how κ' h2 with⟨k',o2,q1,q2,q3⟩ | ⟨q1,_⟩
       .rw [(hchv κ' k' q1).2];have hne':k≠k':=by grind
        exact hi.oo k k' hne' (by rw [k2];simp) (by rw [q2];simp) g hg
       grind
      grind
     .intro κ κ' hne h1 h2;obtain ⟨n,hn⟩:=ApK.1 h1;obtain ⟨n',hn'⟩:=ApK.1 h2;obtain ⟨_,k,_,_,a1,a2⟩:=hmk κ n hn;obtain ⟨_,k',_,_,b1,b2⟩:=hmk κ' n' hn';rw [hcmb κ k a1,hcmb κ' k' b1];have hne':k≠k':=by grind
      exact hi.mm k k' hne' (by rw [a2];simp) (by rw [b2];simp)
     .intro κ κ' h1 h2;obtain ⟨n,hn⟩:=ApK.1 h1;obtain ⟨_,k,_,_,a1,a2⟩:=hmk κ n hn;rw [hcmb κ k a1];rcases how κ' h2 with⟨k',o2,q1,q2,q3⟩ | ⟨q1,_⟩
      .rw [(hchv κ' k' q1).2];exact hi.mo k k' (by rw [a2];simp) (by rw [q2];simp)
      grind
     .rintro g (⟨κ,hκ,rfl⟩ | ⟨κ,hκ,hg⟩)
      .obtain ⟨n,hn⟩:=ApK.1 hκ;obtain ⟨_,k,_,_,a1,a2⟩:=hmk κ n hn;rw [hcmb κ k a1];exact hi.fr _ (.inl ⟨k,by rw [a2];simp,rfl⟩)
      .rcases how κ hκ with⟨k,o,k1,k2,k3⟩ | ⟨k1,_⟩
       .rw [(hchv κ k k1).2]at hg;exact hi.fr g (.inr ⟨k,by rw [k2];simp,hg⟩)
       grind
     .intro κ hn;obtain ⟨row,k,h1,h1',h2,h3⟩:=hmk κ 0 hn;obtain ⟨k',k1,_,k4,_⟩:=g2 w1 κ row (AM h1);have:k'=k:=by
       grind
      subst this;obtain ⟨i,rfl⟩:∃i,row=[.md i]:=by
       unfold PS at h1'
       grind
      obtain ⟨xs,e1,e2⟩:=k4 i rfl;obtain ⟨xs',e3,e4⟩:=hi.mp k' h3;rw [e1]at e3;injection e3 with e3
      subst e3;refine⟨xs,?_,by grind⟩;have:(t.injH hs).mc κ 0=(TL.md i).inj hs:=by simp only [Tpl.injH,h1];rfl
      rw [this];simp only [TL.inj,hvs _ _ e2]
     .intro i;have:=g1 (l2.trans w1) hfin;cases hfs:find t.slots i with
      | none=>
       have:(t.injH hs).sl i=.no:=by simp only [Tpl.injH,hfs]
       rw [this];trivial
      | some s=>
       have h1:(t.injH hs).sl i=.s (s.inj hs):=by simp only [Tpl.injH,hfs]
       rw [h1];exact this i s (AM hfs) _ (hsl.ok i)
    .cases hm
   .cases hm
  .cases h
 .cases h
theorem Inv.setLeaf {b:Base} {S:St} {w:World} {c:Cc} (h:Inv b S w c) (k off:Nat) (l:Leaf) (hk0:S.ms k≠some 0) (hl:∀cs e fr v,S.ms k≠none->w.heap[c.mb k]?=some (.cells cs e fr)->cs[c.mo k+off]?=some v->LeafOk S c w (Kok b S c) l v):Inv b (S.up (.mc k off l)) w c:=by
 have ho:(S.up (.mc k off l)).ow=S.ow:=rfl;have hm:(S.up (.mc k off l)).ms=S.ms:=rfl;have hk:Kok b (S.up (.mc k off l)) c=Kok b S c:=EZ ho hm;refine⟨?_,?_,h.nd,h.oo,h.mm,h.mo,λg hg=>h.fr g ((Ge ho hm g).1 hg),h.fix,h.os,h.tape,h.output,h.size,h.an,?_⟩
 .intro k' n hn hn0;obtain ⟨cs,e,fr,h1,h2,h3,h4,h5⟩:=h.ms k' n hn hn0;refine⟨cs,e,fr,h1,h2,h3,λi v hlt hv=>?_,h5⟩;rw [hk];refine(Hs ho hm _ _).2 ?_;show LeafOk S c w (Kok b S c) (if k'=k then(if i=off then l else S.mc k' i)else S.mc k' i) v
  grind
 .intro k' o hk';rw [hk];exact h.ow k' o hk'
 .intro k' hn;obtain ⟨xs,h1,h2⟩:=h.mp k' hn;refine⟨xs,?_,h2⟩;show(if k'=k then(if 0=off then l else S.mc k' 0)else S.mc k' 0)=_
  grind
theorem LZ {N:Nat} {S:St} {c:Cc} {w:World} {K:Nat->Prop} {a:Act} (h:Slots N S c w K (a.put none undef)):Slots N S c w K a:=h
theorem Slots.setSlot {N:Nat} {S:St} {c:Cc} {w:World} {K:Nat->Prop} {a:Act} (h:Slots N S c w K a) (i:Nat) (x:SV) (hx:AX S c w K x (a.tmps.getD i undef)):Slots N (S.put i x) c w K a:=by
 have hsv:∀l v,AX (S.put i x) c w K l v↔AX S c w K l v:=by
  intro l v;rfl
 refine⟨λj=>?_,h.n,h.d⟩;rw [hsv];show AX S c w K (if j=i then x else S.sl j) _;split
 .grind
 .exact h.ok j
theorem ZW {b:Base} {N:Nat} {S:St} {a:Act} {w:World} {c:Cc} (hi:Inv b S w c) (hsl:Slots N S c w (Kok b S c) a) (hfx:∀p,p∈b.fx->a.tmps.getD p.1 undef=p.2) (p:Pl) {k:Nat} {win:Option (Nat×Nat)} (hlf:MN S p=.vw k [] win) :
  ∃v,LeafOk S c w (Kok b S c) (.vw k [] win) v/\∀(S':St) (c':Cc) (l':Leaf),S'.ms=S.ms->(c'.mb=c.mb/\c'.mo=c.mo)->Inv b S' w c'->Slots N S' c' w (Kok b S' c') a->(∀i,S'.sl i=(S.sl i).kp [.all k])->
   LeafOk S' c' w (Kok b S' c') l' v->Sim b N (S'.setAt l' p) a w:=by
 cases p with
 | sl i=>
  simp only [MN]at hlf;split at hlf
  .rename_i l hl;subst hlf;have:=hsl.ok i;rw [hl]at this;refine⟨_,this,λS' c' l' _ _ hi' hsl' _ hlk=>?_⟩;refine⟨c',Inv.put (S:=S') rfl rfl rfl hi',?_,hfx⟩;rw [show Kok b (S'.setAt l' (.sl i)) c'=Kok b S' c' from EZ rfl rfl];exact hsl'.setSlot i _ hlk
  .cases hlf
 | ag i j=>
  simp only [MN]at hlf;split at hlf
  .rename_i ls hl;have:=hsl.ok i;rw [hl]at this;obtain ⟨vs,e,hall⟩:=this;rw [ApG]at hlf;cases hj:ls[j]? with
   | none=>grind
   | some l=>
    rw [hj]at hlf;simp only [Apo]at hlf;subst hlf;obtain ⟨v,hvj,hvl⟩:=hall.get hj;refine⟨v,hvl,λS' c' l' _ _ hi' hsl' hsl2 hlk=>?_⟩;have hS:S'.sl i=.s (.ag (ls.map (Leaf.kp [.all k]))):=by rw [hsl2,hl];rfl
    simp only [St.setAt,hS];refine⟨c',Inv.put (S:=S') rfl rfl rfl hi',?_,hfx⟩;rw [show Kok b (S'.put i (.s (.ag ((ls.map (Leaf.kp [.all k])).set j l')))) c'=Kok b S' c' from EZ rfl rfl];refine hsl'.setSlot i _ ?_;have h2:=hsl'.ok i;rw [hS]at h2;obtain ⟨vs',e',hall'⟩:=h2;have hvs:vs'=vs:=by
     grind
    subst hvs;have hset:=hall'.set j hlk;have:vs'.set j v=vs':=by
     apply Apq
     grind
    rw [this]at hset;exact⟨vs',e',hset⟩
  .cases hlf
 | mc k0 c0=>
  simp only [MN]at hlf;split at hlf
  .rename_i m hm;split at hlf
   .rename_i hlt;obtain ⟨cs,e,fr,h1,h2,h3,h4,_⟩:=hi.ms k0 m hm O;have hc:cs[c.mo k0+c0]?=some cs[c.mo k0+c0]:=Apg O;have:=h4 c0 _ hlt hc;rw [hlf]at this;refine⟨_,this,λS' c' l' e1 e2 hi' hsl' _ hlk=>?_⟩;refine⟨c',hi'.setLeaf k0 c0 _ (by grind) ?_,?_,hfx⟩
    .grind
    .rw [show Kok b (S'.setAt l' (.mc k0 c0)) c'=Kok b S' c' from EZ rfl rfl];refine⟨λi=>?_,hsl'.n,hsl'.d⟩;have:=hsl'.ok i
     assumption
   .cases hlf
  .cases hlf
 | pt i ts=>simp [MN]at hlf
theorem Inv.drop {b:Base} {S:St} {w:World} {c:Cc} (hi:Inv b S w c) (k:Nat):Inv b (S.drop k) w c/\Stay S (S.drop k) c c w w (Kok b S c) (Kok b (S.drop k) c) [.m k]/\∀n,S.ms k=some n->Kok b (S.drop k) c (c.mb k):=by
 have hms:∀i,(S.drop k).ms i=if i=k then none else S.ms i:=λi=>rfl
 have hmc:∀a i,(S.drop k).mc a i=(S.mc a i).kp [.m k]:=λa i=>E8 S [.m k] a i
 have hown:∀g,A5 (S.drop k) c g->A5 S c g:=by
  rintro g (⟨k',hk',rfl⟩ | ⟨k',hk',hg⟩)
  .rw [hms]at hk';split at hk'
   .grind
   .exact .inl ⟨k',hk',rfl⟩
  .exact .inr ⟨k',hk',hg⟩
 have kk:KSame w w (Kok b S c) (Kok b (S.drop k) c):=⟨Ao4 _,λg hg _=>⟨rfl,hg.1,λh=>hg.2 (hown g h)⟩⟩
 have stay:Stay S (S.drop k) c c w w (Kok b S c) (Kok b (S.drop k) c) [.m k]:=by
  refine Stay.of hi (λk' o ho=>.inr (.inl ⟨ho,rfl,λ_ _=>rfl⟩)) (λk' n hn=>?_) kk
  grind
 refine⟨⟨?_,?_,hi.nd,hi.oo,?_,?_,?_,hi.fix,hi.os,hi.tape,hi.output,hi.size,hi.an,?_⟩,stay,?_⟩
 .intro k' n hn hn0;rw [hms]at hn;split at hn
  .cases hn
  .obtain ⟨cs,e,fr,h1,h2,h3,h4,h5⟩:=hi.ms k' n hn hn0;exact⟨cs,e,fr,h1,h2,h3,λi v hlt hv=>by rw [hmc];exact stay.leaf (h4 i v hlt hv),h5⟩
 .intro k' o ho;exact Rp.frame kk _ _ (hi.ow k' o ho) λ_ _=>rfl
 .intro k1 k2 hne h1 h2;rw [hms]at h1 h2;split at h1
  .grind
  .split at h2
   .grind
   .exact hi.mm k1 k2 hne h1 h2
 .intro k1 k2 h1 h2;rw [hms]at h1;split at h1
  .grind
  .exact hi.mo k1 k2 h1 h2
 .exact λg hg=>hi.fr g (hown g hg)
 .intro k' hn;rw [hms]at hn;split at hn
  .cases hn
  .exact Kg hi hn (hmc k' 0) rfl rfl
 .intro n hn;have hko:S.ms k≠none:=by rw [hn];simp
  refine⟨.inr (hi.fr _ (.inl ⟨k,hko,rfl⟩)).2,?_⟩;rintro (⟨k',hk',he⟩ | ⟨k',hk',hg⟩)
  .rw [hms]at hk';split at hk'
   .grind
   .rename_i hne;exact hi.mm k' k hne hk' hko he
  .exact hi.mo k k' hko hk' hg
theorem XS {S:St} {c:Cc} {w:World} {K:Nat->Prop} (k:Nat):∀(ts:List Ty) (i:Nat) (vs:List Value) {ls:List Ae},vs.length=ts.length->(∀j v,vs[j]?=some v->LeafOk S c w K (S.mc k (i+j)) v)->MH S k ts i=some ls->FL (ALOk w K) ls vs []
 | [],i,vs,ls,hl,_,h=>by
  simp only [MH,AoD]at h;subst h;obtain rfl:vs=[]:=Ao1 hl;exact⟨rfl,rfl⟩
 | t::ts,i,[],ls,hl,_,_=>by simp at hl
 | t::ts,i,v::vs,ls,hl,hc,h=>by
  have ih:∀{ls'},MH S k ts (i+1)=some ls'->FL (ALOk w K) ls' vs []:=λh'=>XS k ts (i+1) vs (by grind) (λj v hv=>by
   have:=hc (j+1) v (by grind)
   rwa [(O:i+(j+1)=i+1+j)]at this) h'
  have h0:=hc 0 v rfl;rw [Aqf]at h0;simp only [MH]at h;split at h
  .rename_i u x he;rw [he]at h0;split at h
   .rename_i ls' hls';injection h with h
    subst h;exact⟨v,vs,[],[],rfl,rfl,⟨h0,λ_=>rfl⟩,ih hls'⟩
   .cases h
  .rename_i he;rw [he]at h0;obtain rfl:v=.slice none 0 0:=h0;split at h
   .split at h
    .rename_i ls' hls';injection h with h
     subst h;refine⟨_,vs,[],[],rfl,rfl,⟨?_,λ_=>rfl⟩,ih hls'⟩;rw [Rp];exact⟨rfl,none,0,[],rfl,Ao4 _,⟨rfl,rfl⟩,.inl rfl⟩
    .cases h
   .cases h
  .cases h
theorem Aeq {b:Base} {N:Nat} {S:St} {a:Act} {w:World} (p:Pl) (hs:Sim b N S a w):Sim b N (WW S p) a w:=by
 unfold WW;split
 .rename_i k lo n hlf;split
  .rename_i o ho;obtain ⟨c,hi,hsl,hfx⟩:=hs;obtain ⟨v,hv,hplace⟩:=ZW hi hsl hfx p hlf;obtain ⟨o0,e,r,ys,hd,q1,q2,q3,q4⟩:=hv;obtain rfl:o=o0:=by grind
   simp only [Aw,Tr.run,AoD]at q2;injection q2 with ha hb
   injection ha with _ he hr
   obtain ⟨oe,or,oxs⟩:=o;simp only at he hr hb;subst he hr;obtain rfl:=eq_of_heq hb;simp only [hdr,AoD]at q3;subst q3;obtain ⟨F2,g1,g2,g3⟩:=VQ (hi.ow k _ ho) (hi.nd k (by rw [ho];simp)) q4;generalize hS:(S.kp [.all k]).up (.ow k (some ⟨oe,or,(oxs.drop lo).take n⟩))=S';obtain ⟨c',e1,e2,_,e4,e5,_⟩:=hi.setOwn (S':=S') (w':=w) k ⟨oe,or,(oxs.drop lo).take n⟩ [] [.all k] v F2
    (by intro k';rw [<- hS];rfl)
    (by rw [<- hS];rfl) (by intro k' i;rw [<- hS];rfl) (λk hk=>by cases hk) (λ_ _=>.inl Z) (Step.refl _ _)
    (λg hg=>⟨(hi.fr g (.inr ⟨k,by rw [ho];simp,g2 g hg⟩)).1,.inl ⟨k,.inl rfl,by rw [ho];simp,g2 g hg⟩⟩) g3
    (λK' hK _=>Rp.frame ⟨Ao4 _,λg hg hlt=>⟨rfl,(hK.2 g hg hlt).2⟩⟩ _ _ g1 λg _=>rfl)
   have hsl':Slots N S' c' w (Kok b S' c') a:=LZ (e5.slots hsl (by intro i;rw [<- hS];rfl) none .no undef (λ_ h=>by cases h) trivial (λ_ _=>Iff.rfl) (λ_ _=>Iff.rfl));have how:S'.ow k=some ⟨oe,or,(oxs.drop lo).take n⟩:=by rw [<- hS];show(if k=k then _ else _)=_;simp
   exact hplace S' c' (.vw k [] none) (by rw [<- hS];rfl) e1 e4 hsl' (by intro i;rw [<- hS];rfl) ⟨_,oe,or,_,v,how,rfl,by rw [e2];rfl,rfl⟩
  .exact hs
 .exact hs
theorem XY {b:Base} {N:Nat} {a:Act} {w:World}:∀(ps:List Pl) {S:St},Sim b N S a w->Sim b N (AaY S ps) a w
 | [],_,hs=>hs
 | p::ps,_,hs=>XY ps (Aeq p hs)
theorem Aej {b:Base} {N:Nat} {S:St} {a:Act} {w:World} (p:Pl) (hs:Sim b N S a w):Sim b N (Wp S p) a w:=by
 unfold Wp;split
 .rename_i k hlf;split
  .rename_i o ho;obtain ⟨c,hi,hsl,hfx⟩:=hs;obtain ⟨v,hv,hplace⟩:=ZW hi hsl hfx p hlf;obtain ⟨o0,e,r,ys,hd,q1,q2,q3,q4⟩:=hv;simp only [hdr,AoD]at q3;obtain rfl:v=hd:=q4;subst q3;generalize hS:(S.kp [.all k]).up (.ow k none)=S';obtain ⟨c',e1,_,e4,e5,hfree⟩:=hi.many (S':=S') (w':=w) (λ_=>none) [k] [] [.all k]
    (by intro k';rw [<- hS];show(if k'=k then _ else(S.kp _).ow k')=_;rw [Gr];simp)
    (by rw [<- hS];rfl) (by intro k' i _;rw [<- hS];rfl) (λk' o _ hk'=>.inl (hk'.elim (λh=>by grind) λh=>absurd rfl h))
    (Step.refl _ _) (λ_ _ h=>by cases h) (λ_ _ h=>by cases h) (λ_ _ _ _ _ h=>by cases h) (λ_ _ _ _ _ h=>by cases h) (λ_ _ _ _ _ _ _ _ _ h=>by cases h) (λ_ h=>by cases h)
   have hsl':Slots N S' c' w (Kok b S' c') a:=LZ (e5.slots hsl (by intro i;rw [<- hS];rfl) none .no undef (λ_ h=>by cases h) trivial (λ_ _=>Iff.rfl) (λ_ _=>Iff.rfl));refine hplace S' c' _ (by rw [<- hS];rfl) e1 e4 hsl' (by intro i;rw [<- hS];rfl) ?_;exact Rp.frz (λg hlt hg=>(e5.kk.2 g hg hlt).2) _ _ (hi.ow k o ho) λg hg=>hfree g (.inr ⟨k,Z,by rw [ho];simp,hg⟩) (λ_ _ h=>by cases h)
  .exact hs
 .exact hs
theorem Aet {b:Base} {N:Nat} {S:St} {a:Act} {w:World} (p:Pl) (hs:Sim b N S a w):Sim b N (Wu S p) a w:=by
 unfold Wu;split
 .rename_i i ts;split
  .rename_i k hsl0;split
   .rename_i n ls hn hls;split
    .rename_i hlen;obtain ⟨c,hi,hsl,hfx⟩:=hs;obtain ⟨h1,h2,h3⟩:=hi.drop k;have hsl':Slots N (S.drop k) c w (Kok b (S.drop k) c) a:=LZ (h2.slots hsl (by intro i;rfl) none .no undef (λ_ h=>by cases h) trivial (λ_ _=>Iff.rfl) (λ_ _=>Iff.rfl));have hv:=hsl.ok i;rw [hsl0]at hv;obtain ⟨n',hn',hv⟩:=hv;obtain ⟨hlen,hn0⟩:=hlen;obtain ⟨cs,e,fr,g1,g2,g3,g4,_⟩:=hi.ms k n hn (Aqk hn0);have hlt:c.mb k < w.heap.size:=B5 g1;have hwl:((cs.toList.drop (c.mo k)).take ts.length).length=ts.length:=by
      grind
     have hwg:∀j,j < ts.length->((cs.toList.drop (c.mo k)).take ts.length)[j]?=cs[c.mo k+j]?:=by
      grind
     have hfl:=XS (S:=S) (c:=c) (w:=w) (K:=Kok b S c) k ts 0 _ hwl (λj v hv=>by
      grind) hls
     refine⟨c,Inv.put (S:=S.drop k) rfl rfl rfl h1,?_,hfx⟩;rw [show Kok b ((S.drop k).put i (.s (.one (.v (.pt (CA ls).1) (some (CA ls).2))))) c=Kok b (S.drop k) c from EZ rfl rfl];refine hsl'.setSlot i _ ?_;rw [hv];show Rp w _ (.pt (CA ls).1) (some (CA ls).2) _ _;simp only [Rp];refine⟨trivial,⟨c.mb k,c.mo k+0,none⟩,_,rfl,NH _ (hfl.mono λ_ _ _ h=>ALOk.mono (λg hg hk=>(h2.kk.2 g hk hg).2) h),h3 n hn,hlt,λj hj=>?_⟩;rw [Be,Bf g1,Aqf]
     grind
    .exact hs
   .exact hs
  .exact hs
 .exact Aej p hs
theorem W4 {b:Base} {N:Nat} {a:Act} {w:World}:∀(ps:List Pl) {S:St},Sim b N S a w->Sim b N (Aat S ps) a w
 | [],_,hs=>hs
 | p::ps,_,hs=>W4 ps (Aet p hs)
theorem Tpl.ok {b:Base} {N:Nat} {S:St} {a:Act} {w:World} (t:Tpl) {x:t.D} (h:t.prj S=some x) (hs:Sim b N S a w):Sim b N (t.inj x) a w:=
 t.ok0 h (W4 t.fz (XY t.nw hs))
end Go.V
namespace Go.V
theorem Aes (E:Env) (ρ ρ':Operand->SV) (d:Nat) (op:Op) (h:∀x,x∈op.operands.toList->ρ x=ρ' x):Km E ρ d op=Km E ρ' d op:=by
 have pairs:∀ps:List (Nat×Operand),(∀x,x∈ps.map (·.2)->ρ x=ρ' x)->(ps.map λp=>(p.1,ρ p.2))=ps.map λp=>(p.1,ρ' p.2):=λps hp=>
  Aps λp hm=>by rw [hp p.2 (Ao0.2 ⟨p,hm,rfl⟩)]
 cases op
 case build t ps=>simp only [Km,pairs ps.toList λx hx=>h x (by simpa [Op.operands] using hx)]
 case buildSlice t n ps=>simp only [Km,pairs ps.toList λx hx=>h x (by simpa [Op.operands] using hx)]
 case slice t x lo hi mx=>
  simp only [Op.operands]at h;have h1:ρ x=ρ' x:=h x Z;have h2:lo.map ρ=lo.map ρ':=by cases lo with | none=>rfl | some y=>simp only [Apz];rw [h y Z]
  have h3:hi.map ρ=hi.map ρ':=by cases hi with | none=>rfl | some y=>simp only [Apz];rw [h y Z]
  have h4:mx.map ρ=mx.map ρ':=by cases mx with | none=>rfl | some y=>simp only [Apz];rw [h y Z]
  simp only [Km,h1,h2,h3,h4]
 case makeFunc f first cs=>
  have hcs:cs.toList.map ρ=cs.toList.map ρ':=Aps λx hx=>h x (by
   simp only [Op.operands,Aqa,AoK];exact .inr hx)
  cases f with
  | func f=>simp only [Km,hcs]
  | _=>rfl
 case call c=>
  obtain ⟨cal,as,ts⟩:=c;have has:as.toList.map ρ=as.toList.map ρ':=Aps λx hx=>h x (by
   cases cal <;> simp [Op.operands,Call.operands] <;> simp [Array.mem_toList_iff.1 hx])
  cases cal with
  | value f=>
   have hf:ρ f=ρ' f:=h f (by simp [Op.operands,Call.operands]);simp only [Km,has,hf]
  | invoke r m=>rfl
  | builtin b=>cases b <;> simp only [Km,has]
 case entry x=>cases x <;> rfl
 case makeMap t r=>cases r <;> rfl
 case lookup t x i ok=>
  have h1:ρ x=ρ' x:=h x (by simp [Op.operands]);have h2:ρ i=ρ' i:=h i (by simp [Op.operands]);cases ok <;> simp only [Km,h1,h2]
 all_goals first
  | rfl
  | (simp only [Op.operands,AoY,Aqy,or_false,forall_eq_or_imp,forall_eq]at h;simp only [Km,h];done)
def Ag (S S':St) (l:List Lg):Prop:=∀x,x∈l->match x with | .o k=>S.ow k=S'.ow k | .c k off _=>S.mc k off=S'.mc k off | .m k=>S.ms k=S'.ms k
theorem Zc {α:Type} (S:St) (t:Tr α):∀(g:List Lg) {x:α} {l:List Lg},(t.at S g).run=some (x,l)->∀y,y∈g->y∈l:=by
 induction t with
 | ret a=>intro g x l h;simp only [Tr.at,Tr.run,AoD,Prod.mk.injEq]at h;rw [<- h.2];exact λ_ h=>h
 | fail=>intro g x l h;simp [Tr.at,Tr.run]at h
 | br c t e ih1 ih2=>
  intro g x l h;simp only [Tr.at,Tr.run]at h;split at h
  .exact ih1 g h
  .exact ih2 g h
 | get γ o f ih=>
  intro g x l h;simp only [Tr.at,Dl,AoG]at h;obtain ⟨b,hb,h⟩:=h;exact ih b g h
 | alt γ δ s f f' ih1 ih2=>
  intro g x l h;cases s with
  | inl b=>exact ih1 b g h
  | inr b=>exact ih2 b g h
 | rdO k f ih=>intro g x l h y hy;exact ih _ _ h y (ApM _ hy)
 | rdC k off f ih=>intro g x l h y hy;exact ih _ _ h y (ApM _ hy)
 | rdM k f ih=>intro g x l h y hy;exact ih _ _ h y (ApM _ hy)
theorem Ai7 {α:Type} (S S':St) (t:Tr α):∀(g:List Lg) {x:α} {l:List Lg},(t.at S g).run=some (x,l)->Ag S S' l->(t.at S' g).run=some (x,l):=by
 induction t with
 | ret a=>intro g x l h _;exact h
 | fail=>intro g x l h;simp [Tr.at,Tr.run]at h
 | br c t e ih1 ih2=>
  intro g x l h ha;simp only [Tr.at,Tr.run]at h ⊢;split at h
  .rename_i hc;rw [AoJ hc];exact ih1 g h ha
  .rename_i hc;rw [AoH hc];exact ih2 g h ha
 | get γ o f ih=>
  intro g x l h ha;simp only [Tr.at,Dl,AoG]at h ⊢;obtain ⟨b,hb,h⟩:=h;exact⟨b,hb,ih b g h ha⟩
 | alt γ δ s f f' ih1 ih2=>
  intro g x l h ha;cases s with
  | inl b=>exact ih1 b g h ha
  | inr b=>exact ih2 b g h ha
 | rdO k f ih=>
  intro g x l h ha
  replace h:((f (S.ow k)).at S (.o k::g)).run=some (x,l):=h
  have:S.ow k=S'.ow k:=ha _ (Zc S _ _ h (.o k) Z);show((f (S'.ow k)).at S' (.o k::g)).run=_;rw [<- this];exact ih _ _ h ha
 | rdC k off f ih=>
  intro g x l h ha
  replace h:((f (S.mc k off)).at S (.c k off (S.mc k off)::g)).run=some (x,l):=h
  have:S.mc k off=S'.mc k off:=ha _ (Zc S _ _ h (.c k off (S.mc k off)) Z);show((f (S'.mc k off)).at S' (.c k off (S'.mc k off)::g)).run=_;rw [<- this];exact ih _ _ h ha
 | rdM k f ih=>
  intro g x l h ha
  replace h:((f (S.ms k)).at S (.m k::g)).run=some (x,l):=h
  have:S.ms k=S'.ms k:=ha _ (Zc S _ _ h (.m k) Z);show((f (S'.ms k)).at S' (.m k::g)).run=_;rw [<- this];exact ih _ _ h ha
def Ain (S:St) (l:List Lg):Prop:=∀k off x,Lg.c k off x∈l->S.mc k off=x
theorem AkF {α:Type} (S:St) (t:Tr α):∀(g:List Lg) {x:α} {l:List Lg},Ain S g->(t.at S g).run=some (x,l)->Ain S l:=by
 induction t with
 | ret a=>intro g x l hg h;simp only [Tr.at,Tr.run,AoD,Prod.mk.injEq]at h;rw [<- h.2];exact hg
 | fail=>intro g x l _ h;simp [Tr.at,Tr.run]at h
 | br c t e ih1 ih2=>
  intro g x l hg h;simp only [Tr.at,Tr.run]at h;split at h
  .exact ih1 g hg h
  .exact ih2 g hg h
 | get γ o f ih=>
  intro g x l hg h;simp only [Tr.at,Dl,AoG]at h;obtain ⟨b,hb,h⟩:=h;exact ih b g hg h
 | alt γ δ s f f' ih1 ih2=>
  intro g x l hg h;cases s with
  | inl b=>exact ih1 b g hg h
  | inr b=>exact ih2 b g hg h
 | rdO k f ih=>intro g x l hg h;exact ih _ _ (λk' o' x' hx=>by rcases AoY.1 hx with hx | hx;cases hx;exact hg _ _ _ hx) h
 | rdC k off f ih=>intro g x l hg h;exact ih _ _ (λk' o' x' hx=>by
   rcases AoY.1 hx with hx | hx
   .injection hx with e1 e2 e3;subst e1 e2 e3;rfl
   .exact hg _ _ _ hx) h
 | rdM k f ih=>intro g x l hg h;exact ih _ _ (λk' o' x' hx=>by rcases AoY.1 hx with hx | hx;cases hx;exact hg _ _ _ hx) h
theorem Leaf.kp_kp (c c':List Kl) (l:Leaf):(l.kp c).kp c'=(l.kp c').kp c:=by
 cases l with
 | vw k st win=>
  by_cases h1:c.all (λx=>x.okV k st)=true <;> by_cases h2:c'.all (λx=>x.okV k st)=true <;> simp only [Leaf.kp,h1,h2,AoU] <;> rfl
 | p k off=>by_cases h1:c.all (λx=>x.okM k)=true <;> by_cases h2:c'.all (λx=>x.okM k)=true <;> simp only [Leaf.kp,h1,h2,AoU] <;> rfl
 | mh k=>by_cases h1:c.all (λx=>x.okM k)=true <;> by_cases h2:c'.all (λx=>x.okM k)=true <;> simp only [Leaf.kp,h1,h2,AoU] <;> rfl
 | _=>rfl
theorem S1.kp_kp (c c':List Kl) (x:S1):(x.kp c).kp c'=(x.kp c').kp c:=by
 cases x with
 | one l=>simp only [S1.kp,Leaf.kp_kp c c' l]
 | ag ls=>simp only [S1.kp,ApF];congr 1;apply Aps;intro l _;exact Leaf.kp_kp c c' l
 | pl k off=>by_cases h1:c.all (λx=>x.okM k)=true <;> by_cases h2:c'.all (λx=>x.okM k)=true <;> simp only [S1.kp,h1,h2,AoU] <;> rfl
 | el k st=>by_cases h1:c.all (λx=>x.okE k st)=true <;> by_cases h2:c'.all (λx=>x.okE k st)=true <;> simp only [S1.kp,h1,h2,AoU] <;> rfl
 | rp t x off=>rfl
 | fv f cs=>by_cases h1:c.all (λx=>cs.all λp=>x.okM p.1)=true <;> by_cases h2:c'.all (λx=>cs.all λp=>x.okM p.1)=true <;> simp only [S1.kp,h1,h2,AoU] <;> rfl
theorem SV.kp_kp (c c':List Kl) (x:SV):(x.kp c).kp c'=(x.kp c').kp c:=by
 cases x with
 | s x=>simp only [SV.kp,S1.kp_kp c c' x]
 | tu xs=>simp only [SV.kp,ApF];congr 1;apply Aps;intro l _;exact S1.kp_kp c c' l
 | un=>rfl
 | no=>rfl
theorem Leaf.kp_safe {c:List Kl} {l:Leaf} (h:l.safe c=true):l.kp c=l:=by
 cases l with
 | vw k st win=>simp only [Leaf.safe]at h;simp only [Leaf.kp,h,AoU]
 | p k off=>simp only [Leaf.safe]at h;simp only [Leaf.kp,h,AoU]
 | mh k=>simp only [Leaf.safe]at h;simp only [Leaf.kp,h,AoU]
 | _=>rfl
theorem Lq {α:Type} {f:α->α}:∀{l:List α},(∀x,x∈l->f x=x)->l.map f=l
 | [],_=>rfl
 | x::l,h=>by rw [Apk,h x Z,Lq λy hy=>h y (by simp [hy])]
theorem S1.kp_safe {c:List Kl} {x:S1} (h:x.safe c=true):x.kp c=x:=by
 cases x with
 | one l=>simp only [S1.safe]at h;simp only [S1.kp,Leaf.kp_safe h]
 | ag ls=>simp only [S1.safe,Apb]at h;simp only [S1.kp];rw [Lq λl hl=>Leaf.kp_safe (h l hl)]
 | pl k off=>simp only [S1.safe]at h;simp only [S1.kp,h,AoU]
 | el k st=>simp only [S1.safe]at h;simp only [S1.kp,h,AoU]
 | rp t x off=>rfl
 | fv f cs=>simp only [S1.safe]at h;simp only [S1.kp,h,AoU]
theorem SV.kp_safe {c:List Kl} {x:SV} (h:x.safe c=true):x.kp c=x:=by
 cases x with
 | s x=>simp only [SV.safe]at h;simp only [SV.kp,S1.kp_safe h]
 | tu xs=>simp only [SV.safe,Apb]at h;simp only [SV.kp];rw [Lq λl hl=>S1.kp_safe (h l hl)]
 | un=>rfl
 | no=>rfl
theorem Leaf.kp_whole {c:List Kl} {l:Leaf} (h:(l.kp c).whole=true):l.kp c=l:=by
 cases l with
 | vw k st win=>
  simp only [Leaf.kp]at h ⊢;split
  .rfl
  .rename_i hc;rw [AoH hc]at h;cases h
 | p k off=>
  simp only [Leaf.kp]at h ⊢;split
  .rfl
  .rename_i hc;rw [AoH hc]at h;cases h
 | mh k=>
  simp only [Leaf.kp]at h ⊢;split
  .rfl
  .rename_i hc;rw [AoH hc]at h;cases h
 | _=>rfl
theorem S1.kp_whole {c:List Kl} {x:S1} (h:(x.kp c).whole=true):x.kp c=x:=by
 cases x with
 | one l=>simp only [S1.kp,S1.whole]at h ⊢;rw [Leaf.kp_whole h]
 | ag ls=>
  simp only [S1.kp,S1.whole,Apb]at h ⊢;rw [Lq λl hl=>Leaf.kp_whole (h (l.kp c) (Ao0.2 ⟨l,hl,rfl⟩))]
 | pl k off=>
  simp only [S1.kp]at h ⊢;split
  .rfl
  .rename_i hc;rw [AoH hc]at h;cases h
 | el k st=>
  simp only [S1.kp]at h ⊢;split
  .rfl
  .rename_i hc;rw [AoH hc]at h;cases h
 | rp t x off=>rfl
 | fv f cs=>
  simp only [S1.kp]at h ⊢;split
  .rfl
  .rename_i hc;rw [AoH hc]at h;cases h
theorem SV.kp_whole {c:List Kl} {x:SV} (h:(x.kp c).whole=true):x.kp c=x:=by
 cases x with
 | s x=>simp only [SV.kp,SV.whole]at h ⊢;rw [S1.kp_whole h]
 | tu xs=>
  simp only [SV.kp,SV.whole,Apb]at h ⊢;rw [Lq λl hl=>S1.kp_whole (h (l.kp c) (Ao0.2 ⟨l,hl,rfl⟩))]
 | un=>rfl
 | no=>rfl
theorem St.kp_kp (S:St) (c c':List Kl):(S.kp c).kp c'=(S.kp c').kp c:=
 St.ext' (λi=>by simp only [PO,SV.kp_kp c c']) (λk=>by simp only [GX]) (λk i=>by simp only [E8,Leaf.kp_kp c c']) (λk=>by simp only [Gr])
theorem Ani (S:St) (c:List Kl) {u:U} (h:u.safe c=true):(S.up u).kp c=(S.kp c).up u:=by
 have hsl:∀i,((S.up u).kp c).sl i=((S.kp c).up u).sl i:=by
  intro i;rw [PO];have e1:(S.up u).sl i=S.sl i:=by cases u <;> rfl
  have e2:((S.kp c).up u).sl i=(S.kp c).sl i:=by cases u <;> rfl
  rw [e1,e2,PO]
 cases u with
 | ow k o=>
  refine St.ext' hsl (λi=>?_) (λi j=>?_) (λi=>?_)
  .rw [GX];show S.ms i=(S.kp c).ms i;rw [GX]
  .rw [E8];show(S.mc i j).kp c=(S.kp c).mc i j;rw [E8]
  .rw [Gr];show(if i=k then o else S.ow i)=(if i=k then o else(S.kp c).ow i);rw [Gr]
 | mc k off l=>
  refine St.ext' hsl (λi=>?_) (λi j=>?_) (λi=>?_)
  .rw [GX];show S.ms i=(S.kp c).ms i;rw [GX]
  .rw [E8];show(if i=k then(if j=off then l else S.mc i j)else S.mc i j).kp c=(if i=k then(if j=off then l else(S.kp c).mc i j)else(S.kp c).mc i j)
   rw [E8];split
   .split
    .exact Leaf.kp_safe h
    .rfl
   .rfl
  .rw [Gr];show S.ow i=(S.kp c).ow i;rw [Gr]
 | ms k row=>
  refine St.ext' hsl (λi=>?_) (λi j=>?_) (λi=>?_)
  .rw [GX];show(if i=k then some (Lz row)else S.ms i)=(if i=k then some (Lz row)else(S.kp c).ms i);rw [GX]
  .rw [E8];show(if i=k then row.getD j .no else S.mc i j).kp c=(if i=k then row.getD j .no else(S.kp c).mc i j)
   rw [E8];split
   .simp only [U.safe,Apb]at h;rw [ApG];cases hr:row[j]? with
    | none=>rfl
    | some l=>exact Leaf.kp_safe (h l (Api hr))
   .rfl
  .rw [Gr];show S.ow i=(S.kp c).ow i;rw [Gr]
theorem AaH (c:List Kl):∀(us:List U) (S:St),us.all (U.safe c)=true->(S.ups us).kp c=(S.kp c).ups us
 | [],_,_=>rfl
 | u::us,S,h=>by
  simp only [ApZ,AoI]at h;show((S.up u).ups us).kp c=((S.kp c).up u).ups us;rw [AaH c us _ h.2,Ani S c h.1]
theorem AmX (S:St) {u v:U} (h:u.meets v=false):(S.up u).up v=(S.up v).up u:=by
 cases u <;> cases v <;> simp only [U.meets,Bool.and_eq_false_iff,beq_eq_false_iff_ne]at h <;> (refine St.ext' (λi=>rfl) (λi=>?_) (λi j=>?_) (λi=>?_)) <;> simp only [St.up] <;> (repeat' split) <;> simp_all
theorem Afr {u:U}:∀(vs:List U) (S:St),vs.all (λv=>!u.meets v)=true->(S.up u).ups vs=(S.ups vs).up u
 | [],_,_=>rfl
 | v::vs,S,h=>by
  simp only [ApZ,AoI,Ao7]at h;show((S.up u).up v).ups vs=((S.up v).ups vs).up u;rw [AmX S h.1,Afr vs _ (by simpa using h.2)]
theorem Ac7:∀(us vs:List U) (S:St),us.all (λu=>vs.all λv=>!u.meets v)=true->(S.ups us).ups vs=(S.ups vs).ups us
 | [],_,_,_=>rfl
 | u::us,vs,S,h=>by
  simp only [ApZ,AoI]at h;show((S.up u).ups us).ups vs=((S.ups vs).up u).ups us;rw [Ac7 us vs _ (by simpa using h.2),Afr vs S h.1]
theorem AcC (S:St) (d:Option Nat) (x:SV) (c:List Kl) (h:x.safe c=true):(S.putO d x).kp c=(S.kp c).putO d x:=by
 cases d with
 | none=>rfl
 | some d=>
  refine St.ext' (λi=>?_) (λi=>?_) (λi j=>?_) (λi=>?_)
  .rw [PO];show(if i=d then x else S.sl i).kp c=(if i=d then x else(S.kp c).sl i)
   rw [PO];split
   .exact SV.kp_safe h
   .rfl
  .rw [GX];show S.ms i=(S.kp c).ms i;rw [GX]
  .rw [E8];show(S.mc i j).kp c=(S.kp c).mc i j;rw [E8]
  .rw [Gr];show S.ow i=(S.kp c).ow i;rw [Gr]
theorem AjH (S:St) (d:Option Nat) (x:SV) (u:U):(S.putO d x).up u=(S.up u).putO d x:=by
 cases d <;> cases u <;> rfl
theorem T7 (d:Option Nat) (x:SV):∀(us:List U) (S:St),(S.putO d x).ups us=(S.ups us).putO d x
 | [],_=>rfl
 | u::us,S=>by
  show((S.putO d x).up u).ups us=((S.up u).ups us).putO d x;rw [AjH,T7 d x us]
theorem Ag6 (S:St) (d e:Option Nat) (x y:SV) (h:∀i,d=some i->e≠some i):(S.putO d x).putO e y=(S.putO e y).putO d x:=by
 cases d with
 | none=>rfl
 | some d=>
  cases e with
  | none=>rfl
  | some e=>
   have hne:¬ e=d:=λhe=>h d rfl (by rw [he])
   refine St.ext' (λi=>?_) (λ_=>rfl) (λ_ _=>rfl) (λ_=>rfl);show(if i=e then y else if i=d then x else S.sl i)=(if i=d then x else if i=e then y else S.sl i)
   by_cases h1:i=e
   .subst h1;rw [AoJ rfl,AoH hne,AoJ rfl]
   .rw [AoH h1,AoH h1]
theorem Akp (S:St) (d e:Option Nat) (p q:Out) (hd:∀i,d=some i->e≠some i) (h1:p.x.safe q.ks=true) (h2:q.x.safe p.ks=true) (h3:p.us.all (U.safe q.ks)=true) (h4:q.us.all (U.safe p.ks)=true)
  (h5:p.us.all (λu=>q.us.all λv=>!u.meets v)=true):(S.app d p).app e q=(S.app e q).app d p:=by
 simp only [St.app];rw [AcC _ _ _ _ h1,AaH _ _ _ h3,T7,AcC _ _ _ _ h2,AaH _ _ _ h4,T7,Ag6 _ _ _ _ _ hd,Ac7 _ _ _ h5,St.kp_kp]
end Go.V
namespace Go.V
def Holds (ops:Array Oper) (S:St) (o:Oper) (y:Bool):Prop:=
 match o.guard with
 | none=>y=true
 | some (j,want)=>∃g,SA ops j=some g/\((∃b,S.sl g=.s (.one (.v .bool b))/\y=(b == want))\/(S.sl g=.un/\y=false))
def Stp (E:Env) (N:Nat) (ops:Array Oper) (S:St) (r:Rec):Prop:=
 Sn E N r.o=true/\((Holds ops S r.o true/\(AdW E N r.o S).run=some (r.out,r.lg)/\r.ins=r.o.op.operands.toList.map (Cu S))\/(Holds ops S r.o false/\r.out=YH/\r.lg=[]/\r.ins=[]))
theorem Zl {S:St} {g:Nat} {x:SV} (h:S.sl g=x):S.put g x=S:=by
 refine St.ext' (λi=>?_) (λ_=>rfl) (λ_ _=>rfl) (λ_=>rfl);show(if i=g then x else S.sl i)=S.sl i;split
 .rename_i hi;rw [hi,h]
 .rfl
section
variable {E:Env} {N:Nat} {ops:Array Oper}
theorem Xn {o:Oper} {S S':St} {r:Rec} (h:(YG E N ops o S).run=some (S',r)):r.o=o/\Stp E N ops S r/\S'=S.app o.dst r.out:=by
 have yes:Sn E N o=true->Holds ops S o true->(AaE E N o S).run=some (S',r)->r.o=o/\Stp E N ops S r/\S'=S.app o.dst r.out:=by
  intro hd hh h;simp only [AaE,run_bind,AoG,Tr.run,AoD,Prod.mk.injEq]at h;obtain ⟨x,hx,h1,h2⟩:=h;subst h1 h2;exact⟨rfl,⟨hd,.inl ⟨hh,hx,rfl⟩⟩,rfl⟩
 have nay:Sn E N o=true->Holds ops S o false->(AaX o S).run=some (S',r)->r.o=o/\Stp E N ops S r/\S'=S.app o.dst r.out:=by
  intro hd hh h;simp only [AaX,Tr.run,AoD,Prod.mk.injEq]at h;obtain ⟨h1,h2⟩:=h;subst h1 h2;exact⟨rfl,⟨hd,.inr ⟨hh,rfl,rfl,rfl⟩⟩,rfl⟩
 unfold YG at h;split at h
 .rename_i hd;split at h
  .rename_i hg;exact yes hd (by simp [Holds,hg]) h
  .rename_i j want hg;split at h
   .rename_i g hgs;split at h
    .rename_i bb hs;have hold:∀y,y=(bb == want)->Holds ops S o y:=λy hy=>by simp only [Holds,hg];exact⟨g,hgs,.inl ⟨bb,hs,hy⟩⟩
     simp only [Tr.run]at h;cases hb:(bb:Bool)with
     | true=>
      rw [hb]at h hs;simp only [AoU]at h;rw [Zl hs]at h;cases want with
      | true=>exact yes hd (hold _ (by rw [hb];rfl)) h
      | false=>exact nay hd (hold _ (by rw [hb];rfl)) h
     | false=>
      rw [hb]at h hs;simp only [AoO,Apa]at h;rw [Zl hs]at h;cases want with
      | true=>exact nay hd (hold _ (by rw [hb];rfl)) h
      | false=>exact yes hd (hold _ (by rw [hb];rfl)) h
    .rename_i hs;exact nay hd (by unfold Holds;rw [hg];exact⟨g,hgs,.inr ⟨hs,rfl⟩⟩) h
    .simp [Tr.run]at h
   .simp [Tr.run]at h
 .simp [Tr.run]at h
theorem UW (S:St) (d:Option Nat) (p:Out) {t:Nat} (h:d≠some t):(S.app d p).sl t=(S.sl t).kp p.ks:=by
 have e:((S.kp p.ks).ups p.us).sl t=(S.sl t).kp p.ks:=by rw [Agl,PO]
 cases d with
 | none=>exact e
 | some d=>
  show(if t=d then p.x else((S.kp p.ks).ups p.us).sl t)=_;rw [AoH (λht=>h (by rw [ht])),e]
theorem RU {k:Nat}:∀(us:List U) (S:St),us.all (λu=>!u.hits (.o k))=true->(S.ups us).ow k=S.ow k
 | [],_,_=>rfl
 | u::us,S,h=>by
  simp only [ApZ,AoI,Ao7]at h;show((S.up u).ups us).ow k=_;rw [RU us _ (by simpa using h.2)];cases u with
  | ow k' o=>
   have:¬ k=k':=λhk=>by rw [hk]at h;simp [U.hits]at h
   show(if k=k' then o else S.ow k)=_;rw [AoH this]
  | mc _ _ _=>rfl
  | ms _ _=>rfl
theorem R3 {k:Nat}:∀(us:List U) (S:St),us.all (λu=>!u.hits (.m k))=true->(S.ups us).ms k=S.ms k
 | [],_,_=>rfl
 | u::us,S,h=>by
  simp only [ApZ,AoI,Ao7]at h;show((S.up u).ups us).ms k=_;rw [R3 us _ (by simpa using h.2)];cases u with
  | ms k' row=>
   have:¬ k=k':=λhk=>by rw [hk]at h;simp [U.hits]at h
   show(if k=k' then _ else S.ms k)=_;rw [AoH this]
  | mc _ _ _=>rfl
  | ow _ _=>rfl
theorem R9 {k off:Nat} {l:Leaf}:∀(us:List U) (S:St),us.all (λu=>!u.hits (.c k off l))=true->(S.ups us).mc k off=S.mc k off
 | [],_,_=>rfl
 | u::us,S,h=>by
  simp only [ApZ,AoI,Ao7]at h;show((S.up u).ups us).mc k off=_;rw [R9 us _ (by simpa using h.2)];cases u with
  | mc k' off' l'=>
   show(if k=k' then(if off=off' then l' else S.mc k off)else S.mc k off)=_;have:=h.1;simp only [U.hits,Bool.and_eq_false_iff,beq_eq_false_iff_ne]at this;by_cases h1:k=k'
   .rw [AoJ h1,AoH (λh2=>by rcases this with h3 | h3 <;> simp_all)]
   .rw [AoH h1]
  | ms k' row=>
   have:¬ k=k':=λhk=>by rw [hk]at h;simp [U.hits]at h
   show(if k=k' then _ else S.mc k off)=_;rw [AoH this]
  | ow _ _=>rfl
theorem AgE (S:St) (d:Option Nat) (p:Out):(S.app d p).ow=((S.kp p.ks).ups p.us).ow:=by cases d <;> rfl
theorem AgQ (S:St) (d:Option Nat) (p:Out):(S.app d p).ms=((S.kp p.ks).ups p.us).ms:=by cases d <;> rfl
theorem Ag4 (S:St) (d:Option Nat) (p:Out):(S.app d p).mc=((S.kp p.ks).ups p.us).mc:=by cases d <;> rfl
theorem AkH {x:SV} {c:List Kl} {b:Bool} (h:x.kp c=.s (.one (.v .bool b))):x=.s (.one (.v .bool b)):=by
 cases x with
 | s x=>
  cases x with
  | one l=>
   cases l with
   | v t y=>exact h
   | vw k st win=>
    simp only [SV.kp,S1.kp,Leaf.kp,SV.s.injEq,S1.one.injEq]at h;split at h <;> cases h
   | p k off=>
    simp only [SV.kp,S1.kp,Leaf.kp,SV.s.injEq,S1.one.injEq]at h;split at h <;> cases h
   | mh k=>
    simp only [SV.kp,S1.kp,Leaf.kp,SV.s.injEq,S1.one.injEq]at h;split at h <;> cases h
   | np=>exact h
   | md xs=>exact h
   | qn e=>exact h
   | nil=>exact h
   | no=>exact h
  | ag ls=>simp [SV.kp,S1.kp]at h
  | pl k off=>
   simp only [SV.kp,S1.kp,SV.s.injEq]at h;split at h <;> cases h
  | el k st=>
   simp only [SV.kp,S1.kp,SV.s.injEq]at h;split at h <;> cases h
  | rp t y off=>exact h
  | fv f cs=>
   simp only [SV.kp,S1.kp,SV.s.injEq]at h;split at h <;> cases h
 | tu xs=>simp [SV.kp]at h
 | un=>exact h
 | no=>exact h
theorem Am1 {x:SV} {c:List Kl} (h:x.kp c=.un):x=.un:=by
 cases x <;> simp_all [SV.kp]
theorem AgO {a b:Oper} (h:Ja ops a b=true):(∀d,a.dst=some d->d∉Jd ops b)/\(∀d,a.dst=some d->b.dst≠some d)/\(∀d,b.dst=some d->d∉Jd ops a):=by
 simp only [Ja,AoI]at h;refine⟨λd hd=>?_,λd hd=>?_,λd hd=>?_⟩
 .rw [hd]at h;simp only [AoI,Ao7]at h;simpa using h.1.1
 .rw [hd]at h;simp only [AoI,Ao7]at h;intro he;rw [he]at h;simp at h
 .rw [hd]at h;simp only [Ao7]at h;simpa using h.2
theorem Ah7 {o:Oper} {t:Nat} (h:Operand.tmp t∈o.op.operands.toList):t∈Jd ops o:=
 List.mem_append_left _ (List.mem_filterMap.2 ⟨.tmp t,h,rfl⟩)
theorem Va {o:Oper} {j:Nat} {want:Bool} {g:Nat} (h:o.guard=some (j,want)) (hg:SA ops j=some g):g∈Jd ops o:=
 List.mem_append_right _ (by rw [h];simp [hg])
structure Past (a b:Rec):Prop where
 whole:b.out.ks=[]\/((∀x,x∈a.ins->x.whole=true)/\∀x,x∈a.lg->x.whole=true)
 ins:∀x,x∈a.ins->x.safe b.out.ks=true
 x:a.out.x.safe b.out.ks=true
 lg:∀x,x∈a.lg->x.safe b.out.ks=true
 us:a.out.us.all (U.safe b.out.ks)=true
 hits:∀x,x∈a.lg->b.out.us.all (λu=>!u.hits x)=true
theorem Xh {a b:Rec} (h:a.past b=true):Past a b:=by
 simp only [Rec.past,AoI,Aqc,List.isEmpty_iff,Apb (p:=SV.whole),Apb (p:=Lg.whole),Apb (p:=SV.safe b.out.ks),Apb (p:=Lg.safe b.out.ks)]at h;obtain ⟨⟨⟨⟨⟨h1,h2⟩,h3⟩,h4⟩,h5⟩,h6⟩:=h;rw [Apb]at h6;exact⟨h1,h2,h3,h4,h5,h6⟩
theorem Stp.move {S S':St} {r:Rec} (h:Stp E N ops S r) (hop:∀t,t∈Jd ops r.o->(∀x,x∈r.ins->x=S.sl t->S'.sl t=S.sl t)) (hg:∀t,t∈Jd ops r.o->((∃b,S.sl t=.s (.one (.v .bool b)))\/S.sl t=.un)->S'.sl t=S.sl t)
  (hlg:Ain S r.lg->Ag S S' r.lg):Stp E N ops S' r:=by
 have hold:∀y,Holds ops S r.o y->Holds ops S' r.o y:=by
  intro y hy;unfold Holds at hy ⊢;split
  .rename_i hgd;rw [hgd]at hy;exact hy
  .rename_i j want hgd;rw [hgd]at hy;obtain ⟨g,h1,⟨bb,h2,h3⟩ | ⟨h2,h3⟩⟩:=hy
   .exact⟨g,h1,.inl ⟨bb,by rw [hg g (Va hgd h1) (.inl ⟨bb,h2⟩),h2],h3⟩⟩
   .exact⟨g,h1,.inr ⟨by rw [hg g (Va hgd h1) (.inr h2),h2],h3⟩⟩
 obtain ⟨hd,h | ⟨h1,h2,h3,h4⟩⟩:=h
 .obtain ⟨h1,h2,h3⟩:=h;have hopn:∀x,x∈r.o.op.operands.toList->Cu S' x=Cu S x:=by
   intro x hx;cases x with
   | tmp t=>exact hop t (Ah7 hx) (S.sl t) (by rw [h3];exact Ao0.2 ⟨.tmp t,hx,rfl⟩) rfl
   | _=>rfl
  refine⟨hd,.inl ⟨hold _ h1,?_,?_⟩⟩
  .unfold AdW at h2 ⊢;rw [Aes E (Cu S') (Cu S) _ _ hopn];exact Ai7 S S' _ [] h2 (hlg (AkF S _ [] (λk off x hx=>by cases hx) h2))
  .rw [h3];exact Aps λx hx=>(hopn x hx).symm
 .exact⟨hd,.inr ⟨hold _ h1,h2,h3,h4⟩⟩
theorem Stp.swap {S:St} {p q:Rec} (hp:Stp E N ops S p) (hq:Stp E N ops (S.app p.o.dst p.out) q) (hs:Ja ops p.o q.o=true) (ha:p.apart q=true) :
  Stp E N ops S q/\Stp E N ops (S.app q.o.dst q.out) p/\(S.app p.o.dst p.out).app q.o.dst q.out=(S.app q.o.dst q.out).app p.o.dst p.out:=by
 obtain ⟨s1,s2,s3⟩:=AgO hs;simp only [Rec.apart,AoI]at ha;obtain ⟨⟨ha,hb⟩,hm⟩:=ha;have pa:=Xh ha;have pb:=Xh hb;refine⟨?_,?_,Akp S _ _ _ _ s2 pa.x pb.x pa.us pb.us hm⟩
 .refine hq.move ?_ ?_ ?_
  .intro t ht x hx hxt;have e:=UW S p.o.dst p.out (λh=>s1 t h ht:p.o.dst≠some t);rw [e]at hxt ⊢;rcases pb.whole with h0 | ⟨h0,_⟩
   .rw [h0,SV.kp_nil]
   .have:=h0 x hx;rw [hxt]at this;exact(SV.kp_whole this).symm
  .intro t ht hb;have e:=UW S p.o.dst p.out (λh=>s1 t h ht:p.o.dst≠some t);rw [e]at hb ⊢;rcases hb with⟨bb,hb⟩ | hb
   .rw [AkH hb];rfl
   .rw [Am1 hb];rfl
  .intro hsee l hl;have hh:=pb.hits l hl;cases l with
   | o k=>show(S.app p.o.dst p.out).ow k=S.ow k;rw [AgE,RU _ _ hh,Gr]
   | m k=>show(S.app p.o.dst p.out).ms k=S.ms k;rw [AgQ,R3 _ _ hh,GX]
   | c k off l=>
    show(S.app p.o.dst p.out).mc k off=S.mc k off;have h1:=hsee k off l hl;rw [Ag4,R9 _ _ hh,E8]at h1 ⊢;rcases pb.whole with h0 | ⟨_,h0⟩
    .rw [h0,Leaf.kp_nil]
    .have:=h0 _ hl;simp only [Lg.whole]at this;rw [<- h1]at this;exact Leaf.kp_whole this
 .refine hp.move ?_ ?_ ?_
  .intro t ht x hx hxt;have e:=UW S q.o.dst q.out (λh=>s3 t h ht:q.o.dst≠some t);rw [e];have:=pa.ins x hx;rw [hxt]at this;exact SV.kp_safe this
  .intro t ht hb;have e:=UW S q.o.dst q.out (λh=>s3 t h ht:q.o.dst≠some t);rcases hb with⟨bb,hb⟩ | hb
   .rw [e,hb];rfl
   .rw [e,hb];rfl
  .intro hsee l hl;have hh:=pa.hits l hl;cases l with
   | o k=>show S.ow k=(S.app q.o.dst q.out).ow k;rw [AgE,RU _ _ hh,Gr]
   | m k=>show S.ms k=(S.app q.o.dst q.out).ms k;rw [AgQ,R3 _ _ hh,GX]
   | c k off l=>
    show S.mc k off=(S.app q.o.dst q.out).mc k off;have h1:=hsee k off l hl;have h2:=pa.lg _ hl;simp only [Lg.safe]at h2;rw [Ag4,R9 _ _ hh,E8,h1,Leaf.kp_safe h2]
inductive Runs (E:Env) (N:Nat) (ops:Array Oper):List (Nat×Rec)->St->St->Prop
 | nil {S}:Runs E N ops [] S S
 | cons {i r l S S'}:Stp E N ops S r->Runs E N ops l (S.app r.o.dst r.out) S'->Runs E N ops ((i,r)::l) S S'
theorem Runs.front {q:Nat×Rec} {R2:List (Nat×Rec)}:∀(R1:List (Nat×Rec)) {S S':St},(∀p,p∈R1->Ja ops p.2.o q.2.o=true/\p.2.apart q.2=true)->Runs E N ops (R1++q::R2) S S'->Runs E N ops (q::(R1++R2)) S S'
 | [],_,_,_,h=>h
 | (i,p)::R1,S,S',ha,h=>by
  obtain ⟨qi,q⟩:=q;cases h with
  | cons h1 h2=>
   have:=Runs.front R1 (λp hp=>ha p (by simp [hp])) h2;cases this with
   | cons h3 h4=>
    obtain ⟨s1,s2⟩:=ha (i,p) Z;obtain ⟨k1,k2,k3⟩:=h1.swap h3 s1 s2;rw [k3]at h4;exact .cons k1 (.cons k2 h4)
theorem Rx:∀(os:List Oper) (S S':St) (n:Nat),(WV E N ops os S).run=some S'->∃rs:List Rec,rs.map (·.o)=os/\Runs E N ops (DV rs n) S S'
 | [],S,S',n,h=>by
  rw [WV]at h;simp only [Tr.run,AoD]at h;subst h;exact⟨[],rfl,.nil⟩
 | o::os,S,S',n,h=>by
  rw [WV]at h;simp only [run_bind,AoG]at h;obtain ⟨⟨S1,r⟩,h1,h2⟩:=h;obtain ⟨e1,e2,e3⟩:=Xn h1;subst e3;obtain ⟨rs,k1,k2⟩:=Rx os _ S' (n+1) h2;exact⟨r::rs,by rw [Apk,k1,e1],.cons e2 (by rw [e1];exact k2)⟩
theorem Xb:∀(os:List Oper) (S S':St) (acc rs:List Rec) (n:Nat),(Aa9 E N ops os S acc).run=some (S',rs)->∃rs':List Rec,rs=acc.reverse++rs'/\rs'.map (·.o)=os/\Runs E N ops (DV rs' n) S S'
 | [],S,S',acc,rs,n,h=>by
  rw [Aa9]at h;simp only [Tr.run,AoD,Prod.mk.injEq]at h;obtain ⟨h1,h2⟩:=h;subst h1 h2;exact⟨[],Z,rfl,.nil⟩
 | o::os,S,S',acc,rs,n,h=>by
  rw [Aa9]at h;simp only [run_bind,AoG]at h;obtain ⟨⟨S1,r⟩,h1,h2⟩:=h;obtain ⟨e1,e2,e3⟩:=Xn h1;subst e3;obtain ⟨rs',k0,k1,k2⟩:=Xb os _ S' (r::acc) rs (n+1) h2;exact⟨r::rs',by rw [k0];simp,by rw [Apk,k1,e1],.cons e2 (by rw [e1];exact k2)⟩
end
end Go.V
namespace Go.V
def EnB (P:Program) (E:Env) (b:Base):Prop:=∀{S:St} {w:World} {c:Cc} {a:Act},Inv b S w c->(∀x,x∈b.fx->a.tmps.getD x.1 undef=x.2)->∀s p,Ze E.en s=some p->
 (Instr.entry (a.eval (.tmp s))).run P w=.ok (.tuple #[.int .i64 p.1,.int .i64 p.2]) w
section
variable {P:Program} {E:Env} {b:Base} {N:Nat} {ops:Array Oper}
theorem Sim.skip {S:St} {a:Act} {w:World} (h:Sim b N S a w) (d:Option Nat) (hd:∀k,d=some k->k < N) (hdx:∀k,d=some k->∀p,p∈b.fx->p.1≠k):Sim b N (S.app d YH) (a.put d undef) w:=by
 obtain ⟨c,hi,hs,hfx⟩:=h;exact(Did.same (x:=.un) (v:=undef) hi rfl).sim hs d hd hfx hdx
theorem Stp.runs (hE:EnvOk P E) (hF:∀p,p∈b.fx->E.fx.contains p.1=true) (hG:EnB P E b) (hN:N < b.n1) {S:St} {r:Rec} (h:Stp E N ops S r) {a:Act} {w:World} (hs:Sim b N S a w) {K:Act->World->Prop} {Q:Exit->Act->World->Prop} (hK:∀a' w',Sim b N (S.app r.o.dst r.out) a' w'->K a' w') :
  if Region.wanted r.o (yielded ops a.tmps)then r.o.wp P a w K Q else K (a.put r.o.dst undef) w:=by
 obtain ⟨hd,h⟩:=h;have hdst:∀k,r.o.dst=some k->k < N:=by
  intro k hk;unfold Sn at hd
  grind
 have hdx:∀k,r.o.dst=some k->∀p,p∈b.fx->p.1≠k:=by
  intro k hk p hp he;unfold Sn at hd
  grind
 have hw:∀y,Holds ops S r.o y->Region.wanted r.o (yielded ops a.tmps)=y:=by
  intro y hy;unfold Holds at hy;unfold Region.wanted;split at hy
  .grind
  .rename_i j want hg;obtain ⟨g,h1,h2⟩:=hy;rw [hg];simp only;obtain ⟨c,hi,hsl,_⟩:=hs;have h4:=hsl.ok g;rcases h2 with⟨bb,h2,h3⟩ | ⟨h2,h3⟩
   rotate_left
   .rw [h2]at h4;have h5:a.tmps.getD g undef=undef:=h4;have h7:yielded ops a.tmps j=none:=by
     unfold yielded;unfold SA at h1;rw [h1];rw [Ap1]at h5;cases h8:a.tmps[g]? with
     | none=>simp [h8]
     | some v=>rw [h8]at h5;simp only [Apo]at h5;subst h5;simp [h8,undef]
    grind
   rw [h2]at h4;have h5:a.tmps.getD g undef=.bool bb:=EK (AY h4);have h6:a.tmps[g]?=some (.bool bb):=by
    rw [Ap1]at h5;cases h7:a.tmps[g]? with
    | none=>rw [h7]at h5;cases h5
    | some v=>grind
   have h7:yielded ops a.tmps j=some bb:=by
    unfold yielded;unfold SA at h1
    grind
   simp_all
 rcases h with⟨h1,h2,_⟩ | ⟨h1,h2,_⟩
 .rw [hw true h1,AoJ rfl];obtain ⟨c,hi,hsl,hfx⟩:=hs;have hev:=Ajt S _ [] h2;refine AkP hE.ti hi hsl r.o (d:=r.o.dst.getD N) (by
   cases hk:r.o.dst with
   | none=>exact hN
   | some k=>grind) (λfo f cs args ts out ho hfo hsz hc=>AhC hE hi hsl ho hfo hsz hc) (hG hi hfx) hev K Q λv w' hdid=>?_
  exact hK _ _ (hdid.sim hsl r.o.dst hdst hfx hdx)
 .rw [hw false h1];simp only [AoO,Apa];refine hK _ _ ?_;rw [h2];exact hs.skip _ hdst hdx
theorem Runs.more (hE:EnvOk P E) (hF:∀p,p∈b.fx->E.fx.contains p.1=true) (hG:EnB P E b) (hN:N < b.n1) {rest:List Oper}:∀(rs:List Rec) (n:Nat) {S S':St} {a:Act} {w:World} {Q:Exit->Act->World->Prop},Runs E N ops (DV rs n) S S'->Sim b N S a w->(∀a' w',Sim b N S' a' w'->wpList P ops Q rest a' w')->wpList P ops Q (rs.map (·.o)++rest) a w
 | [],n,S,S',a,w,Q,h,hs,hQ=>by
  cases h
  grind
 | r::rs,n,S,S',a,w,Q,h,hs,hQ=>by
  cases h with
  | cons h1 h2=>
   refine wpList_step λK hK=>?_
   exact h1.runs hE hF hG hN hs λa' w' hs'=>hK _ _ (Runs.more hE hF hG hN rs (n+1) h2 hs' hQ)
theorem Runs.list (hE:EnvOk P E) (hF:∀p,p∈b.fx->E.fx.contains p.1=true) (hG:EnB P E b) (hN:N < b.n1) (rs:List Rec) (n:Nat) {S S':St} {a:Act} {w:World} {Q:Exit->Act->World->Prop} (h:Runs E N ops (DV rs n) S S') (hs:Sim b N S a w) (hQ:∀a' w',Sim b N S' a' w'->Q .normal a' w'):wpList P ops Q (rs.map (·.o)) a w:=by
 have:=Runs.more hE hF hG hN (rest:=[]) rs n h hs hQ
 grind
theorem Ur:∀(os:List Oper) (acc:List Nat),(∀j,j < acc.length->(ahead os acc).getD j 0=acc.getD j 0)/\
  ∀j o,os[j]?=some o->∀i,((ahead os acc).getD (acc.length+j) 0).testBit i=true->∃e,e∈o.after.toList/\Region.binds .any e=true/\(e.on=i\/((ahead os acc).getD e.on 0).testBit i=true)
 | [],acc=>⟨λ_ _=>rfl,λj o h=>by simp at h⟩
 | o::os,acc=>by
  obtain ⟨h1,h2⟩:=Ur os (acc++[Mg acc o]);have e:ahead (o::os) acc=ahead os (acc++[Mg acc o]):=rfl;have hpre:∀j,j < acc.length->(ahead os (acc++[Mg acc o])).getD j 0=acc.getD j 0:=by
   grind
  rw [e];refine⟨hpre,λj o' ho i hi=>?_⟩;cases j with
  | zero=>
   simp only [Aqr,AoD]at ho;subst ho;have hv:(ahead os (acc++[Mg acc o])).getD (acc.length+0) 0=Mg acc o:=by
    grind
   rw [hv]at hi;have key:∀(es:List Edge) (m:Nat),(es.foldl (λm e=>if Region.binds .any e then m ||| ((1 <<< e.on) ||| acc.getD e.on 0)else m) m).testBit i=true->
     m.testBit i=true\/∃e,e∈es/\Region.binds .any e=true/\(e.on=i\/(acc.getD e.on 0).testBit i=true):=by
    intro es
    induction es with
    | nil=>simp
    | cons e es ih=>
     intro m h;rw [ApU]at h;rcases ih _ h with h | ⟨e',k1,k2,k3⟩
     .split at h
      .rename_i hb;rw [Nat.testBit_or,Nat.testBit_or,Nat.one_shiftLeft,Nat.testBit_two_pow]at h
       grind
      grind
     grind
   rcases key _ 0 hi with h | ⟨e',k1,k2,k3⟩
   .simp at h
   grind
  | succ j=>
   have:=h2 j o' (by grind) i (by grind);exact this
theorem Qt:∀(os:List Oper) (n:Nat),PD os n=true->∀j o,os[j]?=some o->∀e,e∈o.after.toList->Region.binds .any e=true->e.on < n+j
 | [],_,_,j,o,h=>by simp at h
 | o::os,n,hb,j,o',ho=>by
  simp only [PD,AoI,Apb]at hb;cases j with
  | zero=>
   grind
  | succ j=>
   intro e he hbd;have:=Qt os (n+1) hb.2 j o' (by grind) e he hbd;omega
theorem W6 {bs:List Nat} {q:Nat×Rec} {R2:List (Nat×Rec)}:∀(R1:List (Nat×Rec)),Jm ops bs (R1++q::R2)=true->
  Jm ops bs (R1++R2)=true/\∀p,p∈R1->(bs.getD q.1 0).testBit p.1=true\/(Ja ops p.2.o q.2.o=true/\p.2.apart q.2=true)
 | [],h=>by
  obtain ⟨i,q⟩:=q;simp only [Ao6,Jm,AoI]at h
  grind
 | (i,p)::R1,h=>by
  simp only [Apj,Jm,AoI,Apb]at h;obtain ⟨h1,h2⟩:=h;obtain ⟨k1,k2⟩:=W6 R1 h2;refine⟨?_,λp' hp=>?_⟩
  .simp only [Apj,Jm,AoI,Apb];refine⟨λx hx=>h1 x ?_,k1⟩
   grind
  grind
structure Left (ops:Array Oper) (bs:List Nat) (R:List (Nat×Rec)) (listed:Array Bool):Prop where
 size:listed.size=ops.size
 lt:∀p,p∈R->p.1 < ops.size
 not:∀i,i < ops.size->(listed[i]?=some false↔i∈R.map (·.1))
 op:∀p,p∈R->ops[p.1]?=some p.2.o
 asc:(R.map (·.1)).Pairwise (· < ·)
 closed:∀j,listed[j]?=some true->∀i,(bs.getD j 0).testBit i=true->listed[i]?=some true
theorem XL (hE:EnvOk P E) (hF:∀p,p∈b.fx->E.fx.contains p.1=true) (hG:EnB P E b) (hN:N < b.n1) (bs:List Nat) (hbs:∀(j:Nat) o,ops[j]?=some o->∀i,(bs.getD j 0).testBit i=true->∃e,e∈o.after.toList/\Region.binds .any e=true/\(e.on=i\/(bs.getD e.on 0).testBit i=true))
  (hbk:∀(j:Nat) o,ops[j]?=some o->∀e,e∈o.after.toList->Region.binds .any e=true->e.on < j) {Q:Exit->Act->World->Prop} {S':St} (hQ:∀a' w',Sim b N S' a' w'->Q .normal a' w') :
  ∀(fuel:Nat) (R:List (Nat×Rec)) (listed:Array Bool) (S:St) (a:Act) (w:World),R.length=fuel->Runs E N ops R S S'->Jm ops bs R=true->Left ops bs R listed->Sim b N S a w->wpAny P .any ops Q fuel listed a w
 | 0,R,listed,S,a,w,hl,hr,_,hL,hs=>by
  obtain rfl:R=[]:=Ao1 hl;cases hr;refine⟨?_,hQ _ _ hs⟩;unfold Region.ready;rw [List.filter_eq_nil_iff];intro i hi;have hi':i < ops.size:=by grind
  have h1:=hL.not i hi';have h2:listed[i]?=some true:=by
   have h3:i < listed.size:=by rw [hL.size];exact hi'
   simp_all
  simp_all
 | fuel+1,R,listed,S,a,w,hl,hr,hp,hL,hs=>by
  refine⟨λhnil=>?_,λi hi=>?_⟩
  .-- the first that is left is ready
   exfalso;cases R with
   | nil=>simp at hl
   | cons q R=>
    have hq:=hL.op q Z;have hqlt:=hL.lt q Z;have hin:q.1∈Region.ready .any ops listed:=by
     unfold Region.ready;rw [Aqe];refine⟨by grind,?_⟩;have h1:=(hL.not q.1 hqlt).2 Z;rw [Ap1,h1,hq];simp only [Apo,Aqx,AoT,Apz];rw [Array.all_eq_true'];intro e he;cases hbd:Region.binds .any e with
     | false=>rfl
     | true=>
      have hlt:=hbk q.1 _ hq e (Array.mem_toList_iff.2 he) hbd;have h3:e.on < listed.size:=by grind
      have h2:=hL.not e.on O;have h4:e.on∉(q::R).map (·.1):=by
       intro hm;have:=hL.asc;rw [Apk,List.pairwise_cons]at this
       grind
      simp_all
    grind
  .unfold Region.ready at hi;rw [Aqe]at hi;obtain ⟨hi1,hi2⟩:=hi;have hilt:i < ops.size:=by grind
   simp only [AoI,Ao7]at hi2;obtain ⟨hn,hpre⟩:=hi2;have hlt:i < listed.size:=by grind
   have hif:listed[i]?=some false:=by
    simp_all
   obtain ⟨q,hq,hqi⟩:=Ao0.1 ((hL.not i hilt).1 hif);subst hqi;have hop:=hL.op q hq;rw [hop]at hpre;simp only [Apz,Apo]at hpre;have hpre':∀e,e∈q.2.o.after.toList->Region.binds .any e=true->listed[e.on]?=some true:=by
    intro e he hbd;rw [Array.all_eq_true']at hpre;have:=hpre e (Array.mem_toList_iff.1 he);rw [hbd]at this;simp only [Apv,ApR]at this;rw [Ap1]at this
    grind
   have hall:∀j,(bs.getD q.1 0).testBit j=true->listed[j]?=some true:=by
    intro j hj;obtain ⟨e,k1,k2,k3⟩:=hbs q.1 _ hop j hj;have:=hpre' e k1 k2;rcases k3 with k3 | k3
    .grind
    .exact hL.closed e.on this j k3
   obtain ⟨R1,R2,rfl⟩:=List.append_of_mem hq;obtain ⟨p1,p2⟩:=W6 R1 hp;have hfront:=Runs.front R1 (λp hp'=>by
    rcases p2 p hp' with h | h
    .have h1:=hall p.1 h;have h2:=(hL.not p.1 (hL.lt p (by simp [hp']))).2 (Ao0.2 ⟨p,by simp [hp'],rfl⟩)
     grind
    .exact h) hr
   obtain ⟨qi,r⟩:=q;cases hfront with
   | cons s1 s2=>
    unfold wpOp;rw [hop];simp only;have hrec:∀a' w',Sim b N (S.app r.o.dst r.out) a' w'->wpAny P .any ops Q fuel (listed.setIfInBounds qi true) a' w':=by
     intro a' w' hs';refine XL hE hF hG hN bs hbs hbk hQ fuel (R1++R2) _ _ a' w' ?_ s2 p1 ?_ hs'
     .grind
     .have hasc:=hL.asc;rw [Ape,Apk,Aqp,List.pairwise_cons]at hasc;obtain ⟨g1,⟨g2,g3⟩,g4⟩:=hasc;refine⟨by simp [hL.size],λp hp=>?_,λi hi=>?_,λp hp=>?_,?_,?_⟩
      .rcases AoK.1 hp with h | h
       .grind
       .exact hL.lt p (by simp [h])
      .by_cases hiq:i=qi
       .grind
       .rw [Ap6 (Ne.symm hiq),hL.not i hi];simp [hiq]
      .rcases AoK.1 hp with h | h
       .exact hL.op p (by simp [h])
       .exact hL.op p (by simp [h])
      .grind
      .intro j hj i hi;have hsub:∀m:Nat,listed[m]?=some true->(listed.setIfInBounds qi true)[m]?=some true:=by
        intro m hm;by_cases hmq:m=qi
        .grind
        grind
       by_cases hjq:j=qi
       .grind
       .rw [Ap6 (Ne.symm hjq)]at hj;exact hsub i (hL.closed j hj i hi)
    have:=s1.runs (Q:=Q) hE hF hG hN hs hrec
    grind
theorem Sim.drawn {S:St} {a:Act} {w:World} (h:Sim b N S a w):Sim b N S a { w with drawn:=w.drawn+1 }:=by
 obtain ⟨c,hi,hs,hfx⟩:=h;have hst:Step w { w with drawn:=w.drawn+1 } (λ_=>False):=⟨rfl,rfl,rfl,Ao4 _,λ_ _ _=>rfl⟩
 obtain ⟨c',_,_,h3,h4,_⟩:=hi.many (S':=S) (w':={ w with drawn:=w.drawn+1 }) (λ_=>none) [] [] [] (λk=>by simp) rfl (λk i _=>by rw [Leaf.kp_nil]) (λk o _ hk=>by grind)
  (hst.mono λ_ h=>h.elim) (λk n hk=>by cases hk) (λk n hk=>by cases hk) (λk n k' n' _ hk=>by cases hk) (λ_ _ _ k n hk=>by cases hk) (λ_ _ _ _ _ _ _ k n hk=>by cases hk) (λ_ h=>by cases h)
 have hdid:Did b S c w ⟨.no,[],[]⟩ undef { w with drawn:=w.drawn+1 }:=⟨c',h3,h4,trivial⟩
 exact hdid.sim hs none (λk hk=>by cases hk) hfx (λk hk=>by cases hk)
theorem J7:∀(rs:List Rec) (n:Nat),(DV rs n).map (·.1)=List.range' n rs.length
 | [],_=>rfl
 | r::rs,n=>by rw [DV,Apk,J7 rs (n+1),AoV,List.range'_succ]
theorem S9:∀(rs:List Rec) (n:Nat) (p:Nat×Rec),p∈DV rs n->n<=p.1/\rs[p.1 - n]?=some p.2
 | [],_,p,h=>by cases h
 | r::rs,n,p,h=>by
  rw [DV]at h;rcases AoY.1 h with rfl | h
  .simp
  .obtain ⟨h1,h2⟩:=S9 rs (n+1) p h
   grind
theorem AgJ (hE:EnvOk P E) (hF:∀p,p∈b.fx->E.fx.contains p.1=true) (hG:EnB P E b) (hN:N < b.n1) {id:Nat} {draw:Bool} {S S':St} (h:(Ms E N ops draw S).run=some S') {a:Act} {w:World} (hs:Sim b N S a w) {Q:Exit->Act->World->Prop} (hQ:∀a' w',Sim b N S' a' w'->Q .normal a' w') :
  (Code.region id ops draw).wp P Q a w:=by
 unfold Ms at h;split at h
 .rename_i hd;subst hd;simp only [run_bind,AoG]at h;obtain ⟨⟨S1,rs⟩,h1,h2⟩:=h;split at h2
  .rename_i hc;simp only [Tr.run,AoD]at h2;subst h2;simp only [AoI]at hc;obtain ⟨hc1,hc2⟩:=hc;obtain ⟨rs',k0,k1,k2⟩:=Xb ops.toList S S1 [] rs 0 h1;subst k0;have hlen:rs.length=ops.size:=by rw [<- Ao9 (f:=(·.o)),k1];simp
   have hat:∀p,p∈DV rs 0->ops[p.1]?=some p.2.o:=by
    intro p hp;obtain ⟨_,h4⟩:=S9 rs 0 p hp;have:(rs.map (·.o))[p.1]?=some p.2.o:=by grind
    grind
   refine wp_region_any hE.mix ?_;refine XL hE hF hG hN (ahead ops.toList []) (λj o ho i hi=>?_) (λj o ho e he hb=>?_) hQ ops.size (DV rs 0) _ S a _ ?_ k2 hc1 ?_ hs.drawn
   .have:=(Ur ops.toList []).2 j o (by grind) i (by grind);exact this
   .have:=Qt ops.toList 0 hc2 j o (by grind) e he hb;omega
   .rw [<- Ao9 (f:=(·.1)),J7];simp [hlen]
   .refine⟨Z,λp hp=>(ApS.1 (hat p hp)).1,λi hi=>?_,hat,?_,λj hj i hi=>?_⟩
    .rw [J7]
     grind
    .rw [J7];exact List.pairwise_lt_range'
    grind
  .simp [Tr.run]at h2
 .rename_i hd;have hd':draw=false:=by grind
  subst hd';obtain ⟨rs,k1,k2⟩:=Rx ops.toList S S' 0 h;refine wp_region_list ?_;rw [<- k1];exact Runs.list hE hF hG hN rs 0 k2 hs hQ
end
end Go.V