import Derived.Test.YtofhefmbioblbaaGreatQEfA
import Derived.Test.YtofhefmbioblbaaGreatQEfD
import Derived.MapKept
import Derived.Lib.SliceRun
import Derived.Calls
import Derived.Orders
import Derived.Tactics
set_option linter.unusedVariables false
set_option linter.unusedSimpArgs false
namespace Go.V
open Go.RowKit
structure New where
 o:Own
 h:Value
 F:List Nat
theorem Inv.many {b:Base} {S S':St} {c:Cc} {w w':World} (hi:Inv b S w c) (news:Nat->Option New) (gs rws:List Nat) (ks:List Kl)
  (how:∀k,S'.ow k=match news k with | some n=>some n.o | none=>if k∈gs then none else S.ow k) (hms:S'.ms=S.ms) (hmc:∀k i,k∉rws->S'.mc k i=(S.mc k i).kp ks)
  (hgs:∀k o,S.ow k=some o->(k∈gs\/news k≠none)->.all k∈ks\/(.deep k∈ks/\∃n xs',news k=some n/\n.h=c.hv k/\n.o=⟨o.e,o.r,xs'⟩/\xs'.length=o.xs.length))
  (hst:Step w w' λg=>(∃k,k∈gs/\S.ow k≠none/\g∈c.F k)\/∃k,k∈rws/\S.ms k≠none/\c.mb k=g)
  (hF:∀k n,news k=some n->∀g,g∈n.F->g < w'.heap.size/\((∃k,k∈gs/\S.ow k≠none/\g∈c.F k)\/w.heap.size<=g))
  (hnd:∀k n,news k=some n->n.F.Nodup) (hdis:∀k n k' n',k≠k'->news k=some n->news k'=some n'->∀g,g∈n.F->g∉n'.F)
  (hR:∀K',KSame w w' (Kok b S c) K'->(∀g,(w.heap.size<=g\/∃k,k∈gs/\S.ow k≠none/\g∈c.F k)->(∀k n,news k=some n->g∉n.F)->K' g)->∀k n,news k=some n->Rp w' K' (.sl true n.o.e n.o.r) n.o.xs [n.h] n.F)
  (hrow:∀K' c',c'.mb=c.mb/\c'.mo=c.mo->(∀l v,LeafOk S c w (Kok b S c) l v->LeafOk S' c' w' K' (l.kp ks) v)->KSame w w' (Kok b S c) K'->(∀g,(w.heap.size<=g\/∃k,k∈gs/\S.ow k≠none/\g∈c.F k)->(∀k n,news k=some n->g∉n.F)->K' g)->(∀k n,news k=some n->c'.hv k=n.h)->∀k n,k∈rws->S.ms k=some n->0 < n->
   ∃cs e fr,w'.heap[c.mb k]?=some (.cells cs e fr)/\c.mo k+n<=cs.size/\NF fr cs.size/\(∀i v,i < n->cs[c.mo k+i]?=some v->LeafOk S' c' w' K' (S'.mc k i) v)/\AjY b.w0 (c.mb k) (c.mo k) n cs e fr)
  (hmap:∀k,k∈rws->S.ms k=some 0->∃xs,S'.mc k 0=.md xs/\MapAt w' (c.mb k) xs) :
  ∃c',(c'.mb=c.mb/\c'.mo=c.mo)/\(∀k n,news k=some n->c'.hv k=n.h/\c'.F k=n.F)/\Inv b S' w' c'/\Stay S S' c c' w w' (Kok b S c) (Kok b S' c') ks/\
   ∀g,(w.heap.size<=g\/∃k,k∈gs/\S.ow k≠none/\g∈c.F k)->(∀k n,news k=some n->g∉n.F)->Kok b S' c' g:=by
 let c':Cc:=⟨c.mb,c.mo,λk=>match news k with | some n=>n.h | none=>c.hv k,λk=>match news k with | some n=>n.F | none=>c.F k⟩
 have hcF:∀k,news k=none->c'.F k=c.F k:=λk hk=>by simp [c',hk]
 have hch:∀k,news k=none->c'.hv k=c.hv k:=λk hk=>by simp [c',hk]
 have hcN:∀k n,news k=some n->c'.hv k=n.h/\c'.F k=n.F:=λk n hk=>by simp [c',hk]
 have hT:∀g,((∃k,k∈gs/\S.ow k≠none/\g∈c.F k)\/∃k,k∈rws/\S.ms k≠none/\c.mb k=g)->AZ S c g:=by
  rintro g (⟨k,_,h1,h2⟩ | ⟨k,_,h1,h2⟩)
  .exact .inr ⟨k,h1,h2⟩
  .exact .inl ⟨k,h1,h2⟩
 have hkept:∀k,news k=none->S'.ow k≠none->k∉gs/\S.ow k≠none:=by
  intro k hk h;rw [how,hk]at h;by_cases hg:k∈gs
  .simp [hg]at h
  .exact⟨hg,by simpa [hg] using h⟩
 have hown:∀g,AZ S' c' g->AZ S c g\/w.heap.size<=g:=by
  rintro g (⟨k,hk,rfl⟩ | ⟨k,hk,hg⟩)
  .exact .inl (.inl ⟨k,by rw [hms]at hk;exact hk,rfl⟩)
  .cases hn:news k with
   | some n=>
    rw [(hcN k n hn).2]at hg;rcases (hF k n hn g hg).2 with⟨k2,h1,h2,h3⟩ | h
    .exact .inl (.inr ⟨k2,h2,h3⟩)
    .exact .inr h
   | none=>
    rw [hcF k hn]at hg;exact .inl (.inr ⟨k,(hkept k hn hk).2,hg⟩)
 have kk:KSame w w' (Kok b S c) (Kok b S' c'):=Pw hst hT hown;have hsame:∀k,k∉gs->S.ow k≠none->Dg w w' (c.F k):=λk hg ho g hgF=>hst.same g (hi.fr g (.inr ⟨k,ho,hgF⟩)).1 (by
  rintro (⟨k2,h1,h2,h3⟩ | ⟨k2,h1,h2,h3⟩)
  .have hne:k≠k2:=by rintro rfl;exact hg h1
   exact hi.oo k k2 hne ho h2 g hgF h3
  .subst h3;exact hi.mo k2 k h2 ho hgF)
 have stay:Stay S S' c c' w w' (Kok b S c) (Kok b S' c') ks:=by
  refine Stay.of hi ?_ ?_ kk
  .intro k o ho;have hcase:(k∈gs\/news k≠none)->_:=hgs k o ho;cases hn:news k with
   | some n=>
    rcases hcase (.inr (by rw [hn];simp))with h | ⟨h1,n',xs',h2,h3,h4,h5⟩
    .exact .inl h
    .refine .inr (.inr ⟨h1,?_,xs',?_,h5⟩)
     .rw [(hcN k n' h2).1,h3]
     .rw [how,h2];simp [h4]
   | none=>
    by_cases hg:k∈gs
    .rcases hcase (.inl hg)with h | ⟨_,n',_,h2,_⟩
     .exact .inl h
     .rw [hn]at h2;cases h2
    .exact .inr (.inl ⟨by rw [how,hn];simp [hg,ho],hch k hn,hsame k hg (by rw [ho];simp)⟩)
  .intro k n hn;exact .inr ⟨by rw [hms];exact hn,rfl,rfl⟩
 have hfree:∀g,(w.heap.size<=g\/∃k,k∈gs/\S.ow k≠none/\g∈c.F k)->(∀k n,news k=some n->g∉n.F)->Kok b S' c' g:=by
  rintro g (hg | ⟨k,hk,hko,hkg⟩) hgF
  .refine⟨.inr (.inl (Amw hi.size hg)),?_⟩;rintro (⟨k2,h1,h9⟩ | ⟨k2,h1,h2⟩)
   .rw [hms]at h1;have:=(hi.fr (c.mb k2) (.inl ⟨k2,h1,rfl⟩)).1;have h8:c'.mb k2=c.mb k2:=rfl;omega
   .cases hn:news k2 with
    | some n=>rw [(hcN k2 n hn).2]at h2;exact hgF k2 n hn h2
    | none=>
     rw [hcF k2 hn]at h2;have:=(hi.fr g (.inr ⟨k2,(hkept k2 hn h1).2,h2⟩)).1;omega
  .refine⟨.inr (hi.fr g (.inr ⟨k,hko,hkg⟩)).2,?_⟩;rintro (⟨k2,h1,h9⟩ | ⟨k2,h1,h2⟩)
   .rw [hms]at h1;exact hi.mo k2 k h1 hko (by rw [show c.mb k2=g from h9];exact hkg)
   .cases hn:news k2 with
    | some n=>rw [(hcN k2 n hn).2]at h2;exact hgF k2 n hn h2
    | none=>
     rw [hcF k2 hn]at h2;have h5:=hkept k2 hn h1;exact hi.oo k k2 (by rintro rfl;exact h5.1 hk) hko h5.2 g hkg h2
 refine⟨c',⟨rfl,rfl⟩,hcN,?_,stay,hfree⟩;refine⟨?_,?_,?_,?_,?_,?_,?_,hi.fix' hst hT,hst.os.trans hi.os,hst.tape.trans hi.tape,hst.output.trans hi.output,Amw hi.size hst.size,hi.an,λk hk0=>?_⟩
 rotate_left 7
 .rw [hms]at hk0;by_cases hk:k∈rws
  .exact hmap k hk hk0
  .exact JQ (ks:=ks) hi hk0 (hmc k 0 hk) rfl (hst.same _ (hi.fr _ (.inl ⟨k,by rw [hk0];simp,rfl⟩)).1 (by
    rintro (⟨k2,_,h5,h6⟩ | ⟨k2,h4,h5,h6⟩)
    .exact hi.mo k k2 (by rw [hk0];simp) h5 h6
    .have hne:k≠k2:=by rintro rfl;exact hk h4
     exact hi.mm k k2 hne (by rw [hk0];simp) h5 h6.symm))
 .intro k n hn h0n;rw [hms]at hn;by_cases hk:k∈rws
  .exact hrow _ c' ⟨rfl,rfl⟩ (λ_ _ h=>stay.leaf h) kk hfree (λk n h=>(hcN k n h).1) k n hk hn h0n
  .obtain ⟨cs,e,fr,h1,h2,h3,h4,h5⟩:=hi.ms k n hn h0n;refine⟨cs,e,fr,?_,h2,h3,λi u hlt hu=>by rw [hmc k i hk];exact stay.leaf (h4 i u hlt hu),h5⟩;show w'.heap[c.mb k]?=_;rw [hst.same _ (BS h1) (by
    rintro (⟨k2,_,h5,h6⟩ | ⟨k2,h4,h5,h6⟩)
    .exact hi.mo k k2 (by rw [hn];simp) h5 h6
    .have hne:k≠k2:=by rintro rfl;exact hk h4
     exact hi.mm k k2 hne (by rw [hn];simp) h5 h6.symm)]
   exact h1
 .intro k o ho;cases hn:news k with
  | some n=>
   rw [how,hn]at ho;injection ho with ho
   subst ho;rw [(hcN k n hn).1,(hcN k n hn).2];exact hR _ kk hfree k n hn
  | none=>
   have h1:=hkept k hn (by rw [ho];simp);rw [how,hn]at ho;simp only [h1.1,Amv]at ho;rw [hch k hn,hcF k hn];exact Rp.frame kk _ _ (hi.ow k o ho) (hsame k h1.1 h1.2)
 .intro k hk;cases hn:news k with
  | some n=>rw [(hcN k n hn).2];exact hnd k n hn
  | none=>rw [hcF k hn];exact hi.nd k (hkept k hn hk).2
 .intro k1 k2 hne h1 h2 g hg;cases hn1:news k1 with
  | some n1=>
   rw [(hcN k1 n1 hn1).2]at hg;cases hn2:news k2 with
   | some n2=>rw [(hcN k2 n2 hn2).2];exact hdis k1 n1 k2 n2 hne hn1 hn2 g hg
   | none=>
    have h4:=hkept k2 hn2 h2;rw [hcF k2 hn2];rcases (hF k1 n1 hn1 g hg).2 with⟨k3,h5,h6,h7⟩ | h5
    .have hne3:k3≠k2:=by rintro rfl;exact h4.1 h5
     exact hi.oo k3 k2 hne3 h6 h4.2 g h7
    .intro hx;have:=(hi.fr g (.inr ⟨k2,h4.2,hx⟩)).1;omega
  | none=>
   have h3:=hkept k1 hn1 h1;rw [hcF k1 hn1]at hg;cases hn2:news k2 with
   | some n2=>
    rw [(hcN k2 n2 hn2).2];intro hx;rcases (hF k2 n2 hn2 g hx).2 with⟨k3,h5,h6,h7⟩ | h5
    .have hne3:k1≠k3:=by rintro rfl;exact h3.1 h5
     exact hi.oo k1 k3 hne3 h3.2 h6 g hg h7
    .have:=(hi.fr g (.inr ⟨k1,h3.2,hg⟩)).1;omega
   | none=>
    rw [hcF k2 hn2];exact hi.oo k1 k2 hne h3.2 (hkept k2 hn2 h2).2 g hg
 .intro k1 k2 hne h1 h2;rw [hms]at h1 h2;exact hi.mm k1 k2 hne h1 h2
 .intro k1 k2 h1 h2;rw [hms]at h1;cases hn2:news k2 with
  | some n2=>
   rw [(hcN k2 n2 hn2).2];intro hx;rcases (hF k2 n2 hn2 _ hx).2 with⟨k3,_,h6,h7⟩ | h5
   .exact hi.mo k1 k3 h1 h6 h7
   .have:=(hi.fr (c.mb k1) (.inl ⟨k1,h1,rfl⟩)).1;have h9:c'.mb k1=c.mb k1:=rfl;omega
  | none=>rw [hcF k2 hn2];exact hi.mo k1 k2 h1 (hkept k2 hn2 h2).2
 .intro g hg;refine⟨?_,?_⟩
  .rcases hg with⟨k,hk,rfl⟩ | ⟨k,hk,hg⟩
   .rw [hms]at hk;exact AmR (hi.fr (c.mb k) (.inl ⟨k,hk,rfl⟩)).1 hst.size
   .cases hn:news k with
    | some n=>rw [(hcN k n hn).2]at hg;exact(hF k n hn g hg).1
    | none=>
     rw [hcF k hn]at hg;exact AmR (hi.fr g (.inr ⟨k,(hkept k hn hk).2,hg⟩)).1 hst.size
  .rcases hown g hg with h | h
   .exact(hi.fr g h).2
   .exact .inl (Amw hi.size h)
theorem Aez {A A' B B':Type} (h1:A=A') (h2:B=B') (h:(A×B)=(A'×B')) (x:A×B):cast h x=(cast h1 x.1,cast h2 x.2):=by subst h1 h2;rfl
theorem AdW {A A':Type} (h1:A=A') (h:List A=List A') (xs:List A):cast h xs=xs.map (cast h1):=by
 subst h1;have:(cast rfl:A->A)=id:=rfl;rw [this,List.map_id];rfl
theorem Rp.frz {w:World} {K K':Nat->Prop} (hK:∀g,g < w.heap.size->K g->K' g):∀(t:Ty) (x:t.D) {vs F},Rp w K t x vs F->(∀g,g∈F->K' g)->Rp w K' t.frz (I2 t x) vs []
 | .int _,_,_,_,h,_=>by simp only [Rp]at h;simp only [Ty.frz,Rp];exact⟨h.1,trivial⟩
 | .bool,_,_,_,h,_=>by simp only [Rp]at h;simp only [Ty.frz,Rp];exact⟨h.1,trivial⟩
 | .lp,_,_,_,h,_=>by simp only [Rp]at h
 | .mh,_,_,_,h,_=>by simp only [Rp]at h;simp only [Ty.frz,Rp];exact⟨h.1,trivial,h.2.2⟩
 | .mp,_,_,_,h,_=>by simp only [Rp]at h
 | .er,_,_,_,h,_=>by simp only [Rp]at h;obtain ⟨v,h1,_,h2⟩:=h;simp only [Ty.frz,Rp];exact⟨v,h1,trivial,h2⟩
 | .str,_,_,_,h,_=>by simp only [Rp]at h;simp only [Ty.frz,Rp];exact⟨h.1,trivial⟩
 | .unit,_,_,_,h,_=>by simp only [Rp]at h;simp only [Ty.frz,Rp];exact⟨h.1,trivial⟩
 | .pair a b,x,_,_,h,hF=>by
  simp only [Rp]at h;obtain ⟨v1,v2,F1,F2,rfl,rfl,h1,h2⟩:=h;have e:I2 (.pair a b) x=(I2 a x.1,I2 b x.2):=Aez (Ty.frz_D a).symm (Ty.frz_D b).symm _ x;rw [e];simp only [Ty.frz,Rp];exact⟨v1,v2,[],[],rfl,rfl,Rp.frz hK a _ h1 λg hg=>hF g (by simp [hg]),Rp.frz hK b _ h2 λg hg=>hF g (by simp [hg])⟩
 | .sl o e r,xs,_,_,h,hF=>by
  have e0:I2 (.sl o e r) xs=(List.map (I2 r) xs:List r.frz.D):=AdW (Ty.frz_D r).symm _ xs;have key:∀(ys:List r.D) (us:List Value) (G:List Nat),(∀g,g∈G->K' g)->RpL (Rp w K r) ys us G->RpL (Rp w K' r.frz) (ys.map (I2 r)) us []:=by
   intro ys
   induction ys with
   | nil=>intro us G _ h;exact⟨h.1,rfl⟩
   | cons y ys ih=>
    rintro us G hG ⟨v1,v2,F1,F2,rfl,rfl,h1,h2⟩;exact⟨v1,v2,[],[],rfl,rfl,Rp.frz hK r y h1 λg hg=>hG g (by simp [hg]),ih _ _ (λg hg=>hG g (by simp [hg])) h2⟩
  rw [e0];cases o with
  | true=>
   simp only [Rp]at h;show Rp w K' (.sl false e r.frz) _ _ _;rw [Rp];rcases h with⟨rfl,rfl,rfl⟩ | ⟨g,off,c,cs,fr,F',rfl,rfl,hh,hn,hc,hl,hr⟩
   .exact⟨rfl,none,0,[],rfl,Amu _,⟨rfl,rfl⟩,.inl rfl⟩
   .refine⟨rfl,some ⟨g,off,none⟩,c,_,by rw [Amt],by rw [Amt];exact hl,key _ _ _ (λg hg=>hF g (by simp [hg])) hr,.inr ⟨_,rfl,hF g Z,BS hh,λj hj=>?_⟩⟩;rw [Al4,Amm,AnQ (xs:=cs)]at hj;rw [Bb,Bc hh,Ami O,AmC,Amh]
  | false=>
   simp only [Rp]at h;show Rp w K' (.sl false e r.frz) _ _ _;rw [Rp];obtain ⟨rfl,A,c,ws,rfl,hle,hr,hx⟩:=h;refine⟨rfl,A,c,ws,by rw [Amt],by rw [Amt];exact hle,key _ _ _ (λg hg=>(by cases hg)) hr,?_⟩;rcases hx with rfl | ⟨ad,e1,h1,h2,h3⟩
   .exact .inl rfl
   .exact .inr ⟨ad,e1,hK _ h2 h1,h2,h3⟩
 | .pt t,none,_,_,h,_=>by
  simp only [Rp]at h;show Rp w K' (.pt t) none _ _;simp only [Rp];exact⟨trivial,h.2⟩
 | .pt t,some x,_,_,h,_=>by
  simp only [Rp]at h;show Rp w K' (.pt t) (some x) _ _;simp only [Rp];obtain ⟨_,ad,ws,e,h0,h1,h2,h3⟩:=h;exact⟨trivial,ad,ws,e,Rp.frame ⟨Amu _,λg hg hlt=>⟨rfl,hK g hlt hg⟩⟩ t x h0 (λg hg=>by cases hg),hK _ h2 h1,h2,h3⟩
theorem Ag1 (l:Leaf) (k:Nat) (ks:List Kl):(l.kp (.all k::ks)).kp [.all k]=l.kp (.all k::ks):=by
 cases l with
 | vw k' st win=>
  by_cases h:((Kl.all k::ks).all λx=>x.okV k' st)=true
  .have h1:(Kl.all k).okV k' st=true:=by simp only [Anc,Al2]at h;exact h.1
   have e1:Leaf.kp (.all k::ks) (.vw k' st win)=.vw k' st win:=Al1 h;have e2:Leaf.kp [.all k] (.vw k' st win)=.vw k' st win:=Al1 (by simp [h1]);rw [e1,e2]
  .have e1:Leaf.kp (.all k::ks) (.vw k' st win)=.no:=AlZ h;rw [e1];rfl
 | p k' off=>
  by_cases h:((Kl.all k::ks).all λx=>x.okM k')=true
  .have e1:Leaf.kp (.all k::ks) (.p k' off)=.p k' off:=Al1 h;have e2:Leaf.kp [.all k] (.p k' off)=.p k' off:=by simp [Leaf.kp,Kl.okM]
   rw [e1,e2]
  .have e1:Leaf.kp (.all k::ks) (.p k' off)=.no:=AlZ h;rw [e1];rfl
 | mh k'=>
  by_cases h:((Kl.all k::ks).all λx=>x.okM k')=true
  .have e1:Leaf.kp (.all k::ks) (.mh k')=.mh k':=Al1 h;have e2:Leaf.kp [.all k] (.mh k')=.mh k':=by simp [Leaf.kp,Kl.okM]
   rw [e1,e2]
  .have e1:Leaf.kp (.all k::ks) (.mh k')=.no:=AlZ h;rw [e1];rfl
 | _=>rfl
theorem Ah4 {b:Base} {S:St} {c:Cc} {w w':World} {key:Nat} {o:Own} {gs:List Nat} {v:Value} (hd:Did b S c w (BP key o gs) v w') :
  Did b S c w ⟨.s (.one (.v (Ty.frz (.sl true o.e o.r)) (I2 (.sl true o.e o.r) o.xs))),(BP key o gs).ks,(BP key o gs).us++[.ow key none]⟩ v w':=by
 obtain ⟨c1,hi1,st1,hv1⟩:=hd;have hgu:=OR gs (S.kp (.all key::Cm gs));have hS1:(S.kp (BP key o gs).ks).ups (BP key o gs).us=((S.kp (.all key::Cm gs)).ups (Ck gs)).up (.ow key (some o)):=Ew _ _ _;have ho:((S.kp (BP key o gs).ks).ups (BP key o gs).us).ow key=some o:=by rw [hS1];show(if key=key then _ else _)=_;rw [Al1 rfl]
 have hmc:∀k i,((S.kp (BP key o gs).ks).ups (BP key o gs).us).mc k i=(S.mc k i).kp (.all key::Cm gs):=by
  intro k i;rw [hS1];show((S.kp (.all key::Cm gs)).ups (Ck gs)).mc k i=_;rw [hgu.2.1];exact Dw S (.all key::Cm gs) k i
 generalize hS:(S.kp (BP key o gs).ks).ups (BP key o gs).us=S1 at hi1 st1 hv1 ho hmc;have hS2:(S.kp (BP key o gs).ks).ups ((BP key o gs).us++[.ow key none])=S1.up (.ow key none):=by rw [Ew,hS];rfl
 obtain ⟨o0,e,r,ys,hh,q1,q2,q3,q4⟩:=hv1;simp only [hdr,AlV]at q3;obtain rfl:v=hh:=q4;subst q3;obtain ⟨c2,_,_,e4,e5,hfree⟩:=hi1.many (S':=S1.up (.ow key none)) (w':=w') (λ_=>none) [key] [] [.all key]
  (by intro k';show(if k'=key then _ else S1.ow k')=_;simp)
  rfl (by
   intro k' i _;show S1.mc k' i=_;rw [hmc,Ag1]) (λk' o _ hk'=>.inl (hk'.elim (λh=>by rw [Al6.1 h];simp) λh=>absurd rfl h))
  (Step.refl _ _) (λ_ _ h=>by cases h) (λ_ _ h=>by cases h) (λ_ _ _ _ _ h=>by cases h) (λ_ _ _ _ _ h=>by cases h) (λ_ _ _ _ _ _ _ _ _ h=>by cases h) (λ_ h=>by cases h)
 unfold Did;dsimp only;rw [hS2];refine⟨c2,e4,⟨λk st win v hk hl=>?_,λk st v hk hl=>?_,λk off v hk hl=>?_,λk v hk hl=>?_,?_⟩,?_⟩
 .refine e5.vw k st win v ?_ (st1.vw k st win v hk hl);simp only [BP,Anc,Al2]at hk;simp [hk.1]
 .refine e5.el k st v ?_ (st1.el k st v hk hl);simp only [BP,Anc,Al2]at hk;simp [hk.1]
 .refine e5.pl k off v ?_ (st1.pl k off v hk hl);simp only [BP,Anc,Al2]at hk;simp [hk.1]
 .refine e5.mh k v ?_ (st1.mh k v hk hl);simp only [BP,Anc,Al2]at hk;simp [hk.1]
 .exact⟨Amw st1.kk.1 e5.kk.1,λg hg hlt=>by
   obtain ⟨h1,h2⟩:=st1.kk.2 g hg hlt;obtain ⟨h3,h4⟩:=e5.kk.2 g h2 (AmR hlt st1.kk.1);exact⟨h3.trans h1,h4⟩⟩
 .exact Rp.frz (λg hlt hg=>(e5.kk.2 g hg hlt).2) _ _ (hi1.ow key o ho) λg hg=>hfree g (.inr ⟨key,Z,by rw [ho];simp,hg⟩) (λ_ _ h=>by cases h)
theorem Afm {ti ti2:TI} {d:Nat} {x y:Leaf} {S:St} {out:Out} (h:(Y8 ti ti2 d x y).ev S=some out):∃o gs,out=BP (kd d 0) o gs:=by
 have key:∀{out:Out},(LF ti ti2 d x y).ev S=some out->∃o gs,out=BP (kd d 0) o gs:=by
  intro out h;unfold LF at h;split at h
  .simp only [Af,AlY]at h;obtain ⟨r,_,h⟩:=h;split at h
   .simp only [Af,AlY]at h;obtain ⟨p1,_,p2,_,h⟩:=h
    replace h:=BM h
    obtain ⟨_,h⟩:=h;split at h
    .simp only [Tr.ev,AlV]at h;exact⟨_,_,h.symm⟩
    .simp [Tr.ev]at h
   .simp [Tr.ev]at h
  .simp [Tr.ev]at h
 unfold Y8 at h;split at h
 .split at h
  .unfold Acz at h;split at h
   .simp only [Tr.ev]at h;split at h
    .split at h
     .replace h:=BM h
      obtain ⟨_,h⟩:=h
      replace h:=BM h
      obtain ⟨_,h⟩:=h
      replace h:=BM h
      obtain ⟨_,h⟩:=h
      replace h:=BM h
      obtain ⟨_,h⟩:=h;simp only [Tr.ev,AlV]at h;exact⟨_,_,h.symm⟩
     .simp [Tr.ev]at h
    .simp [Tr.ev]at h
   .simp [Tr.ev]at h
  .exact key h
 .exact key h
theorem AiN {P:Program} {ti:TypeId->TI} {b:Base} {S:St} {c:Cc} {w:World} (hT:TabOk P ti) (hi:Inv b S w c) {t t2 ty:TypeId} {hn:List (Nat×List Ty)} {d:Nat} {x y:Leaf} {u v:Value} {out:Out} (hx:LeafOk S c w (Kok b S c) x u) (hy:LeafOk S c w (Kok b S c) y v)
  (h:(AfY hn (ti t) (ti t2) d x y).ev S=some out):∃r w',(Builtin.append_ #[t,t2] ty #[u,v]).run P w=.ok r w'/\Did b S c w out r w':=by
 unfold AfY at h;simp only [Af,AlY]at h;obtain ⟨out0,h0,h⟩:=h;obtain ⟨r,w',h1,h2⟩:=Ajw (ty:=ty) hT hi hx hy h0;obtain ⟨o,gs,rfl⟩:=Afm h0;split at h
 .unfold AeN at h;have e:(BP (kd d 0) o gs).us.getLast?=some (.ow (kd d 0) (some o)):=by
   show(Ck gs++[U.ow (kd d 0) (some o)]).getLast?=_;simp
  rw [e]at h;simp only [Tr.ev,AlV]at h;subst h;exact⟨r,w',h1,Ah4 h2⟩
 .simp only [Tr.ev,AlV]at h;subst h;exact⟨r,w',h1,h2⟩
end Go.V
namespace Go.V
open Go.RowKit
def KW:List MapEntry->List (Int×Int)->Nat->Prop
 | [],[],_=>True
 | e::es,p::xs,n=>e = { key:=.int .i64 p.1,val:=.int .i64 p.2,born:=n }/\KW es xs (n+1)
 | _,_,_=>False
theorem Yz:∀{es:List MapEntry} {xs:List (Int×Int)} {n:Nat},KW es xs n->es.length=xs.length
 | [],[],_,_=>rfl
 | _::_,_::_,_,h=>by simp [Yz h.2]
 | [],_::_,_,h=>h.elim
 | _::_,[],_,h=>h.elim
theorem Abn:∀(es:List MapEntry) (xs:List (Int×Int)) (n:Nat),es.length=xs.length->(∀i p,xs[i]?=some p->es[i]?=some ({ key:=.int .i64 p.1,val:=.int .i64 p.2,born:=n+i }:MapEntry))->KW es xs n
 | [],[],_,_,_=>trivial
 | e::es,p::xs,n,hl,h=>by
  refine⟨?_,Abn es xs (n+1) (by simpa using hl) λi q hq=>?_⟩
  .have:=h 0 p rfl;simpa using this
  .have:=h (i+1) q (by simpa using hq);rw [(O:n+1+i=n+(i+1))];simpa using this
 | [],_::_,_,hl,_=>by simp at hl
 | _::_,[],_,hl,_=>by simp at hl
theorem Acn:∀{es:List MapEntry} {xs:List (Int×Int)} {n:Nat},KW es xs n->∀i p,xs[i]?=some p->es[i]?=some ({ key:=.int .i64 p.1,val:=.int .i64 p.2,born:=n+i }:MapEntry)
 | [],[],_,_,i,p,hp=>by simp at hp
 | e::es,q::xs,n,h,0,p,hp=>by
  simp only [Anb,AlV]at hp;subst hp;rw [h.1];rfl
 | e::es,q::xs,n,h,i+1,p,hp=>by
  have:=Acn h.2 i p (by simpa using hp);rw [(O:n+(i+1)=n+1+i)];simpa using this
 | [],_::_,_,h,_,_,_=>h.elim
 | _::_,[],_,h,_,_,_=>h.elim
theorem MapAt.en {w:World} {g:Nat} {xs:List (Int×Int)} (h:MapAt w g xs):∃es:Array MapEntry,w.heap[g]?=some (.map es es.size)/\KW es.toList xs 0:=by
 obtain ⟨es,h1,h2,h3⟩:=h;refine⟨es,h1,Abn _ _ _ (by simpa using h2) λi p hp=>?_⟩;rw [Amk,Amh];exact h3 i p hp
theorem MapAt.of {w:World} {g:Nat} {xs:List (Int×Int)} {es:Array MapEntry} {n:Nat} (h1:w.heap[g]?=some (.map es n)) (h2:KW es.toList xs 0) (hn:n=es.size):MapAt w g xs:=by
 subst hn;refine⟨es,h1,by simpa using Yz h2,λi p hp=>?_⟩;have:=Acn h2 i p hp
 rwa [Amk,Amh]at this
theorem Vm (k:Int) (y:Int):∀{es:List MapEntry} {xs:List (Int×Int)} {n:Nat} (m:Nat),KW es xs n->
  (∃j v,Instr.findNow (.int .i64) (.int .i64 k) es m=some (some (m+j,.int .i64 v))/\CM xs k=v/\es[j]?=some ({ key:=.int .i64 k,val:=.int .i64 v,born:=n+j }:MapEntry)/\
   KW (es.modify j λe=>{ e with key:=.int .i64 k,val:=.int .i64 y }) (DA xs k y) n)\/
  (Instr.findNow (.int .i64) (.int .i64 k) es m=some none/\CM xs k=0/\KW (es++[({ key:=.int .i64 k,val:=.int .i64 y,born:=n+es.length }:MapEntry)]) (DA xs k y) n)
 | [],[],n,m,_=>.inr ⟨rfl,rfl,⟨rfl,trivial⟩⟩
 | e::es,p::xs,n,m,h=>by
  obtain ⟨rfl,h2⟩:=h;by_cases hk:p.1=k
  .subst hk;refine .inl ⟨0,p.2,?_,?_,rfl,?_⟩
   .simp [Instr.findNow,Instr.sameNow]
   .simp [CM]
   .simp only [DA,Amd];exact⟨rfl,h2⟩
  .have hs:Instr.findNow (.int .i64) (.int .i64 k) ({ key:=.int .i64 p.1,val:=.int .i64 p.2,born:=n }::es) m=Instr.findNow (.int .i64) (.int .i64 k) es (m+1):=by
    have:(k == p.1)=false:=by simpa using λh=>hk h.symm
    simp [Instr.findNow,Instr.sameNow,this]
   have hg:CM (p::xs) k=CM xs k:=by simp [CM,hk]
   have hp:DA (p::xs) k y=p::DA xs k y:=by simp [DA,hk]
   rw [hs,hg,hp];rcases Vm k y (m+1) h2 with⟨j,v,h3,h4,h5,h6⟩ | ⟨h3,h4,h5⟩
   .refine .inl ⟨j+1,v,by rw [h3,(O:m+1+j=m+(j+1))],h4,?_,⟨rfl,h6⟩⟩;rw [Am3,h5,(O:n+1+j=n+(j+1))]
   .refine .inr ⟨h3,h4,⟨rfl,?_⟩⟩;rw [Al7,(O:n+(es.length+1)=n+1+es.length)];exact h5
 | [],_::_,_,_,h=>h.elim
 | _::_,[],_,_,h=>h.elim
section
variable {P:Program} {ti:TypeId->TI} {b:Base} {S:St} {c:Cc} {w:World}
theorem AbM {x:SV} {v:Value} {tt:TI} {f:Nat->List (Int×Int)->Tr Out} {out:Out} (hi:Inv b S w c) (hx:AQ S c w (Kok b S c) x v) (h:(AdA tt x f).ev S=some out) :
  tt=.map/\∃k xs,S.ms k=some 0/\v=.map (some (c.mb k))/\MapAt w (c.mb k) xs/\(f k xs).ev S=some out:=by
 unfold AdA at h;split at h
 .rename_i k;obtain ⟨h1,h2⟩:=(AW hx:LeafOk S c w (Kok b S c) (.mh k) v)
  simp only [Tr.ev,h1]at h;obtain ⟨xs,h3,h4⟩:=hi.mp k h1;rw [Al1 trivial]at h;simp only [Tr.ev,h3]at h;exact⟨rfl,k,xs,h1,h2,h4,h⟩
 .simp [Tr.ev]at h
theorem Adq (hi:Inv b S w c) (t:TypeId) (d:Nat) (hdn:d < b.n1) :
  ∃v w',(Instr.makeMap t none).run P w=.ok v w'/\Did b S c w ⟨.s (.one (.mh d)),[.m d],[.ms d [.md []]]⟩ v w':=by
 obtain ⟨c',h1,h2,h3⟩:=hi.newMap d hdn rfl;refine⟨.map (some w.heap.size),{ w with heap:=w.heap.push (.map #[] 0) },by simp [Instr.makeMap],c',h2,h3,?_,?_⟩
 .simp [St.ups,St.up,KX]
 .rw [h1.1]
theorem AdY (hT:TabOk P ti) (_hi:Inv b S w c) {t:TypeId} (ht:ti t=.map) {k:Nat} {xs:List (Int×Int)} (hm:MapAt w (c.mb k) xs) (i:Int) :
  (Instr.lookup t (.map (some (c.mb k))) (.int .i64 i) false).run P w=.ok (.int .i64 (CM xs i)) w:=by
 obtain ⟨⟨kt,et,h1,h2,z,h3,h4⟩,_⟩:=hT.map ht;obtain ⟨es,h5,h6⟩:=hm.en;have hkey:MapKept.IsKey (.int .i64) (.int .i64 i):=rfl;unfold Instr.lookup;simp only [Sem.run_bind,run_underlying h1,Result.andThen_ok,MapKept.run_getObj_map h5,Sem.run_pure];rw [show(10000:Nat)=9999+1 from rfl,MapKept.run_checkKey h2 hkey];simp only [Result.andThen_ok];rcases Vm i 0 0 h6 with⟨j,v,h7,h8,_⟩ | ⟨h7,h8,_⟩
 .rw [MapKept.run_findKey h2 h7,h8];simp
 .rw [MapKept.run_findKey h2 h7,h8];simp [SQ h3 h4]
theorem Y9 (hT:TabOk P ti) (hi:Inv b S w c) {t:TypeId} (ht:ti t=.map) {k:Nat} {xs:List (Int×Int)} (hk:S.ms k=some 0) (hm:MapAt w (c.mb k) xs) (i y:Int) :
  ∃w',(Instr.mapUpdate t (.map (some (c.mb k))) (.int .i64 i) (.int .i64 y)).run P w=.ok () w'/\Did b S c w ⟨.no,[],[.mc k 0 (.md (DA xs i y))]⟩ undef w':=by
 obtain ⟨⟨kt,et,h1,h2,_⟩,_⟩:=hT.map ht;obtain ⟨es,h5,h6⟩:=hm.en;have hkey:MapKept.IsKey (.int .i64) (.int .i64 i):=rfl;have hlt:=BS h5;have hgo:∀es':Array MapEntry,KW es'.toList (DA xs i y) 0->Did b S c w ⟨.no,[],[.mc k 0 (.md (DA xs i y))]⟩ undef { w with heap:=w.heap.setIfInBounds (c.mb k) (.map es' es'.size) }:=by
  intro es' hen;obtain ⟨h7,h8⟩:=MapKept.heap_set (o':=.map es' es'.size) h5;obtain ⟨k1,k2⟩:=hi.setMap (S':=S.up (.mc k 0 (.md (DA xs i y)))) (w':={ w with heap:=w.heap.setIfInBounds (c.mb k) (.map es' es'.size) }) k (DA xs i y) hk rfl
   ⟨rfl,rfl,rfl,Z,λg hg hn=>h8 g hn⟩ (MapAt.of h7 hen rfl)
  exact⟨c,k1,k2,trivial⟩
 unfold Instr.mapUpdate;simp only [Sem.run_bind,run_underlying h1,Result.andThen_ok,MapKept.run_getObj_map h5];rw [show(10000:Nat)=9999+1 from rfl,MapKept.run_checkKey h2 hkey];simp only [Result.andThen_ok];rcases Vm i y 0 h6 with⟨j,v,h7,_,h9,h10⟩ | ⟨h7,_,h10⟩
 .rw [MapKept.run_findKey h2 h7];simp only [Result.andThen_ok,Amk];rw [Amh]at h9;rw [h9];simp only [AmS,AmG,Sem.run_bind,MapKept.run_keyThatStays hkey,Result.andThen_ok,MapKept.run_setObj_map _ h5];have hsz:es.size=(es.modify j λe=>{ e with key:=.int .i64 i,val:=.int .i64 y }).size:=by simp
  refine⟨_,rfl,?_⟩;have:=hgo (es.modify j λe=>{ e with key:=.int .i64 i,val:=.int .i64 y }) (by simpa using h10);rw [<- hsz]at this;exact this
 .rw [MapKept.run_findKey h2 h7];simp only [Result.andThen_ok,MapKept.run_setObj_map _ h5];refine⟨_,rfl,?_⟩;have:=hgo (es.push { key:=.int .i64 i,val:=.int .i64 y,born:=es.size }) (by
   have e:(es.push ({ key:=.int .i64 i,val:=.int .i64 y,born:=es.size }:MapEntry)).toList=es.toList++[{ key:=.int .i64 i,val:=.int .i64 y,born:=0+es.toList.length }]:=by simp
   rw [e];exact h10)
  rw [Array.size_push]at this;exact this
end
end Go.V
namespace Go.V
open Go.RowKit
def Pt (P:Program) (o:Oper) (a:Act) (w:World) (post:Value->World->Prop):Prop:=
 ∀(next:Act->World->Prop) (Q:Exit->Act->World->Prop),(∀v w',post v w'->next (a.put o.dst v) w')->o.wp P a w next Q
section
variable {P:Program} {E:Env} {b:Base} {S:St} {c:Cc} {w:World} {a:Act} {o:Oper} {post:Value->World->Prop}
theorem AD {s:Sem Value} (he:execOp a.eval o=(do pure (.value (<- s)))) (hr:∃v w',s.run P w=.ok v w'/\post v w'):Pt P o a w post:=by
 intro next Q h;obtain ⟨v,w',h1,h2⟩:=hr;unfold Oper.wp;rw [he];simp only [Sem.run_bind,h1,Result.andThen_ok,Sem.run_pure];exact h v w' h2
theorem Qd {s:Sem Unit} (he:execOp a.eval o=(do s;pure .skip)) (hr:∃w',s.run P w=.ok () w'/\post undef w'):Pt P o a w post:=by
 intro next Q h;obtain ⟨w',h1,h2⟩:=hr;unfold Oper.wp;rw [he];simp only [Sem.run_bind,h1,Result.andThen_ok,Sem.run_pure];exact h undef w' h2
theorem JR {v:Value} (he:execOp a.eval o=pure (.value v)) (hr:post v w):Pt P o a w post:=by
 intro next Q h;unfold Oper.wp;rw [he,Sem.run_pure];exact h v w hr
theorem Aeo (hr:∃v w',(execOp a.eval o).run P w=.ok (.value v) w'/\post v w'):Pt P o a w post:=by
 intro next Q h;obtain ⟨v,w',h1,h2⟩:=hr;unfold Oper.wp;rw [h1];exact h v w' h2
theorem AgS {K:Nat->Prop} {op:BinOp} {x y l:Leaf} {u:Value} (hx:LeafOk S c w K x u) (h:(XZ op x y).ev S=some l):u.oneCell'=true/\u≠.nilIface:=by
 unfold XZ at h;split at h
 .obtain rfl:=B4 hx;exact⟨rfl,Z⟩
 .obtain rfl:=EA hx;exact⟨rfl,Z⟩
 .obtain rfl:=D7 hx;exact⟨rfl,Z⟩
 .simp [Tr.ev]at h
theorem P8 {N:Nat} {K:Nat->Prop} (hs:Slots N S c w K a):∀(ps:List (Nat×Operand)),All2 (λ(p:Nat×SV) u=>AQ S c w K p.2 u) (ps.map λp=>(p.1,Cv S p.2)) (ps.map λp=>a.eval p.2)
 | []=>.nil
 | p::ps=>.cons (AG hs p.2) (P8 hs ps)
theorem P0 {S:St} {a:Act}:∀(ps:List (Nat×Operand)),ps.map (λ(p:Nat×Operand)=>(p.1,a.eval p.2))=((ps.map λp=>(p.1,Cv S p.2)).map (·.1)).zip (ps.map λp=>a.eval p.2)
 | []=>rfl
 | p::ps=>by simp [P0 (S:=S) (a:=a) ps]
theorem Wu {a:Act} (ps:Array (Nat×Operand)):(ps.map λ(i,x)=>(i,a.eval x))=(ps.toList.map λp=>(p.1,a.eval p.2)).toArray:=by
 apply AnS;simp
theorem GI {N:Nat} {K:Nat->Prop} (hs:Slots N S c w K a):∀(ps:List Operand),All2 (AQ S c w K) (ps.map (Cv S)) (ps.map a.eval)
 | []=>.nil
 | p::ps=>.cons (AG hs p) (GI hs ps)
theorem He {N:Nat} {f:Builtin} {args:Array Operand} {ts:Array TypeId} {dst:Option Tmp} {ty:TypeId} {pos:String} {aft:Array Edge} {gd:Option (Nat×Bool)} {s:Sem Value} (_:Slots N S c w (Kok b S c) a)
  (he:∀consts,builtin f ts ty consts (args.map a.eval)=(do pure (.value (<- s)))) (hr:∃v w',s.run P w=.ok v w'/\post v w'):Pt P ⟨dst,.call ⟨.builtin f,args,ts⟩,ty,pos,aft,gd⟩ a w post:=by
 intro next Q h;obtain ⟨v,w',h1,h2⟩:=hr;unfold Oper.wp;simp only [execOp,resolve,Sem.run_bind,Sem.run_pure,Result.andThen_ok,invoke,he,h1];exact h v w' h2
theorem Acm {K:Nat->Prop}:∀{xs:List SV} {vs:List Value} {l:List (Nat×Nat)},All2 (AQ S c w K) xs vs->TX xs=some l->All2 (UX S c) l vs
 | [],_,l,.nil,h=>by
  simp only [TX,AlV]at h;subst h;exact .nil
 | x::xs,_,l,.cons (b:=v) (bs:=vs) h1 h2,h=>by
  unfold TX at h;split at h
  .rename_i e;cases e
  .rename_i k off xs' e;injection e with e1 e2
   subst e1 e2;split at h
   .rename_i l' hl';simp only [AlV]at h;subst h;exact .cons h1 (Acm h2 hl')
   .cases h
  .cases h
theorem AjI (hi:Inv b S w c) {x l:Leaf} {v:Value} (hx:LeafOk S c w (Kok b S c) x v) (h:(Ahm x).ev S=some l) :
  ∃A n cap,v=.slice A n cap/\LeafOk S c w (Kok b S c) l (.bool A.isNone):=by
 unfold Ahm at h;split at h
 .simp only [Tr.ev,AlV]at h;subst h;exact⟨none,0,0,hx,Cu⟩
 .rename_i o e r xs;simp only [Tr.ev,AlV]at h;subst h;have hd:(K3 (.v (.sl o e r) xs)).ev S=some ⟨e,r,xs⟩:=by cases o <;> rfl
  obtain ⟨A,cap,ws,F',rfl,hr,hz⟩:=GV hi hx hd;refine⟨A,_,cap,rfl,_,rfl,λhA=>?_⟩;rcases hz with hz | ⟨ad,h1,_⟩
  .simp only at hz;rw [hz];rfl
  .rw [h1]at hA;cases hA
 .rename_i k st win;simp only [Af,AlY,Tr.ev,AlV]at h;obtain ⟨o,ho,rfl⟩:=h;obtain ⟨A,cap,ws,F',rfl,hr,hz⟩:=GV hi hx (show(K3 (.vw k st win)).ev S=some o from ho);refine⟨A,_,cap,rfl,_,rfl,λhA=>?_⟩;rcases hz with hz | ⟨ad,h1,_⟩
  .rw [hz];rfl
  .rw [h1]at hA;cases hA
 .simp [Tr.ev]at h
theorem Ain (hT:TabOk P E.ti) {N:Nat} (hi:Inv b S w c) (hs:Slots N S c w (Kok b S c) a) (o:Oper) {d:Nat} (hdn:d < b.n1) {out:Out}
  (hcall:∀fo f cs args ts out,o.op=.call ⟨.value fo,args,ts⟩->Cv S fo=.s (.fv f cs)->args.size=ts.size->(XA E d f cs ((args.toList.map (Cv S)).zip ts.toList)).ev S=some out->Pt P o a w λv w'=>Did b S c w out v w')
  (hen:∀s p,YH E.en s=some p->(Instr.entry (a.eval (.tmp s))).run P w=.ok (.tuple #[.int .i64 p.1,.int .i64 p.2]) w)
  (h:(JX E (Cv S) d o.op).ev S=some out):Pt P o a w λv w'=>Did b S c w out v w':=by
 obtain ⟨dst,op,ty,pos,aft,gd⟩:=o;simp only at h hcall;unfold JX at h;split at h
 .rename_i x;split at h
  .simp [Tr.ev]at h
  .simp [Tr.ev]at h
  .simp only [Tr.ev,AlV]at h;subst h;exact JR rfl (Did.same hi (AG hs x))
 .rename_i x;split at h
  .simp [Tr.ev]at h
  .simp [Tr.ev]at h
  .simp only [Tr.ev,AlV]at h;subst h;exact JR rfl (Did.same hi (AG hs x))
 .rename_i cc x y;split at h
  .rename_i cb hc;have hb:a.eval cc=.bool cb:=by
    have:=AG hs cc;rw [hc]at this;exact EA (AW this)
   simp only [Tr.ev]at h;refine Aeo ⟨if cb then a.eval x else a.eval y,w,?_,?_⟩
   .simp [execOp,hb,asBool]
   .split at h
    .rename_i hcb;rw [Al1 hcb];split at h
     .simp [Tr.ev]at h
     .simp [Tr.ev]at h
     .simp only [Tr.ev,AlV]at h;subst h;exact Did.same hi (AG hs x)
    .rename_i hcb;rw [AlZ hcb];split at h
     .simp [Tr.ev]at h
     .simp [Tr.ev]at h
     .simp only [Tr.ev,AlV]at h;subst h;exact Did.same hi (AG hs y)
  .simp [Tr.ev]at h
 .rename_i t;split at h
  .rename_i ts ht;split at h
   .simp [Tr.ev]at h
   .rename_i hne;simp only [Tr.ev,AlV]at h;subst h;exact AD rfl (Af3 hT hi ht (by rintro rfl;exact hne rfl) d hdn)
  .simp [Tr.ev]at h
 .rename_i t x;split at h
  .rename_i ts ls ht hl;split at h
   .rename_i hln;simp only [Tr.ev,AlV]at h;subst h;exact AD rfl (Akc hi (AG hs x) hl (by rintro rfl;exact hln.2 (Amo hln.1.symm)) d hdn)
   .simp [Tr.ev]at h
  .simp [Tr.ev]at h
 .rename_i t ps;split at h
  .rename_i fs row eq ht;split at h
   .rename_i ls hl;simp only [Tr.ev,AlV]at h;subst h;obtain ⟨u,h1,h2⟩:=Af5 (P:=P) hT hi ht (P8 hs ps.toList) (P0 ps.toList) hl;rw [<- Wu]at h1;exact AD rfl ⟨u,w,h1,Did.same hi h2⟩
   .simp [Tr.ev]at h
  .simp [Tr.ev]at h
 .rename_i t len ps;obtain ⟨u,w',h1,h2⟩:=Xg (P:=P) hT hi (P8 hs ps.toList) (P0 ps.toList) h;rw [<- Wu]at h1;exact AD rfl ⟨u,w',h1,h2⟩
 .rename_i t x;split at h
  .rename_i a1 ts hx ht;split at h
   .simp [Tr.ev]at h
   .rename_i hne;simp only [Af,AlY]at h;obtain ⟨r,hr,h⟩:=h;simp only [Tr.ev,AlV]at h;subst h;have hv:=AG hs x;rw [hx]at hv;have hpos:0 < ts.length:=by
     cases ts with
     | nil=>simp at hne
     | cons _ _=>simp
    obtain ⟨u,h1,h2⟩:=Abl (P:=P) hT hi hv ht hr hpos;exact AD rfl ⟨u,w,h1,Did.same hi h2⟩
  .simp [Tr.ev]at h
 .rename_i t p x;split at h
  .rename_i a1 ts ls hx ht hl;split at h
   .rename_i hn;simp only [Af,AlY,Tr.ev,AlV]at h;obtain ⟨r,hr,h⟩:=h;subst h;have hv:=AG hs p;rw [hx]at hv
    match a1,hv,hr with
    | .pl k off,hv,hr=>exact Qd rfl (AhR hT hi hv ht (AG hs x) hl hn hr)
    | .el k st,hv,hr=>exact Qd rfl (Ail hT hi hv ht (AG hs x) hl hn hr)
    | .one _,_,hr=>simp [HL,Tr.ev]at hr
    | .ag _,_,hr=>simp [HL,Tr.ev]at hr
    | .rp _ _ _,_,hr=>simp [HL,Tr.ev]at hr
    | .fv _ _,_,hr=>simp [HL,Tr.ev]at hr
   .simp [Tr.ev]at h
  .simp [Tr.ev]at h
 .rename_i x;have hx:=AG hs x;split at h
  all_goals first
   | (simp [Tr.ev]at h;done)
   | skip
  .rename_i k off he;simp only [Tr.ev,AlV]at h;subst h;rw [he]at hx;have hx':=hx;obtain ⟨m,hm,hv⟩:=hx';refine JR (v:=a.eval x) ?_ (Did.same hi hx);simp only [execOp,hv]
  .rename_i k st he;simp only [Tr.ev,AlV]at h;subst h;rw [he]at hx;have hx':=hx;obtain ⟨o0,ad,ho,had,hv,_⟩:=hx';refine JR (v:=a.eval x) ?_ (Did.same hi hx);simp only [execOp,hv]
  .rename_i u y off he;simp only [Tr.ev,AlV]at h;subst h;rw [he]at hx;have hx':=hx;obtain ⟨ad,vs,hv,_⟩:=hx';refine JR (v:=a.eval x) ?_ (Did.same hi hx);simp only [execOp,hv]
  .rename_i u o' he;cases o' with
   | none=>simp [Tr.ev]at h
   | some y=>
    simp only [Tr.ev,AlU,AlV]at h;subst h;rw [he]at hx;have hp:=AhB (AW hx);have hp':=hp;obtain ⟨ad,vs,hv,_⟩:=hp';refine JR (v:=a.eval x) ?_ (Did.same hi (x:=.s (.rp u y 0)) hp);simp only [execOp,hv]
 .rename_i op t x y z;split at h
  .rename_i l1 hx hy;split at h
   .split at h
    .rename_i hsl;simp only [Af,AlY,Tr.ev,AlV]at h;obtain ⟨l,hl,h⟩:=h;subst h;have h1:=AG hs x;have h2:=AG hs y;rw [hx]at h1;rw [hy]at h2;obtain ⟨A,n,cap,hv,hlf⟩:=AjI hi (AW h1) hl;have hy0:a.eval y=.slice none 0 0:=h2;obtain ⟨e,_,hu,_⟩:=Kx hT hsl;refine AD rfl ⟨.bool A.isNone,w,?_,Did.same hi (CT hlf)⟩;rw [hv,hy0,WC .eql t x y rfl Z];simp only [Sem.run_bind,Sem.run_pure,Result.andThen_ok];exact Lib.run_eql_slice_nil w t e A n cap 0 0 hu
    .simp [Tr.ev]at h
   .simp [Tr.ev]at h
  .rename_i e e2 hx hy;have h1:=AG hs x;rw [hx]at h1;have hE:=Ait (AW h1);split at h
   .rename_i ht;simp only [Tr.ev,AlV]at h;subst h;refine AD rfl ⟨.bool e,w,?_,Did.same hi (CT Cu)⟩;obtain ⟨ms,hu⟩:=Ae7 hT ht;exact Ajk t x hE hu
   .simp [Tr.ev]at h
  .rename_i l1 l2 _ _ hx hy;split at h
   .rename_i hb;simp only [Af,AlY,Tr.ev,AlV]at h;obtain ⟨l,hl,h⟩:=h;subst h;have h1:=AG hs x;have h2:=AG hs y;rw [hx]at h1;rw [hy]at h2;obtain ⟨r,h3,h4⟩:=Ais (P:=P) op t l1 l2 _ _ l (AW h1) (AW h2) hl (λq hq=>by
     subst hq;cases ht:E.ti t with
     | cell u=>
      cases u with
      | bool=>exact Aea hT ht
      | _=>rw [ht]at hb;simp [YB]at hb
     | _=>rw [ht]at hb;simp [YB]at hb)
    obtain ⟨g1,g2⟩:=AgS (AW h1) hl;refine AD rfl ⟨r,w,?_,Did.same hi (CT h4)⟩;rw [WC op t x y g1 g2];simpa using h3
   .simp [Tr.ev]at h
  .rename_i xs ys hx hy;have h1:=AG hs x;have h2:=AG hs y;rw [hx]at h1;rw [hy]at h2;obtain ⟨us,e1,k1⟩:=h1;obtain ⟨vs,e2,k2⟩:=h2;split at h
   .rename_i fs row ht;obtain ⟨fields,f1,f2,f3,_⟩:=hT.struct ht;obtain ⟨f4,f5,f6,f7⟩:=f3 rfl;have hfo:P.fieldsOf t=fields:=by simp [Program.fieldsOf,f1]
    split at h
    .rename_i r hr;simp only [Tr.ev,AlV]at h;subst h;have:=Abj (w:=w) t us vs fields f1 f6 (SD (w:=w) row fields.toList fs 0 xs ys us vs [] [] f4 f2 f5 rfl rfl k1 k2 hr);refine AD rfl ⟨.bool r,w,?_,Did.same hi (CT Cu)⟩;rw [e1,e2];simp only [Sem.run_bind,run_eqGuard_agg w _ _ _ _ _ _ f7,Result.andThen_ok,this.1]
    .rename_i r hr;simp only [Tr.ev,AlV]at h;subst h;have:=Abj (w:=w) t us vs fields f1 f6 (SD (w:=w) row fields.toList fs 0 xs ys us vs [] [] f4 f2 f5 rfl rfl k1 k2 hr);refine AD rfl ⟨.bool (!r),w,?_,Did.same hi (CT Cu)⟩;rw [e1,e2];simp only [Sem.run_bind,run_eqGuard_agg w _ _ _ _ _ _ f7,Result.andThen_ok,this.2]
    .simp [Tr.ev]at h
   .simp [Tr.ev]at h
  .simp [Tr.ev]at h
 .rename_i op t x;split at h
  .rename_i l1 hx;simp only [Af,AlY,Tr.ev,AlV]at h;obtain ⟨l,hl,h⟩:=h;subst h;have h1:=AG hs x;rw [hx]at h1;obtain ⟨r,h3,h4⟩:=Ajf (P:=P) op l1 _ l (AW h1) hl;exact AD rfl ⟨r,w,h3,Did.same hi (CT h4)⟩
  .simp [Tr.ev]at h
 .rename_i s t x;split at h
  .rename_i l1 hx;have h1:=AG hs x;rw [hx]at h1;exact AD rfl (Aid hT hi (AW h1) h)
  .simp [Tr.ev]at h
 .rename_i t l m;exact AD rfl (XN hT hi (AG hs l) (AG hs m) h)
 .rename_i t x lo hi' mx;split at h
  .rename_i l1 hx;simp only [Af,AlY,Tr.ev,AlV]at h;obtain ⟨r,hr,h⟩:=h;subst h;have h1:=AG hs x;rw [hx]at h1;obtain ⟨u,h2,h3⟩:=Ag4 (P:=P) hT hi hs (AW h1) hr;exact AD rfl ⟨u,w,h2,Did.same hi h3⟩
  .simp [Tr.ev]at h
 .rename_i t x f;split at h
  .rename_i fs row eq ht;have h1:=AG hs x;split at h
   all_goals first
    | (simp [Tr.ev]at h;done)
    | skip
   .rename_i hf hx;simp only [Tr.ev,AlV]at h;subst h;rw [hx]at h1;obtain ⟨u,h2,h3⟩:=Mn (P:=P) hT ht hf h1 (.inl ⟨_,_,rfl,rfl⟩);exact AD rfl ⟨u,w,h2,Did.same hi h3⟩
   .rename_i hf hx;simp only [Tr.ev,AlV]at h;subst h;rw [hx]at h1;obtain ⟨u,h2,h3⟩:=Mn (P:=P) hT ht hf h1 (.inr (.inl ⟨_,_,rfl,rfl⟩));exact AD rfl ⟨u,w,h2,Did.same hi h3⟩
   .rename_i hf hx;simp only [Tr.ev,AlV]at h;subst h;rw [hx]at h1;obtain ⟨u,h2,h3⟩:=Mn (P:=P) hT ht hf h1 (.inr (.inr ⟨_,_,_,rfl,rfl⟩));exact AD rfl ⟨u,w,h2,Did.same hi h3⟩
  .simp [Tr.ev]at h
 .rename_i t x f;split at h
  .rename_i fs row eq ls ht hx;have h1:=AG hs x;rw [hx]at h1;split at h
   .rename_i o n hf;simp only [Tr.ev,AlV]at h;subst h;obtain ⟨u,h2,h3⟩:=ZM (P:=P) (w:=w) hT ht hf h1 (r:=.s (.ag ((ls.drop o).take n))) Z;exact AD rfl ⟨u,w,h2,Did.same hi h3⟩
   .rename_i o n hf;split at h
    .rename_i l hl;simp only [Tr.ev,AlV]at h;subst h;obtain ⟨u,h2,h3⟩:=ZM (P:=P) (w:=w) hT ht hf h1 (r:=.s (Gu l)) (by simp [hl]);exact AD rfl ⟨u,w,h2,Did.same hi h3⟩
    .simp [Tr.ev]at h
   .simp [Tr.ev]at h
  .simp [Tr.ev]at h
 .rename_i t x i;split at h
  .rename_i l1 k n hx hn;simp only [Af,AlY,Tr.ev,AlV]at h;obtain ⟨r,hr,h⟩:=h;subst h;have h1:=AG hs x;have h2:=AG hs i;rw [hx]at h1;rw [hn]at h2;obtain ⟨u,h3,h4⟩:=S6 (P:=P) (k:=k) hT hi (AW h1) hr;refine AD (s:=Instr.indexAt t (a.eval x) (a.eval i)) rfl ⟨u,w,?_,Did.same hi h4⟩;rw [B4 (AW h2)];exact h3
  .simp [Tr.ev]at h
 .rename_i t x i;split at h
  .rename_i s k n hx hn
   replace h:=BM h
   obtain ⟨c1,h⟩:=h
   replace h:=BM h
   obtain ⟨c2,h⟩:=h;simp only [decide_eq_true_eq]at c2;simp only [Tr.ev,AlY,AlV]at h;obtain ⟨u,hu,h⟩:=h;subst h;have h1:=AG hs x;have h2:=AG hs i;rw [hx]at h1;rw [hn]at h2;obtain ⟨h3,h4⟩:=Afz (P:=P) (S:=S) (c:=c) (w:=w) (K:=Kok b S c) (k:=k) (M8 hT c1) c2 hu;refine AD (s:=Instr.index t (a.eval x) (a.eval i)) rfl ⟨_,w,?_,Did.same hi h4⟩;rw [B4 (AW h2),D7 (AW h1)];exact h3
  .simp [Tr.ev]at h
 .rename_i x i;split at h
  .rename_i xs hx;split at h
   .rename_i y hy;simp only [Tr.ev,AlV]at h;subst h;have h1:=AG hs x;rw [hx]at h1;obtain ⟨vs,hv,hall⟩:=h1;obtain ⟨u,hu,h2⟩:=hall.get hy;refine AD (s:=Instr.extract (a.eval x) i) rfl ⟨u,w,?_,Did.same hi h2⟩;rw [hv];simp [Instr.extract,hu]
   .simp [Tr.ev]at h
  .simp [Tr.ev]at h
 .rename_i as ts;split at h
  .rename_i x t has hts;simp only [Af,AlY,Tr.ev,AlV]at h;obtain ⟨n,hn,h⟩:=h;subst h;have hall:=GI hs as.toList;rw [has]at hall;generalize hus:as.toList.map a.eval=us at hall;cases hall with
   | cons h1 h2=>
    cases h2;rename_i u;have ha:as.map a.eval = #[u]:=by apply AnS;simp [hus]
    have ht:ts = #[t]:=by apply AnS;simp [hts]
    subst ht;refine He hs (s:=Builtin.len_ #[t] ty (as.map a.eval)) (λ_=>rfl) ⟨goInt n,w,?_,Did.same hi (CT C8)⟩;rw [ha];rcases Ai9 hi (AW h1) hn with⟨s,rfl,hsz,hst⟩ | ⟨hsl,A,cap,rfl⟩
    .rw [run_len_string w t ty s (M8 hT hst),hsz]
    .obtain ⟨e,ie,hu,_⟩:=Kx hT hsl;simp [Builtin.len_,run_underlying hu]
  .simp [Tr.ev]at h
 .rename_i as ts;split at h
  .rename_i x y t t2 has hts;have hall:=GI hs as.toList;rw [has]at hall;generalize hus:as.toList.map a.eval=us at hall;cases hall with
   | cons h1 h2=>
    cases h2 with
    | cons h2 h3=>
     cases h3;rename_i u v;have ha:as.map a.eval = #[u,v]:=by apply AnS;simp [hus]
     have ht:ts = #[t,t2]:=by apply AnS;simp [hts]
     subst ht;refine He hs (s:=Builtin.append_ #[t,t2] ty (as.map a.eval)) (λ_=>rfl) ?_;rw [ha];exact AiN hT hi (AW h1) (AW h2) h
  .simp [Tr.ev]at h
 .rename_i as ts;split at h
  .rename_i x y t t2 has hts;have hall:=GI hs as.toList;rw [has]at hall;generalize hus:as.toList.map a.eval=us at hall;cases hall with
   | cons h1 h2=>
    cases h2 with
    | cons h2 h3=>
     cases h3;rename_i u v;have ha:as.map a.eval = #[u,v]:=by apply AnS;simp [hus]
     have ht:ts = #[t,t2]:=by apply AnS;simp [hts]
     subst ht;refine He hs (s:=Builtin.copy_ #[t,t2] ty (as.map a.eval)) (λ_=>rfl) ?_;rw [ha];exact Ah0 hT hi (AW h1) (AW h2) h
  .simp [Tr.ev]at h
 .rename_i as ts;simp only [Af,AlY,Tr.ev,AlV]at h;obtain ⟨r,hr,h⟩:=h;subst h;have ha:as.map a.eval=(as.toList.map a.eval).toArray:=by apply AnS;simp
  rcases VU (P:=P) (w:=w) ts ty (GI hs as.toList) hr with⟨_,u,h1,h2⟩ | ⟨h0,_⟩
  .refine He hs (s:=Builtin.min_ ts ty (as.map a.eval)) (λ_=>rfl) ⟨u,w,?_,Did.same hi h2⟩;rw [ha];exact h1
  .cases h0
 .rename_i as ts;simp only [Af,AlY,Tr.ev,AlV]at h;obtain ⟨r,hr,h⟩:=h;subst h;have ha:as.map a.eval=(as.toList.map a.eval).toArray:=by apply AnS;simp
  rcases VU (P:=P) (w:=w) ts ty (GI hs as.toList) hr with⟨h0,_⟩ | ⟨_,u,h1,h2⟩
  .cases h0
  .refine He hs (s:=Builtin.max_ ts ty (as.map a.eval)) (λ_=>rfl) ⟨u,w,?_,Did.same hi h2⟩;rw [ha];exact h1
 .rename_i fo as ts;split at h
  .rename_i f cs hfo;split at h
   .rename_i hsz;exact hcall fo f cs as ts out rfl hfo hsz h
   .simp [Tr.ev]at h
  .simp [Tr.ev]at h
 .rename_i t;split at h
  .simp only [Tr.ev,AlV]at h;subst h;exact AD rfl (Adq hi t d hdn)
  .simp [Tr.ev]at h
 .rename_i t x i;split at h
  .rename_i n hn;obtain ⟨ht,k,xs,h1,h2,h3,h4⟩:=AbM hi (AG hs x) h;simp only [Bx,Tr.ev,AlV]at h4;subst h4;have hiv:a.eval i=.int .i64 n:=by
    have:=AG hs i;rw [hn]at this;exact B4 (AW this)
   refine AD rfl ⟨_,w,?_,Did.same hi (v:=.int .i64 (CM xs n)) ?_⟩
   .rw [h2,hiv];exact AdY hT hi ht h3 n
   .exact(show LeafOk S c w (Kok b S c) (.v (.int .i64) (CM xs n)) (.int .i64 (CM xs n)) from⟨rfl,rfl⟩)
  .simp [Tr.ev]at h
 .rename_i t x i y;split at h
  .rename_i n m hn hm;obtain ⟨ht,k,xs,h1,h2,h3,h4⟩:=AbM hi (AG hs x) h;simp only [Tr.ev,AlV]at h4;subst h4;have hiv:a.eval i=.int .i64 n:=by
    have:=AG hs i;rw [hn]at this;exact B4 (AW this)
   have hyv:a.eval y=.int .i64 m:=by
    have:=AG hs y;rw [hm]at this;exact B4 (AW this)
   refine Qd rfl ?_;rw [h2,hiv,hyv];exact Y9 hT hi ht h1 h3 n m
  .simp [Tr.ev]at h
 .rename_i s;split at h
  .rename_i p hp;simp only [Bx,Tr.ev,AlV]at h;subst h;exact AD rfl ⟨_,w,hen s p hp,Did.same hi (c:=c) (x:=.tu [.one (.v (.int .i64) p.1),.one (.v (.int .i64) p.2)]) ⟨[.int .i64 p.1,.int .i64 p.2],rfl,.cons ⟨rfl,rfl⟩ (.cons ⟨rfl,rfl⟩ .nil)⟩⟩
  .simp [Tr.ev]at h
 .rename_i f first cs
  split at h
  .rename_i hf;split at h
   .rename_i l hl;simp only [Tr.ev,AlV]at h;subst h;have hfirst:first = #[]:=by simpa [Array.isEmpty_iff] using hf
    subst hfirst;refine AD rfl ⟨_,w,rfl,Did.same hi ?_⟩;refine⟨cs.toList.map a.eval,by congr 1 <;> (apply AnS;simp),?_⟩;have hall:=GI hs cs.toList;revert hl hall;generalize cs.toList.map (Cv S)=xs;generalize cs.toList.map a.eval=vs;intro hl hall;exact Acm hall hl
   .simp [Tr.ev]at h
  .simp [Tr.ev]at h
 .simp [Tr.ev]at h
end
end Go.V
namespace Go.V
open Go.RowKit
def FL {α β:Type} (p:α->β->List Nat->Prop):List α->List β->List Nat->Prop
 | [],vs,F=>vs=[]/\F=[]
 | x::xs,vs,F=>∃v vs' F1 F2,vs=v::vs'/\F=F1++F2/\p x v F1/\FL p xs vs' F2
section
variable {α β:Type} {p q:α->β->List Nat->Prop}
theorem FL.mono (h:∀x v F,p x v F->q x v F):∀{xs:List α} {vs:List β} {F},FL p xs vs F->FL q xs vs F
 | [],_,_,hx=>hx
 | _::_,_,_,⟨v,vs',F1,F2,e1,e2,h1,h2⟩=>⟨v,vs',F1,F2,e1,e2,h _ _ _ h1,FL.mono h h2⟩
theorem FL.mono':∀{xs:List α} {vs:List β} {F},(∀x∈xs,∀v F',(∀g,g∈F'->g∈F)->p x v F'->q x v F')->FL p xs vs F->FL q xs vs F
 | [],_,_,_,hx=>hx
 | _::_,_,_,h,⟨v,vs',F1,F2,e1,e2,h1,h2⟩=>by
  subst e2;exact⟨v,vs',F1,F2,e1,rfl,h _ Z _ _ (λg hg=>by simp [hg]) h1,FL.mono' (λx hx v F hF=>h x (by simp [hx]) v F λg hg=>by simp [hF g hg]) h2⟩
theorem FL.len:∀{xs:List α} {vs:List β} {F},FL p xs vs F->vs.length=xs.length
 | [],_,_,⟨e,_⟩=>by subst e;rfl
 | _::_,_,_,⟨v,vs',F1,F2,e1,_,_,h2⟩=>by subst e1;simp [FL.len h2]
theorem FL.append:∀{xs ys:List α} {vs ws:List β} {F G},FL p xs vs F->FL p ys ws G->FL p (xs++ys) (vs++ws) (F++G)
 | [],_,_,_,_,_,⟨e1,e2⟩,h=>by subst e1 e2;exact h
 | _::_,_,_,_,_,_,⟨v,vs',F1,F2,e1,e2,h1,h2⟩,h=>by
  subst e1 e2;exact⟨v,_,F1,_,rfl,Al5 ..,h1,FL.append h2 h⟩
theorem FL.snoc {xs:List α} {vs:List β} {F G:List Nat} {x:α} {v:β} (h:FL p xs vs F) (hx:p x v G):FL p (xs++[x]) (vs++[v]) (F++G):=
 h.append ⟨v,[],G,[],rfl,Z,hx,rfl,rfl⟩
end
def Ty.own:Ty->Bool
 | .sl true _ _=>true
 | _=>false
def ALOk (w:World) (K:Nat->Prop) (l:Ae) (v:Value) (F:List Nat):Prop:=Rp w K l.1 l.2 [v] F/\(l.1.own=false->F=[])
def A1Ok (w:World) (K:Nat->Prop) (ms:List (Nat×Nat)):A1->Value->List Nat->Prop
 | .one l,v,F=>ALOk w K l v F
 | .ag ls,v,F=>∃vs:List Value,v=.agg vs.toArray/\FL (ALOk w K) ls vs F
 | .pl m off,v,F=>F=[]/\∃g,ms[m]?=some g/\v=.pointer (some ⟨g.1,g.2+off,none⟩)
 | .rp t x off,v,F=>F=[]/\∃(a:Addr) (vs:List Value),v=.pointer (some (a.add off))/\Rp w K t x vs []/\K a.block/\a.block < w.heap.size/\∀j,j < vs.length->w.cell? (a.add j)=vs[j]?
 | .fv f cs,v,F=>F=[]/\∃vs:List Value,v=.func (.func f) #[] vs.toArray/\All2 (λp v=>∃g,ms[p.1]?=some g/\v=.pointer (some ⟨g.1,g.2+p.2,none⟩)) cs vs
def ROk (w:World) (K:Nat->Prop) (ms:List (Nat×Nat)) (l:Ae) (v:Value) (F:List Nat):Prop:=
 ALOk w K l v F\/((F=[]/\∃(p g:Nat×Nat),l=⟨.lp,p⟩/\ms[p.1]?=some g/\v=.pointer (some ⟨g.1,g.2+p.2,none⟩))\/
  (F=[]/\∃(m:Nat) (g:Nat×Nat),l=⟨.mh,m+1⟩/\ms[m]?=some g/\v=.map (some g.1)/\∃es n,w.heap[g.1]?=some (.map es n)))
def RowOk (w:World) (K:Nat->Prop) (ms:List (Nat×Nat)) (g:Nat×Nat) (r:List Ae) (F:List Nat):Prop:=
 (∃cs e fr,w.heap[g.1]?=some (.cells cs e fr)/\NF fr cs.size/\g.2+r.length<=cs.size/\FL (ROk w K ms) r ((cs.toList.drop g.2).take r.length) F)\/
 ∃xs:List (Int×Int),r=[⟨.mp,xs⟩]/\MapAt w g.1 xs/\F=[]
def RowsOk (w:World) (K:Nat->Prop) (ms:List (Nat×Nat)):List (Nat×Nat)->List (List Ae)->List Nat->Prop
 | [],rs,F=>rs=[]/\F=[]
 | g::gs,rs,F=>∃r rs' F1 F2,rs=r::rs'/\F=F1++F2/\RowOk w K ms g r F1/\RowsOk w K ms gs rs' F2
def RestOk (w w':World) (ms:List (Nat×Nat)) (rows:List (List Ae)):Prop:=
 (∀(m:Nat) (g:Nat×Nat) (es:Array MapEntry) (n:Nat),ms[m]?=some g->w.heap[g.1]?=some (.map es n)->∃es' n',w'.heap[g.1]?=some (.map es' n'))/\
 ∀(m:Nat) (g:Nat×Nat) (row:List Ae) (cs:Array Value) (e:TypeId) (fr:Nat×Nat),ms[m]?=some g->rows[m]?=some row->w.heap[g.1]?=some (.cells cs e fr)->∃cs',w'.heap[g.1]?=some (.cells cs' e fr)/\cs'.size=cs.size/\∀i,(i < g.2\/g.2+row.length<=i)->cs'[i]?=cs[i]?
def Vc:List Value->Value
 | [v]=>v
 | vs=>.tuple vs.toArray
def EO (vals:List Value) (p:Nat×Nat):Option Value:=match vals[p.1]? with
 | some (.agg vs)=>vs[p.2]?
 | some v=>if p.2=0 then some v else none
 | none=>none
def LentOk (w:World) (K:Nat->Prop) (vals:List Value):List ((Nat×Nat)×Ae)->List Nat->Prop
 | [],F=>F=[]
 | p::l,F=>∃v F1 F2,F=F1++F2/\EO vals p.1=some v/\ALOk w K p.2 v F1/\LentOk w K vals l F2
def IF (w:World) (Ro:Nat->Prop) (ms:List (Nat×Nat)) (F:List Nat) (vals:List Value) (r:Res) (v:Value) (w':World):Prop:=
 ∃(vs:List Value) (F1 F2 F3:List Nat),v=Vc vs/\FL (A1Ok w' (λg=>(Ro g\/w.heap.size<=g\/g∈F)/\g∉ms.map (·.1)++(F1++(F2++F3))) ms) r.val vs F1/\RowsOk w' (λg=>(Ro g\/w.heap.size<=g\/g∈F)/\g∉ms.map (·.1)++(F1++(F2++F3))) ms ms r.rows F2/\
  LentOk w' (λg=>(Ro g\/w.heap.size<=g\/g∈F)/\g∉ms.map (·.1)++(F1++(F2++F3))) vals r.lent F3/\
  (ms.map (·.1)++(F1++(F2++F3))).Nodup/\(∀g,g∈F1++(F2++F3)->g < w'.heap.size/\(g∈F\/w.heap.size<=g))/\Step w w' (λg=>g∈ms.map (·.1)++F)/\RestOk w w' ms r.rows
theorem RestOk.nil {w w':World} {rows:List (List Ae)}:RestOk w w' [] rows:=⟨λ_ _ _ _ h=>by simp at h,λ_ _ _ _ _ _ h=>by simp at h⟩
def CA (P:Program) (f:FuncId) (as:List A1) (rows:List (List Ae)) (r:Res):Prop:=
 (∃ fn, P.funcs[f]? = some fn ∧ (fn.name == "runtime.NumGoroutine") = false ∧ fn.body.isNone = false) ∧
 ∀(w:World) (vals:List Value) (Ro:Nat->Prop) (ms:List (Nat×Nat)) (F1 F2:List Nat),FL (A1Ok w Ro ms) as vals F1->RowsOk w Ro ms ms rows F2->(ms.map (·.1)++(F1++F2)).Nodup->(∀g,g∈ms.map (·.1)++(F1++F2)->g < w.heap.size/\¬ Ro g)->(GlF w/\∀g,glo g->Ro g)->
  Calls P f vals.toArray w λout w'=>∃v,out=.returned v/\IF w Ro ms (F1++F2) vals r v w'
structure EnvOk (P:Program) (E:Env):Prop where
 ti:TabOk P E.ti
 mix:P.follows .mixedOrders=true
 ca:∀f as rows S r,(E.ca f as rows).ev S=some r->CA P f as rows r
theorem Rp.mono {w:World} {K K':Nat->Prop} (hK:∀g,g < w.heap.size->K g->K' g) (t:Ty) (x:t.D) {vs F} (h:Rp w K t x vs F):Rp w K' t x vs F:=
 Rp.frame ⟨Amu _,λg hg hlt=>⟨rfl,hK g hlt hg⟩⟩ t x h λ_ _=>rfl
theorem Rp.noRo {w:World} {K K':Nat->Prop}:∀(t:Ty) (x:t.D) {vs F},t.hasRo=false->Rp w K t x vs F->Rp w K' t x vs F
 | .int _,_,_,_,_,h=>by simp only [Rp]at h ⊢;exact h
 | .bool,_,_,_,_,h=>by simp only [Rp]at h ⊢;exact h
 | .er,_,_,_,_,h=>by simp only [Rp]at h ⊢;exact h
 | .lp,_,_,_,_,h=>by simp only [Rp]at h
 | .mh,_,_,_,_,h=>by simp only [Rp]at h ⊢;exact h
 | .mp,_,_,_,_,h=>by simp only [Rp]at h
 | .str,_,_,_,_,h=>by simp only [Rp]at h ⊢;exact h
 | .unit,_,_,_,_,h=>by simp only [Rp]at h ⊢;exact h
 | .pair a b,x,_,_,hr,h=>by
  simp only [Ty.hasRo,AnV]at hr;simp only [Rp]at h ⊢;obtain ⟨v1,v2,F1,F2,rfl,rfl,h1,h2⟩:=h;exact⟨v1,v2,F1,F2,rfl,rfl,Rp.noRo a _ hr.1 h1,Rp.noRo b _ hr.2 h2⟩
 | .sl true _ r,xs,_,_,hr,h=>by
  simp only [Ty.hasRo,AmN,Anh]at hr;simp only [Rp]at h ⊢;rcases h with h | ⟨g,off,c,cs,fr,F',rfl,rfl,hh,hn,hc,hl,hx⟩
  .exact .inl h
  .exact .inr ⟨g,off,c,cs,fr,F',rfl,rfl,hh,hn,hc,hl,RpL.mono (λx vs F h=>Rp.noRo r x hr h) hx⟩
 | .sl false _ _,_,_,_,hr,_=>by simp [Ty.hasRo]at hr
 | .pt _,_,_,_,hr,_=>by simp [Ty.hasRo]at hr
theorem ALOk.mono {w:World} {K K':Nat->Prop} (hK:∀g,g < w.heap.size->K g->K' g) {l:Ae} {v F} (h:ALOk w K l v F):ALOk w K' l v F:=⟨Rp.mono hK _ _ h.1,h.2⟩
theorem A1Ok.mono {w:World} {K K':Nat->Prop} (hK:∀g,g < w.heap.size->K g->K' g) {ms:List (Nat×Nat)} {a:A1} {v F} (h:A1Ok w K ms a v F):A1Ok w K' ms a v F:=by
 cases a with
 | one l=>exact ALOk.mono hK h
 | ag ls=>obtain ⟨vs,e,h⟩:=h;exact⟨vs,e,h.mono λx v F h=>ALOk.mono hK h⟩
 | pl m off=>exact h
 | rp t x off=>
  obtain ⟨e,a,vs,h1,h2,h3,h4,h5⟩:=h;exact⟨e,a,vs,h1,Rp.mono hK _ _ h2,hK _ h4 h3,h4,h5⟩
 | fv f cs=>exact h
theorem ROk.mono {w:World} {K K':Nat->Prop} (hK:∀g,g < w.heap.size->K g->K' g) {ms:List (Nat×Nat)} {l:Ae} {v F} (h:ROk w K ms l v F):ROk w K' ms l v F:=h.imp (ALOk.mono hK) id
theorem RowOk.mono {w:World} {K K':Nat->Prop} (hK:∀g,g < w.heap.size->K g->K' g) {mk:List (Nat×Nat)} {g:Nat×Nat} {r F} (h:RowOk w K mk g r F):RowOk w K' mk g r F:=
 h.imp (λ⟨cs,e,fr,h1,h2,h3,h4⟩=>⟨cs,e,fr,h1,h2,h3,h4.mono λ_ _ _ h=>ROk.mono hK h⟩) id
theorem RowsOk.mono {w:World} {K K':Nat->Prop} (hK:∀g,g < w.heap.size->K g->K' g) {mk:List (Nat×Nat)}:∀{ms:List (Nat×Nat)} {rs F},RowsOk w K mk ms rs F->RowsOk w K' mk ms rs F
 | [],_,_,h=>h
 | _::_,_,_,⟨r,rs',F1,F2,e1,e2,h1,h2⟩=>⟨r,rs',F1,F2,e1,e2,h1.mono hK,RowsOk.mono hK h2⟩
theorem ALOk.noRo {w:World} {K K':Nat->Prop} {l:Ae} {v F} (hr:l.1.hasRo=false) (h:ALOk w K l v F):ALOk w K' l v F:=⟨Rp.noRo _ _ hr h.1,h.2⟩
theorem ALs.noRo {w:World} {K K':Nat->Prop} {ls:List Ae} {vs F} (hr:(ls.any λl=>l.1.hasRo)=false) (h:FL (ALOk w K) ls vs F):FL (ALOk w K') ls vs F:=by
 rw [Am4]at hr;exact FL.mono' (λx hx v F _ h=>ALOk.noRo (by simpa using hr x hx) h) h
theorem RLs.noRo {w:World} {K K':Nat->Prop} {ms:List (Nat×Nat)} {ls:List Ae} {vs F} (hr:(ls.any λl=>l.1.hasRo)=false) (h:FL (ROk w K ms) ls vs F):FL (ROk w K' ms) ls vs F:=by
 rw [Am4]at hr;exact FL.mono' (λx hx v F _ h=>h.imp (ALOk.noRo (by simpa using hr x hx)) id) h
theorem A1Ok.noRo {w:World} {K K':Nat->Prop} {ms:List (Nat×Nat)} {a:A1} {v F} (hr:a.hasRo=false) (h:A1Ok w K ms a v F):A1Ok w K' ms a v F:=by
 cases a with
 | one l=>exact ALOk.noRo hr h
 | ag ls=>obtain ⟨vs,e,h⟩:=h;exact⟨vs,e,ALs.noRo hr h⟩
 | pl m off=>exact h
 | rp t x off=>cases hr
 | fv f cs=>exact h
theorem RowsOk.noRo {w:World} {K K':Nat->Prop} {mk:List (Nat×Nat)}:∀{ms:List (Nat×Nat)} {rs:List (List Ae)} {F},(rs.any λl=>l.any λx=>x.1.hasRo)=false->RowsOk w K mk ms rs F->RowsOk w K' mk ms rs F
 | [],_,_,_,h=>h
 | _::_,_,_,hr,⟨r,rs',F1,F2,e1,e2,h1,h2⟩=>by
  subst e1;simp only [List.any_cons,AnV]at hr;exact⟨r,rs',F1,F2,rfl,e2,h1.imp (λ⟨cs,e,fr,k1,k2,k3,k4⟩=>⟨cs,e,fr,k1,k2,k3,RLs.noRo hr.1 k4⟩) id,RowsOk.noRo hr.2 h2⟩
section
variable {b:Base} {S:St} {c:Cc} {w:World}
def KB (b:Base) (S:St) (c:Cc) (B:List Nat) (g:Nat):Prop:=Kok b S c g\/(∃k,k∈B/\S.ow k≠none/\g∈c.F k)\/∃k,k∈B/\S.ms k≠none/\g=c.mb k
theorem Ld (hi:Inv b S w c) {mv:Bool} {t:Ty} {l:Leaf} {v:Value} {y:Ae×List Nat×List Nat} (hl:LeafOk S c w (Kok b S c) l v) (h:(IN mv t l).ev S=some y) :
  Ows S y.2.1/\Ows S y.2.2/\(mv=true->y.2.1=[])/\∃G,(∀B,(∀k,k∈y.2.1->k∈B)->ALOk w (KB b S c B) y.1 v G)/\G.Nodup/\CG c y.2.2 G:=by
 have hn:Ows S []:=λk hk=>(by cases hk)
 have hh:CG c [] []:=λg hg=>(by cases hg)
 unfold IN at h;split at h
 .simp only [Tr.ev,AlV]at h;subst h;exact⟨hn,hn,λ_=>rfl,[],λB _=>⟨Rp.mono (λg _ h=>.inl h) _ _ hl,λ_=>rfl⟩,Z,hh⟩
 .obtain rfl:v=.slice none 0 0:=hl;split at h
  .split at h
   .simp only [Tr.ev,AlV]at h;subst h;refine⟨hn,hn,λ_=>rfl,[],λB _=>⟨?_,λ_=>rfl⟩,Z,hh⟩;simp only [Rp];exact .inl ⟨trivial,trivial,trivial⟩
   .simp only [Tr.ev,AlV]at h;subst h;refine⟨hn,hn,λ_=>rfl,[],λB _=>⟨?_,λ_=>rfl⟩,Z,hh⟩;rw [Rp];exact⟨rfl,none,0,[],rfl,Amu _,⟨rfl,rfl⟩,.inl rfl⟩
  .simp [Tr.ev]at h
 .rename_i k st win;split at h
  .rename_i hmv;split at h
   .simp only [Af,AlY,Tr.ev,AlV]at h;obtain ⟨o,ho,h⟩:=h;subst h;obtain ⟨h1,F',h2,h3,h4⟩:=IB hi hl ho;exact⟨hn,λk' hk'=>(by simp only [Al6]at hk';subst hk';exact h1),λ_=>rfl,F',λB _=>⟨Rp.mono (λg _ h=>.inl h) _ _ h2,λh=>(by simp [Ty.own]at h)⟩,h4,λg hg=>⟨k,Z,h3 g hg⟩⟩
   .simp [Tr.ev]at h
  .rename_i hmv;simp only [Af,AlY,Tr.ev,AlV]at h;obtain ⟨o,ho,h⟩:=h;subst h;obtain ⟨h1,F',h2,h3,h4⟩:=IB hi hl ho;exact⟨λk' hk'=>(by simp only [Al6]at hk';subst hk';exact h1),hn,λh=>absurd h hmv,[],λB hB=>⟨Rp.frz (λg _ h=>.inl h) _ _ h2 λg hg=>.inr (.inl ⟨k,hB k Z,h1,h3 g hg⟩),λ_=>rfl⟩,Z,hh⟩
 .simp [Tr.ev]at h
def Ak1 (S:St) (c:Cc) (w:World) (K:Nat->Prop) (k:Nat) (st:AT) (v:Value) (Fa Fb:List Nat):Prop:=
 ∃o0,S.ow k=some o0/\(∃G,c.F k=Fa++(G++Fb))/\
  ∀(d:(u:Ty)×u.D) (z:d.1.D) (zs:(Ty.sl true o0.e o0.r).D),(Ap (.sl true o0.e o0.r) o0.xs st).run=some d->(FY (.sl true o0.e o0.r) o0.xs st d.1 z).run=some zs->
   ∀(w':World) (K':Nat->Prop) (G':List Nat),Rp w' K' d.1 z [v] G'->KSame w w' K K'->Dg w w' Fa->Dg w w' Fb->Rp w' K' (.sl true o0.e o0.r) zs [c.hv k] (Fa++(G'++Fb))
def LnOk (S:St) (c:Cc) (w:World) (K:Nat->Prop) (q:Option (Nat×AT)) (v:Value) (gv G:List Nat):Prop:=match q with
 | none=>v=.slice none 0 0
 | some (k,st)=>k∈gv/\∃Fa Fb,Ak1 S c w K k st v Fa Fb/\∀g,g∈G->g∉Fa/\g∉Fb
theorem Rp.back {w:World} {K:Nat->Prop}:∀(st:AT) (t:Ty) (x:t.D) {h:Value} {F:List Nat} {c:(u:Ty)×u.D},Rp w K t x [h] F->(Ap t x st).run=some c->
  ∃h' Fa G Fb,hdr w h t st=some h'/\F=Fa++(G++Fb)/\Rp w K c.1 c.2 [h'] G/\∀(z:c.1.D) (y:t.D),(FY t x st c.1 z).run=some y->
   ∀(w':World) (K':Nat->Prop) (G':List Nat),Rp w' K' c.1 z [h'] G'->KSame w w' K K'->Dg w w' Fa->Dg w w' Fb->Rp w' K' t y [h] (Fa++(G'++Fb))
 | [],t,x,h,F,c,hp,hg=>by
  simp only [Ap,Tr.run,AlV]at hg;subst hg;refine⟨h,[],F,[],rfl,Z,hp,λz y hs w' K' G' hz _ _ _=>?_⟩;simp only [FY]at hs;split at hs
  .simp only [Tr.run,AlV]at hs;subst hs;simpa using hz
  .simp [Tr.run]at hs
 | (i,j)::ps,t,x,h,F,c,hp,hg=>by
  match t,x,hp,hg with
  | .sl true e r,xs,hp,hg=>
   obtain ⟨row,d,hrow,hd,hrest⟩:=DJ hg;obtain ⟨g,off,cap,cs,fr,v,F1,Fa0,G0,Fb0,F2,rfl,rfl,hh,hn,_,_,hcell,hlt,hv,hput⟩:=Rp.elem hp hrow hd;have hc?:w.cell? ⟨g,off+(i * r.size+j),none⟩=some v:=by rw [Bc hh];exact hcell
   obtain ⟨h',Ga,G,Gb,hhd,rfl,hp',hset2⟩:=Rp.back ps d.1 d.2 hv hrest;refine⟨h',g::(F1++(Fa0++Ga)),G,Gb++(Fb0++F2),?_,Z,hp',?_⟩
   .cases ps with
    | nil=>
     simp only [hdr,AlV]at hhd;subst hhd;simp only [hdr,adr,Bb];exact hc?
    | cons p ps=>
     simp only [hdr,adr,Bb,hc?,Dp r row j hd];simpa only [hdr] using hhd
   .intro z y hs w' K' G' hz hK sa sb;have hs':∃yy row',(FY d.1 d.2 ps c.1 z).run=some yy/\setCell r row j d.1 yy=some row'/\y=(xs:List r.D).set i row':=by
     simp only [FY,De,AlY]at hs;obtain ⟨row2,hrow2,hs⟩:=hs;obtain rfl:row=row2:=by rw [hrow]at hrow2;injection hrow2
     rw [hd]at hs;simp only [run_bind,AlY]at hs;obtain ⟨yy,h1,hs⟩:=hs;split at hs
     .rename_i row' hr;simp only [Tr.run,AlV]at hs;exact⟨yy,row',h1,hr,hs.symm⟩
     .simp [Tr.run]at hs
    obtain ⟨yy,row',hsy,hset,rfl⟩:=hs';have hinner:=hset2 z yy hsy w' K' G' hz hK (λb hb=>sa b (by simp [hb])) (λb hb=>sb b (by simp [hb]));have hgs:w'.heap[g]?=some (.cells cs e fr):=by rw [sa g Z];exact hh
    have hsame:cs=cs.setIfInBounds (off+(i * r.size+j)) v:=by
     apply Array.ext_getElem?;intro m;rw [Array.getElem?_setIfInBounds];split
     .subst_vars;first | exact hcell | (rw [Al1 hlt];exact hcell)
     .rfl
    have:=hput w' K' yy v (Ga++(G'++Gb)) row' cs hset hinner hK hgs hsame (λb hb=>sa b (by simp [hb])) (λb hb=>sa b (by simp [hb])) (λb hb=>sb b (by simp [hb])) (λb hb=>sb b (by simp [hb]));simpa using this
  | .sl false _ _,_,_,hg=>simp [Ap,Tr.run]at hg
  | .int _,_,_,hg=>simp [Ap,Tr.run]at hg
  | .bool,_,_,hg=>simp [Ap,Tr.run]at hg
  | .er,_,_,hg=>simp [Ap,Tr.run]at hg
  | .lp,_,_,hg=>simp [Ap,Tr.run]at hg
  | .mh,_,_,hg=>simp [Ap,Tr.run]at hg
  | .mp,_,_,hg=>simp [Ap,Tr.run]at hg
  | .str,_,_,hg=>simp [Ap,Tr.run]at hg
  | .pt _,_,_,hg=>simp [Ap,Tr.run]at hg
  | .unit,_,_,hg=>simp [Ap,Tr.run]at hg
  | .pair _ _,_,_,hg=>simp [Ap,Tr.run]at hg
theorem Aaf (hi:Inv b S w c) {t:Ty} {l:Leaf} {v:Value} {y:Ae×List Nat×List Nat} (hl:LeafOk S c w (Kok b S c) l v) (h:(SZ t l).ev S=some y) :
  Ows S y.2.1/\Ows S y.2.2/\∃G,(∀B,(∀k,k∈y.2.1->k∈B)->ALOk w (KB b S c B) y.1 v G)/\G.Nodup/\CG c y.2.2 G/\∀p e,e∈L7 p l->e.1=p/\LnOk S c w (Kok b S c) e.2 v y.2.2 G:=by
 unfold SZ at h;split at h
 .rename_i k st;simp only [Af,AlY,Tr.ev,AlV]at h;obtain ⟨o,ho,h⟩:=h;subst h;obtain ⟨o0,e,r,ys,hd,ho0,hg,hh,hw⟩:=hl;have hw':v=hd:=hw;subst hw';obtain ⟨h',Fa,G,Fb,k1,k2,k3,k4⟩:=Rp.back st _ _ (hi.ow k o0 ho0) hg;rw [hh]at k1;injection k1 with k1
  subst k1;have hnd:=hi.nd k (by rw [ho0];simp);rw [k2]at hnd;obtain ⟨n1,n2,n3⟩:=Amj.1 hnd;obtain ⟨m1,m2,m3⟩:=Amj.1 n2;have hoo:o=⟨e,r,ys⟩:=by
   simp only [ES,Tr.ev,ho0,Af,AlY]at ho;obtain ⟨c0,hc0,ho⟩:=ho;rw [KL,hg]at hc0;injection hc0 with hc0
   subst hc0;simp only [Tr.ev,AlV]at ho;exact ho.symm
  subst hoo;refine⟨λk hk=>(by cases hk),λk' hk'=>(by simp only [Al6]at hk';subst hk';rw [ho0];simp),G,λB _=>⟨Rp.mono (λg _ h=>.inl h) _ _ k3,λh=>(by simp [Ty.own]at h)⟩,m1,λg hg=>⟨k,Z,by rw [k2];simp [hg]⟩,?_⟩;intro p e' he';simp only [L7,Al6]at he';subst he';refine⟨rfl,Z,Fa,Fb,⟨o0,ho0,⟨G,k2⟩,?_⟩,λg hg=>⟨λhx=>n3 g hx g (by simp [hg]) rfl,λhx=>m3 g hg g hx rfl⟩⟩;intro d z zs hd' hs';rw [hg]at hd';injection hd' with hd'
  subst hd';exact k4 z zs hs'
 .simp [Tr.ev]at h
 .rename_i hn1 hn2;obtain ⟨k1,k2,_,G,k4,k5,k6⟩:=Ld hi hl h;refine⟨k1,k2,G,k4,k5,k6,λp e he=>?_⟩;cases l with
  | vw k st win=>
   cases win with
   | none=>exact absurd rfl (hn1 k st)
   | some w=>exact absurd rfl (hn2 k st w)
  | nil=>
   simp only [L7,Al6]at he;subst he;exact⟨rfl,hl⟩
  | v t x=>cases he
  | qn q=>cases he
  | p k off=>cases he
  | np=>cases he
  | mh k=>cases he
  | md xs=>cases he
  | no=>cases he
theorem RP (hi:Inv b S w c) {m:Nat} {t:Ty} {l:Leaf} {v:Value} {y:Ae×List Nat×List Nat} (hl:LeafOk S c w (Kok b S c) l v) (h:(Ph m t l).ev S=some y) :
  Ows S y.2.1/\Ows S y.2.2/\∃G,(∀B,(∀k,k∈y.2.1->k∈B)->ALOk w (KB b S c B) y.1 v G)/\G.Nodup/\CG c y.2.2 G/\(m=2->∀p e,e∈L7 p l->e.1=p/\LnOk S c w (Kok b S c) e.2 v y.2.2 G):=by
 unfold Ph at h;split at h
 .obtain ⟨k1,k2,G,k3,k4,k5,k6⟩:=Aaf hi hl h;exact⟨k1,k2,G,k3,k4,k5,λ_=>k6⟩
 .rename_i hm;obtain ⟨k1,k2,_,G,k4,k5,k6⟩:=Ld hi hl h;exact⟨k1,k2,G,k4,k5,k6,λh=>absurd h hm⟩
theorem LnOk.left (hi:Inv b S w c) {q:Option (Nat×AT)} {v:Value} {g1 g2 G1 G2:List Nat} (h:LnOk S c w (Kok b S c) q v g1 G1) (hh:CG c g2 G2) (ho:Ows S g1) (ho2:Ows S g2) (hu:AM (g1++g2)=true):LnOk S c w (Kok b S c) q v (g1++g2) (G1++G2):=by
 cases q with
 | none=>exact h
 | some q=>
  obtain ⟨k,st⟩:=q;obtain ⟨hk,Fa,Fb,hB,hd⟩:=h;refine⟨by simp [hk],Fa,Fb,hB,λg hg=>?_⟩;rcases Al3.1 hg with hg | hg
  .exact hd g hg
  .obtain ⟨k2,q1,q2⟩:=hh g hg;obtain ⟨_,_,u⟩:=AU hu;have hne:k2≠k:=by rintro rfl;exact u k2 hk q1
   have hno:=hi.oo k2 k hne (ho2 k2 q1) (ho k hk) g q2;obtain ⟨_,_,⟨G0,hF⟩,_⟩:=hB;rw [hF]at hno;simp only [Al3,not_or]at hno;exact⟨hno.1,hno.2.2⟩
theorem LnOk.right (hi:Inv b S w c) {q:Option (Nat×AT)} {v:Value} {g1 g2 G1 G2:List Nat} (h:LnOk S c w (Kok b S c) q v g2 G2) (hh:CG c g1 G1) (ho:Ows S g1) (ho2:Ows S g2) (hu:AM (g1++g2)=true):LnOk S c w (Kok b S c) q v (g1++g2) (G1++G2):=by
 cases q with
 | none=>exact h
 | some q=>
  obtain ⟨k,st⟩:=q;obtain ⟨hk,Fa,Fb,hB,hd⟩:=h;refine⟨by simp [hk],Fa,Fb,hB,λg hg=>?_⟩;rcases Al3.1 hg with hg | hg
  .obtain ⟨k2,q1,q2⟩:=hh g hg;obtain ⟨_,_,u⟩:=AU hu;have hne:k2≠k:=by rintro rfl;exact u k2 q1 hk
   have hno:=hi.oo k2 k hne (ho k2 q1) (ho2 k hk) g q2;obtain ⟨_,_,⟨G0,hF⟩,_⟩:=hB;rw [hF]at hno;simp only [Al3,not_or]at hno;exact⟨hno.1,hno.2.2⟩
  .exact hd g hg
theorem QO (hi:Inv b S w c) {m:Nat}:∀{ls:List Leaf} {ts:List Ty} {vs:List Value} {y:List Ae×List Nat×List Nat},All2 (LeafOk S c w (Kok b S c)) ls vs->(KP m ts ls).ev S=some y->
  Ows S y.2.1/\Ows S y.2.2/\∃G,(∀B,(∀k,k∈y.2.1->k∈B)->FL (ALOk w (KB b S c B)) y.1 vs G)/\(AM y.2.2=true->G.Nodup)/\CG c y.2.2 G/\
   (m=2->AM y.2.2=true->∀i j e,e∈RE i j ls->∃n u,e.1=(i,j+n)/\vs[n]?=some u/\LnOk S c w (Kok b S c) e.2 u y.2.2 G)
 | [],ts,_,y,.nil,h=>by
  rw [KP]at h;simp only [Tr.ev,AlV]at h;subst h;exact⟨λk hk=>(by cases hk),λk hk=>(by cases hk),[],λB _=>⟨rfl,rfl⟩,λ_=>by simp,λg hg=>(by cases hg),λ_ _ i j e he=>by cases he⟩
 | l::ls,ts,_,y,.cons (b:=v) (bs:=vs) h1 h2,h=>by
  rw [KP]at h;simp only [Af,AlY,Tr.ev,AlV]at h;obtain ⟨y1,hy1,y2,hy2,rfl⟩:=h;obtain ⟨k1,k2,G,k4,k5,k6,k7⟩:=RP hi h1 hy1;obtain ⟨m1,m2,H,m4,m5,m6,m7⟩:=QO hi h2 hy2;refine⟨CI k1 m1,CI k2 m2,G++H,λB hB=>⟨v,vs,G,H,rfl,rfl,k4 B λk hk=>hB k (by simp [hk]),m4 B λk hk=>hB k (by simp [hk])⟩,?_,?_,?_⟩
  rotate_left 2
  .intro hm hu i j e he;obtain ⟨u1,u2,_⟩:=AU hu;simp only [RE]at he;rcases Al3.1 he with he | he
   .obtain ⟨q1,q2⟩:=k7 hm _ e he;exact⟨0,v,q1,rfl,q2.left hi m6 k2 m2 hu⟩
   .obtain ⟨n,u,q1,q2,q3⟩:=m7 hm u2 i (j+1) e he;exact⟨n+1,u,by rw [q1];congr 1;omega,by simpa using q2,q3.right hi k6 k2 m2 hu⟩
  .intro hu;obtain ⟨u1,u2,_⟩:=AU hu;exact(CZ hi k6 m6 k2 m2 hu k5 (m5 u2)).2
  .intro g hg;rcases Al3.1 hg with hg | hg
   .obtain ⟨k,h,h'⟩:=k6 g hg;exact⟨k,by simp [h],h'⟩
   .obtain ⟨k,h,h'⟩:=m6 g hg;exact⟨k,by simp [h],h'⟩
abbrev plc (c:Cc) (p:(Nat×Nat)×List Ty):Nat×Nat:=(c.mb p.1.1,c.mo p.1.1+p.1.2)
structure AInv (b:Base) (S:St) (c:Cc) (w:World) (C:AC) (vals:List Value) (F:List Nat):Prop where
 fl:∀eb em,FL (A1Ok w (KB b S c (C.bw++eb)) ((C.ms++em).map (plc c))) C.as vals F
 held:CG c C.gv F
 gv:Ows S C.gv
 bw:True
 nd:AM C.gv=true->F.Nodup
 ms:∀p,p∈C.ms->∃n,S.ms p.1.1=some n/\(0 < n/\p.1.2+p.2.length<=n\/n=0/\p.1.2=0/\p.2=[.mp])
 un:(C.ms.map (·.1.1)).Nodup
 ln:AM C.gv=true->∀e,e∈C.ln->∃v,EO vals e.1=some v/\LnOk S c w (Kok b S c) e.2 v C.gv F
theorem FR {vals more:List Value} {p:Nat×Nat} {v:Value} (h:EO vals p=some v):EO (vals++more) p=some v:=by
 unfold EO at h ⊢;cases hv:vals[p.1]? with
 | none=>rw [hv]at h;cases h
 | some u=>
  have:(vals++more)[p.1]?=some u:=by rw [AmQ (Amy.1 hv).1];exact hv
  rw [this];rw [hv]at h;exact h
theorem Afa {vals:List Value} {v:Value} (hv:∀vs,v≠.agg vs):EO (vals++[v]) (vals.length,0)=some v:=by
 unfold EO;rw [AmE (Amu _),AnF];cases v <;> first | rfl | (exact absurd rfl (hv _))
theorem AgD {vals:List Value} {vs:List Value} {n:Nat} {u:Value} (hu:vs[n]?=some u):EO (vals++[.agg vs.toArray]) (vals.length,n)=some u:=by
 unfold EO;rw [AmE (Amu _),AnF];simpa using hu
theorem AInv.step (hi:Inv b S w c) {C:AC} {vals:List Value} {F:List Nat} (h:AInv b S c w C vals F) {a:A1} {v:Value} {bw gv:List Nat} {G:List Nat}
  (_h1:Ows S bw) (h2:Ows S gv) (h3:∀B ms,(∀k,k∈bw->k∈B)->A1Ok w (KB b S c B) ms a v G) (h4:AM gv=true->G.Nodup) (h5:CG c gv G)
  {L:List ((Nat×Nat)×Option (Nat×AT))} (h6:AM gv=true->∀e,e∈L->∃u,EO (vals++[v]) e.1=some u/\LnOk S c w (Kok b S c) e.2 u gv G) :
  AInv b S c w { C with as:=C.as++[a],bw:=C.bw++bw,gv:=C.gv++gv,ln:=C.ln++L } (vals++[v]) (F++G):=by
 refine⟨?_,?_,CI h.gv h2,trivial,?_,h.ms,h.un,?_⟩
 rotate_left 3
 .intro hu e he;obtain ⟨u1,u2,_⟩:=AU hu;rcases Al3.1 he with he | he
  .obtain ⟨u,q1,q2⟩:=h.ln u1 e he;exact⟨u,FR q1,q2.left hi h5 h.gv h2 hu⟩
  .obtain ⟨u,q1,q2⟩:=h6 u2 e he;exact⟨u,q1,q2.right hi h.held h.gv h2 hu⟩
 .intro eb em;have:=h.fl (bw++eb) em;rw [<- Al5]at this;exact this.snoc (h3 _ _ λk hk=>by simp [hk])
 .intro g hg;rcases Al3.1 hg with hg | hg
  .obtain ⟨k,q,q'⟩:=h.held g hg;exact⟨k,by simp [q],q'⟩
  .obtain ⟨k,q,q'⟩:=h5 g hg;exact⟨k,by simp [q],q'⟩
 .intro hu;obtain ⟨u1,u2,_⟩:=AU hu;exact(CZ hi h.held h5 h.gv h2 hu (h.nd u1) (h4 u2)).2
theorem TC:∀(l:List Nat) (k:Nat),l.contains k=true->l[l.findIdx (· == k)]?=some k
 | [],_,h=>by simp at h
 | x::l,k,h=>by
  rw [List.findIdx_cons];by_cases hx:x=k
  .subst hx;simp
  .have:(x == k)=false:=by simp [hx]
   rw [this];simp only [cond_false,Am3];refine TC l k ?_;simp only [List.contains_cons,Ang,beq_iff_eq]at h;exact h.resolve_left λh=>hx h.symm
theorem PX {C:AC} {vals:List Value} {F:List Nat} (hA:AInv b S c w C vals F) {k off n:Nat} {ts:Option (List Ty)} {y:(Nat×Nat)×AC} (hn:S.ms k=some n) (h:(L8 k off ts C).ev S=some y) :
  AInv b S c w y.2 vals F/\(∃more,y.2.ms=C.ms++more)/\(y.2.as=C.as/\y.2.bw=C.bw/\y.2.gv=C.gv)/\∀em,∃q,((y.2.ms++em).map (plc c))[y.1.1]?=some q/\q.1=c.mb k/\q.2+y.1.2=c.mo k+off:=by
 unfold L8 at h;split at h
 .rename_i ts;split at h
  .rename_i hc;have hf:=TC (C.ms.map (·.1.1)) k hc;split at h
   .rename_i m hm;split at h
    .rename_i hle;simp only [Tr.ev,AlV]at h;subst h;have hmk:m.1.1=k:=by
      rw [AmB,show C.ms[List.findIdx (· == k) (C.ms.map (·.1.1))]?=some m from hm]at hf;injection hf
     refine⟨hA,⟨[],Z⟩,⟨rfl,rfl,rfl⟩,λem=>⟨plc c m,?_,by rw [<- hmk],?_⟩⟩
     .have hlt:=(Amy.1 hm).1;rw [AmD,AmQ (by simpa using hlt),AmB,hm];rfl
     .show c.mo m.1.1+m.1.2+(off - m.1.2)=_;rw [hmk];omega
    .simp [Tr.ev]at h
   .simp [Tr.ev]at h
  .rename_i hc;simp only [Tr.ev,hn]at h;split at h
   .rename_i hle;simp only [Tr.ev,AlV]at h;subst h;refine⟨⟨λeb em=>?_,hA.held,hA.gv,hA.bw,hA.nd,?_,?_,hA.ln⟩,⟨_,rfl⟩,⟨rfl,rfl,rfl⟩,λem=>⟨(c.mb k,c.mo k+off),?_,rfl,rfl⟩⟩
    .have:=hA.fl eb (((k,off),ts)::em);simpa using this
    .intro p hp;rcases Al3.1 hp with hp | hp
     .exact hA.ms p hp
     .simp only [Al6]at hp;subst hp;exact⟨n,hn,.inl ⟨AnB hle.2,hle.1⟩⟩
    .rw [AmD,Amj];refine⟨hA.un,Z,?_⟩;rintro q hq q' hq' rfl;simp only [AmF,Aof,Al6]at hq';subst hq';exact hc (by simpa using hq)
    .rw [Al5,AmD,AmE Z];simp
   .simp [Tr.ev]at h
 .simp [Tr.ev]at h
theorem Ad5 {C:AC} {k off n:Nat} {ts:Option (List Ty)} {y:(Nat×Nat)×AC} (hn:S.ms k=some n) (h:(L8 k off ts C).ev S=some y):y.2.ln=C.ln:=by
 unfold L8 at h;split at h
 .split at h
  .split at h
   .split at h
    .simp only [Tr.ev,AlV]at h;subst h;rfl
    .simp [Tr.ev]at h
   .simp [Tr.ev]at h
  .simp only [Tr.ev,hn]at h;split at h
   .simp only [Tr.ev,AlV]at h;subst h;rfl
   .simp [Tr.ev]at h
 .simp [Tr.ev]at h
theorem Aei {C C':AC} {vals:List Value} {F:List Nat} (hA:AInv b S c w C vals F) {k:Nat} (hc:k∉C.ms.map (·.1.1)) (h:(XD k C).ev S=some C') :
  AInv b S c w C' vals F/\(∃more,C'.ms=C.ms++more)/\C'.as=C.as/\C'.bw=C.bw/\C'.gv=C.gv/\C'.ln=C.ln:=by
 simp only [XD,Tr.ev]at h;split at h
 .rename_i hn;simp only [Tr.ev,AlV]at h;subst h;refine⟨⟨λeb em=>?_,hA.held,hA.gv,hA.bw,hA.nd,?_,?_,hA.ln⟩,⟨_,rfl⟩,rfl,rfl,rfl,rfl⟩
  .have:=hA.fl eb (((k,0),[.mp])::em);simpa using this
  .intro p hp;rcases Al3.1 hp with hp | hp
   .exact hA.ms p hp
   .simp only [Al6]at hp;subst hp;exact⟨0,hn,.inr ⟨rfl,rfl,rfl⟩⟩
  .rw [AmD,Amj];refine⟨hA.un,Z,?_⟩;rintro q hq q' hq' rfl;simp only [AmF,Aof,Al6]at hq';subst hq';exact hc hq
 .simp [Tr.ev]at h
def Agd (c:Cc) (C:AC) (p:Nat×Nat) (v:Value):Prop:=∀em,∃g,((C.ms++em).map (plc c))[p.1]?=some g/\v=.pointer (some ⟨g.1,g.2+p.2,none⟩)
theorem Ss:∀(cs:List (Nat×Nat)) (tss:List (List Ty)) {vs:List Value} {C:AC} {vals:List Value} {F:List Nat} {y:List (Nat×Nat)×AC},All2 (UX S c) cs vs->AInv b S c w C vals F->(Rc cs tss C).ev S=some y->
  AInv b S c w y.2 vals F/\((∃more,y.2.ms=C.ms++more)/\y.2.as=C.as/\y.2.bw=C.bw/\y.2.gv=C.gv)/\All2 (Agd c y.2) y.1 vs
 | [],tss,_,C,vals,F,y,.nil,hA,h=>by
  rw [Rc]at h;simp only [Tr.ev,AlV]at h;subst h;exact⟨hA,⟨⟨[],Z⟩,rfl,rfl,rfl⟩,.nil⟩
 | p::cs,tss,_,C,vals,F,y,.cons (b:=v) (bs:=vs) h1 h2,hA,h=>by
  rw [Rc]at h;simp only [Af,AlY,Tr.ev,AlV]at h;obtain ⟨y1,hy1,y2,hy2,rfl⟩:=h;obtain ⟨n,hn,rfl⟩:=h1;obtain ⟨q1,⟨m1,e1⟩,⟨a1,a2,a3⟩,q4⟩:=PX hA hn hy1;obtain ⟨r1,⟨⟨m2,e2⟩,b1,b2,b3⟩,r3⟩:=Ss cs _ h2 q1 hy2;refine⟨r1,⟨⟨m1++m2,by rw [e2,e1,Al5]⟩,b1.trans a1,b2.trans a2,b3.trans a3⟩,.cons (λem=>?_) r3⟩;obtain ⟨q,g1,g2,g3⟩:=q4 (m2++em);exact⟨q,by rw [e2,Al5];exact g1,by rw [g2,g3]⟩
theorem Ac0 (hi:Inv b S w c) {l:Leaf} {v:Value} (hl:LeafOk S c w (Kok b S c) l v) {p:Nat×Nat} {e:(Nat×Nat)×Option (Nat×AT)} (he:e∈L7 p l):∀vs,v≠.agg vs:=by
 intro vs;cases l with
 | vw k st win=>obtain ⟨A,n,cap,rfl⟩:=SP hi hl;simp
 | nil=>rw [show v=.slice none 0 0 from hl];simp
 | v t x=>cases he
 | qn q=>cases he
 | p k off=>cases he
 | np=>cases he
 | mh k=>cases he
 | md xs=>cases he
 | no=>cases he
theorem AcT {t:Ty} {l:Leaf} {y:Ae×List Nat×List Nat} (h:(IN false t l).ev S=some y):y.2.2=[]:=by
 unfold IN at h;split at h
 .simp only [Tr.ev,AlV]at h;subst h;rfl
 .split at h
  .simp only [Al8,Amv,Tr.ev,AlV]at h;subst h;rfl
  .simp [Tr.ev]at h
 .simp only [Al8,Amv,Af,AlY,Tr.ev,AlV]at h;obtain ⟨o,_,h⟩:=h;subst h;rfl
 .simp [Tr.ev]at h
theorem R7 (hi:Inv b S w c) (k:Nat):∀(ts:List Ty) (i:Nat) (vs:List Value) {y:List Ae×List Nat},vs.length=ts.length->(∀j v,vs[j]?=some v->LeafOk S c w (Kok b S c) (S.mc k (i+j)) v)->(Ml k ts i).ev S=some y->
  ∀B,(∀k',k'∈y.2->k'∈B)->FL (ALOk w (KB b S c B)) y.1 vs []
 | [],i,vs,y,hl,_,h=>by
  rw [Ml]at h;simp only [Tr.ev,AlV]at h;subst h;obtain rfl:vs=[]:=Amo hl;exact λB _=>⟨rfl,rfl⟩
 | t::ts,i,[],y,hl,_,_=>by simp at hl
 | t::ts,i,v::vs,y,hl,hc,h=>by
  rw [Ml]at h;simp only [Tr.ev,Af,AlY,AlV]at h;obtain ⟨y1,hy1,y2,hy2,rfl⟩:=h;obtain ⟨k1,k2,k3,G,k4,k5,k6⟩:=Ld hi (hc 0 v rfl) hy1;have hG:G=[]:=by
   rw [AcT hy1]at k6;cases G with
   | nil=>rfl
   | cons g G=>obtain ⟨k,hk,_⟩:=k6 g Z;cases hk
  subst hG;have m:=R7 hi k ts (i+1) vs (by simpa using hl) (λj v hv=>by
   have:=hc (j+1) v (by simpa using hv)
   rwa [(O:i+(j+1)=i+1+j)]at this) hy2
  exact λB hB=>⟨v,vs,[],[],rfl,rfl,k4 B λk hk=>hB k (by simp [hk]),m B λk hk=>hB k (by simp [hk])⟩
theorem M6 {K:Nat->Prop}:∀(ls:List Ae) {vs:List Value},FL (ALOk w K) ls vs []->Rp w K (B9 ls).1 (B9 ls).2 vs []
 | [],vs,h=>by
  obtain ⟨rfl,_⟩:=h;rw [B9,Rp];exact⟨rfl,rfl⟩
 | [l],vs,h=>by
  obtain ⟨v,vs',F1,F2,rfl,hF,h1,rfl,rfl⟩:=h;obtain ⟨rfl,_⟩:=An5.1 hF.symm;exact h1.1
 | l::m::ls,vs,h=>by
  obtain ⟨v,vs',F1,F2,rfl,hF,h1,h2⟩:=h;obtain ⟨rfl,rfl⟩:=An5.1 hF.symm;have:=M6 (m::ls) h2;rw [B9,Rp];exact⟨[v],vs',[],[],rfl,rfl,h1.1,this⟩
theorem Tt {K:Nat->Prop} {t:Ty} {x:t.D} {vs:List Value} (h:Rp w K t x vs []):∀(n i:Nat) {ls:List Ae},On t x i n=some ls->
  ∃ws,FL (ALOk w K) ls ws []/\(∀j,j < ws.length->vs[i+j]?=ws[j]?)/\∀j,j < ws.length->i+j < vs.length
 | 0,i,ls,hl=>by
  simp only [On,AlV]at hl;subst hl;exact⟨[],⟨rfl,rfl⟩,λj hj=>by simp at hj,λj hj=>by simp at hj⟩
 | n+1,i,ls,hl=>by
  simp only [On]at hl;split at hl
  .rename_i c0 ls' hc hl';injection hl with hl
   subst hl;obtain ⟨ws,k1,k2,k3⟩:=Tt h n (i+1) hl';obtain ⟨pre,u,post,Fa,G,Fb,rfl,hpl,hF,hu,_⟩:=Rp.cell t x i h hc;obtain ⟨rfl,h4⟩:=An5.1 hF.symm;obtain ⟨rfl,rfl⟩:=An5.1 h4;refine⟨u::ws,⟨u,ws,[],[],rfl,rfl,⟨hu,λ_=>rfl⟩,k1⟩,λj hj=>?_,λj hj=>?_⟩
   .cases j with
    | zero=>rw [Anq,AmE O,hpl,AnF];rfl
    | succ j=>
     have:=k2 j (by simpa using hj);rw [(O:i+(j+1)=i+1+j),this];rfl
   .cases j with
    | zero=>simp only [Al0,Al7];omega
    | succ j=>
     have:=k3 j (by simpa using hj);omega
  .cases hl
theorem FX (hi:Inv b S w c) {E:Env} {d:Nat}:∀(xs:List (SV×TypeId)) (mvs:List Nat) (us:List Value) (C:AC) (vals:List Value) (F:List Nat) {C':AC},All2 (λx u=>AQ S c w (Kok b S c) x.1 u) xs us->AInv b S c w C vals F->
  (Ik E d mvs xs C).ev S=some C'->∃F',AInv b S c w C' (vals++us) F'
 | [],mvs,_,C,vals,F,C',.nil,hA,h=>by
  rw [Ik]at h;simp only [Tr.ev,AlV]at h;subst h;exact⟨F,by rw [Amf];exact hA⟩
 | (x,t)::xs,mvs,_,C,vals,F,C',.cons (b:=u) (bs:=us) h1 h2,hA,h=>by
  unfold Ik at h;rw [show vals++u::us=(vals++[u])++us by simp];simp only at h h1;split at h
  .simp only [Af,AlY]at h;obtain ⟨y,hy,h⟩:=h;rename_i l;obtain ⟨k1,k2,G,k4,k5,k6,k7⟩:=RP hi (AW h1) hy;refine FX hi xs _ us _ _ _ h2 (hA.step hi (a:=.one y.1) k1 k2 (λB ms hB=>k4 B hB) (λ_=>k5) k6 ?_) h;intro _ e he;split at he
   .rename_i hm;obtain ⟨q1,q2⟩:=k7 hm _ e he;have hlen:C.as.length=vals.length:=(hA.fl [] []).len.symm;refine⟨u,?_,q2⟩;rw [q1,hlen];exact Afa (Ac0 hi (AW h1) he)
   .cases he
  .simp only [Af,AlY]at h;obtain ⟨y,hy,h⟩:=h;obtain ⟨vs,rfl,hall⟩:=h1;obtain ⟨k1,k2,G,k4,k5,k6,k7⟩:=QO hi hall hy;refine FX hi xs _ us _ _ _ h2 (hA.step hi (a:=.ag y.1) k1 k2 (λB ms hB=>⟨vs,rfl,k4 B hB⟩) k5 k6 ?_) h;intro hu e he;split at he
   .rename_i hm;obtain ⟨n,u,q1,q2,q3⟩:=k7 hm hu _ _ e he;have hlen:C.as.length=vals.length:=(hA.fl [] []).len.symm;refine⟨u,?_,q3⟩;rw [q1,hlen,Amk];exact AgD q2
   .cases he
  .rename_i u' x' off;have hx:AInv b S c w { C with as:=C.as++[A1.rp u' x' off] } (vals++[u]) F:=by
    refine⟨λeb em=>?_,hA.held,hA.gv,hA.bw,hA.nd,hA.ms,hA.un,λhu e he=>(hA.ln hu e he).imp λ_ h=>⟨FR h.1,h.2⟩⟩;obtain ⟨a,vs,e,q1,q2,q3,q4⟩:=h1;have:=(hA.fl eb em).snoc (x:=A1.rp u' x' off) (v:=u) (G:=[]) ⟨rfl,a,vs,e,Rp.mono (λg _ h=>.inl h) _ _ q1,.inl q2,q3,q4⟩
    rwa [Amf]at this
   split at h
   .split at h
    .split at h
     .exact FX hi xs _ us _ _ _ h2 hx h
     .split at h
      .rename_i ls hls;obtain ⟨a,vs,e,q1,q2,q3,q4⟩:=h1;obtain ⟨ws,k1,k2,k3⟩:=Tt q1 _ _ hls;have hx2:AInv b S c w { C with as:=C.as++[A1.rp (B9 ls).1 (B9 ls).2 0] } (vals++[u]) F:=by
        refine⟨λeb em=>?_,hA.held,hA.gv,hA.bw,hA.nd,hA.ms,hA.un,λhu e he=>(hA.ln hu e he).imp λ_ h=>⟨FR h.1,h.2⟩⟩;have:=(hA.fl eb em).snoc (x:=A1.rp (B9 ls).1 (B9 ls).2 0) (v:=u) (G:=[]) ⟨rfl,a.add off,ws,by rw [e,add_add,Anq],M6 _ (k1.mono λ_ _ _ h=>ALOk.mono (λg _ h=>.inl h) h),by rw [DB];exact .inl q2,by rw [DB];exact q3,λj hj=>by
         rw [add_add,q4 _ (k3 j hj)];exact k2 j hj⟩
        rwa [Amf]at this
       exact FX hi xs _ us _ _ _ h2 hx2 h
      .simp [Tr.ev]at h
    .simp [Tr.ev]at h
   .exact FX hi xs _ us _ _ _ h2 hx h
  .rename_i k off;split at h
   .split at h
    .rename_i ts _;simp only [Tr.ev]at h;obtain ⟨n,hn,rfl⟩:=h1;simp only [hn]at h;split at h
     .rename_i hle;simp only [Af,AlY]at h;obtain ⟨y,hy,h⟩:=h;obtain ⟨hle,hn0⟩:=hle;obtain ⟨cs,e,fr,g1,g2,g3,g4,_⟩:=hi.ms k _ hn (AnB hn0);have hwl:((cs.toList.drop (c.mo k+off)).take ts.length).length=ts.length:=by
       rw [Al4,Amm,AnQ (xs:=cs)];omega
      have hwg:∀j,j < ts.length->((cs.toList.drop (c.mo k+off)).take ts.length)[j]?=cs[c.mo k+(off+j)]?:=by
       intro j hj;rw [Ami hj,AmC,Amh,Ani]
      have hfl:=R7 hi k ts off _ hwl (λj v hv=>by
       have hj:j < ts.length:=by rw [<- hwl];exact(Amy.1 hv).1
       rw [hwg j hj]at hv;exact g4 (off+j) v O hv) hy
      have hlt:c.mb k < w.heap.size:=(hi.fr _ (.inl ⟨k,by rw [hn];simp,rfl⟩)).1;have hx:AInv b S c w { C with as:=C.as++[A1.rp (B9 y.1).1 (B9 y.1).2 0],bw:=C.bw++k::y.2 } (vals++[.pointer (some ⟨c.mb k,c.mo k+off,none⟩)]) F:=by
       refine⟨λeb em=>?_,hA.held,hA.gv,trivial,hA.nd,hA.ms,hA.un,λhu e he=>(hA.ln hu e he).imp λ_ h=>⟨FR h.1,h.2⟩⟩;have h0:=hA.fl ((k::y.2)++eb) em;rw [<- Al5]at h0;have:=h0.snoc (x:=A1.rp (B9 y.1).1 (B9 y.1).2 0) (v:=.pointer (some ⟨c.mb k,c.mo k+off,none⟩)) (G:=[]) ⟨rfl,⟨c.mb k,c.mo k+off,none⟩,_,by simp [Addr.add],M6 _ (hfl _ λk' hk'=>by simp [hk']),
        .inr (.inr ⟨k,Z,by rw [hn];simp,rfl⟩),hlt,λj hj=>by
         rw [Bb,Bc g1,Ani];exact(hwg j O).symm⟩
       rwa [Amf]at this
      exact FX hi xs _ us _ _ _ h2 hx h
     .simp [Tr.ev]at h
    .simp [Tr.ev]at h
   simp only [Af,AlY]at h;obtain ⟨y,hy,h⟩:=h;obtain ⟨n,hn,rfl⟩:=h1;obtain ⟨q1,q2,_,q4⟩:=PX hA hn hy;have hx:AInv b S c w { y.2 with as:=y.2.as++[A1.pl y.1.1 y.1.2] } (vals++[.pointer (some ⟨c.mb k,c.mo k+off,none⟩)]) F:=by
    refine⟨λeb em=>?_,q1.held,q1.gv,q1.bw,q1.nd,q1.ms,q1.un,λhu e he=>(q1.ln hu e he).imp λ_ h=>⟨FR h.1,h.2⟩⟩;obtain ⟨q,g1,g2,g3⟩:=q4 em;have:=(q1.fl eb em).snoc (x:=A1.pl y.1.1 y.1.2) (v:=.pointer (some ⟨c.mb k,c.mo k+off,none⟩)) (G:=[]) ⟨rfl,q,g1,by rw [g2,g3]⟩
    rwa [Amf]at this
   exact FX hi xs _ us _ _ _ h2 hx h
  .rename_i f cs;simp only [Af,AlY]at h;obtain ⟨y,hy,h⟩:=h;obtain ⟨vs,rfl,hvs⟩:=h1;obtain ⟨q1,_,q2⟩:=Ss cs _ hvs hA hy;have hx:AInv b S c w { y.2 with as:=y.2.as++[A1.fv f y.1] } (vals++[.func (.func f) #[] vs.toArray]) F:=by
    refine⟨λeb em=>?_,q1.held,q1.gv,q1.bw,q1.nd,q1.ms,q1.un,λhu e he=>(q1.ln hu e he).imp λ_ h=>⟨FR h.1,h.2⟩⟩;have:=(q1.fl eb em).snoc (x:=A1.fv f y.1) (v:=.func (.func f) #[] vs.toArray) (G:=[]) ⟨rfl,vs,rfl,q2.mono λp v h=>⟨_,(h em).choose_spec⟩⟩
    rwa [Amf]at this
   exact FX hi xs _ us _ _ _ h2 hx h
  .simp [Tr.ev]at h
abbrev loc (mb mo:Nat->Nat) (p:Nat×Nat):Nat×Nat:=(mb p.1,mo p.1+p.2)
theorem AcC (hi:Inv b S w c) {mk:List (Nat×Nat)} {t:Ty} {l:Leaf} {v:Value} {y:Ae×List Nat×List Nat} (hl:LeafOk S c w (Kok b S c) l v) (h:(Q7 mk t l).ev S=some y) :
  Ows S y.2.2/\∃G,(∀B,ROk w (KB b S c B) (mk.map (loc c.mb c.mo)) y.1 v G)/\G.Nodup/\CG c y.2.2 G:=by
 unfold Q7 at h;split at h
 .rename_i k off;split at h
  .rename_i a ha;simp only [Tr.ev,AlV]at h;subst h;obtain ⟨n,_,rfl⟩:=hl;unfold Abx at ha;split at ha
   .rename_i m hm;split at ha
    .rename_i hmk;injection ha with ha
     subst ha;refine⟨λk hk=>(by cases hk),[],λB=>.inr (.inl ⟨rfl,_,_,rfl,by rw [AmB,hm];rfl,?_⟩),Z,λg hg=>(by cases hg)⟩;simp only [loc,hmk.1]
     congr 3
     omega
    .cases ha
   .cases ha
  .simp [Tr.ev]at h
 .rename_i k;split at h
  .rename_i a ha;simp only [Tr.ev,AlV]at h;subst h;obtain ⟨hk0,rfl⟩:=hl;obtain ⟨_,_,es,hes,_⟩:=hi.mp _ hk0;unfold Abc at ha;split at ha
   .rename_i m hm;split at ha
    .rename_i hmk;injection ha with ha
     subst ha;refine⟨λk hk=>(by cases hk),[],λB=>.inr (.inr ⟨rfl,_,_,rfl,by rw [AmB,hm];rfl,?_,es,es.size,?_⟩),Z,λg hg=>(by cases hg)⟩
     .simp only [loc,hmk]
     .simp only [loc,hmk];exact hes
    .cases ha
   .cases ha
  .simp [Tr.ev]at h
 .exact hl.elim
 .obtain ⟨k1,k2,k3,G,k4,k5,k6⟩:=Ld hi hl h;exact⟨k2,G,λB=>.inl (k4 B λk hk=>by rw [k3 rfl]at hk;cases hk),k5,k6⟩
theorem QA (hi:Inv b S w c) (mk:List (Nat×Nat)) (k:Nat):∀(ts:List Ty) (i:Nat) (vs:List Value) {y:List Ae×List Nat},vs.length=ts.length->(∀j v,vs[j]?=some v->LeafOk S c w (Kok b S c) (S.mc k (i+j)) v)->(IW mk k ts i).ev S=some y->
  Ows S y.2/\∃G,(∀B,FL (ROk w (KB b S c B) (mk.map (loc c.mb c.mo))) y.1 vs G)/\(AM y.2=true->G.Nodup)/\CG c y.2 G
 | [],i,vs,y,hl,_,h=>by
  rw [IW]at h;simp only [Tr.ev,AlV]at h;subst h;obtain rfl:vs=[]:=Amo hl;exact⟨λk hk=>(by cases hk),[],λB=>⟨rfl,rfl⟩,λ_=>by simp,λg hg=>(by cases hg)⟩
 | t::ts,i,[],y,hl,_,_=>by simp at hl
 | t::ts,i,v::vs,y,hl,hc,h=>by
  rw [IW]at h;simp only [Tr.ev,Af,AlY,AlV]at h;obtain ⟨y1,hy1,y2,hy2,rfl⟩:=h;obtain ⟨k2,G,k4,k5,k6⟩:=AcC hi (hc 0 v rfl) hy1;obtain ⟨m2,H,m4,m5,m6⟩:=QA hi mk k ts (i+1) vs (by simpa using hl) (λj v hv=>by
   have:=hc (j+1) v (by simpa using hv)
   rwa [(O:i+(j+1)=i+1+j)]at this) hy2
  refine⟨CI k2 m2,G++H,λB=>⟨v,vs,G,H,rfl,rfl,k4 B,m4 B⟩,?_,?_⟩
  .intro hu;obtain ⟨u1,u2,_⟩:=AU hu;exact(CZ hi k6 m6 k2 m2 hu k5 (m5 u2)).2
  .intro g hg;rcases Al3.1 hg with hg | hg
   .obtain ⟨k,h,h'⟩:=k6 g hg;exact⟨k,by simp [h],h'⟩
   .obtain ⟨k,h,h'⟩:=m6 g hg;exact⟨k,by simp [h],h'⟩
theorem VK (hi:Inv b S w c) (mk:List (Nat×Nat)):∀(ms:List ((Nat×Nat)×List Ty)) {y:List (List Ae)×List Nat},(∀p,p∈ms->∃n,S.ms p.1.1=some n/\(0 < n/\p.1.2+p.2.length<=n\/n=0/\p.1.2=0/\p.2=[.mp]))->(Qs mk ms).ev S=some y->
  Ows S y.2/\∃G,(∀B,RowsOk w (KB b S c B) (mk.map (loc c.mb c.mo)) (ms.map (plc c)) y.1 G)/\(AM y.2=true->G.Nodup)/\CG c y.2 G
 | [],y,_,h=>by
  rw [Qs]at h;simp only [Tr.ev,AlV]at h;subst h;exact⟨λk hk=>(by cases hk),[],λB=>⟨rfl,rfl⟩,λ_=>by simp,λg hg=>(by cases hg)⟩
 | ((k,o),ts)::ms,y,hm,h=>by
  rw [Qs]at h;simp only [Tr.ev,Af,AlY,AlV]at h;obtain ⟨y1,hy1,y2,hy2,rfl⟩:=h;obtain ⟨n,hk,hle⟩:=hm ((k,o),ts) Z;simp only at hk hle hy1;obtain ⟨m2,H,m4,m5,m6⟩:=VK hi mk ms (λp hp=>hm p (by simp [hp])) hy2;rcases hle with⟨hn0,hle⟩ | ⟨rfl,rfl,rfl⟩
  rotate_left
  .obtain ⟨xs,hxs,hmap⟩:=hi.mp k hk;simp only [IW,Tr.ev,hxs,Q7,Af,AlU,AlV]at hy1;subst hy1;exact⟨CI (λk hk=>by cases hk) m2,H,λB=>⟨_,_,[],H,rfl,rfl,.inr ⟨xs,rfl,hmap,rfl⟩,m4 B⟩,λhu=>m5 (by simpa using hu),λg hg=>by simpa using m6 g hg⟩
  obtain ⟨cs,e,fr,h1,h2,h3,h4,_⟩:=hi.ms k _ hk hn0;have hwl:((cs.toList.drop (c.mo k+o)).take ts.length).length=ts.length:=by
   rw [Al4,Amm,AnQ (xs:=cs)];omega
  obtain ⟨k2,G,k4,k5,k6⟩:=QA hi mk k ts o _ hwl (λj v hv=>by
   have hj:j < ts.length:=by rw [<- hwl];exact(Amy.1 hv).1
   rw [Ami hj,AmC,Amh,Ani]at hv;exact h4 (o+j) v O hv) hy1
  have hl1:y1.1.length=ts.length:=by rw [<- hwl];exact(k4 []).len.symm
  refine⟨CI k2 m2,G++H,λB=>⟨y1.1,y2.1,G,H,rfl,rfl,.inl ⟨cs,e,fr,h1,h3,by rw [hl1];show c.mo k+o+ts.length<=_;omega,by rw [hl1];exact k4 B⟩,m4 B⟩,?_,?_⟩
  .intro hu;obtain ⟨u1,u2,_⟩:=AU hu;exact(CZ hi k6 m6 k2 m2 hu (k5 u1) (m5 u2)).2
  .intro g hg;rcases Al3.1 hg with hg | hg
   .obtain ⟨k,h,h'⟩:=k6 g hg;exact⟨k,by simp [h],h'⟩
   .obtain ⟨k,h,h'⟩:=m6 g hg;exact⟨k,by simp [h],h'⟩
theorem Gn (k:Nat):∀(n j:Nat) (ts:List (List Ty)) {C:AC} {vals:List Value} {F:List Nat} {y:List (List Ty)×AC},AInv b S c w C vals F->(FJ k n j ts C).ev S=some y->
  AInv b S c w y.2 vals F/\(∃more,y.2.ms=C.ms++more)/\y.2.as=C.as/\y.2.bw=C.bw/\y.2.gv=C.gv/\y.2.ln=C.ln
 | 0,j,ts,C,vals,F,y,hA,h=>by
  simp only [FJ,Tr.ev,AlV]at h;subst h;exact⟨hA,⟨[],Z⟩,rfl,rfl,rfl,rfl⟩
 | n+1,j,ts,C,vals,F,y,hA,h=>by
  simp only [FJ,Tr.ev]at h;split at h
  .rename_i k' _ _;split at h
   .exact Gn k n (j+1) ts hA h
   .simp only [Tr.ev]at h;split at h
    .rename_i hm;obtain ⟨m,hm⟩:=AnU.1 hm;simp only [Af,AlY]at h;obtain ⟨y1,hy1,h⟩:=h;obtain ⟨q1,⟨m1,e1⟩,⟨a1,a2,a3⟩,_⟩:=PX hA hm hy1;obtain ⟨r1,⟨m2,e2⟩,b1,b2,b3,b4⟩:=Gn k n (j+1) ts.tail q1 h;exact⟨r1,⟨m1++m2,by rw [e2,e1,Al5]⟩,b1.trans a1,b2.trans a2,b3.trans a3,b4.trans (Ad5 hm hy1)⟩
    .simp [Tr.ev]at h
  .rename_i k' _;split at h
   .exact Gn k n (j+1) ts hA h
   .rename_i hc;simp only [Af,AlY]at h;obtain ⟨y1,hy1,h⟩:=h;obtain ⟨q1,⟨m1,e1⟩,a1,a2,a3,a4⟩:=Aei hA (by simpa using hc) hy1;obtain ⟨r1,⟨m2,e2⟩,b1,b2,b3,b4⟩:=Gn k n (j+1) ts q1 h;exact⟨r1,⟨m1++m2,by rw [e2,e1,Al5]⟩,b1.trans a1,b2.trans a2,b3.trans a3,b4.trans a4⟩
  .exact Gn k n (j+1) ts hA h
theorem VS:∀(n i:Nat) (ts:List (List Ty)) {C C':AC} {vals:List Value} {F:List Nat},AInv b S c w C vals F->(Qi n i ts C).ev S=some C'->
  AInv b S c w C' vals F/\(∃more,C'.ms=C.ms++more)/\C'.as=C.as/\C'.bw=C.bw/\C'.gv=C.gv/\C'.ln=C.ln
 | 0,i,ts,C,C',vals,F,hA,h=>by
  simp only [Qi,Tr.ev,AlV]at h;subst h;exact⟨hA,⟨[],Z⟩,rfl,rfl,rfl,rfl⟩
 | n+1,i,ts,C,C',vals,F,hA,h=>by
  simp only [Qi]at h;split at h
  .simp only [Af,AlY]at h;obtain ⟨y,hy,h⟩:=h;obtain ⟨q1,⟨m1,e1⟩,a1,a2,a3,a4⟩:=Gn _ _ _ _ hA hy;obtain ⟨r1,⟨m2,e2⟩,b1,b2,b3,b4⟩:=VS n (i+1) y.1 q1 h;exact⟨r1,⟨m1++m2,by rw [e2,e1,Al5]⟩,b1.trans a1,b2.trans a2,b3.trans a3,b4.trans a4⟩
  .simp only [Tr.ev,AlV]at h;subst h;exact⟨hA,⟨[],Z⟩,rfl,rfl,rfl,rfl⟩
end
end Go.V
namespace Go.V
open Go.RowKit
theorem AL {β:Type}:∀{l:List (Nat×β)} {k:Nat} {x:β},find l k=some x->(k,x)∈l
 | [],_,_,h=>by simp [find]at h
 | (i,y)::l,k,x,h=>by
  simp only [find]at h;split at h
  .rename_i hk;subst hk;injection h with h;subst h;simp
  .exact Am2 _ (AL h)
theorem Do {β:Type}:∀{l:List (Nat×β)} {k:Nat} {x:β},(l.map (·.1)).Nodup->(k,x)∈l->find l k=some x
 | [],_,_,_,h=>by cases h
 | (i,y)::l,k,x,hn,h=>by
  rw [AmF,AmP]at hn;simp only [find];rcases Ame.1 h with h' | h'
  .injection h' with h1 h2;subst h1 h2;simp
  .have hne:¬ k=i:=by
    rintro rfl;exact hn.1 (Aml.2 ⟨(k,x),h',rfl⟩)
   rw [AlZ hne];exact Do hn.2 h'
theorem IO {β:Type}:∀{l:List (Nat×β)} {k:Nat},k∉l.map (·.1)->find l k=none
 | [],_,_=>rfl
 | (i,y)::l,k,h=>by
  simp only [AmF,Ame,not_or]at h;simp only [find,AlZ h.1];exact IO h.2
theorem BX:∀{l:List Nat},AM l=true->l.Nodup
 | [],_=>by simp
 | k::l,h=>by
  obtain ⟨h1,h2⟩:=Sf h;exact AmP.2 ⟨h1,BX h2⟩
theorem Tb:∀(l:List (Nat×Own)) (S:St),(l.map (·.1)).Nodup->(S.ups (Ho l)).ms=S.ms/\(S.ups (Ho l)).mc=S.mc/\(S.ups (Ho l)).sl=S.sl/\∀k,(S.ups (Ho l)).ow k=match find l k with | some o=>some o | none=>S.ow k
 | [],S,_=>⟨rfl,rfl,rfl,λ_=>rfl⟩
 | p::l,S,h=>by
  rw [AmF,AmP]at h;obtain ⟨h1,h2,h3,h4⟩:=Tb l (S.up (.ow p.1 (some p.2))) h.2;refine⟨h1,h2,h3,λk=>?_⟩;show((S.up (.ow p.1 (some p.2))).ups (Ho l)).ow k=_;rw [h4];obtain ⟨i,o⟩:=p;simp only [find];by_cases hk:k=i
  .subst hk;rw [IO h.1];simp [St.up]
  .simp only [AlZ hk];have:(S.up (.ow i (some o))).ow k=S.ow k:=by show(if k=i then some o else S.ow k)=_;rw [AlZ hk]
   rw [this]
theorem ZF (k:Nat):∀(ls:List Leaf) (off:Nat) (S:St),(S.ups (HM k ls off)).ms=S.ms/\(S.ups (HM k ls off)).ow=S.ow/\(S.ups (HM k ls off)).sl=S.sl/\
  ∀k' i,(S.ups (HM k ls off)).mc k' i=if k'=k/\off<=i/\i < off+ls.length then ls.getD (i - off) .no else S.mc k' i
 | [],off,S=>⟨rfl,rfl,rfl,λk' i=>by rw [AlZ (by simp only [Amp];omega)];rfl⟩
 | l::ls,off,S=>by
  obtain ⟨h1,h2,h3,h4⟩:=ZF k ls (off+1) (S.up (.mc k off l));refine⟨h1,h2,h3,λk' i=>?_⟩;show((S.up (.mc k off l)).ups (HM k ls (off+1))).mc k' i=_;rw [h4];by_cases hk:k'=k
  .subst hk;by_cases h5:off+1<=i/\i < off+1+ls.length
   .rw [Al1 ⟨rfl,h5⟩,Al1 ⟨rfl,by simp only [Al7];omega⟩,(O:i - off=(i - (off+1))+1),List.getD_cons_succ]
   .rw [AlZ (by rintro ⟨_,h⟩;exact h5 h)];show(if k'=k' then(if i=off then l else S.mc k' i)else S.mc k' i)=_;rw [Al1 rfl];by_cases hio:i=off
    .subst hio;rw [Al1 rfl,Al1 ⟨rfl,by simp only [Al7];omega⟩,AnF];rfl
    .rw [AlZ hio,AlZ (by simp only [Al7];omega)]
  .rw [AlZ (by rintro ⟨h,_⟩;exact hk h),AlZ (by rintro ⟨h,_⟩;exact hk h)];show(if k'=k then _ else S.mc k' i)=_;rw [AlZ hk]
theorem Zc:∀(l:List ((Nat×Nat)×List Leaf)) (S:St),(l.map (·.1.1)).Nodup->(S.ups (Ih l)).ms=S.ms/\(S.ups (Ih l)).ow=S.ow/\(S.ups (Ih l)).sl=S.sl/\
  (∀k i,k∉l.map (·.1.1)->(S.ups (Ih l)).mc k i=S.mc k i)/\∀p,p∈l->∀i,(S.ups (Ih l)).mc p.1.1 i=if p.1.2<=i/\i < p.1.2+p.2.length then p.2.getD (i - p.1.2) .no else S.mc p.1.1 i
 | [],S,_=>⟨rfl,rfl,rfl,λ_ _ _=>rfl,λ_ h=>by cases h⟩
 | p::l,S,h=>by
  rw [AmF,AmP]at h;obtain ⟨a1,a2,a3,a4⟩:=ZF p.1.1 p.2 p.1.2 S;obtain ⟨h1,h2,h3,h4,h5⟩:=Zc l (S.ups (HM p.1.1 p.2 p.1.2)) h.2;have e:S.ups (Ih (p::l))=(S.ups (HM p.1.1 p.2 p.1.2)).ups (Ih l):=Ew _ _ _;rw [e];refine⟨h1.trans a1,h2.trans a2,h3.trans a3,λk i hk=>?_,λq hq i=>?_⟩
  .simp only [AmF,Ame,not_or]at hk;rw [h4 k i hk.2,a4,AlZ (by rintro ⟨h,_⟩;exact hk.1 h)]
  .rcases Ame.1 hq with rfl | hq
   .rw [h4 _ i h.1,a4];by_cases hc:q.1.2<=i/\i < q.1.2+q.2.length
    .rw [Al1 ⟨rfl,hc⟩,Al1 hc]
    .rw [AlZ (λh=>hc h.2),AlZ hc]
   .rw [h5 q hq i,a4];have hne:¬ q.1.1=p.1.1:=λhx=>h.1 (hx ▸ Aml.2 ⟨q,hq,rfl⟩)
    rw [AlZ (λh:q.1.1=p.1.1/\p.1.2<=i/\i < p.1.2+p.2.length=>hne h.1)]
def J0 (w:World) (K:Nat->Prop) (p:Nat×Own) (n:New) (F:List Nat):Prop:=n.o=p.2/\F=n.F/\Rp w K (.sl true n.o.e n.o.r) n.o.xs [n.h] n.F
def Hv (S:St) (c:Cc) (l:List (Nat×Own)) (ns:List New):Prop:=∀k n,(k,n)∈(l.map (·.1)).zip ns->S.ow k=some n.o/\c.hv k=n.h
section
variable {w:World} {K:Nat->Prop}
theorem Hv.left {S:St} {c:Cc} {l l':List (Nat×Own)} {ns ns':List New} (hl:ns.length=l.length) (h:Hv S c (l++l') (ns++ns')):Hv S c l ns:=λk n hk=>h k n (by
 rw [AmD,List.zip_append (by simp [hl])];exact Al3.2 (.inl hk))
theorem Hv.right {S:St} {c:Cc} {l l':List (Nat×Own)} {ns ns':List New} (hl:ns.length=l.length) (h:Hv S c (l++l') (ns++ns')):Hv S c l' ns':=λk n hk=>h k n (by
 rw [AmD,List.zip_append (by simp [hl])];exact Al3.2 (.inr hk))
theorem NK (key:Nat) {l:Ae} {v:Value} {F:List Nat} (h:ALOk w K l v F):∃ns,FL (J0 w K) (Db key l).2 ns F/\∀S c,Hv S c (Db key l).2 ns->LeafOk S c w K (Db key l).1 v:=by
 obtain ⟨t,x⟩:=l;have other:Db key ⟨t,x⟩=(.v t x,[])->t.own=false->∃ns,FL (J0 w K) (Db key ⟨t,x⟩).2 ns F/\∀S c,Hv S c (Db key ⟨t,x⟩).2 ns->LeafOk S c w K (Db key ⟨t,x⟩).1 v:=by
  intro e ho;have hF:=h.2 ho;subst hF;rw [e];exact⟨[],⟨rfl,rfl⟩,λ_ _ _=>h.1⟩
 cases t with
 | sl o e r=>
  cases o with
  | true=>
   refine⟨[⟨⟨e,r,x⟩,v,F⟩],⟨_,[],F,[],rfl,Z,⟨rfl,rfl,h.1⟩,rfl,rfl⟩,λS c hv=>?_⟩;obtain ⟨h1,h2⟩:=hv key ⟨⟨e,r,x⟩,v,F⟩ (by simp [Db]);exact⟨_,e,r,x,v,h1,rfl,by rw [h2];rfl,rfl⟩
  | false=>exact other rfl rfl
 | _=>exact other rfl rfl
theorem PH:∀(ls:List Ae) (key:Nat) {vs:List Value} {F:List Nat},FL (ALOk w K) ls vs F->
  ∃ns,FL (J0 w K) (FU key ls).2 ns F/\∀S c,Hv S c (FU key ls).2 ns->All2 (LeafOk S c w K) (FU key ls).1 vs
 | [],key,_,_,h=>by
  obtain ⟨rfl,rfl⟩:=h;exact⟨[],⟨rfl,rfl⟩,λ_ _ _=>.nil⟩
 | l::ls,key,_,_,h=>by
  obtain ⟨v,vs,F1,F2,rfl,rfl,h1,h2⟩:=h;obtain ⟨n1,k1,k2⟩:=NK key h1;obtain ⟨n2,k3,k4⟩:=PH ls (key+1) h2;exact⟨n1++n2,k1.append k3,λS c hv=>.cons (k2 S c (Hv.left k1.len hv)) (k4 S c (Hv.right k1.len hv))⟩
theorem Agy (msK:List (Nat×Nat)) (mb mo:Nat->Nat) (key:Nat) {a:A1} {v:Value} {F:List Nat} {x:S1×List (Nat×Own)} (h:A1Ok w K (msK.map (loc mb mo)) a v F) (hb:OK msK key a=some x) :
  ∃ns,FL (J0 w K) x.2 ns F/\∀S c,Hv S c x.2 ns->(∀k,k∈msK->S.ms k.1≠none)->(∀k,k∈msK->c.mb k.1=mb k.1/\c.mo k.1=mo k.1)->S1Ok S c w K x.1 v:=by
 cases a with
 | one l=>
  simp only [OK,AlV]at hb;subst hb;obtain ⟨ns,h1,h2⟩:=NK key h;exact⟨ns,h1,λS c hv _ _=>h2 S c hv⟩
 | ag ls=>
  simp only [OK,AlV]at hb;subst hb;obtain ⟨vs,rfl,h⟩:=h;obtain ⟨ns,h1,h2⟩:=PH ls key h;exact⟨ns,h1,λS c hv _ _=>⟨vs,rfl,h2 S c hv⟩⟩
 | pl m off=>
  simp only [OK]at hb;split at hb
  .rename_i k hk;simp only [AlV]at hb;subst hb;obtain ⟨rfl,g,hg,rfl⟩:=h;rw [AmB,hk]at hg;simp only [AmS,AlV]at hg;subst hg;refine⟨[],⟨rfl,rfl⟩,λS c _ h1 h2=>?_⟩;have hm:=AmI hk;obtain ⟨n,hn⟩:=Anp.1 (h1 k hm);exact⟨n,hn,by rw [(h2 k hm).1,(h2 k hm).2,Ani]⟩
  .cases hb
 | rp t y off=>
  simp only [OK,AlV]at hb;subst hb;obtain ⟨rfl,h⟩:=h;exact⟨[],⟨rfl,rfl⟩,λS c _ _ _=>h⟩
 | fv f cs=>
  simp only [OK]at hb;split at hb
  .rename_i l hl;simp only [AlV]at hb;subst hb;obtain ⟨rfl,vs,rfl,h⟩:=h;refine⟨[],⟨rfl,rfl⟩,λS c _ h1 h2=>⟨vs,rfl,?_⟩⟩;have key:∀(cs l:List (Nat×Nat)) (vs:List Value),All2 (λp v=>∃g,(msK.map (loc mb mo))[p.1]?=some g/\v=.pointer (some ⟨g.1,g.2+p.2,none⟩)) cs vs->N1 msK cs=some l->All2 (UX S c) l vs:=by
    intro cs l vs h
    induction h generalizing l with
    | nil=>intro hl;simp only [N1,AlV]at hl;subst hl;exact .nil
    | @cons p v cs vs q1 _ ih=>
     intro hl;simp only [N1]at hl;split at hl
     .rename_i k l' e1 e2;simp only [AlV]at hl;subst hl;obtain ⟨g,hg,rfl⟩:=q1;rw [AmB,e1]at hg;simp only [AmS,AlV]at hg;subst hg;have hm:=AmI e1;obtain ⟨n,hn⟩:=Anp.1 (h1 k hm);exact .cons ⟨n,hn,by rw [(h2 k hm).1,(h2 k hm).2,Ani]⟩ (ih l' e2)
     .cases hl
   exact key cs l vs h hl
  .cases hb
theorem ND (msK:List (Nat×Nat)) (mb mo:Nat->Nat):∀(as:List A1) (key:Nat) {vs:List Value} {F:List Nat} {x:List S1×List (Nat×Own)},FL (A1Ok w K (msK.map (loc mb mo))) as vs F->Iz msK key as=some x->
  ∃ns,FL (J0 w K) x.2 ns F/\∀S c,Hv S c x.2 ns->(∀k,k∈msK->S.ms k.1≠none)->(∀k,k∈msK->c.mb k.1=mb k.1/\c.mo k.1=mo k.1)->All2 (S1Ok S c w K) x.1 vs
 | [],key,_,_,x,h,hb=>by
  obtain ⟨rfl,rfl⟩:=h;simp only [Iz,AlV]at hb;subst hb;exact⟨[],⟨rfl,rfl⟩,λ_ _ _ _ _=>.nil⟩
 | a::as,key,_,_,x,h,hb=>by
  obtain ⟨v,vs,F1,F2,rfl,rfl,h1,h2⟩:=h;simp only [Iz]at hb;split at hb
  .rename_i x1 x2 e1 e2;simp only [AlV]at hb;subst hb;obtain ⟨n1,k1,k2⟩:=Agy msK mb mo key h1 e1;obtain ⟨n2,k3,k4⟩:=ND msK mb mo as (key+64) h2 e2;exact⟨n1++n2,k1.append k3,λS c hv g1 g2=>.cons (k2 S c (Hv.left k1.len hv) g1 g2) (k4 S c (Hv.right k1.len hv) g1 g2)⟩
  .cases hb
theorem Aa4 (mk:List (Nat×Nat)) (mb mo:Nat->Nat) (key:Nat) {l:Ae} {v:Value} {F:List Nat} (h:ROk w K (mk.map (loc mb mo)) l v F) :
  ∃ns,FL (J0 w K) (FI mk key l).2 ns F/\∀S c,Hv S c (FI mk key l).2 ns->(∀k,k∈mk->S.ms k.1≠none)->(∀k,k∈mk->c.mb k.1=mb k.1/\c.mo k.1=mo k.1)->(∀k,k∈mk->∀es n,w.heap[mb k.1]?=some (.map es n)->S.ms k.1=some 0)->LeafOk S c w K (FI mk key l).1 v:=by
 rcases h with h | ⟨rfl,p,g,rfl,hg,rfl⟩ | ⟨rfl,m,g,rfl,hg,rfl,es,n,hes⟩
 .have e:FI mk key l=Db key l:=by
   unfold FI;split
   .exact absurd h.1 (by simp only [Rp];exact λh=>h)
   .rename_i m;have h0:=h.1;simp only [Rp]at h0;obtain ⟨_,_,h0⟩:=h0;rw [show m=(0:Nat) from h0];rfl
   .exact absurd h.1 (by simp only [Rp];exact λh=>h)
   .rfl
  rw [e];obtain ⟨ns,h1,h2⟩:=NK key h;exact⟨ns,h1,λS c hv _ _ _=>h2 S c hv⟩
 .rw [AmB,AmY]at hg;obtain ⟨k,hk,rfl⟩:=hg;refine⟨[],⟨rfl,rfl⟩,λS c _ h1 h2 _=>?_⟩;have hm:=AmI hk;obtain ⟨n,hn⟩:=Anp.1 (h1 k hm);simp only [FI,hk];exact⟨n,hn,by rw [(h2 k hm).1,(h2 k hm).2,Ani]⟩
 .rw [AmB,AmY]at hg;obtain ⟨k,hk,rfl⟩:=hg;refine⟨[],⟨rfl,rfl⟩,λS c _ h1 h2 h3=>?_⟩;have hm:=AmI hk;simp only [FI,hk];exact⟨h3 k hm es n hes,by rw [(h2 k hm).1]⟩
theorem Qb (mk:List (Nat×Nat)) (mb mo:Nat->Nat):∀(ls:List Ae) (key:Nat) {vs:List Value} {F:List Nat},FL (ROk w K (mk.map (loc mb mo))) ls vs F->
  ∃ns,FL (J0 w K) (En mk key ls).2 ns F/\∀S c,Hv S c (En mk key ls).2 ns->(∀k,k∈mk->S.ms k.1≠none)->(∀k,k∈mk->c.mb k.1=mb k.1/\c.mo k.1=mo k.1)->(∀k,k∈mk->∀es n,w.heap[mb k.1]?=some (.map es n)->S.ms k.1=some 0)->All2 (LeafOk S c w K) (En mk key ls).1 vs
 | [],key,_,_,h=>by
  obtain ⟨rfl,rfl⟩:=h;exact⟨[],⟨rfl,rfl⟩,λ_ _ _ _ _ _=>.nil⟩
 | l::ls,key,_,_,h=>by
  obtain ⟨v,vs,F1,F2,rfl,rfl,h1,h2⟩:=h;obtain ⟨n1,k1,k2⟩:=Aa4 mk mb mo key h1;obtain ⟨n2,k3,k4⟩:=Qb mk mb mo ls (key+1) h2;exact⟨n1++n2,k1.append k3,λS c hv g1 g2 g3=>.cons (k2 S c (Hv.left k1.len hv) g1 g2 g3) (k4 S c (Hv.right k1.len hv) g1 g2 g3)⟩
theorem Gd (mk:List (Nat×Nat)):∀(ls:List Ae) (key:Nat),(En mk key ls).1.length=ls.length
 | [],_=>rfl
 | l::ls,key=>by simp [En,Gd mk ls (key+1)]
theorem Nw (mk:List (Nat×Nat)) (mb mo:Nat->Nat):∀(msK:List (Nat×Nat)) (rs:List (List Ae)) (key:Nat) {F:List Nat} {x:List ((Nat×Nat)×List Leaf)×List (Nat×Own)},RowsOk w K (mk.map (loc mb mo)) (msK.map (loc mb mo)) rs F->FZ mk key msK rs=some x->
  x.1.map (·.1)=msK/\x.1.map (·.2.length)=rs.map List.length/\(∀p,p∈x.1->(∃cs e fr,w.heap[mb p.1.1]?=some (.cells cs e fr))\/∃xs,p.2=[.md xs]/\MapAt w (mb p.1.1) xs)/\
  ∃ns,FL (J0 w K) x.2 ns F/\∀S c,Hv S c x.2 ns->(∀k,k∈mk->S.ms k.1≠none)->(∀k,k∈mk->c.mb k.1=mb k.1/\c.mo k.1=mo k.1)->(∀k,k∈mk->∀es n,w.heap[mb k.1]?=some (.map es n)->S.ms k.1=some 0)->∀p,p∈x.1->(∃cs e fr,w.heap[mb p.1.1]?=some (.cells cs e fr)/\NF fr cs.size/\mo p.1.1+p.1.2+p.2.length<=cs.size/\All2 (LeafOk S c w K) p.2 ((cs.toList.drop (mo p.1.1+p.1.2)).take p.2.length))\/∃xs,p.2=[.md xs]/\MapAt w (mb p.1.1) xs
 | [],[],key,F,x,h,hb=>by
  simp only [FZ,AlV]at hb;subst hb;exact⟨rfl,rfl,(λp hp=>by cases hp),[],⟨rfl,h.2⟩,λ_ _ _ _ _ _ p hp=>by cases hp⟩
 | k::ms,r::rs,key,F,x,h,hb=>by
  obtain ⟨r',rs',F1,F2,e1,rfl,h1,h4⟩:=h;injection e1 with e1 e2
  subst e1 e2;simp only [FZ]at hb;split at hb
  .rename_i y hy;simp only [AlV]at hb;subst hb;obtain ⟨g1,g2,g3,n2,k3,k4⟩:=Nw mk mb mo ms rs (key+64) h4 hy;rcases h1 with⟨cs,e,fr,h1,h2,h3,h5⟩ | ⟨xs,rfl,hm,rfl⟩
   .obtain ⟨n1,k1,k2⟩:=Qb mk mb mo r key h5;refine⟨by simp [g1],by simp [g2,Gd],λp hp=>(Ame.1 hp).elim (λh=>by subst h;exact .inl ⟨cs,e,fr,h1⟩) (g3 p),n1++n2,k1.append k3,λS c hv c1 c2 c3 p hp=>?_⟩;rcases Ame.1 hp with rfl | hp
    .exact .inl ⟨cs,e,fr,h1,h2,by simp only [Gd];exact h3,by simp only [Gd];exact k2 S c (Hv.left k1.len hv) c1 c2 c3⟩
    .exact k4 S c (Hv.right k1.len hv) c1 c2 c3 p hp
   .refine⟨by simp [g1],by simp [g2,Gd],λp hp=>(Ame.1 hp).elim (λh=>by subst h;exact .inr ⟨xs,rfl,hm⟩) (g3 p),n2,k3,λS c hv c1 c2 c3 p hp=>?_⟩;rcases Ame.1 hp with rfl | hp
    .exact .inr ⟨xs,rfl,hm⟩
    .exact k4 S c hv c1 c2 c3 p hp
  .cases hb
 | [],r::rs,key,F,x,h,hb=>by simp [FZ]at hb
 | k::ms,[],key,F,x,h,hb=>by simp [FZ]at hb
theorem AeR {S:St} {c:Cc}:∀{xs:List S1} {vs:List Value},All2 (S1Ok S c w K) xs vs->AQ S c w K (YS xs) (Vc vs)
 | [],_,.nil=>⟨[],rfl,.nil⟩
 | [_],_,.cons h .nil=>h
 | _::_::_,_,.cons (b:=v) h (.cons (b:=u) (bs:=vs) h1 h2)=>⟨v::u::vs,rfl,.cons h (.cons h1 h2)⟩
theorem QN:∀{l:List (Nat×Own)} {ns:List New} {F:List Nat},FL (J0 w K) l ns F->∀k,(match find ((l.map (·.1)).zip ns) k with | some n=>some n.o | none=>none)=find l k
 | [],_,_,h,k=>by rw [h.1];rfl
 | (i,o)::l,_,_,⟨n,ns,F1,F2,e1,_,h1,h2⟩,k=>by
  subst e1;simp only [AmF,List.zip_cons_cons,find];by_cases hk:k=i
  .rw [Al1 hk,Al1 hk];simp [h1.1]
  .rw [AlZ hk,AlZ hk];exact QN h2 k
theorem Ek:∀{l:List (Nat×Own)} {ns:List New} {F:List Nat},FL (J0 w K) l ns F->∀k n,find ((l.map (·.1)).zip ns) k=some n->k∈l.map (·.1)/\(∀g,g∈n.F->g∈F)/\(F.Nodup->n.F.Nodup)/\Rp w K (.sl true n.o.e n.o.r) n.o.xs [n.h] n.F
 | [],_,_,h,k,n,hf=>by simp [find]at hf
 | (i,o)::l,_,_,⟨n',ns,F1,F2,e1,e2,⟨h1,h1',h1''⟩,h2⟩,k,n,hf=>by
  subst e1 e2;simp only [AmF,List.zip_cons_cons,find]at hf;split at hf
  .rename_i hk;injection hf with hf
   subst hf h1';exact⟨by simp [hk],λg hg=>by simp [hg],λhn=>(Amj.1 hn).1,h1''⟩
  .obtain ⟨a1,a2,a3,a4⟩:=Ek h2 k n hf;exact⟨Am2 _ a1,λg hg=>by simp [a2 g hg],λhn=>a3 (Amj.1 hn).2.1,a4⟩
theorem SS:∀{l:List (Nat×Own)} {ns:List New} {F:List Nat},FL (J0 w K) l ns F->F.Nodup->∀k n k' n',k≠k'->find ((l.map (·.1)).zip ns) k=some n->find ((l.map (·.1)).zip ns) k'=some n'->∀g,g∈n.F->g∉n'.F
 | [],_,_,h,_,k,n,_,_,_,hf,_=>by simp [find]at hf
 | (i,o)::l,_,_,⟨m,ns,F1,F2,e1,e2,⟨h1,h1',h1''⟩,h2⟩,hn,k,n,k',n',hne,hf,hf'=>by
  subst e1 e2;obtain ⟨d1,d2,d3⟩:=Amj.1 hn;simp only [AmF,List.zip_cons_cons,find]at hf hf';intro g hg hg';split at hf
  .rename_i hk;injection hf with hf
   subst hf h1';rw [AlZ (λh=>hne (hk.trans h.symm))]at hf';exact d3 g hg g ((Ek h2 k' n' hf').2.1 g hg') rfl
  .split at hf'
   .injection hf' with hf'
    subst hf' h1';exact d3 g hg' g ((Ek h2 k n hf).2.1 g hg) rfl
   .exact SS h2 d2 k n k' n' hne hf hf' g hg hg'
end
theorem LeafOk.mono {S:St} {c:Cc} {w:World} {K K':Nat->Prop} (hK:∀g,g < w.heap.size->K g->K' g) {l:Leaf} {v:Value} (h:LeafOk S c w K l v):LeafOk S c w K' l v:=by
 cases l with
 | v t x=>exact Rp.mono hK _ _ h
 | _=>exact h
theorem S1Ok.mono {S:St} {c:Cc} {w:World} {K K':Nat->Prop} (hK:∀g,g < w.heap.size->K g->K' g) {x:S1} {v:Value} (h:S1Ok S c w K x v):S1Ok S c w K' x v:=by
 cases x with
 | one l=>exact LeafOk.mono hK h
 | ag ls=>obtain ⟨vs,e,h⟩:=h;exact⟨vs,e,h.mono λ_ _ h=>LeafOk.mono hK h⟩
 | rp t x off=>obtain ⟨a,vs,h1,h2,h3,h4,h5⟩:=h;exact⟨a,vs,h1,Rp.mono hK _ _ h2,hK _ h4 h3,h4,h5⟩
 | _=>exact h
section
variable {P:Program} {E:Env} {b:Base} {S:St} {c:Cc} {w:World}
theorem AgP (S:St) (ks:List Kl):(S.kp ks).ms=S.ms/\(S.kp ks).ow=S.ow/\∀k i,(S.kp ks).mc k i=(S.mc k i).kp ks:=
 ⟨DE S ks,Eb S ks,λk i=>Dw S ks k i⟩
theorem LentOk.mono {w:World} {K K':Nat->Prop} {vals:List Value} (hK:∀g,g < w.heap.size->K g->K' g):∀{l:List ((Nat×Nat)×Ae)} {F},LentOk w K vals l F->LentOk w K' vals l F
 | [],_,h=>h
 | _::_,_,⟨v,F1,F2,e,h1,h2,h3⟩=>⟨v,F1,F2,e,h1,ALOk.mono hK h2,LentOk.mono hK h3⟩
theorem LentOk.noRo {w:World} {K K':Nat->Prop} {vals:List Value}:∀{l:List ((Nat×Nat)×Ae)} {F},(l.any λx=>x.2.1.hasRo)=false->LentOk w K vals l F->LentOk w K' vals l F
 | [],_,_,h=>h
 | _::_,_,hr,⟨v,F1,F2,e,h1,h2,h3⟩=>by
  simp only [List.any_cons,AnV]at hr;exact⟨v,F1,F2,e,h1,ALOk.noRo hr.1 h2,LentOk.noRo hr.2 h3⟩
theorem Ow (hi:Inv b S w c) {w':World} {K2:Nat->Prop} {vals:List Value} {gv F:List Nat} (hgv:Ows S gv) (hKS:KSame w w' (Kok b S c) K2) (hsame:∀k,S.ow k≠none->∀g,g∈c.F k->g∉F->w'.heap[g]?=w.heap[g]?) :
  ∀(L:List ((Nat×Nat)×Option (Nat×AT))) (rl:List ((Nat×Nat)×Ae)) {lts:List (Nat×Own)} {F3:List Nat},(∀e,e∈L->∃v,EO vals e.1=some v/\LnOk S c w (Kok b S c) e.2 v gv F)->(E6 L rl).ev S=some lts->
   LentOk w' K2 vals rl F3->F3.Nodup->(∀g,g∈F3->g∈F\/w.heap.size<=g)->(lts.map (·.1)).Nodup->
   lts.map (·.1)=DW L/\(∀k,k∈DW L->k∈gv)/\∃ns FL3,FL (J0 w' K2) lts ns FL3/\FL3.Nodup/\(∀g,g∈FL3->g∈F3\/∃k,k∈DW L/\g∈c.F k/\g∉F)/\
    ∀k n,(k,n)∈(lts.map (·.1)).zip ns->n.h=c.hv k/\∃o xs',S.ow k=some o/\n.o=⟨o.e,o.r,xs'⟩/\xs'.length=o.xs.length
 | [],[],lts,F3,_,h,hl,_,_,_=>by
  simp only [E6,Tr.ev,AlV]at h;subst h;exact⟨rfl,λk hk=>(by cases hk),[],[],⟨rfl,rfl⟩,Z,λg hg=>(by cases hg),λk n hk=>(by cases hk)⟩
 | [],_::_,_,_,_,h,_,_,_,_=>by simp [E6,Tr.ev]at h
 | (p,none)::L,[],_,_,_,h,_,_,_,_=>by simp [E6,Tr.ev]at h
 | (p,some (k,st))::L,[],_,_,_,h,_,_,_,_=>by simp [E6,Tr.ev]at h
 | (p,none)::L,(p',a)::rl,lts,F3,hL,h,hl,hnd,hF3,hk=>by
  simp only [E6]at h;split at h
  .rename_i hp;subst hp;obtain ⟨v,F1,F2,rfl,h1,h2,h3⟩:=hl;obtain ⟨n1,n2,n3⟩:=Amj.1 hnd;obtain ⟨q1,q2,ns,FL3,q3,q4,q5,q6⟩:=Ow hi hgv hKS hsame L rl (λe he=>hL e (by simp [he])) h h3 n2 (λg hg=>hF3 g (by simp [hg])) hk;exact⟨q1,q2,ns,FL3,q3,q4,λg hg=>(q5 g hg).imp (λh=>by simp [h]) id,q6⟩
  .simp [Tr.ev]at h
 | (p,some (k,st))::L,(p',⟨at',ax⟩)::rl,lts,F3,hL,h,hl,hnd,hF3,hk=>by
  simp only [E6]at h;split at h
  .rename_i hp;subst hp;obtain ⟨v,F1,F2,rfl,h1,h2,h3⟩:=hl;obtain ⟨v',hv',hkg,Fa,Fb,⟨o0,ho0,⟨G0,hF0⟩,hback⟩,hdis⟩:=hL (p,some (k,st)) Z;obtain rfl:v=v':=by rw [h1]at hv';injection hv'
   simp only [Tr.ev,ho0,Af,AlY]at h;obtain ⟨⟨dt,dx⟩,hd,h⟩:=h;split at h
   .rename_i hty;simp only at hty;subst hty;simp only [Af,AlY,Tr.ev,AlV]at h;obtain ⟨zs,hzs,y,hy,rfl⟩:=h;rw [KL]at hd;rw [Ut]at hzs;obtain ⟨n1,n2,n3⟩:=Amj.1 hnd;simp only [AmF,AmP]at hk;obtain ⟨q1,q2,ns,FL3,q3,q4,q5,q6⟩:=Ow hi hgv hKS hsame L rl (λe he=>hL e (by simp [he])) hy h3 n2 (λg hg=>hF3 g (by simp [hg])) hk.2;have hko:S.ow k≠none:=by rw [ho0];simp
    have hnk:=hi.nd k hko;have hlt:∀g,g∈c.F k->g < w.heap.size:=λg hg=>(hi.fr g (.inr ⟨k,hko,hg⟩)).1
    have hin:∀g,g∈Fa\/g∈Fb->g∈c.F k:=λg hg=>by rw [hF0];rcases hg with hg | hg <;> simp [hg]
    have hnF:∀g,g∈Fa\/g∈Fb->g∉F:=λg hg hx=>hg.elim (hdis g hx).1 (hdis g hx).2
    have hFF:∀g,g∈F1++F2->¬ (g∈Fa\/g∈Fb):=by
     intro g hg hx;rcases hF3 g hg with h | h
     .exact hnF g hx h
     .have:=hlt g (hin g hx);omega
    have hkr:k∉DW L:=by rw [<- q1];exact hk.1
    have hR:=hback ⟨at',dx⟩ ax zs hd hzs w' K2 F1 h2.1 hKS (λg hg=>hsame k hko g (hin g (.inl hg)) (hnF g (.inl hg))) (λg hg=>hsame k hko g (hin g (.inr hg)) (hnF g (.inr hg)));have hlen:zs.length=o0.xs.length:=by
     obtain ⟨A,cp,e1,_⟩:=Nj hR;obtain ⟨A',cp',e2,_⟩:=Nj (hi.ow k o0 ho0);rw [e1]at e2;injection e2
    rw [hF0]at hnk;obtain ⟨a1,a2,a3⟩:=Amj.1 hnk;obtain ⟨b1,b2,b3⟩:=Amj.1 a2;have hX:∀g,g∈FL3->¬ (g∈Fa\/g∈Fb)/\g∉F1:=by
     intro g hg;rcases q5 g hg with h | ⟨k',hk',hg',hgF⟩
     .exact⟨hFF g (by simp [h]),λhx=>n3 g hx g h rfl⟩
     .have hne:k≠k':=by rintro rfl;exact hkr hk'
      have hko':S.ow k'≠none:=hgv k' (q2 k' hk');refine⟨λhx=>hi.oo k k' hne hko hko' g (hin g hx) hg',λhx=>?_⟩;rcases hF3 g (by simp [hx])with h | h
      .exact hgF h
      .have:=(hi.fr g (.inr ⟨k',hko',hg'⟩)).1;omega
    refine⟨by simp [DW,q1],?_,⟨⟨o0.e,o0.r,zs⟩,c.hv k,Fa++(F1++Fb)⟩::ns,(Fa++(F1++Fb))++FL3,⟨_,ns,_,FL3,rfl,rfl,⟨rfl,rfl,hR⟩,q3⟩,?_,?_,?_⟩
    .intro k' hk';simp only [DW,Ame]at hk';rcases hk' with rfl | hk'
     .exact hkg
     .exact q2 k' hk'
    .refine Amj.2 ⟨Amj.2 ⟨a1,Amj.2 ⟨n1,b2,?_⟩,?_⟩,q4,?_⟩
     .rintro x hx x' hx' rfl;exact hFF x (by simp [hx]) (.inr hx')
     .rintro x hx x' hx' rfl;rcases Al3.1 hx' with h | h
      .exact hFF x (by simp [h]) (.inl hx)
      .exact a3 x hx x (by simp [h]) rfl
     .rintro x hx x' hx' rfl;have:=hX x hx';simp only [Al3]at hx;rcases hx with hx | hx | hx
      .exact this.1 (.inl hx)
      .exact this.2 hx
      .exact this.1 (.inr hx)
    .intro g hg;simp only [Al3]at hg;rcases hg with(hg | hg | hg) | hg
     .exact .inr ⟨k,by simp [DW],hin g (.inl hg),hnF g (.inl hg)⟩
     .exact .inl (by simp [hg])
     .exact .inr ⟨k,by simp [DW],hin g (.inr hg),hnF g (.inr hg)⟩
     .rcases q5 g hg with h | ⟨k',h1,h2⟩
      .exact .inl (by simp [h])
      .exact .inr ⟨k',by simp [DW,h1],h2⟩
    .intro k' n hm;simp only [AmF,List.zip_cons_cons,Ame,Prod.mk.injEq]at hm;rcases hm with⟨rfl,rfl⟩ | hm
     .exact⟨rfl,o0,zs,ho0,rfl,hlen⟩
     .exact q6 k' n hm
   .simp [Tr.ev]at h
  .simp [Tr.ev]at h
theorem AfL (hi:Inv b S w c) {C:AC} {us:List Value} {F1:List Nat} (hA:AInv b S c w C us F1) {rows:List (List Ae)×List Nat} {r:Res}
  (hro:C.bw=[]\/((r.val.any A1.hasRo=false/\(r.rows.any λl=>l.any λx=>x.1.hasRo)=false)/\(r.lent.any λx=>x.2.1.hasRo)=false)) {d:Nat} {vs:List S1×List (Nat×Own)} {rs:List ((Nat×Nat)×List Leaf)×List (Nat×Own)} {lts:List (Nat×Own)}
  (hlt:(E6 C.ln r.lent).ev S=some lts)
  (hv:Iz (C.ms.map (·.1)) (kd d 0) r.val=some vs) (hr:FZ (C.ms.map (·.1)) (kd d 512) (C.ms.map (·.1)) r.rows=some rs) (hu2:AM ((vs.2++(rs.2++lts)).map (·.1))=true) (hlen:r.rows.map List.length=C.ms.map λm=>m.2.length)
  {F2:List Nat} (hF2:CG c rows.2 F2) (hgv2:Ows S rows.2) (hun:AM (C.gv++rows.2)=true) {more:List Value} {v:Value} {w':World} (hp:IF w (KB b S c C.bw) (C.ms.map (plc c)) (F1++F2) (us++more) r v w') :
  Did b S c w ⟨YS vs.1,Cm (XC (DW C.ln) C.gv++rows.2)++((DW C.ln).map Kl.deep++Cm ((vs.2++rs.2).map (·.1))),Ck (C.gv++rows.2)++(Ho (vs.2++(rs.2++lts))++Ih rs.1)⟩ v w':=by
 obtain ⟨vals,G1,G2,G3,rfl,p1,p2,p2',p3,p4,p5,p6⟩:=hp;have hmap:C.ms.map (plc c)=(C.ms.map (·.1)).map (loc c.mb c.mo):=by rw [AmU];rfl
 rw [hmap]at p1 p2 p2' p3 p5 p6;have hmap1:((C.ms.map (·.1)).map (loc c.mb c.mo)).map (·.1)=(C.ms.map (·.1.1)).map c.mb:=by rw [AmU,AmU,AmU];rfl
 rw [hmap1]at p1 p2 p2' p3 p5;have hms1:(C.ms.map (·.1)).map (·.1)=C.ms.map (·.1.1):=by rw [AmU];rfl
 have hun1:=hA.un;have hmsA:=hA.ms;generalize hmsQ:C.ms.map (·.1.1)=msQ at *;generalize hms:C.ms.map (·.1)=msK at *
 let K2:Nat->Prop:=λg=>(Kok b S c g/\g < w.heap.size)\/((w.heap.size<=g\/g∈F1++F2)/\g∉G1++(G2++G3))
 have q12:FL (A1Ok w' K2 (msK.map (loc c.mb c.mo))) r.val vals G1/\RowsOk w' K2 (msK.map (loc c.mb c.mo)) (msK.map (loc c.mb c.mo)) r.rows G2/\LentOk w' K2 (us++more) r.lent G3:=by
  rcases hro with hb | ⟨⟨h1,h2⟩,h3⟩
  .have hK:∀g,g < w'.heap.size->((KB b S c C.bw g\/w.heap.size<=g\/g∈F1++F2)/\g∉msQ.map c.mb++(G1++(G2++G3)))->K2 g:=by
    rintro g _ ⟨h1,h2⟩;have h3:g∉G1++(G2++G3):=λh=>h2 (by simp only [Al3]at h ⊢;exact .inr h)
    rcases h1 with h1 | h1 | h1
    .rcases h1 with h1 | ⟨k,hk,_⟩ | ⟨k,hk,_⟩
     .by_cases hg:g < w.heap.size
      .exact .inl ⟨h1,hg⟩
      .exact .inr ⟨.inl O,h3⟩
     .rw [hb]at hk;cases hk
     .rw [hb]at hk;cases hk
    .exact .inr ⟨.inl h1,h3⟩
    .exact .inr ⟨.inr h1,h3⟩
   exact⟨p1.mono λ_ _ _ h=>A1Ok.mono hK h,RowsOk.mono hK p2,LentOk.mono hK p2'⟩
  .rw [Am4]at h1;exact⟨FL.mono' (λx hx v F _ h=>A1Ok.noRo (by simpa using h1 x hx) h) p1,RowsOk.noRo h2 p2,LentOk.noRo h3 p2'⟩
 obtain ⟨q1,q2,q3⟩:=q12;obtain ⟨n1,a1,a2⟩:=ND msK c.mb c.mo r.val (kd d 0) q1 hv;obtain ⟨b1,b2,b5,n2,b3,b4⟩:=Nw msK c.mb c.mo msK r.rows (kd d 512) q2 hr;generalize hgs:C.gv++rows.2=gs at *;have hgo:Ows S gs:=by rw [<- hgs];exact CI hA.gv hgv2
 have hFh:CG c gs (F1++F2):=by
  intro g hg;rw [<- hgs];rcases Al3.1 hg with hg | hg
  .obtain ⟨k,h,h'⟩:=hA.held g hg;exact⟨k,by simp [h],h'⟩
  .obtain ⟨k,h,h'⟩:=hF2 g hg;exact⟨k,by simp [h],h'⟩
 have hnl:n1.length=vs.2.length:=a1.len;have hkeys:=BX hu2;have hnd0:(G1++(G2++G3)).Nodup:=(Amj.1 p3).2.1;obtain ⟨hndA,hndB,hndC⟩:=Amj.1 hnd0;obtain ⟨hndD,hndE,hndF⟩:=Amj.1 hndB;have hkeys3:(lts.map (·.1)).Nodup:=by
  rw [AmD,AmD]at hkeys;exact(Amj.1 (Amj.1 hkeys).2.1).2.1
 have hOwn:∀g,g∈msQ.map c.mb++(F1++F2)->AZ S c g:=by
  intro g hg;rcases Al3.1 hg with hg | hg
  .obtain ⟨k,hk,rfl⟩:=Aml.1 hg;rw [<- hmsQ]at hk;obtain ⟨p,hp,rfl⟩:=Aml.1 hk;obtain ⟨n,hn,_⟩:=hmsA p hp;exact .inl ⟨p.1.1,by rw [hn];simp,rfl⟩
  .obtain ⟨k,h,h'⟩:=hFh g hg;exact .inr ⟨k,hgo k h,h'⟩
 have hKS:KSame w w' (Kok b S c) K2:=⟨p5.size,λg hg hlt=>⟨p5.same g hlt λh=>hg.2 (hOwn g h),.inl ⟨hg,hlt⟩⟩⟩
 have hsm:∀k,S.ow k≠none->∀g,g∈c.F k->g∉F1++F2->w'.heap[g]?=w.heap[g]?:=by
  intro k hk g hg hgF;refine p5.same g (hi.fr g (.inr ⟨k,hk,hg⟩)).1 λh=>?_
  rcases Al3.1 h with h | h
  .obtain ⟨k',hk',rfl⟩:=Aml.1 h;rw [<- hmsQ]at hk';obtain ⟨p,hp,rfl⟩:=Aml.1 hk';obtain ⟨n,hn,_⟩:=hmsA p hp;exact hi.mo p.1.1 k (by rw [hn];simp) hk hg
  .exact hgF h
 obtain ⟨t1,t2,n3,FL3,t3,t4,t5,t6⟩:=Ow hi hgo hKS hsm C.ln r.lent (λe he=>by
   have hun2:AM (C.gv++rows.2)=true:=by rw [hgs];exact hun
   obtain ⟨u1,_,_⟩:=AU hun2;obtain ⟨u,k1,k2⟩:=hA.ln u1 e he;refine⟨u,FR k1,?_⟩;have:=k2.left hi hF2 hA.gv hgv2 hun2;rw [hgs]at this;exact this) hlt q3 hndE (λg hg=>(p4 g (by simp [hg])).2) hkeys3
 have hall:FL (J0 w' K2) (vs.2++(rs.2++lts)) (n1++(n2++n3)) (G1++(G2++FL3)):=a1.append (b3.append t3);have hFL3:∀g,g∈FL3->g∉G1/\g∉G2:=by
  intro g hg;rcases t5 g hg with h | ⟨k,hk,hgk,hgF⟩
  .exact⟨λhx=>hndC g hx g (by simp [h]) rfl,λhx=>hndF g hx g h rfl⟩
  .have hlt':=(hi.fr g (.inr ⟨k,hgo k (t2 k hk),hgk⟩)).1;refine⟨λhx=>?_,λhx=>?_⟩
   .rcases (p4 g (by simp [hx])).2 with h | h
    .exact hgF h
    .omega
   .rcases (p4 g (by simp [hx])).2 with h | h
    .exact hgF h
    .omega
 have hnd:(G1++(G2++FL3)).Nodup:=by
  refine Amj.2 ⟨hndA,Amj.2 ⟨hndD,t4,?_⟩,?_⟩
  .rintro x hx x' hx' rfl;exact(hFL3 x hx').2 hx
  .rintro x hx x' hx' rfl;rcases Al3.1 hx' with h | h
   .exact hndC x hx x (by simp [h]) rfl
   .exact(hFL3 x h).1 hx
 have hGin:∀g,g∈G1++(G2++FL3)->g < w'.heap.size/\((∃k,k∈gs/\S.ow k≠none/\g∈c.F k)\/w.heap.size<=g):=by
  intro g hg;have hcase:g∈G1++(G2++G3)\/∃k,k∈DW C.ln/\g∈c.F k/\g∉F1++F2:=by
   rcases Al3.1 hg with h | h
   .exact .inl (by simp [h])
   .rcases Al3.1 h with h | h
    .exact .inl (by simp [h])
    .rcases t5 g h with h | h
     .exact .inl (by simp [h])
     .exact .inr h
  rcases hcase with h | ⟨k,hk,hgk,_⟩
  .refine⟨(p4 g h).1,(p4 g h).2.imp (λh=>?_) id⟩;obtain ⟨k,h,h'⟩:=hFh g h;exact⟨k,h,hgo k h,h'⟩
  .have hko:=hgo k (t2 k hk);exact⟨AmR (hi.fr g (.inr ⟨k,hko,hgk⟩)).1 p5.size,.inl ⟨k,t2 k hk,hko,hgk⟩⟩
 have hmsK:∀k,k∈msK->S.ms k.1≠none:=by
  intro k hk;rw [<- hms]at hk;obtain ⟨p,hp,rfl⟩:=Aml.1 hk;obtain ⟨n,hn,_⟩:=hmsA p hp;rw [hn];simp
 have hmsQK:∀k,k∈msQ->S.ms k≠none:=by
  intro k hk;rw [<- hms1]at hk;obtain ⟨p,hp,rfl⟩:=Aml.1 hk;exact hmsK p hp
 have hmsN:msQ.Nodup:=hun1;have hkind:∀p,p∈C.ms->∀n,S.ms p.1.1=some n->(0 < n->∃cs e fr,w'.heap[c.mb p.1.1]?=some (.cells cs e fr))/\(n=0->∃es n',w'.heap[c.mb p.1.1]?=some (.map es n')):=by
  intro p hp n hn;obtain ⟨i,hi',hip⟩:=AmA hp;have hm:C.ms[i]?=some p:=by rw [AlW hi',hip]
  have hloc:(msK.map (loc c.mb c.mo))[i]?=some (c.mb p.1.1,c.mo p.1.1+p.1.2):=by
   rw [<- hms,AmU,AmB,hm];rfl
  refine⟨λh0=>?_,λh0=>?_⟩
  .obtain ⟨cs,e,fr,z,_⟩:=hi.ms _ n hn h0;have hl2:i < r.rows.length:=by
    have:=congrArg List.length hlen;simp only [Amt]at this;omega
   obtain ⟨cs',y,_⟩:=p6.2 i _ _ cs e fr hloc (AlW hl2) z;exact⟨cs',e,fr,y⟩
  .subst h0;obtain ⟨_,_,es,z,_⟩:=hi.mp _ hn;exact p6.1 i _ es _ hloc z
 have hmapK:∀k,k∈msK->∀es n',w'.heap[c.mb k.1]?=some (.map es n')->S.ms k.1=some 0:=by
  intro k hk es n' hh;rw [<- hms]at hk;obtain ⟨p,hp,rfl⟩:=Aml.1 hk;obtain ⟨n,hn,_⟩:=hmsA p hp;rcases An9 n with h | h
  .rw [hn,h]
  .obtain ⟨cs,e,fr,z⟩:=(hkind p hp n hn).1 h;rw [hh]at z;cases z
 generalize hl:vs.2++(rs.2++lts)=l at *;generalize hns:n1++(n2++n3)=ns at *;generalize hks:Cm (XC (DW C.ln) C.gv++rows.2)++((DW C.ln).map Kl.deep++Cm ((vs.2++rs.2).map (·.1)))=ks;generalize hS:(S.kp ks).ups (Ck gs++(Ho l++Ih rs.1))=S';have hg:=OR gs (S.kp ks);obtain ⟨o1,o2,_,o4⟩:=Tb l ((S.kp ks).ups (Ck gs)) hkeys;obtain ⟨r1,r2,_,r4,r5⟩:=Zc rs.1 (((S.kp ks).ups (Ck gs)).ups (Ho l)) (by rw [show rs.1.map (·.1.1)=msQ by rw [<- hms1,<- b1,AmU];rfl];exact hmsN);rw [Ew,Ew]at hS;obtain ⟨e1,e2,e3⟩:=AgP S ks
 let news:Nat->Option New:=λk=>find ((l.map (·.1)).zip ns) k
 have how:∀k,S'.ow k=match news k with | some n=>some n.o | none=>if k∈gs then none else S.ow k:=by
  intro k;rw [<- hS,r2,o4,hg.2.2,e2];have:=QN hall k;show _=match find ((l.map (·.1)).zip ns) k with | some n=>some n.o | none=>if k∈gs then none else S.ow k
  cases hf:find ((l.map (·.1)).zip ns) k with
  | none=>rw [hf]at this;simp only at this;rw [<- this]
  | some n=>rw [hf]at this;simp only at this;rw [<- this]
 have hms':S'.ms=S.ms:=by rw [<- hS,r1,o1,hg.1,e1]
 have hrsq:rs.1.map (·.1.1)=msQ:=by rw [<- hms1,<- b1,AmU];rfl
 have hmc:∀k i,k∉msQ->S'.mc k i=(S.mc k i).kp ks:=by
  intro k i hk;rw [<- hS,r4 k i (by rw [hrsq];exact hk),o2,hg.2.1,e3]
 have hrowmc:∀p,p∈rs.1->∀i,S'.mc p.1.1 i=if p.1.2<=i/\i < p.1.2+p.2.length then p.2.getD (i - p.1.2) .no else(S.mc p.1.1 i).kp ks:=by
  intro p hp i;rw [<- hS,r5 p hp i,o2,hg.2.1,e3]
 have hHv:∀c',(∀k n,news k=some n->c'.hv k=n.h)->Hv S' c' l ns:=by
  intro c' hc' k n hk;have hf:find ((l.map (·.1)).zip ns) k=some n:=Do (by
   rw [List.map_fst_zip (by rw [hall.len];simp)];exact hkeys) hk
  exact⟨by rw [how,show news k=some n from hf],hc' k n hf⟩
 have hK2:∀K',KSame w w' (Kok b S c) K'->(∀g,(w.heap.size<=g\/∃k,k∈gs/\S.ow k≠none/\g∈c.F k)->(∀k n,news k=some n->g∉n.F)->K' g)->∀g,g < w'.heap.size->K2 g->K' g:=by
  rintro K' hK hfr g _ (⟨h1,h2⟩ | ⟨h1,h2⟩)
  .exact(hK.2 g h1 h2).2
  .refine hfr g (h1.imp id λh1=>?_) λk n hk hg=>?_
   .obtain ⟨k,h,h'⟩:=hFh g h1;exact⟨k,h,hgo k h,h'⟩
   have hx:=(Ek hall k n hk).2.1 g hg;rcases Al3.1 hx with h | h
   .exact h2 (by simp [h])
   .rcases Al3.1 h with h | h
    .exact h2 (by simp [h])
    .rcases t5 g h with h | ⟨k',hk',hgk,hnF⟩
     .exact h2 (by simp [h])
     .have:=(hi.fr g (.inr ⟨k',hgo k' (t2 k' hk'),hgk⟩)).1;rcases h1 with h1 | h1
      .omega
      .exact hnF h1
 have hstay:∀k o,S.ow k=some o->(k∈gs\/news k≠none)->.all k∈ks\/(.deep k∈ks/\∃n xs',news k=some n/\n.h=c.hv k/\n.o=⟨o.e,o.r,xs'⟩/\xs'.length=o.xs.length):=by
  intro k o ho hk;by_cases hkl:k∈DW C.ln
  .right;rw [<- t1]at hkl;have hlen3:n3.length=lts.length:=t3.len;obtain ⟨i,hi',hik⟩:=AmA hkl;have hi3:i < n3.length:=by rw [hlen3];simpa using hi'
   have hz:(k,n3[i])∈(lts.map (·.1)).zip n3:=by
    have:((lts.map (·.1)).zip n3)[i]?=some (k,n3[i]):=by
     rw [List.getElem?_zip_eq_some];exact⟨by rw [AlW hi',hik],AlW hi3⟩
    exact AmI this
   have hz2:(k,n3[i])∈(l.map (·.1)).zip ns:=by
    rw [<- hl,<- hns,AmD,AmD,List.zip_append (by simp [hnl]),List.zip_append (by rw [Amt];exact b3.len.symm)];simp [hz]
   have hf:news k=some n3[i]:=Do (by rw [List.map_fst_zip (by rw [hall.len];simp)];exact hkeys) hz2;obtain ⟨g1,o',xs',g2,g3,g4⟩:=t6 k _ hz;obtain rfl:o=o':=by rw [ho]at g2;injection g2
   refine⟨?_,_,xs',hf,g1,g3,g4⟩;rw [<- hks];rw [t1]at hkl;simp only [Al3];exact .inr (.inl (Aml.2 ⟨k,hkl,rfl⟩))
  .left;rw [<- hks];rcases hk with hk | hk
   .rw [<- hgs]at hk;refine Al3.2 (.inl (Aml.2 ⟨k,?_,rfl⟩));rcases Al3.1 hk with hk | hk
    .exact Al3.2 (.inl (by simp only [XC,AnT];exact⟨hk,by simpa using hkl⟩))
    .exact Al3.2 (.inr hk)
   .obtain ⟨n,hn⟩:=Anp.1 hk;have hm:=(Ek hall k n hn).1;rw [<- hl,AmD,AmD]at hm;refine Al3.2 (.inr (Al3.2 (.inr (Aml.2 ⟨k,?_,rfl⟩))));rw [AmD];rcases Al3.1 hm with hm | hm
    .exact Al3.2 (.inl hm)
    .rcases Al3.1 hm with hm | hm
     .exact Al3.2 (.inr hm)
     .rw [t1]at hm;exact absurd hm hkl
 have hmany:=hi.many (S':=S') (w':=w') news gs msQ ks how hms' hmc hstay
  (p5.mono (by
   intro g hg;rcases Al3.1 hg with hg | hg
   .obtain ⟨k,hk,rfl⟩:=Aml.1 hg;exact .inr ⟨k,hk,hmsQK k hk,rfl⟩
   .obtain ⟨k,h,h'⟩:=hFh g hg;exact .inl ⟨k,h,hgo k h,h'⟩))
  (λk n hk g hg=>hGin g ((Ek hall k n hk).2.1 g hg))
  (λk n hk=>(Ek hall k n hk).2.2.1 hnd) (λk n k' n' hne hk hk'=>SS hall hnd k n k' n' hne hk hk')
  (λK' hK hfr k n hk=>Rp.mono (hK2 K' hK hfr) _ _ (Ek hall k n hk).2.2.2)
  (λK' c' hcb hstayL hK hfr hhv k n hk hn hn0=>by
   have hb:=hHv c' hhv;rw [<- hl,<- hns]at hb;rw [<- hrsq]at hk;obtain ⟨p,hp,rfl⟩:=Aml.1 hk;have hb4:=b4 S' c' (Hv.left b3.len (Hv.right hnl hb)) (λk hk=>by rw [hms'];exact hmsK k hk) (λk _=>by rw [hcb.1,hcb.2];exact⟨rfl,rfl⟩) (λk hk es n hh=>by rw [hms'];exact hmapK k hk es n hh) p hp;obtain ⟨i0,hi0,hpi⟩:=AmA hp;have q0:rs.1[i0]?=some p:=by rw [AlW hi0,hpi]
   have q1:(rs.1.map (·.1))[i0]?=some p.1:=by rw [AmB,q0];rfl
   have q2:(rs.1.map (·.2.length))[i0]?=some p.2.length:=by rw [AmB,q0];rfl
   rw [b1,<- hms,AmB,AmY]at q1;obtain ⟨m,hm,hm1⟩:=q1;rw [b2]at q2;rw [AmB,AmY]at q2;obtain ⟨row,hrow,hrl⟩:=q2;obtain ⟨n',hn',hle'⟩:=hmsA m (AmI hm);have hsz:m.2.length=p.2.length:=by
    have:=congrArg (·[i0]?) hlen;simp only [AmB,hrow,hm,AmS,AlV]at this;omega
   rw [hm1]at hn' hle';obtain rfl:n=n':=by rw [hn]at hn';injection hn'
   obtain ⟨cs0,e0,fr0,z1,z2,z3,z4,z5⟩:=hi.ms _ _ hn hn0
   replace hle':p.1.2+m.2.length<=n:=by
    rcases hle' with h | h
    .exact h.2
    .omega
   rcases hb4 with⟨cs,e,fr,h1,h2,hwin,h3⟩ | ⟨xs,_,es,hmp,_⟩
   rotate_left
   .obtain ⟨_,_,_,hcl⟩:=(hkind m (AmI hm) n (by rw [hm1];exact hn)).1 hn0;rw [hm1,hmp]at hcl;cases hcl
   have hloc:(msK.map (loc c.mb c.mo))[i0]?=some (c.mb p.1.1,c.mo p.1.1+p.1.2):=by
    rw [<- hms,AmU,AmB,hm];simp only [AmS,Function.comp,loc,hm1]
   obtain ⟨cs',y1,y2,y3⟩:=p6.2 i0 _ row cs0 e0 fr0 hloc hrow z1;simp only at y1 y3;rw [h1]at y1;injection y1 with y1
   injection y1 with y1a y1b y1c
   subst y1a y1b y1c;refine⟨cs,e,fr,h1,O,h2,λi u hlt hu=>?_,?_⟩
   .rw [hrowmc p hp i];by_cases hc:p.1.2<=i/\i < p.1.2+p.2.length
    .rw [Al1 hc];have hlt:i - p.1.2 < p.2.length:=O
     obtain ⟨u',hu1,hu2⟩:=h3.get (AlW hlt);rw [AmO,AlW hlt,AmG];have:u'=u:=by
      rw [Ami hlt,AmC,Amh,(O:c.mo p.1.1+p.1.2+(i - p.1.2)=c.mo p.1.1+i),hu]at hu1;injection hu1 with hu1;exact hu1.symm
     subst this;exact LeafOk.mono (hK2 K' hK hfr) hu2
    .rw [AlZ hc];rw [y3 _ O]at hu;exact hstayL _ _ (z4 i u hlt hu)
   .intro cs1 e1 fr1 h0;obtain ⟨x1,x2,x3,x4⟩:=z5 cs1 e1 fr1 h0;refine⟨x1,x2,O,λi hio=>?_⟩;rw [<- x4 i hio];exact y3 i O)
  (λk hk hn=>by
   rw [<- hrsq]at hk;obtain ⟨p,hp,rfl⟩:=Aml.1 hk;have hpK:p.1∈msK:=by rw [<- b1];exact Aml.2 ⟨p,hp,rfl⟩
   rw [<- hms]at hpK;obtain ⟨m,hm,hm1⟩:=Aml.1 hpK;obtain ⟨es,n',hh⟩:=(hkind m hm 0 (by rw [hm1];exact hn)).2 rfl;rw [hm1]at hh;obtain ⟨n'',hn'',hle'⟩:=hmsA m hm;rw [hm1]at hn'' hle';obtain rfl:0=n'':=by rw [hn]at hn'';injection hn''
   obtain ⟨_,ho,_⟩:=hle'.resolve_left λh=>by omega
   rcases b5 p hp with⟨cs,e,fr,h1⟩ | ⟨xs,h1,h2⟩
   .rw [hh]at h1;cases h1
   .refine⟨xs,?_,h2⟩;rw [hrowmc p hp 0,h1,ho];rfl)
 obtain ⟨c',m1,m2,m3,m4,m5⟩:=hmany;have hS':(S.kp ks).ups (Ck gs++(Ho l++Ih rs.1))=S':=by rw [Ew,Ew];exact hS
 unfold Did;simp only;rw [hS'];refine⟨c',m3,m4,?_⟩;have hb:=hHv c' λk n hk=>(m2 k n hk).1
 rw [<- hl,<- hns]at hb;refine AeR ?_;have:=a2 S' c' (Hv.left hnl hb) (λk hk=>by rw [hms'];exact hmsK k hk) (λk _=>by rw [m1.1,m1.2];exact⟨rfl,rfl⟩);exact this.mono λ_ _ h=>S1Ok.mono (hK2 _ m4.kk m5) h
theorem Abk {p:SV->Value->Prop}:∀{xs:List SV} {us:List Value} {ts:List TypeId},All2 p xs us->xs.length=ts.length->All2 (λ(x:SV×TypeId) u=>p x.1 u) (xs.zip ts) us
 | [],_,[],.nil,_=>.nil
 | _::_,_,_::_,.cons h1 h2,h=>.cons h1 (Abk h2 (by simpa using h))
 | [],_,_::_,_,h=>by simp at h
 | _::_,_,[],_,h=>by simp at h
theorem Abo {K:Nat->Prop} {C:AC}:∀{ps:List (Nat×Nat)} {vs:List Value},All2 (Agd c C) ps vs->FL (A1Ok w K (C.ms.map (plc c))) (ps.map λp=>A1.pl p.1 p.2) vs []
 | [],_,.nil=>⟨rfl,rfl⟩
 | p::ps,_,.cons (b:=v) (bs:=vs) h1 h2=>by
  obtain ⟨g,h3,h4⟩:=h1 [];rw [Amf]at h3;exact⟨v,vs,[],[],rfl,rfl,⟨rfl,g,h3,h4⟩,Abo h2⟩
theorem AfB (hE:EnvOk P E) {N:Nat} {a:Act} (hi:Inv b S w c) (hs:Slots N S c w (Kok b S c) a) {o:Oper} {f:FuncId} {fo:Operand} {caps:List (Nat×Nat)} {args:Array Operand} {ts:Array TypeId} {d:Nat} {out:Out} (ho:o.op=.call ⟨.value fo,args,ts⟩) (hfo:Cv S fo=.s (.fv f caps))
  (hsz:args.size=ts.size) (h:(Yc E d f caps ((args.toList.map (Cv S)).zip ts.toList)).ev S=some out):Pt P o a w λv w'=>Did b S c w out v w':=by
 unfold Yc at h;simp only [Af,AlY]at h;obtain ⟨C0,hC0,⟨ps,C1⟩,hcaps,C,hreach,h⟩:=h;have hfv:=AG hs fo;rw [hfo]at hfv;obtain ⟨cvs,hfval,hcvs⟩:=hfv;have hall:=Abk (GI hs args.toList) (by simpa using hsz:(args.toList.map (Cv S)).length=ts.toList.length);obtain ⟨F1,hA0⟩:=FX hi _ _ _ {} [] [] hall ⟨λ_ _=>⟨rfl,rfl⟩,λg hg=>(by cases hg),λk hk=>(by cases hk),trivial,λ_=>by simp,λp hp=>(by cases hp),Z,λ_ e he=>(by cases he)⟩ hC0;rw [Ams]at hA0;obtain ⟨hA1,_,hps1⟩:=Ss caps _ hcvs hA0 hcaps;simp only at hA1 hps1 hreach h;obtain ⟨hA,⟨mr,hmr⟩,-,-,-,-⟩:=VS _ _ _ hA1 hreach;have hps:All2 (Agd c C) ps cvs:=hps1.mono λp v hp em=>by
  have:=hp (mr++em)
  rwa [<- Al5,<- hmr]at this
 unfold Ae2 at h;simp only [Af,AlY]at h;obtain ⟨rows,hrows,h⟩:=h;split at h
 .rename_i hun;simp only [Al2,Amr,Al9]at hun;obtain ⟨hun,hbw⟩:=hun;simp only [Af,AlY]at h;obtain ⟨r,hr,lts,hlts,h⟩:=h;split at h
  .rename_i hro;split at h
   .rename_i vs rs hv hrs;split at h
    .rename_i hu;simp only [Al2,decide_eq_true_eq]at hu;obtain ⟨hu2,hlen⟩:=hu;simp only [Tr.ev,AlV]at h;subst h;obtain ⟨hgv2,F2,hR,hnd2,hF2⟩:=VK hi (C.ms.map (·.1)) C.ms hA.ms hrows;obtain ⟨u1,u2,u3⟩:=AU hun;have hFn:=CZ hi hA.held hF2 hA.gv hgv2 hun (hA.nd u1) (hnd2 u2);obtain ⟨hFh,hFnd⟩:=hFn;have hgo:=CI hA.gv hgv2;obtain ⟨⟨fn,hf,hname,hbody⟩,hcs⟩:=hE.ca f _ rows.1 S r hr;have hfl0:=hA.fl [] [];rw [Amf,Amf]at hfl0;have hfl:=hfl0.append (Abo (w:=w) (K:=KB b S c C.bw) hps);rw [Amf]at hfl;have hmb1:(C.ms.map (plc c)).map (·.1)=(C.ms.map (·.1.1)).map c.mb:=by rw [AmU,AmU];rfl
     have hmsO:∀g,g∈(C.ms.map (plc c)).map (·.1)->∃k,S.ms k≠none/\c.mb k=g/\k∈C.ms.map (·.1.1):=by
      intro g hg;rw [hmb1]at hg;obtain ⟨k,hk,rfl⟩:=Aml.1 hg;obtain ⟨p,hp,rfl⟩:=Aml.1 hk;obtain ⟨n,hn,_⟩:=hA.ms p hp;exact⟨p.1.1,by rw [hn];simp,rfl,hk⟩
     have hmsN:((C.ms.map (plc c)).map (·.1)).Nodup:=by
      have h2:∀k,k∈C.ms.map (·.1.1)->S.ms k≠none:=by
       intro k hk;obtain ⟨p,hp,rfl⟩:=Aml.1 hk;obtain ⟨n,hn,_⟩:=hA.ms p hp;rw [hn];simp
      rw [hmb1];have h3:=hA.un;revert h2 h3;generalize C.ms.map (·.1.1)=l;intro h2 h3
      induction l with
      | nil=>simp
      | cons k l ih=>
       obtain ⟨g1,g2⟩:=AmP.1 h3;rw [AmF,AmP];refine⟨λhm=>?_,ih (λk hk=>h2 k (Am2 _ hk)) g2⟩;obtain ⟨k',hk',he⟩:=Aml.1 hm;have hne:k'≠k:=by rintro rfl;exact g1 hk'
       exact hi.mm k' k hne (h2 k' (Am2 _ hk')) (h2 k Z) he
     have hcall:=hcs w (args.toList.map a.eval++cvs) (KB b S c C.bw) (C.ms.map (plc c)) F1 F2 hfl (by
      have:=hR C.bw
      rwa [show(C.ms.map (·.1)).map (loc c.mb c.mo)=C.ms.map (plc c) by rw [AmU];rfl]at this) (by
      refine Amj.2 ⟨hmsN,hFnd,?_⟩;rintro g hg g' hg' rfl;obtain ⟨k,hk,rfl,_⟩:=hmsO g hg;obtain ⟨k',hk',hgk⟩:=hFh _ hg';exact hi.mo k k' hk (hgo k' hk') hgk) (by
      intro g hg;rcases Al3.1 hg with hg | hg
      .obtain ⟨k,hk,rfl,hkm⟩:=hmsO g hg;have hO:AZ S c (c.mb k):=.inl ⟨k,hk,rfl⟩;refine⟨(hi.fr _ hO).1,?_⟩;rintro (h | ⟨k',hk',how,hgk⟩ | ⟨k',hk',hms',hgk⟩)
       .exact h.2 hO
       .exact hi.mo k k' hk how hgk
       .have hne:k≠k':=by
         rintro rfl;have:=(hbw k hk').2;simp only [List.contains_eq_mem,decide_eq_false_iff_not]at this;exact this hkm
        exact hi.mm k k' hne hk hms' hgk
      .obtain ⟨k,hk,hgk⟩:=hFh g hg;have hO:AZ S c g:=.inr ⟨k,hgo k hk,hgk⟩;refine⟨(hi.fr _ hO).1,?_⟩;rintro (h | ⟨k',hk',how,hgk'⟩ | ⟨k',hk',hms',hgk'⟩)
       .exact h.2 hO
       rotate_left
       .subst hgk';exact hi.mo k' k hms' (hgo k hk) hgk
       .have hne:k≠k':=by
         rintro rfl;have:=(hbw k hk').1;simp only [List.contains_eq_mem,decide_eq_false_iff_not]at this;exact this hk
        exact hi.oo k k' hne (hgo k hk) how g hgk hgk') ⟨(ZO hi).1,λg hg=>.inl ((ZO hi).2 g hg)⟩
     intro next Q hnext;have hargs:args.map a.eval++cvs.toArray=(args.toList.map a.eval++cvs).toArray:=by apply AnS;simp
     unfold Oper.wp;have hrun:(execOp a.eval o).run P w=.ok (.enter f (args.toList.map a.eval++cvs).toArray) w:=by
      rw [<- hargs]
      have hname' : ¬ fn.name = "runtime.NumGoroutine" := by simpa using hname
      have hbody':¬ fn.body=none:=by
       intro hb;rw [hb]at hbody;cases hbody
      simp [execOp,ho,resolve,Deferred.ofValue,hfval,invoke,callFunc,hf,hname',hbody']
     rw [hrun];refine Calls.mono hcall ?_;rintro e w' ⟨v,rfl,hp⟩;refine hnext v w' (AfL hi hA ?_ hlts hv hrs hu2 hlen hF2 hgv2 hun hp);simp only [Ang,Al9,AnV,List.isEmpty_iff]at hro;exact hro
    .simp [Tr.ev]at h
   .simp [Tr.ev]at h
  .simp [Tr.ev]at h
 .simp [Tr.ev]at h
theorem Pp (kc:List (Nat×Nat)):∀(us:List U) {us':List U},(K9 kc us).ev S=some us'->∀T:St,(∀p,p∈kc->∀i (x:Int),S.mc p.1 p.2=.v (.int i) x->T.mc p.1 p.2=.v (.int i) x)->T.ups us'=T.ups us
 | [],us',h,T,_=>by
  simp only [K9,Tr.ev,AlV]at h;subst h;rfl
 | .mc k off l::us,us',h,T,hT=>by
  unfold K9 at h;split at h
  .rename_i hc;split at h
   .rename_i i y;simp only [Tr.ev]at h;split at h
    .rename_i i' x hx;split at h
     .rename_i hi;subst hi;simp only [Tr.ev]at h;split at h
      .rename_i hxy;obtain rfl:x=y:=of_decide_eq_true hxy;have h1:=hT (k,off) (by simpa using hc) i x hx;have h2:T.up (.mc k off (.v (.int i) x))=T:=St.ext' (λ_=>rfl) (λ_=>rfl) (λa b=>by
        show(if a=k then(if b=off then _ else T.mc a b)else T.mc a b)=T.mc a b;split
        .rename_i ha;split
         .rename_i hb;subst ha hb;exact h1.symm
         .rfl
        .rfl) (λ_=>rfl)
       show T.ups us'=(T.up _).ups us;rw [h2];exact Pp kc us h T hT
      .cases h
     .simp [Tr.ev]at h
    .simp [Tr.ev]at h
   .simp [Tr.ev]at h
  .rename_i hc;simp only [Af,AlY,Tr.ev,AlV]at h;obtain ⟨r,hr,rfl⟩:=h;refine Pp kc us hr (T.up (.mc k off l)) λp hp i x hx=>?_
   show(if p.1=k then(if p.2=off then l else T.mc p.1 p.2)else T.mc p.1 p.2)=_;have hne:¬ (p.1=k/\p.2=off):=by
    rintro ⟨rfl,rfl⟩;exact hc (by simpa using hp)
   split
   .rename_i h1;rw [AlZ λh2=>hne ⟨h1,h2⟩];exact hT p hp i x hx
   .exact hT p hp i x hx
 | .ow k o::us,us',h,T,hT=>by
  simp only [K9,Af,AlY,Tr.ev,AlV]at h;obtain ⟨r,hr,rfl⟩:=h;exact Pp kc us hr (T.up (.ow k o)) hT
 | .ms _ _::_,us',h,T,_=>by simp [K9,Tr.ev]at h
theorem Agr (hE:EnvOk P E) {N:Nat} {a:Act} (hi:Inv b S w c) (hs:Slots N S c w (Kok b S c) a) {o:Oper} {f:FuncId} {fo:Operand} {caps:List (Nat×Nat)} {args:Array Operand} {ts:Array TypeId} {d:Nat} {out:Out} (ho:o.op=.call ⟨.value fo,args,ts⟩) (hfo:Cv S fo=.s (.fv f caps))
  (hsz:args.size=ts.size) (h:(XA E d f caps ((args.toList.map (Cv S)).zip ts.toList)).ev S=some out):Pt P o a w λv w'=>Did b S c w out v w':=by
 unfold XA at h;rw [Af,AlY]at h;obtain ⟨out0,h0,h1⟩:=h;have h2:=AfB hE hi hs ho hfo hsz h0;unfold AhA at h1;split at h1
 .rename_i p hp;simp only [Af,AlY,Tr.ev,AlV]at h1;obtain ⟨us,hus,rfl⟩:=h1;have h3:(S.kp out0.ks).ups us=(S.kp out0.ks).ups out0.us:=Pp p.2 _ hus _ λq _ i x hx=>by rw [Dw,hx];rfl
  intro next Q hn;refine h2 next Q λv w' hd=>hn v w' ?_
  unfold Did at hd ⊢;simp only [h3];exact hd
 .simp only [Tr.ev,AlV]at h1;subst h1;exact h2
end
end Go.V
namespace Go.V
open Go.RowKit
theorem Aii (vs:List (Nat×Ae)) (t:Ty) (i:Nat):tuple vs [t] i=match find vs i with
 | some ⟨u,x⟩=>if h:u=t then some (h ▸ x)else none
 | none=>none:=rfl
theorem Aig (vs:List (Nat×Ae)) (t u:Ty) (ts:List Ty) (i:Nat):tuple vs (t::u::ts) i=match find vs i with
 | some ⟨u',x⟩=>if h:u'=t then match tuple vs (u::ts) (i+1)with
  | some y=>some (h ▸ x,y)
  | none=>none
  else none
 | none=>none:=rfl
theorem Aa0 (vs:List (Nat×Ae)):∀(ts:List Ty) (i:Nat) (x:(AV ts).D),tuple vs ts i=some x->∀j,j < ts.length->find vs (i+j)=(split ts x)[j]?:=by
 intro ts
 induction ts with
 | nil=>intro i x _ j hj;simp at hj
 | cons t ts ih=>
  intro i x h j hj;cases ts with
  | nil=>
   obtain rfl:j=0:=by simp at hj;exact hj
   rw [Aii]at h;show find vs (i+0)=[(⟨t,x⟩:Ae)][0]?;split at h
   .rename_i u y hf;split at h
    .rename_i hu;subst hu;injection h with h
     subst h;exact hf
    .cases h
   .cases h
  | cons u ts=>
   rw [Aig]at h;split at h
   .rename_i u' y hf;split at h
    .rename_i hu;subst hu;split at h
     .rename_i z hz;injection h with h
      subst h;show find vs (i+j)=((⟨_,y⟩:Ae)::split (u::ts) z)[j]?;cases j with
      | zero=>exact hf
      | succ j=>
       have:=ih (i+1) z hz j (by simpa using hj);rw [Am3,<- this]
       congr 1;omega
     .cases h
    .cases h
   .cases h
structure Le (m m':Mt):Prop where
 ro:∀x,x∈m.ro->x∈m'.ro
 rm:∀x,x∈m.rm->x∈m'.rm
 nl:∀x,x∈m.nl->x∈m'.nl
 vs:∀x,x∈m.vs->x∈m'.vs
theorem Le.refl (m:Mt):Le m m:=⟨λ_ h=>h,λ_ h=>h,λ_ h=>h,λ_ h=>h⟩
theorem Le.trans {a b c:Mt} (h:Le a b) (k:Le b c):Le a c:=⟨λx hx=>k.ro x (h.ro x hx),λx hx=>k.rm x (h.rm x hx),λx hx=>k.nl x (h.nl x hx),λx hx=>k.vs x (h.vs x hx)⟩
theorem G5 {l l':List (Nat×Nat)} {a b:Nat} (h:Jq l a b=some l'):(a,b)∈l'/\∀x,x∈l->x∈l':=by
 unfold Jq at h;split at h
 .rename_i c hc;split at h
  .rename_i hcb;subst hcb;injection h with h
   subst h;exact⟨AL hc,λ_ h=>h⟩
  .cases h
 .injection h with h
  subst h;exact⟨Z,λx hx=>by simp [hx]⟩
section
variable {holes:List Ty} {S S0:St} {c c0:Cc} {w:World} {K K0:Nat->Prop}
structure Fin (hs:List Ae) (m:Mt) (S S0:St) (c c0:Cc) (w:World) (K K0:Nat->Prop):Prop where
 k:∀g,g < w.heap.size->K g->K0 g
 vs:∀i x,(i,x)∈m.vs->hs[i]?=some x
 ro:∀ κ k,(κ,k)∈m.ro->S0.ow κ=S.ow k/\c0.hv κ=c.hv k
 nl:∀ κ,κ∈m.nl->(∃e r,S0.ow κ=some ⟨e,r,[]⟩)/\c0.hv κ=.slice none 0 0
 rm:∀ κ k,(κ,k)∈m.rm->(∀n,S.ms k=some n->S0.ms κ=some n)/\c0.mb κ=c.mb k/\c0.mo κ=c.mo k
theorem ZR {hs:List Ae} {mf:Mt} {m m':Mt} {t:TL} {l:Leaf} (h:t.mt holes m l=some m'):Le m m'/\(Le m' mf->Fin hs mf S S0 c c0 w K K0->∀v,LeafOk S c w K l v->LeafOk S0 c0 w K0 (t.inj hs) v):=by
 unfold TL.mt at h;split at h
 .rename_i i t x;injection h with h
  subst h;refine⟨⟨λ_ h=>h,λ_ h=>h,λ_ h=>h,λx hx=>by simp [hx]⟩,λhl hf v hv=>?_⟩;have:=hf.vs i ⟨t,x⟩ (hl.vs _ Z);simp only [TL.inj,this];exact LeafOk.mono hf.k hv
 .rename_i i;split at h
  .rename_i e r _;injection h with h
   subst h;refine⟨⟨λ_ h=>h,λ_ h=>h,λ_ h=>h,λx hx=>by simp [hx]⟩,λhl hf v hv=>?_⟩;have:=hf.vs i ⟨.sl false e r,[]⟩ (hl.vs _ Z);simp only [TL.inj,this];obtain rfl:v=.slice none 0 0:=hv;show Rp w K0 (.sl false e r) [] _ _;rw [Rp];exact⟨rfl,none,0,[],rfl,Amu _,⟨rfl,rfl⟩,.inl rfl⟩
  .cases h
 .rename_i κ k;split at h
  .rename_i l hl;injection h with h
   subst h;obtain ⟨h1,h2⟩:=G5 hl;refine⟨⟨h2,λ_ h=>h,λ_ h=>h,λ_ h=>h⟩,λhle hf v hv=>?_⟩;obtain ⟨h3,h4⟩:=hf.ro κ k (hle.ro _ h1);obtain ⟨o,e,r,ys,hd,q1,q2,q3,q4⟩:=hv;exact⟨o,e,r,ys,hd,by rw [h3];exact q1,q2,by rw [h4];exact q3,q4⟩
  .cases h
 .rename_i κ;injection h with h
  subst h;refine⟨⟨λ_ h=>h,λ_ h=>h,λx hx=>by simp [hx],λ_ h=>h⟩,λhle hf v hv=>?_⟩;obtain ⟨⟨e,r,h3⟩,h4⟩:=hf.nl κ (hle.nl _ Z);obtain rfl:v=.slice none 0 0:=hv;exact⟨_,e,r,[],.slice none 0 0,h3,rfl,by rw [h4];rfl,rfl⟩
 .rename_i κ i f k n g;split at h
  .rename_i hfg;subst hfg;split at h
   .rename_i l hl;injection h with h
    subst h;obtain ⟨h1,h2⟩:=G5 hl;refine⟨⟨h2,λ_ h=>h,λ_ h=>h,λx hx=>by simp [hx]⟩,λhle hf v hv=>?_⟩;obtain ⟨h3,h4⟩:=hf.ro κ k (hle.ro _ h1);have:=hf.vs i ⟨.int .i64,(n:Int)⟩ (hle.vs _ Z);obtain ⟨o,e,r,ys,hd,q1,q2,q3,q4⟩:=hv;simp only [TL.inj,this,OS,AlX];exact⟨o,e,r,ys,hd,by rw [h3];exact q1,q2,by rw [h4];exact q3,q4⟩
   .cases h
  .cases h
 .rename_i κ i j k n g;split at h
  .rename_i l hl;injection h with h
   subst h;obtain ⟨h1,h2⟩:=G5 hl;refine⟨⟨h2,λ_ h=>h,λ_ h=>h,λx hx=>by simp [hx]⟩,λhle hf v hv=>?_⟩;obtain ⟨h3,h4⟩:=hf.ro κ k (hle.ro _ h1);have t1:=hf.vs i ⟨.int .i64,(n:Int)⟩ (hle.vs _ Z);have t2:=hf.vs j ⟨.int .i64,(g:Int)⟩ (hle.vs _ Z);obtain ⟨o,e,r,ys,hd,q1,q2,q3,q4⟩:=hv;simp only [TL.inj,t1,t2,OS,AlX];exact⟨o,e,r,ys,hd,by rw [h3];exact q1,q2,by rw [h4];exact q3,q4⟩
  .cases h
 .rename_i κ i f x y k n g a b;split at h
  .rename_i hfg;subst hfg;split at h
   .rename_i l hl;injection h with h
    subst h;obtain ⟨h1,h2⟩:=G5 hl;refine⟨⟨h2,λ_ h=>h,λ_ h=>h,λx hx=>by simp [hx]⟩,λhle hf v hv=>?_⟩;obtain ⟨h3,h4⟩:=hf.ro κ k (hle.ro _ h1);have t1:=hf.vs i ⟨.int .i64,(n:Int)⟩ (hle.vs _ Z);have t2:=hf.vs x ⟨.int .i64,(a:Int)⟩ (hle.vs _ Z);have t3:=hf.vs y ⟨.int .i64,(b:Int)⟩ (hle.vs _ Z);obtain ⟨o,e,r,ys,hd,q1,q2,q3,q4⟩:=hv;simp only [TL.inj,t1,t2,t3,OS,AlX];exact⟨o,e,r,ys,hd,by rw [h3];exact q1,q2,by rw [h4];exact q3,q4⟩
   .cases h
  .cases h
 .injection h with h
  subst h;exact⟨Le.refl _,λ_ _ v hv=>hv⟩
 .injection h with h
  subst h;exact⟨Le.refl _,λ_ _ v hv=>hv⟩
 .rename_i i;split at h
  .rename_i t _;injection h with h
   subst h;refine⟨⟨λ_ h=>h,λ_ h=>h,λ_ h=>h,λx hx=>by simp [hx]⟩,λhl hf v hv=>?_⟩;have:=hf.vs i ⟨.pt t,none⟩ (hl.vs _ Z);simp only [TL.inj,this];obtain rfl:v=.pointer none:=hv;show Rp w K0 (.pt t) none _ _;simp only [Rp];exact⟨trivial,trivial⟩
  .cases h
 .rename_i κ off k off';split at h
  .rename_i ho;subst ho;split at h
   .rename_i l hl;injection h with h
    subst h;obtain ⟨h1,h2⟩:=G5 hl;refine⟨⟨λ_ h=>h,h2,λ_ h=>h,λ_ h=>h⟩,λhle hf v hv=>?_⟩;obtain ⟨h3,h4⟩:=hf.rm κ k (hle.rm _ h1);obtain ⟨n,hn,rfl⟩:=hv;exact⟨n,h3 n hn,by rw [h4.1,h4.2]⟩
   .cases h
  .cases h
 .injection h with h
  subst h;exact⟨Le.refl _,λ_ _ v _=>trivial⟩
 .rename_i κ k;split at h
  .rename_i l hl;injection h with h
   subst h;obtain ⟨h1,h2⟩:=G5 hl;refine⟨⟨λ_ h=>h,h2,λ_ h=>h,λ_ h=>h⟩,λhle hf v hv=>?_⟩;obtain ⟨h3,h4⟩:=hf.rm κ k (hle.rm _ h1);obtain ⟨hn,rfl⟩:=hv;exact⟨h3 0 hn,by rw [h4.1]⟩
  .cases h
 .injection h with h
  subst h;exact⟨⟨λ_ h=>h,λ_ h=>h,λ_ h=>h,λx hx=>by simp [hx]⟩,λ_ _ v hv=>hv.elim⟩
 .cases h
theorem AbA {hs:List Ae} {mf:Mt}:∀(ts:List TL) (ls:List Leaf) {m m':Mt},TL.mts holes m ts ls=some m'->Le m m'/\(Le m' mf->Fin hs mf S S0 c c0 w K K0->∀vs,All2 (LeafOk S c w K) ls vs->All2 (LeafOk S0 c0 w K0) (ts.map (TL.inj hs)) vs)
 | [],[],m,m',h=>by
  rw [TL.mts]at h;injection h with h
  subst h;exact⟨Le.refl _,λ_ _ vs hv=>by cases hv;exact .nil⟩
 | t::ts,l::ls,m,m',h=>by
  rw [TL.mts]at h;split at h
  .rename_i m1 h1;obtain ⟨q1,q2⟩:=ZR (hs:=hs) (mf:=mf) (S:=S) (S0:=S0) (c:=c) (c0:=c0) (w:=w) (K:=K) (K0:=K0) h1;obtain ⟨q3,q4⟩:=AbA ts ls h;refine⟨q1.trans q3,λhle hf vs hv=>?_⟩;cases hv with
   | cons a1 a2=>exact .cons (q2 (q3.trans hle) hf _ a1) (q4 hle hf _ a2)
  .cases h
 | [],_::_,_,_,h=>by simp [TL.mts]at h
 | _::_,[],_,_,h=>by simp [TL.mts]at h
theorem Ai7 {hs:List Ae} {mf:Mt} {m m':Mt} {t:TS} {x:SV} (h:t.mt holes m x=some m'):Le m m'/\(Le m' mf->Fin hs mf S S0 c c0 w K K0->∀v,AQ S c w K x v->AQ S0 c0 w K0 (.s (t.inj hs)) v):=by
 unfold TS.mt at h;split at h
 .obtain ⟨q1,q2⟩:=ZR (hs:=hs) (mf:=mf) (S:=S) (S0:=S0) (c:=c) (c0:=c0) (w:=w) (K:=K) (K0:=K0) h;exact⟨q1,λhle hf v hv=>q2 hle hf v hv⟩
 .obtain ⟨q1,q2⟩:=AbA (hs:=hs) (mf:=mf) (S:=S) (S0:=S0) (c:=c) (c0:=c0) (w:=w) (K:=K) (K0:=K0) _ _ h;refine⟨q1,λhle hf v hv=>?_⟩;obtain ⟨vs,rfl,hv⟩:=hv;exact⟨vs,rfl,q2 hle hf vs hv⟩
 .rename_i κ off k off';split at h
  .rename_i ho;subst ho;split at h
   .rename_i l hl;injection h with h
    subst h;obtain ⟨h1,h2⟩:=G5 hl;refine⟨⟨λ_ h=>h,h2,λ_ h=>h,λ_ h=>h⟩,λhle hf v hv=>?_⟩;obtain ⟨h3,h4⟩:=hf.rm κ k (hle.rm _ h1);obtain ⟨n,hn,rfl⟩:=hv;exact⟨n,h3 n hn,by rw [h4.1,h4.2]⟩
   .cases h
  .cases h
 .rename_i f cs f' cs';split at h
  .rename_i hq;obtain ⟨rfl,rfl,hall⟩:=hq;injection h with h
   subst h;refine⟨Le.refl _,λhle hf v hv=>?_⟩;obtain ⟨vs,rfl,hvs⟩:=hv;refine⟨vs,rfl,?_⟩
   induction hvs with
   | nil=>exact .nil
   | @cons p v cs vs h1 _ ih=>
    simp only [Anc,Al2,beq_iff_eq]at hall;obtain ⟨n,hn,rfl⟩:=h1;obtain ⟨h3,h4⟩:=hf.rm p.1 p.1 (hle.rm _ (AL hall.1));exact .cons ⟨n,h3 n hn,by rw [h4.1,h4.2]⟩ (ih hall.2)
  .cases h
 .rename_i i off u x off';split at h
  .rename_i ho;subst ho;injection h with h
   subst h;refine⟨⟨λ_ h=>h,λ_ h=>h,λ_ h=>h,λx hx=>by simp [hx]⟩,λhle hf v hv=>?_⟩;have:=hf.vs i ⟨u,x⟩ (hle.vs _ Z);simp only [TS.inj,this];obtain ⟨a,vs,q0,q1,q2,q3,q4⟩:=hv;exact⟨a,vs,q0,Rp.mono hf.k _ _ q1,hf.k _ q3 q2,q3,q4⟩
  .cases h
 .cases h
theorem TD {hs:List Ae} {mf:Mt}:∀(l:List (Nat×TS)) {m m':Mt},N5 holes S l m=some m'->Le m m'/\(Le m' mf->Fin hs mf S S0 c c0 w K K0->∀i t,(i,t)∈l->∀v,AQ S c w K (S.sl i) v->AQ S0 c0 w K0 (.s (t.inj hs)) v)
 | [],m,m',h=>by
  rw [N5]at h;injection h with h
  subst h;exact⟨Le.refl _,λ_ _ i t hm=>by cases hm⟩
 | (i,t)::l,m,m',h=>by
  rw [N5]at h;split at h
  .rename_i m1 h1;obtain ⟨q1,q2⟩:=Ai7 (hs:=hs) (mf:=mf) (S:=S) (S0:=S0) (c:=c) (c0:=c0) (w:=w) (K:=K) (K0:=K0) h1;obtain ⟨q3,q4⟩:=TD l h;refine⟨q1.trans q3,λhle hf j u hm v hv=>?_⟩;rcases Ame.1 hm with hm | hm
   .injection hm with e1 e2
    subst e1 e2;exact q2 (q3.trans hle) hf v hv
   .exact q4 hle hf j u hm v hv
  .cases h
theorem ZI {hs:List Ae} {mf:Mt} (k:Nat):∀(ts:List TL) (i:Nat) {m m':Mt},Ot holes S k ts i m=some m'->
  Le m m'/\(Le m' mf->Fin hs mf S S0 c c0 w K K0->∀j t,ts[j]?=some t->∀v,LeafOk S c w K (S.mc k (i+j)) v->LeafOk S0 c0 w K0 (t.inj hs) v)
 | [],i,m,m',h=>by
  rw [Ot]at h;injection h with h
  subst h;exact⟨Le.refl _,λ_ _ j t hm=>by simp at hm⟩
 | t::ts,i,m,m',h=>by
  rw [Ot]at h;split at h
  .rename_i m1 h1;obtain ⟨q1,q2⟩:=ZR (hs:=hs) (mf:=mf) (S:=S) (S0:=S0) (c:=c) (c0:=c0) (w:=w) (K:=K) (K0:=K0) h1;obtain ⟨q3,q4⟩:=ZI k ts (i+1) h;refine⟨q1.trans q3,λhle hf j u hm v hv=>?_⟩;cases j with
   | zero=>
    simp only [Anb,AlV]at hm;subst hm;exact q2 (q3.trans hle) hf v hv
   | succ j=>exact q4 hle hf j u (by simpa using hm) v (by rwa [(O:i+(j+1)=i+1+j)]at hv)
  .cases h
theorem AiR {k i:Nat} {m m':Mt} (h:Ot holes S k [.md i] 0 m=some m'):∃xs,S.mc k 0=.md xs/\(i,(⟨.mp,xs⟩:Ae))∈m'.vs:=by
 simp only [Ot]at h;split at h
 .rename_i m1 h1;injection h with h
  subst h;generalize hl:S.mc k 0=l at h1;cases l with
  | md xs=>
   injection h1 with h1
   subst h1;exact⟨xs,rfl,Z⟩
  | _=>cases h1
 .cases h
theorem PU {hs:List Ae} {mf:Mt}:∀(l:List (Nat×List TL)) {m m':Mt},PZ holes S l m=some m'->
  Le m m'/\(Le m' mf->∀ κ row,(κ,row)∈l->∃k,(κ,k)∈mf.rm/\S.ms k=some (Pf row)/\(∀i,row=[.md i]->∃xs,S.mc k 0=.md xs/\(i,(⟨.mp,xs⟩:Ae))∈mf.vs)/\(Fin hs mf S S0 c c0 w K K0->∀j t,row[j]?=some t->∀v,LeafOk S c w K (S.mc k j) v->LeafOk S0 c0 w K0 (t.inj hs) v))
 | [],m,m',h=>by
  rw [PZ]at h;injection h with h
  subst h;exact⟨Le.refl _,λ_ i t hm=>by cases hm⟩
 | (κ,row)::l,m,m',h=>by
  rw [PZ]at h;split at h
  .rename_i k hk;split at h
   .rename_i hn;split at h
    .rename_i m1 h1;obtain ⟨q1,q2⟩:=ZI (hs:=hs) (mf:=mf) (S:=S) (S0:=S0) (c:=c) (c0:=c0) (w:=w) (K:=K) (K0:=K0) k row 0 h1;obtain ⟨q3,q4⟩:=PU l h;refine⟨q1.trans q3,λhle κ' row' hm=>?_⟩;rcases Ame.1 hm with hm | hm
     .injection hm with e1 e2
      subst e1 e2;exact⟨k,(q1.trans (q3.trans hle)).rm _ (AL hk),hn,(λi hi=>by
       subst hi;obtain ⟨xs,e1,e2⟩:=AiR h1;exact⟨xs,e1,(q3.trans hle).vs _ e2⟩),λhf j t ht v hv=>q2 (q3.trans hle) hf j t ht v (by rwa [Amk])⟩
     .exact q4 hle κ' row' hm
    .cases h
   .cases h
  .cases h
theorem QF:∀(l:List (Nat×Nat)) {m m':Mt},N3 holes S l m=some m'->
  Le m m'/\m'.ro=m.ro/\m'.nl=m.nl/\∀ κ h,(κ,h)∈l->(∃k o,(κ,k)∈m.ro/\S.ow k=some o/\(h,(⟨.sl true o.e o.r,o.xs⟩:Ae))∈m'.vs)\/(κ∈m.nl/\∃e r,(h,(⟨.sl true e r,[]⟩:Ae))∈m'.vs)
 | [],m,m',h=>by
  rw [N3]at h;injection h with h
  subst h;exact⟨Le.refl _,rfl,rfl,λ_ _ hm=>by cases hm⟩
 | (κ,hh)::l,m,m',h=>by
  rw [N3]at h;have add:∀(x:Ae),Le m { m with vs:=(hh,x)::m.vs }:=λx=>⟨λ_ h=>h,λ_ h=>h,λ_ h=>h,λy hy=>by simp [hy]⟩
  split at h
  .rename_i k hk;split at h
   .rename_i o ho;obtain ⟨q1,q2,q3,q4⟩:=QF l h;refine⟨(add _).trans q1,q2,q3,λκ' h' hm=>?_⟩;rcases Ame.1 hm with hm | hm
    .injection hm with e1 e2
     subst e1 e2;exact .inl ⟨k,o,AL hk,ho,q1.vs _ Z⟩
    .exact q4 κ' h' hm
   .cases h
  .split at h
   .rename_i hc;split at h
    .rename_i e r _;obtain ⟨q1,q2,q3,q4⟩:=QF l h;refine⟨(add _).trans q1,q2,q3,λκ' h' hm=>?_⟩;rcases Ame.1 hm with hm | hm
     .injection hm with e1 e2
      subst e1 e2;exact .inr ⟨by simpa using hc,e,r,q1.vs _ Z⟩
     .exact q4 κ' h' hm
    .cases h
   .cases h
end
theorem VE:∀{l:List (Nat×Nat)} {a b k:Nat},(l.map (·.2)).Nodup->(a,k)∈l->(b,k)∈l->a=b
 | [],_,_,_,_,h,_=>by cases h
 | (i,j)::l,a,b,k,hn,h1,h2=>by
  rw [AmF,AmP]at hn;rcases Ame.1 h1 with e1 | h1'
  .injection e1 with e1 e1'
   subst e1 e1';rcases Ame.1 h2 with e2 | h2'
   .injection e2 with e2 _;exact e2.symm
   .exact absurd (Aml.2 ⟨(b,k),h2',rfl⟩) hn.1
  .rcases Ame.1 h2 with e2 | h2'
   .injection e2 with e2 e2'
    subst e2 e2';exact absurd (Aml.2 ⟨(a,k),h1',rfl⟩) hn.1
   .exact VE hn.2 h1' h2'
theorem Tpl.ok0 {b:Base} {N:Nat} {S:St} {a:Act} {w:World} (t:Tpl) {x:t.D} (h:t.prj0 S=some x) (hs:Sim b N S a w):Sim b N (t.inj x) a w:=by
 unfold Tpl.prj0 at h;split at h
 .rename_i m hm;split at h
  .rename_i hfine;simp only [Mt.fine,Al2,Amr,decide_eq_true_eq,Al9,beq_iff_eq]at hfine;obtain ⟨⟨⟨⟨⟨⟨⟨⟨⟨f1,f2⟩,f3⟩,f4⟩,f5⟩,f6⟩,f7⟩,f8⟩,f9⟩,f10⟩:=hfine;obtain ⟨c,hi,hsl,hfx⟩:=hs;unfold Tpl.mt at hm;split at hm
   .rename_i m1 hm1;split at hm
    .rename_i m2 hm2;obtain ⟨w1,w2,w3,w4⟩:=QF t.owns hm;generalize hhs:split t.holes x=hs;have hinj:t.inj x=t.injH hs:=by rw [<- hhs];rfl
     rw [hinj];have hvs:∀i y,(i,y)∈m.vs->hs[i]?=some y:=by
      intro i y hy;have:=Aa0 m.vs t.holes 0 x h i (f2 _ hy);rw [Amk,hhs]at this;rw [<- this];exact Do (BX f1) hy
     let c0:Cc:=⟨c.mb,c.mo,λκ=>match find m.ro κ with | some k=>c.hv k | none=>.slice none 0 0,λκ=>match find m.ro κ with | some k=>c.F k | none=>[]⟩
     have how:∀ κ,(t.injH hs).ow κ≠none->(∃k o,find m.ro κ=some k/\S.ow k=some o/\(t.injH hs).ow κ=some o)\/(find m.ro κ=none/\∃e r,(t.injH hs).ow κ=some ⟨e,r,[]⟩):=by
      intro κ hκ;simp only [Tpl.injH]at hκ ⊢;split at hκ
      .rename_i hh hfo;rcases w4 κ hh (AL hfo)with⟨k,o,k1,k2,k3⟩ | ⟨k1,e,r,k3⟩
       .rw [<- w2]at k1;refine .inl ⟨k,o,Do (BX f3) k1,k2,?_⟩;rw [hvs _ _ k3];rfl
       .rw [<- w3]at k1;have:=(f7 κ k1).1;refine .inr ⟨IO (by simpa using this),e,r,?_⟩;rw [hvs _ _ k3];rfl
      .exact absurd rfl hκ
     have hroO:∀ κ k,(κ,k)∈m.ro->(t.injH hs).ow κ=S.ow k/\S.ow k≠none:=by
      intro κ k hk;have h8:=f8 _ hk;obtain ⟨hh,hho⟩:=AnU.1 h8;rcases w4 κ hh (AL hho)with⟨k',o,k1,k2,k3⟩ | ⟨k1,e,r,k3⟩
      .rw [<- w2]at k1;have e1:=Do (BX f3) k1;have e2:=Do (BX f3) hk;rw [e1]at e2;injection e2 with e2
       subst e2;refine⟨?_,by rw [k2];simp⟩;simp only [Tpl.injH,hho,hvs _ _ k3,k2];rfl
      .rw [<- w3]at k1;have:=(f7 κ k1).1;simp only [List.contains_eq_mem,decide_eq_false_iff_not]at this;exact absurd (Aml.2 ⟨(κ,k),hk,rfl⟩) this
     have hrm:∀ κ,(t.injH hs).ms κ≠none->∃row,find t.mems κ=some row/\(t.injH hs).ms κ=some (Pf row):=by
      intro κ hκ;simp only [Tpl.injH]at hκ ⊢;cases hfm:find t.mems κ with
      | none=>rw [hfm]at hκ;exact absurd rfl hκ
      | some row=>exact⟨row,rfl,rfl⟩
     have hrmf:∀ κ k,(κ,k)∈m.rm->find m.rm κ=some k:=λκ k hk=>Do (BX f5) hk
     have hcmb:∀ κ k,find m.rm κ=some k->c0.mb κ=c.mb k:=λκ k hk=>by show c.mb κ=_;rw [show κ=k from f10 _ (AL hk)]
     have hcmo:∀ κ k,find m.rm κ=some k->c0.mo κ=c.mo k:=λκ k hk=>by show c.mo κ=_;rw [show κ=k from f10 _ (AL hk)]
     have hchv:∀ κ k,find m.ro κ=some k->c0.hv κ=c.hv k/\c0.F κ=c.F k:=λκ k hk=>⟨by show(match find m.ro κ with | some k=>c.hv k | none=>.slice none 0 0)=_;rw [hk],by show(match find m.ro κ with | some k=>c.F k | none=>[])=_;rw [hk]⟩
     have hcno:∀ κ,find m.ro κ=none->c0.hv κ=.slice none 0 0/\c0.F κ=[]:=λκ hk=>⟨by show(match find m.ro κ with | some k=>c.hv k | none=>.slice none 0 0)=_;rw [hk],by show(match find m.ro κ with | some k=>c.F k | none=>[])=_;rw [hk]⟩
     have hmem:∀ κ row,find t.mems κ=some row->∃k,find m.rm κ=some k/\S.ms k=some (Pf row):=by
      intro κ row hrow;obtain ⟨_,q2⟩:=PU (hs:=hs) (mf:=m) (S:=S) (S0:=S) (c:=c) (c0:=c) (w:=w) (K:=Kok b S c) (K0:=Kok b S c) t.mems hm2;obtain ⟨k,k1,k2,_⟩:=q2 w1 κ row (AL hrow);exact⟨k,hrmf κ k k1,k2⟩
     have hK:∀g,g < w.heap.size->Kok b S c g->Kok b (t.injH hs) c0 g:=by
      rintro g _ ⟨h1,h2⟩;refine⟨h1,?_⟩;rintro (⟨κ,hκ,rfl⟩ | ⟨κ,hκ,hg⟩)
      .obtain ⟨row,hrow,_⟩:=hrm κ hκ;obtain ⟨k,hk,hn⟩:=hmem κ row hrow;exact h2 (.inl ⟨k,by rw [hn];simp,(hcmb κ k hk).symm⟩)
      .rcases how κ hκ with⟨k,o,k1,k2,k3⟩ | ⟨k1,_⟩
       .rw [(hchv κ k k1).2]at hg;exact h2 (.inr ⟨k,by rw [k2];simp,hg⟩)
       .rw [(hcno κ k1).2]at hg;cases hg
     have hfin:Fin hs m S (t.injH hs) c c0 w (Kok b S c) (Kok b (t.injH hs) c0):=by
      refine⟨hK,hvs,?_,?_,?_⟩
      .intro κ k hk;exact⟨(hroO κ k hk).1,(hchv κ k (Do (BX f3) hk)).1⟩
      .intro κ hκ;have h7:=f7 κ hκ;have hno:find m.ro κ=none:=IO (by simpa using h7.1);refine⟨?_,(hcno κ hno).1⟩;obtain ⟨hh,hho⟩:=AnU.1 h7.2;rcases w4 κ hh (AL hho)with⟨k',o,k1,k2,k3⟩ | ⟨k1,e,r,k3⟩
       .rw [<- w2]at k1;rw [Do (BX f3) k1]at hno;cases hno
       .refine⟨e,r,?_⟩;simp only [Tpl.injH,hho,hvs _ _ k3];rfl
      .intro κ k hk;refine⟨λn hn=>?_,hcmb κ k (hrmf κ k hk),hcmo κ k (hrmf κ k hk)⟩;obtain ⟨row,hrow⟩:=AnU.1 (f9 _ hk);obtain ⟨k',k1,k2⟩:=hmem κ row hrow;rw [hrmf κ k hk]at k1;injection k1 with k1
       subst k1;rw [<- hn,k2];simp only [Tpl.injH,hrow];rfl
     obtain ⟨l1,g1⟩:=TD (hs:=hs) (mf:=m) (S:=S) (S0:=t.injH hs) (c:=c) (c0:=c0) (w:=w) (K:=Kok b S c) (K0:=Kok b (t.injH hs) c0) t.slots hm1;obtain ⟨l2,g2⟩:=PU (hs:=hs) (mf:=m) (S:=S) (S0:=t.injH hs) (c:=c) (c0:=c0) (w:=w) (K:=Kok b S c) (K0:=Kok b (t.injH hs) c0) t.mems hm2;have hinjr:∀ κ κ' k,find m.ro κ=some k->find m.ro κ'=some k->κ=κ':=by
      intro κ κ' k h1 h2;exact VE (BX f4) (AL h1) (AL h2)
     have hinjm:∀ κ κ' k,find m.rm κ=some k->find m.rm κ'=some k->κ=κ':=by
      intro κ κ' k h1 h2;exact VE (BX f6) (AL h1) (AL h2)
     have hmk:∀ κ n,(t.injH hs).ms κ=some n->∃row k,find t.mems κ=some row/\n=Pf row/\find m.rm κ=some k/\S.ms k=some n:=by
      intro κ n hn;obtain ⟨row,h1,h2⟩:=hrm κ (by rw [hn];simp);obtain ⟨k,k1,k2⟩:=hmem κ row h1;rw [hn]at h2;injection h2 with h2
      exact⟨row,k,h1,h2,k1,by rw [k2,h2]⟩
     refine⟨c0,⟨?_,?_,?_,?_,?_,?_,?_,hi.fix,hi.os,hi.tape,hi.output,hi.size,hi.an,?_⟩,⟨?_,hsl.n,hsl.d⟩,hfx⟩
     .intro κ n hn hn0;obtain ⟨row,k,h1,rfl,h2,h3⟩:=hmk κ n hn;obtain ⟨cs,e,fr,p1,p2,p3,p4,p5⟩:=hi.ms k _ h3 hn0;rw [hcmb κ k h2,hcmo κ k h2];refine⟨cs,e,fr,p1,p2,p3,λi v hlt hv=>?_,p5⟩;obtain ⟨k',k1,_,_,k3⟩:=g2 w1 κ row (AL h1);have:k'=k:=by
       have:=hrmf κ k' k1;rw [h2]at this;injection this with this;exact this.symm
      subst this;by_cases hlr:i < row.length
      rotate_left
      .have:(t.injH hs).mc κ i=.no:=by simp only [Tpl.injH,h1,Amn (O:row.length<=i)]
       rw [this];trivial
      have hrow:row[i]?=some row[i]:=AlW hlr;have hmc:(t.injH hs).mc κ i=(row[i]).inj hs:=by simp only [Tpl.injH,h1,hrow]
      rw [hmc];exact k3 hfin i _ hrow v (p4 i v hlt hv)
     .intro κ o ho;rcases how κ (by rw [ho];simp)with⟨k,o',k1,k2,k3⟩ | ⟨k1,e,r,k3⟩
      .rw [ho]at k3;injection k3 with k3
       subst k3;rw [(hchv κ k k1).1,(hchv κ k k1).2];exact Rp.mono hK _ _ (hi.ow k o k2)
      .rw [ho]at k3;injection k3 with k3
       subst k3;rw [(hcno κ k1).1,(hcno κ k1).2];simp only [Rp];exact .inl ⟨trivial,trivial,trivial⟩
     .intro κ hκ;rcases how κ hκ with⟨k,o',k1,k2,k3⟩ | ⟨k1,_⟩
      .rw [(hchv κ k k1).2];exact hi.nd k (by rw [k2];simp)
      .rw [(hcno κ k1).2];simp
     .intro κ κ' hne h1 h2 g hg;rcases how κ h1 with⟨k,o1,k1,k2,k3⟩ | ⟨k1,_⟩
      .rw [(hchv κ k k1).2]at hg;rcases how κ' h2 with⟨k',o2,q1,q2,q3⟩ | ⟨q1,_⟩
       .rw [(hchv κ' k' q1).2];have hne':k≠k':=by rintro rfl;exact hne (hinjr κ κ' k k1 q1)
        exact hi.oo k k' hne' (by rw [k2];simp) (by rw [q2];simp) g hg
       .rw [(hcno κ' q1).2];simp
      .rw [(hcno κ k1).2]at hg;cases hg
     .intro κ κ' hne h1 h2;obtain ⟨n,hn⟩:=Anp.1 h1;obtain ⟨n',hn'⟩:=Anp.1 h2;obtain ⟨_,k,_,_,a1,a2⟩:=hmk κ n hn;obtain ⟨_,k',_,_,b1,b2⟩:=hmk κ' n' hn';rw [hcmb κ k a1,hcmb κ' k' b1];have hne':k≠k':=by rintro rfl;exact hne (hinjm κ κ' k a1 b1)
      exact hi.mm k k' hne' (by rw [a2];simp) (by rw [b2];simp)
     .intro κ κ' h1 h2;obtain ⟨n,hn⟩:=Anp.1 h1;obtain ⟨_,k,_,_,a1,a2⟩:=hmk κ n hn;rw [hcmb κ k a1];rcases how κ' h2 with⟨k',o2,q1,q2,q3⟩ | ⟨q1,_⟩
      .rw [(hchv κ' k' q1).2];exact hi.mo k k' (by rw [a2];simp) (by rw [q2];simp)
      .rw [(hcno κ' q1).2];simp
     .rintro g (⟨κ,hκ,rfl⟩ | ⟨κ,hκ,hg⟩)
      .obtain ⟨n,hn⟩:=Anp.1 hκ;obtain ⟨_,k,_,_,a1,a2⟩:=hmk κ n hn;rw [hcmb κ k a1];exact hi.fr _ (.inl ⟨k,by rw [a2];simp,rfl⟩)
      .rcases how κ hκ with⟨k,o,k1,k2,k3⟩ | ⟨k1,_⟩
       .rw [(hchv κ k k1).2]at hg;exact hi.fr g (.inr ⟨k,by rw [k2];simp,hg⟩)
       .rw [(hcno κ k1).2]at hg;cases hg
     .intro κ hn;obtain ⟨row,k,h1,h1',h2,h3⟩:=hmk κ 0 hn;obtain ⟨k',k1,_,k4,_⟩:=g2 w1 κ row (AL h1);have:k'=k:=by
       have:=hrmf κ k' k1;rw [h2]at this;injection this with this;exact this.symm
      subst this;obtain ⟨i,rfl⟩:∃i,row=[.md i]:=by
       unfold Pf at h1';split at h1'
       .exact⟨_,rfl⟩
       .cases h1'
       .rename_i hne;exact absurd (Amo h1'.symm) hne
      obtain ⟨xs,e1,e2⟩:=k4 i rfl;obtain ⟨xs',e3,e4⟩:=hi.mp k' h3;rw [e1]at e3;injection e3 with e3
      subst e3;refine⟨xs,?_,by rw [hcmb κ k' h2];exact e4⟩;have:(t.injH hs).mc κ 0=(TL.md i).inj hs:=by simp only [Tpl.injH,h1];rfl
      rw [this];simp only [TL.inj,hvs _ _ e2]
     .intro i;have:=g1 (l2.trans w1) hfin;cases hfs:find t.slots i with
      | none=>
       have:(t.injH hs).sl i=.no:=by simp only [Tpl.injH,hfs]
       rw [this];trivial
      | some s=>
       have h1:(t.injH hs).sl i=.s (s.inj hs):=by simp only [Tpl.injH,hfs]
       rw [h1];exact this i s (AL hfs) _ (hsl.ok i)
    .cases hm
   .cases hm
  .cases h
 .cases h
theorem Inv.setLeaf {b:Base} {S:St} {w:World} {c:Cc} (h:Inv b S w c) (k off:Nat) (l:Leaf) (hk0:S.ms k≠some 0) (hl:∀cs e fr v,S.ms k≠none->w.heap[c.mb k]?=some (.cells cs e fr)->cs[c.mo k+off]?=some v->LeafOk S c w (Kok b S c) l v):Inv b (S.up (.mc k off l)) w c:=by
 have ho:(S.up (.mc k off l)).ow=S.ow:=rfl;have hm:(S.up (.mc k off l)).ms=S.ms:=rfl;have hk:Kok b (S.up (.mc k off l)) c=Kok b S c:=EB ho hm;refine⟨?_,?_,h.nd,h.oo,h.mm,h.mo,λg hg=>h.fr g ((FP ho hm g).1 hg),h.fix,h.os,h.tape,h.output,h.size,h.an,?_⟩
 .intro k' n hn hn0;obtain ⟨cs,e,fr,h1,h2,h3,h4,h5⟩:=h.ms k' n hn hn0;refine⟨cs,e,fr,h1,h2,h3,λi v hlt hv=>?_,h5⟩;rw [hk];refine(GK ho hm _ _).2 ?_;show LeafOk S c w (Kok b S c) (if k'=k then(if i=off then l else S.mc k' i)else S.mc k' i) v;split
  .rename_i hkk;subst hkk;split
   .rename_i hio;subst hio;have h1':=h1;exact hl cs e fr v (by rw [show S.ms k'=some n from hn];simp) h1' hv
   .exact h4 i v hlt hv
  .exact h4 i v hlt hv
 .intro k' o hk';rw [hk];exact h.ow k' o hk'
 .intro k' hn;obtain ⟨xs,h1,h2⟩:=h.mp k' hn;refine⟨xs,?_,h2⟩;show(if k'=k then(if 0=off then l else S.mc k' 0)else S.mc k' 0)=_;rw [AlZ (show ¬ k'=k by rintro rfl;exact hk0 hn)];exact h1
theorem K4 {N:Nat} {S:St} {c:Cc} {w:World} {K:Nat->Prop} {a:Act} (h:Slots N S c w K (a.put none undef)):Slots N S c w K a:=h
theorem Slots.setSlot {N:Nat} {S:St} {c:Cc} {w:World} {K:Nat->Prop} {a:Act} (h:Slots N S c w K a) (i:Nat) (x:SV) (hx:AQ S c w K x (a.tmps.getD i undef)):Slots N (S.put i x) c w K a:=by
 have hsv:∀l v,AQ (S.put i x) c w K l v↔AQ S c w K l v:=by
  intro l v;cases l with
  | s y=>exact JP rfl rfl y v
  | tu ys=>
   constructor
   .rintro ⟨vs,e,hv⟩;exact⟨vs,e,hv.mono λy v=>(JP rfl rfl y v).1⟩
   .rintro ⟨vs,e,hv⟩;exact⟨vs,e,hv.mono λy v=>(JP rfl rfl y v).2⟩
  | un=>exact Iff.rfl
  | no=>exact Iff.rfl
 refine⟨λj=>?_,h.n,h.d⟩;rw [hsv];show AQ S c w K (if j=i then x else S.sl j) _;split
 .rename_i e;subst e;exact hx
 .exact h.ok j
theorem XM {b:Base} {N:Nat} {S:St} {a:Act} {w:World} {c:Cc} (hi:Inv b S w c) (hsl:Slots N S c w (Kok b S c) a) (hfx:∀p,p∈b.fx->a.tmps.getD p.1 undef=p.2) (p:Pl) {k:Nat} {win:Option (Nat×Nat)} (hlf:Mf S p=.vw k [] win) :
  ∃v,LeafOk S c w (Kok b S c) (.vw k [] win) v/\∀(S':St) (c':Cc) (l':Leaf),S'.ms=S.ms->(c'.mb=c.mb/\c'.mo=c.mo)->Inv b S' w c'->Slots N S' c' w (Kok b S' c') a->(∀i,S'.sl i=(S.sl i).kp [.all k])->
   LeafOk S' c' w (Kok b S' c') l' v->Sim b N (S'.setAt l' p) a w:=by
 cases p with
 | sl i=>
  simp only [Mf]at hlf;split at hlf
  .rename_i l hl;subst hlf;have:=hsl.ok i;rw [hl]at this;refine⟨_,this,λS' c' l' _ _ hi' hsl' _ hlk=>?_⟩;refine⟨c',Inv.put (S:=S') rfl rfl rfl hi',?_,hfx⟩;rw [show Kok b (S'.setAt l' (.sl i)) c'=Kok b S' c' from EB rfl rfl];exact hsl'.setSlot i _ hlk
  .cases hlf
 | ag i j=>
  simp only [Mf]at hlf;split at hlf
  .rename_i ls hl;have:=hsl.ok i;rw [hl]at this;obtain ⟨vs,e,hall⟩:=this;rw [AmO]at hlf;cases hj:ls[j]? with
   | none=>rw [hj]at hlf;cases hlf
   | some l=>
    rw [hj]at hlf;simp only [AmG]at hlf;subst hlf;obtain ⟨v,hvj,hvl⟩:=hall.get hj;refine⟨v,hvl,λS' c' l' _ _ hi' hsl' hsl2 hlk=>?_⟩;have hS:S'.sl i=.s (.ag (ls.map (Leaf.kp [.all k]))):=by rw [hsl2,hl];rfl
    simp only [St.setAt,hS];refine⟨c',Inv.put (S:=S') rfl rfl rfl hi',?_,hfx⟩;rw [show Kok b (S'.put i (.s (.ag ((ls.map (Leaf.kp [.all k])).set j l')))) c'=Kok b S' c' from EB rfl rfl];refine hsl'.setSlot i _ ?_;have h2:=hsl'.ok i;rw [hS]at h2;obtain ⟨vs',e',hall'⟩:=h2;have hvs:vs'=vs:=by
     have:=e'.symm.trans e;injection this with this
     exact List.toArray_inj this
    subst hvs;have hset:=hall'.set j hlk;have:vs'.set j v=vs':=by
     apply AmT;intro m;rw [Aon];split
     .rename_i hm;subst hm;split
      .exact hvj.symm
      .rename_i hlt;exact absurd (Amy.1 hvj).1 hlt
     .rfl
    rw [this]at hset;exact⟨vs',e',hset⟩
  .cases hlf
 | mc k0 c0=>
  simp only [Mf]at hlf;split at hlf
  .rename_i m hm;split at hlf
   .rename_i hlt;obtain ⟨cs,e,fr,h1,h2,h3,h4,_⟩:=hi.ms k0 m hm O;have hc:cs[c.mo k0+c0]?=some cs[c.mo k0+c0]:=Amz O;have:=h4 c0 _ hlt hc;rw [hlf]at this;refine⟨_,this,λS' c' l' e1 e2 hi' hsl' _ hlk=>?_⟩;refine⟨c',hi'.setLeaf k0 c0 _ (by rw [e1,hm];intro h;injection h;omega) ?_,?_,hfx⟩
    .intro cs' e' fr' v' _ hh hv';rw [e2.1,h1]at hh;injection hh with hh
     injection hh with hh _ _
     subst hh;rw [e2.2,hc]at hv';injection hv' with hv'
     rw [<- hv'];exact hlk
    .rw [show Kok b (S'.setAt l' (.mc k0 c0)) c'=Kok b S' c' from EB rfl rfl];refine⟨λi=>?_,hsl'.n,hsl'.d⟩;have:=hsl'.ok i;show AQ (S'.up (.mc k0 c0 _)) c' w _ (S'.sl i) _;cases hx:S'.sl i with
     | s y=>rw [hx]at this;exact(JP rfl rfl y _).2 this
     | tu ys=>
      rw [hx]at this;obtain ⟨vs,e,hv⟩:=this;exact⟨vs,e,hv.mono λy v=>(JP rfl rfl y v).2⟩
     | un=>rw [hx]at this;exact this
     | no=>trivial
   .cases hlf
  .cases hlf
 | pt i ts=>simp [Mf]at hlf
theorem Inv.drop {b:Base} {S:St} {w:World} {c:Cc} (hi:Inv b S w c) (k:Nat):Inv b (S.drop k) w c/\Stay S (S.drop k) c c w w (Kok b S c) (Kok b (S.drop k) c) [.m k]/\∀n,S.ms k=some n->Kok b (S.drop k) c (c.mb k):=by
 have hms:∀i,(S.drop k).ms i=if i=k then none else S.ms i:=λi=>rfl
 have how:(S.drop k).ow=S.ow:=rfl;have hmc:∀a i,(S.drop k).mc a i=(S.mc a i).kp [.m k]:=λa i=>Dw S [.m k] a i
 have hown:∀g,AZ (S.drop k) c g->AZ S c g:=by
  rintro g (⟨k',hk',rfl⟩ | ⟨k',hk',hg⟩)
  .rw [hms]at hk';split at hk'
   .exact absurd rfl hk'
   .exact .inl ⟨k',hk',rfl⟩
  .exact .inr ⟨k',hk',hg⟩
 have kk:KSame w w (Kok b S c) (Kok b (S.drop k) c):=⟨Amu _,λg hg _=>⟨rfl,hg.1,λh=>hg.2 (hown g h)⟩⟩
 have stay:Stay S (S.drop k) c c w w (Kok b S c) (Kok b (S.drop k) c) [.m k]:=by
  refine Stay.of hi (λk' o ho=>.inr (.inl ⟨ho,rfl,λ_ _=>rfl⟩)) (λk' n hn=>?_) kk;by_cases hk:k'=k
  .subst hk;exact .inl Z
  .exact .inr ⟨by rw [hms,AlZ hk];exact hn,rfl,rfl⟩
 refine⟨⟨?_,?_,hi.nd,hi.oo,?_,?_,?_,hi.fix,hi.os,hi.tape,hi.output,hi.size,hi.an,?_⟩,stay,?_⟩
 .intro k' n hn hn0;rw [hms]at hn;split at hn
  .cases hn
  .obtain ⟨cs,e,fr,h1,h2,h3,h4,h5⟩:=hi.ms k' n hn hn0;exact⟨cs,e,fr,h1,h2,h3,λi v hlt hv=>by rw [hmc];exact stay.leaf (h4 i v hlt hv),h5⟩
 .intro k' o ho;exact Rp.frame kk _ _ (hi.ow k' o ho) λ_ _=>rfl
 .intro k1 k2 hne h1 h2;rw [hms]at h1 h2;split at h1
  .exact absurd rfl h1
  .split at h2
   .exact absurd rfl h2
   .exact hi.mm k1 k2 hne h1 h2
 .intro k1 k2 h1 h2;rw [hms]at h1;split at h1
  .exact absurd rfl h1
  .exact hi.mo k1 k2 h1 h2
 .exact λg hg=>hi.fr g (hown g hg)
 .intro k' hn;rw [hms]at hn;split at hn
  .cases hn
  .exact JQ hi hn (hmc k' 0) rfl rfl
 .intro n hn;have hko:S.ms k≠none:=by rw [hn];simp
  refine⟨.inr (hi.fr _ (.inl ⟨k,hko,rfl⟩)).2,?_⟩;rintro (⟨k',hk',he⟩ | ⟨k',hk',hg⟩)
  .rw [hms]at hk';split at hk'
   .exact absurd rfl hk'
   .rename_i hne;exact hi.mm k' k hne hk' hko he
  .exact hi.mo k k' hko hk' hg
theorem WO {S:St} {c:Cc} {w:World} {K:Nat->Prop} (k:Nat):∀(ts:List Ty) (i:Nat) (vs:List Value) {ls:List Ae},vs.length=ts.length->(∀j v,vs[j]?=some v->LeafOk S c w K (S.mc k (i+j)) v)->Mw S k ts i=some ls->FL (ALOk w K) ls vs []
 | [],i,vs,ls,hl,_,h=>by
  simp only [Mw,AlV]at h;subst h;obtain rfl:vs=[]:=Amo hl;exact⟨rfl,rfl⟩
 | t::ts,i,[],ls,hl,_,_=>by simp at hl
 | t::ts,i,v::vs,ls,hl,hc,h=>by
  have ih:∀{ls'},Mw S k ts (i+1)=some ls'->FL (ALOk w K) ls' vs []:=λh'=>WO k ts (i+1) vs (by simpa using hl) (λj v hv=>by
   have:=hc (j+1) v (by simpa using hv)
   rwa [(O:i+(j+1)=i+1+j)]at this) h'
  have h0:=hc 0 v rfl;rw [Anq]at h0;simp only [Mw]at h;split at h
  .rename_i u x he;rw [he]at h0;split at h
   .rename_i ls' hls';injection h with h
    subst h;exact⟨v,vs,[],[],rfl,rfl,⟨h0,λ_=>rfl⟩,ih hls'⟩
   .cases h
  .rename_i he;rw [he]at h0;obtain rfl:v=.slice none 0 0:=h0;split at h
   .split at h
    .rename_i ls' hls';injection h with h
     subst h;refine⟨_,vs,[],[],rfl,rfl,⟨?_,λ_=>rfl⟩,ih hls'⟩;rw [Rp];exact⟨rfl,none,0,[],rfl,Amu _,⟨rfl,rfl⟩,.inl rfl⟩
    .cases h
   .cases h
  .cases h
theorem Acq {b:Base} {N:Nat} {S:St} {a:Act} {w:World} (p:Pl) (hs:Sim b N S a w):Sim b N (UV S p) a w:=by
 unfold UV;split
 .rename_i k lo n hlf;split
  .rename_i o ho;obtain ⟨c,hi,hsl,hfx⟩:=hs;obtain ⟨v,hv,hplace⟩:=XM hi hsl hfx p hlf;obtain ⟨o0,e,r,ys,hd,q1,q2,q3,q4⟩:=hv;obtain rfl:o=o0:=by rw [ho]at q1;injection q1
   simp only [Ap,Tr.run,AlV]at q2;injection q2 with ha hb
   injection ha with _ he hr
   obtain ⟨oe,or,oxs⟩:=o;simp only at he hr hb;subst he hr;obtain rfl:=eq_of_heq hb;simp only [hdr,AlV]at q3;subst q3;obtain ⟨F2,g1,g2,g3⟩:=Vt (hi.ow k _ ho) (hi.nd k (by rw [ho];simp)) q4;generalize hS:(S.kp [.all k]).up (.ow k (some ⟨oe,or,(oxs.drop lo).take n⟩))=S';obtain ⟨c',e1,e2,_,e4,e5,_⟩:=hi.setOwn (S':=S') (w':=w) k ⟨oe,or,(oxs.drop lo).take n⟩ [] [.all k] v F2
    (by intro k';rw [<- hS];show(if k'=k then _ else(S.kp _).ow k')=_;rw [Eb];simp)
    (by rw [<- hS];exact DE S _) (by intro k' i;rw [<- hS];exact Dw S [.all k] k' i) (λk hk=>by cases hk) (λ_ _=>.inl Z) (Step.refl _ _)
    (λg hg=>⟨(hi.fr g (.inr ⟨k,by rw [ho];simp,g2 g hg⟩)).1,.inl ⟨k,.inl rfl,by rw [ho];simp,g2 g hg⟩⟩) g3
    (λK' hK _=>Rp.frame ⟨Amu _,λg hg hlt=>⟨rfl,(hK.2 g hg hlt).2⟩⟩ _ _ g1 λg _=>rfl)
   have hsl':Slots N S' c' w (Kok b S' c') a:=K4 (e5.slots hsl (by intro i;rw [<- hS];exact Hz S [.all k] i) none .no undef (λ_ h=>by cases h) trivial (λ_ _=>Iff.rfl) (λ_ _=>Iff.rfl));have how:S'.ow k=some ⟨oe,or,(oxs.drop lo).take n⟩:=by rw [<- hS];show(if k=k then _ else _)=_;rw [Al1 rfl]
   exact hplace S' c' (.vw k [] none) (by rw [<- hS];exact DE S _) e1 e4 hsl' (by intro i;rw [<- hS];exact Hz S [.all k] i) ⟨_,oe,or,_,v,how,rfl,by rw [e2];rfl,rfl⟩
  .exact hs
 .exact hs
theorem Wf {b:Base} {N:Nat} {a:Act} {w:World}:∀(ps:List Pl) {S:St},Sim b N S a w->Sim b N (ZH S ps) a w
 | [],_,hs=>hs
 | p::ps,_,hs=>Wf ps (Acq p hs)
theorem Ady {b:Base} {N:Nat} {S:St} {a:Act} {w:World} (p:Pl) (hs:Sim b N S a w):Sim b N (UL S p) a w:=by
 unfold UL;split
 .rename_i k hlf;split
  .rename_i o ho;obtain ⟨c,hi,hsl,hfx⟩:=hs;obtain ⟨v,hv,hplace⟩:=XM hi hsl hfx p hlf;obtain ⟨o0,e,r,ys,hd,q1,q2,q3,q4⟩:=hv;simp only [hdr,AlV]at q3;obtain rfl:v=hd:=q4;subst q3;generalize hS:(S.kp [.all k]).up (.ow k none)=S';obtain ⟨c',e1,_,e4,e5,hfree⟩:=hi.many (S':=S') (w':=w) (λ_=>none) [k] [] [.all k]
    (by intro k';rw [<- hS];show(if k'=k then _ else(S.kp _).ow k')=_;rw [Eb];simp)
    (by rw [<- hS];exact DE S _) (by intro k' i _;rw [<- hS];exact Dw S [.all k] k' i) (λk' o _ hk'=>.inl (hk'.elim (λh=>by rw [Al6.1 h];simp) λh=>absurd rfl h))
    (Step.refl _ _) (λ_ _ h=>by cases h) (λ_ _ h=>by cases h) (λ_ _ _ _ _ h=>by cases h) (λ_ _ _ _ _ h=>by cases h) (λ_ _ _ _ _ _ _ _ _ h=>by cases h) (λ_ h=>by cases h)
   have hsl':Slots N S' c' w (Kok b S' c') a:=K4 (e5.slots hsl (by intro i;rw [<- hS];exact Hz S [.all k] i) none .no undef (λ_ h=>by cases h) trivial (λ_ _=>Iff.rfl) (λ_ _=>Iff.rfl));refine hplace S' c' _ (by rw [<- hS];exact DE S _) e1 e4 hsl' (by intro i;rw [<- hS];exact Hz S [.all k] i) ?_;exact Rp.frz (λg hlt hg=>(e5.kk.2 g hg hlt).2) _ _ (hi.ow k o ho) λg hg=>hfree g (.inr ⟨k,Z,by rw [ho];simp,hg⟩) (λ_ _ h=>by cases h)
  .exact hs
 .exact hs
theorem Adf {b:Base} {N:Nat} {S:St} {a:Act} {w:World} (p:Pl) (hs:Sim b N S a w):Sim b N (UJ S p) a w:=by
 unfold UJ;split
 .rename_i i ts;split
  .rename_i k hsl0;split
   .rename_i n ls hn hls;split
    .rename_i hlen;obtain ⟨c,hi,hsl,hfx⟩:=hs;obtain ⟨h1,h2,h3⟩:=hi.drop k;have hsl':Slots N (S.drop k) c w (Kok b (S.drop k) c) a:=K4 (h2.slots hsl (by intro i;exact Hz S [.m k] i) none .no undef (λ_ h=>by cases h) trivial (λ_ _=>Iff.rfl) (λ_ _=>Iff.rfl));have hv:=hsl.ok i;rw [hsl0]at hv;obtain ⟨n',hn',hv⟩:=hv;obtain ⟨hlen,hn0⟩:=hlen;obtain ⟨cs,e,fr,g1,g2,g3,g4,_⟩:=hi.ms k n hn (AnB hn0);have hlt:c.mb k < w.heap.size:=BS g1;have hwl:((cs.toList.drop (c.mo k)).take ts.length).length=ts.length:=by
      rw [Al4,Amm,AnQ (xs:=cs)];omega
     have hwg:∀j,j < ts.length->((cs.toList.drop (c.mo k)).take ts.length)[j]?=cs[c.mo k+j]?:=by
      intro j hj;rw [Ami hj,AmC,Amh]
     have hfl:=WO (S:=S) (c:=c) (w:=w) (K:=Kok b S c) k ts 0 _ hwl (λj v hv=>by
      have hj:j < ts.length:=by rw [<- hwl];exact(Amy.1 hv).1
      rw [hwg j hj]at hv;rw [Amk];exact g4 j v O hv) hls
     refine⟨c,Inv.put (S:=S.drop k) rfl rfl rfl h1,?_,hfx⟩;rw [show Kok b ((S.drop k).put i (.s (.one (.v (.pt (B9 ls).1) (some (B9 ls).2))))) c=Kok b (S.drop k) c from EB rfl rfl];refine hsl'.setSlot i _ ?_;rw [hv];show Rp w _ (.pt (B9 ls).1) (some (B9 ls).2) _ _;simp only [Rp];refine⟨trivial,⟨c.mb k,c.mo k+0,none⟩,_,rfl,M6 _ (hfl.mono λ_ _ _ h=>ALOk.mono (λg hg hk=>(h2.kk.2 g hk hg).2) h),h3 n hn,hlt,λj hj=>?_⟩;rw [Bb,Bc g1,Anq];exact(hwg j O).symm
    .exact hs
   .exact hs
  .exact hs
 .exact Ady p hs
theorem WM {b:Base} {N:Nat} {a:Act} {w:World}:∀(ps:List Pl) {S:St},Sim b N S a w->Sim b N (X0 S ps) a w
 | [],_,hs=>hs
 | p::ps,_,hs=>WM ps (Adf p hs)
theorem Tpl.ok {b:Base} {N:Nat} {S:St} {a:Act} {w:World} (t:Tpl) {x:t.D} (h:t.prj S=some x) (hs:Sim b N S a w):Sim b N (t.inj x) a w:=
 t.ok0 h (WM t.fz (Wf t.nw hs))
end Go.V
namespace Go.V
theorem AcU (E:Env) (ρ ρ':Operand->SV) (d:Nat) (op:Op) (h:∀x,x∈op.operands.toList->ρ x=ρ' x):JX E ρ d op=JX E ρ' d op:=by
 have pairs:∀ps:List (Nat×Operand),(∀x,x∈ps.map (·.2)->ρ x=ρ' x)->(ps.map λp=>(p.1,ρ p.2))=ps.map λp=>(p.1,ρ' p.2):=λps hp=>
  AmV λp hm=>by rw [hp p.2 (Aml.2 ⟨p,hm,rfl⟩)]
 cases op
 case build t ps=>simp only [JX,pairs ps.toList λx hx=>h x (by simpa [Op.operands] using hx)]
 case buildSlice t n ps=>simp only [JX,pairs ps.toList λx hx=>h x (by simpa [Op.operands] using hx)]
 case slice t x lo hi mx=>
  simp only [Op.operands]at h;have h1:ρ x=ρ' x:=h x Z;have h2:lo.map ρ=lo.map ρ':=by cases lo with | none=>rfl | some y=>simp only [AmS];rw [h y Z]
  have h3:hi.map ρ=hi.map ρ':=by cases hi with | none=>rfl | some y=>simp only [AmS];rw [h y Z]
  have h4:mx.map ρ=mx.map ρ':=by cases mx with | none=>rfl | some y=>simp only [AmS];rw [h y Z]
  simp only [JX,h1,h2,h3,h4]
 case makeFunc f first cs=>
  have hcs:cs.toList.map ρ=cs.toList.map ρ':=AmV λx hx=>h x (by
   simp only [Op.operands,AnR,Al3];exact .inr hx)
  cases f with
  | func f=>simp only [JX,hcs]
  | _=>rfl
 case call c=>
  obtain ⟨cal,as,ts⟩:=c;have has:as.toList.map ρ=as.toList.map ρ':=AmV λx hx=>h x (by
   cases cal <;> simp [Op.operands,Call.operands] <;> simp [Array.mem_toList_iff.1 hx])
  cases cal with
  | value f=>
   have hf:ρ f=ρ' f:=h f (by simp [Op.operands,Call.operands]);simp only [JX,has,hf]
  | invoke r m=>rfl
  | builtin b=>cases b <;> simp only [JX,has]
 case entry x=>cases x <;> rfl
 case makeMap t r=>cases r <;> rfl
 case lookup t x i ok=>
  have h1:ρ x=ρ' x:=h x (by simp [Op.operands]);have h2:ρ i=ρ' i:=h i (by simp [Op.operands]);cases ok <;> simp only [JX,h1,h2]
 all_goals first
  | rfl
  | (simp only [Op.operands,Ame,AnL,or_false,forall_eq_or_imp,forall_eq]at h;simp only [JX,h];done)
def Ag (S S':St) (l:List Lg):Prop:=∀x,x∈l->match x with | .o k=>S.ow k=S'.ow k | .c k off _=>S.mc k off=S'.mc k off | .m k=>S.ms k=S'.ms k
theorem XO {α:Type} (S:St) (t:Tr α):∀(g:List Lg) {x:α} {l:List Lg},(t.at S g).run=some (x,l)->∀y,y∈g->y∈l:=by
 induction t with
 | ret a=>intro g x l h;simp only [Tr.at,Tr.run,AlV,Prod.mk.injEq]at h;rw [<- h.2];exact λ_ h=>h
 | fail=>intro g x l h;simp [Tr.at,Tr.run]at h
 | br c t e ih1 ih2=>
  intro g x l h;simp only [Tr.at,Tr.run]at h;split at h
  .exact ih1 g h
  .exact ih2 g h
 | get γ o f ih=>
  intro g x l h;simp only [Tr.at,De,AlY]at h;obtain ⟨b,hb,h⟩:=h;exact ih b g h
 | alt γ δ s f f' ih1 ih2=>
  intro g x l h;cases s with
  | inl b=>exact ih1 b g h
  | inr b=>exact ih2 b g h
 | rdO k f ih=>intro g x l h y hy;exact ih _ _ h y (Am2 _ hy)
 | rdC k off f ih=>intro g x l h y hy;exact ih _ _ h y (Am2 _ hy)
 | rdM k f ih=>intro g x l h y hy;exact ih _ _ h y (Am2 _ hy)
theorem AgO {α:Type} (S S':St) (t:Tr α):∀(g:List Lg) {x:α} {l:List Lg},(t.at S g).run=some (x,l)->Ag S S' l->(t.at S' g).run=some (x,l):=by
 induction t with
 | ret a=>intro g x l h _;exact h
 | fail=>intro g x l h;simp [Tr.at,Tr.run]at h
 | br c t e ih1 ih2=>
  intro g x l h ha;simp only [Tr.at,Tr.run]at h ⊢;split at h
  .rename_i hc;rw [Al1 hc];exact ih1 g h ha
  .rename_i hc;rw [AlZ hc];exact ih2 g h ha
 | get γ o f ih=>
  intro g x l h ha;simp only [Tr.at,De,AlY]at h ⊢;obtain ⟨b,hb,h⟩:=h;exact⟨b,hb,ih b g h ha⟩
 | alt γ δ s f f' ih1 ih2=>
  intro g x l h ha;cases s with
  | inl b=>exact ih1 b g h ha
  | inr b=>exact ih2 b g h ha
 | rdO k f ih=>
  intro g x l h ha
  replace h:((f (S.ow k)).at S (.o k::g)).run=some (x,l):=h
  have:S.ow k=S'.ow k:=ha _ (XO S _ _ h (.o k) Z);show((f (S'.ow k)).at S' (.o k::g)).run=_;rw [<- this];exact ih _ _ h ha
 | rdC k off f ih=>
  intro g x l h ha
  replace h:((f (S.mc k off)).at S (.c k off (S.mc k off)::g)).run=some (x,l):=h
  have:S.mc k off=S'.mc k off:=ha _ (XO S _ _ h (.c k off (S.mc k off)) Z);show((f (S'.mc k off)).at S' (.c k off (S'.mc k off)::g)).run=_;rw [<- this];exact ih _ _ h ha
 | rdM k f ih=>
  intro g x l h ha
  replace h:((f (S.ms k)).at S (.m k::g)).run=some (x,l):=h
  have:S.ms k=S'.ms k:=ha _ (XO S _ _ h (.m k) Z);show((f (S'.ms k)).at S' (.m k::g)).run=_;rw [<- this];exact ih _ _ h ha
def Agl (S:St) (l:List Lg):Prop:=∀k off x,Lg.c k off x∈l->S.mc k off=x
theorem AhN {α:Type} (S:St) (t:Tr α):∀(g:List Lg) {x:α} {l:List Lg},Agl S g->(t.at S g).run=some (x,l)->Agl S l:=by
 induction t with
 | ret a=>intro g x l hg h;simp only [Tr.at,Tr.run,AlV,Prod.mk.injEq]at h;rw [<- h.2];exact hg
 | fail=>intro g x l _ h;simp [Tr.at,Tr.run]at h
 | br c t e ih1 ih2=>
  intro g x l hg h;simp only [Tr.at,Tr.run]at h;split at h
  .exact ih1 g hg h
  .exact ih2 g hg h
 | get γ o f ih=>
  intro g x l hg h;simp only [Tr.at,De,AlY]at h;obtain ⟨b,hb,h⟩:=h;exact ih b g hg h
 | alt γ δ s f f' ih1 ih2=>
  intro g x l hg h;cases s with
  | inl b=>exact ih1 b g hg h
  | inr b=>exact ih2 b g hg h
 | rdO k f ih=>intro g x l hg h;exact ih _ _ (λk' o' x' hx=>by rcases Ame.1 hx with hx | hx;cases hx;exact hg _ _ _ hx) h
 | rdC k off f ih=>intro g x l hg h;exact ih _ _ (λk' o' x' hx=>by
   rcases Ame.1 hx with hx | hx
   .injection hx with e1 e2 e3;subst e1 e2 e3;rfl
   .exact hg _ _ _ hx) h
 | rdM k f ih=>intro g x l hg h;exact ih _ _ (λk' o' x' hx=>by rcases Ame.1 hx with hx | hx;cases hx;exact hg _ _ _ hx) h
theorem Leaf.kp_kp (c c':List Kl) (l:Leaf):(l.kp c).kp c'=(l.kp c').kp c:=by
 cases l with
 | vw k st win=>
  by_cases h1:c.all (λx=>x.okV k st)=true <;> by_cases h2:c'.all (λx=>x.okV k st)=true <;> simp only [Leaf.kp,h1,h2,Amd] <;> rfl
 | p k off=>by_cases h1:c.all (λx=>x.okM k)=true <;> by_cases h2:c'.all (λx=>x.okM k)=true <;> simp only [Leaf.kp,h1,h2,Amd] <;> rfl
 | mh k=>by_cases h1:c.all (λx=>x.okM k)=true <;> by_cases h2:c'.all (λx=>x.okM k)=true <;> simp only [Leaf.kp,h1,h2,Amd] <;> rfl
 | _=>rfl
theorem S1.kp_kp (c c':List Kl) (x:S1):(x.kp c).kp c'=(x.kp c').kp c:=by
 cases x with
 | one l=>simp only [S1.kp,Leaf.kp_kp c c' l]
 | ag ls=>simp only [S1.kp,AmU];congr 1;apply AmV;intro l _;exact Leaf.kp_kp c c' l
 | pl k off=>by_cases h1:c.all (λx=>x.okM k)=true <;> by_cases h2:c'.all (λx=>x.okM k)=true <;> simp only [S1.kp,h1,h2,Amd] <;> rfl
 | el k st=>by_cases h1:c.all (λx=>x.okE k st)=true <;> by_cases h2:c'.all (λx=>x.okE k st)=true <;> simp only [S1.kp,h1,h2,Amd] <;> rfl
 | rp t x off=>rfl
 | fv f cs=>by_cases h1:c.all (λx=>cs.all λp=>x.okM p.1)=true <;> by_cases h2:c'.all (λx=>cs.all λp=>x.okM p.1)=true <;> simp only [S1.kp,h1,h2,Amd] <;> rfl
theorem SV.kp_kp (c c':List Kl) (x:SV):(x.kp c).kp c'=(x.kp c').kp c:=by
 cases x with
 | s x=>simp only [SV.kp,S1.kp_kp c c' x]
 | tu xs=>simp only [SV.kp,AmU];congr 1;apply AmV;intro l _;exact S1.kp_kp c c' l
 | un=>rfl
 | no=>rfl
theorem Leaf.kp_safe {c:List Kl} {l:Leaf} (h:l.safe c=true):l.kp c=l:=by
 cases l with
 | vw k st win=>simp only [Leaf.safe]at h;simp only [Leaf.kp,h,Amd]
 | p k off=>simp only [Leaf.safe]at h;simp only [Leaf.kp,h,Amd]
 | mh k=>simp only [Leaf.safe]at h;simp only [Leaf.kp,h,Amd]
 | _=>rfl
theorem KO {α:Type} {f:α->α}:∀{l:List α},(∀x,x∈l->f x=x)->l.map f=l
 | [],_=>rfl
 | x::l,h=>by rw [AmF,h x Z,KO λy hy=>h y (by simp [hy])]
theorem S1.kp_safe {c:List Kl} {x:S1} (h:x.safe c=true):x.kp c=x:=by
 cases x with
 | one l=>simp only [S1.safe]at h;simp only [S1.kp,Leaf.kp_safe h]
 | ag ls=>simp only [S1.safe,Amr]at h;simp only [S1.kp];rw [KO λl hl=>Leaf.kp_safe (h l hl)]
 | pl k off=>simp only [S1.safe]at h;simp only [S1.kp,h,Amd]
 | el k st=>simp only [S1.safe]at h;simp only [S1.kp,h,Amd]
 | rp t x off=>rfl
 | fv f cs=>simp only [S1.safe]at h;simp only [S1.kp,h,Amd]
theorem SV.kp_safe {c:List Kl} {x:SV} (h:x.safe c=true):x.kp c=x:=by
 cases x with
 | s x=>simp only [SV.safe]at h;simp only [SV.kp,S1.kp_safe h]
 | tu xs=>simp only [SV.safe,Amr]at h;simp only [SV.kp];rw [KO λl hl=>S1.kp_safe (h l hl)]
 | un=>rfl
 | no=>rfl
theorem Leaf.kp_whole {c:List Kl} {l:Leaf} (h:(l.kp c).whole=true):l.kp c=l:=by
 cases l with
 | vw k st win=>
  simp only [Leaf.kp]at h ⊢;split
  .rfl
  .rename_i hc;rw [AlZ hc]at h;cases h
 | p k off=>
  simp only [Leaf.kp]at h ⊢;split
  .rfl
  .rename_i hc;rw [AlZ hc]at h;cases h
 | mh k=>
  simp only [Leaf.kp]at h ⊢;split
  .rfl
  .rename_i hc;rw [AlZ hc]at h;cases h
 | _=>rfl
theorem S1.kp_whole {c:List Kl} {x:S1} (h:(x.kp c).whole=true):x.kp c=x:=by
 cases x with
 | one l=>simp only [S1.kp,S1.whole]at h ⊢;rw [Leaf.kp_whole h]
 | ag ls=>
  simp only [S1.kp,S1.whole,Amr]at h ⊢;rw [KO λl hl=>Leaf.kp_whole (h (l.kp c) (Aml.2 ⟨l,hl,rfl⟩))]
 | pl k off=>
  simp only [S1.kp]at h ⊢;split
  .rfl
  .rename_i hc;rw [AlZ hc]at h;cases h
 | el k st=>
  simp only [S1.kp]at h ⊢;split
  .rfl
  .rename_i hc;rw [AlZ hc]at h;cases h
 | rp t x off=>rfl
 | fv f cs=>
  simp only [S1.kp]at h ⊢;split
  .rfl
  .rename_i hc;rw [AlZ hc]at h;cases h
theorem SV.kp_whole {c:List Kl} {x:SV} (h:(x.kp c).whole=true):x.kp c=x:=by
 cases x with
 | s x=>simp only [SV.kp,SV.whole]at h ⊢;rw [S1.kp_whole h]
 | tu xs=>
  simp only [SV.kp,SV.whole,Amr]at h ⊢;rw [KO λl hl=>S1.kp_whole (h (l.kp c) (Aml.2 ⟨l,hl,rfl⟩))]
 | un=>rfl
 | no=>rfl
theorem St.kp_kp (S:St) (c c':List Kl):(S.kp c).kp c'=(S.kp c').kp c:=
 St.ext' (λi=>by simp only [Hz,SV.kp_kp c c']) (λk=>by simp only [DE]) (λk i=>by simp only [Dw,Leaf.kp_kp c c']) (λk=>by simp only [Eb])
theorem AkN (S:St) (c:List Kl) {u:U} (h:u.safe c=true):(S.up u).kp c=(S.kp c).up u:=by
 have hsl:∀i,((S.up u).kp c).sl i=((S.kp c).up u).sl i:=by
  intro i;rw [Hz];have e1:(S.up u).sl i=S.sl i:=by cases u <;> rfl
  have e2:((S.kp c).up u).sl i=(S.kp c).sl i:=by cases u <;> rfl
  rw [e1,e2,Hz]
 cases u with
 | ow k o=>
  refine St.ext' hsl (λi=>?_) (λi j=>?_) (λi=>?_)
  .rw [DE];show S.ms i=(S.kp c).ms i;rw [DE]
  .rw [Dw];show(S.mc i j).kp c=(S.kp c).mc i j;rw [Dw]
  .rw [Eb];show(if i=k then o else S.ow i)=(if i=k then o else(S.kp c).ow i);rw [Eb]
 | mc k off l=>
  refine St.ext' hsl (λi=>?_) (λi j=>?_) (λi=>?_)
  .rw [DE];show S.ms i=(S.kp c).ms i;rw [DE]
  .rw [Dw];show(if i=k then(if j=off then l else S.mc i j)else S.mc i j).kp c=(if i=k then(if j=off then l else(S.kp c).mc i j)else(S.kp c).mc i j)
   rw [Dw];split
   .split
    .exact Leaf.kp_safe h
    .rfl
   .rfl
  .rw [Eb];show S.ow i=(S.kp c).ow i;rw [Eb]
 | ms k row=>
  refine St.ext' hsl (λi=>?_) (λi j=>?_) (λi=>?_)
  .rw [DE];show(if i=k then some (KX row)else S.ms i)=(if i=k then some (KX row)else(S.kp c).ms i);rw [DE]
  .rw [Dw];show(if i=k then row.getD j .no else S.mc i j).kp c=(if i=k then row.getD j .no else(S.kp c).mc i j)
   rw [Dw];split
   .simp only [U.safe,Amr]at h;rw [AmO];cases hr:row[j]? with
    | none=>rfl
    | some l=>exact Leaf.kp_safe (h l (AmI hr))
   .rfl
  .rw [Eb];show S.ow i=(S.kp c).ow i;rw [Eb]
theorem Y1 (c:List Kl):∀(us:List U) (S:St),us.all (U.safe c)=true->(S.ups us).kp c=(S.kp c).ups us
 | [],_,_=>rfl
 | u::us,S,h=>by
  simp only [Anc,Al2]at h;show((S.up u).ups us).kp c=((S.kp c).up u).ups us;rw [Y1 c us _ h.2,AkN S c h.1]
theorem Akt (S:St) {u v:U} (h:u.meets v=false):(S.up u).up v=(S.up v).up u:=by
 cases u <;> cases v <;> simp only [U.meets,Bool.and_eq_false_iff,beq_eq_false_iff_ne]at h <;> (refine St.ext' (λi=>rfl) (λi=>?_) (λi j=>?_) (λi=>?_)) <;> simp only [St.up] <;> (repeat' split) <;> simp_all
theorem Ae0 {u:U}:∀(vs:List U) (S:St),vs.all (λv=>!u.meets v)=true->(S.up u).ups vs=(S.ups vs).up u
 | [],_,_=>rfl
 | v::vs,S,h=>by
  simp only [Anc,Al2,Al9]at h;show((S.up u).up v).ups vs=((S.up v).ups vs).up u;rw [Akt S h.1,Ae0 vs _ (by simpa using h.2)]
theorem AbR:∀(us vs:List U) (S:St),us.all (λu=>vs.all λv=>!u.meets v)=true->(S.ups us).ups vs=(S.ups vs).ups us
 | [],_,_,_=>rfl
 | u::us,vs,S,h=>by
  simp only [Anc,Al2]at h;show((S.up u).ups us).ups vs=((S.ups vs).up u).ups us;rw [AbR us vs _ (by simpa using h.2),Ae0 vs S h.1]
theorem Ab4 (S:St) (d:Option Nat) (x:SV) (c:List Kl) (h:x.safe c=true):(S.putO d x).kp c=(S.kp c).putO d x:=by
 cases d with
 | none=>rfl
 | some d=>
  refine St.ext' (λi=>?_) (λi=>?_) (λi j=>?_) (λi=>?_)
  .rw [Hz];show(if i=d then x else S.sl i).kp c=(if i=d then x else(S.kp c).sl i)
   rw [Hz];split
   .exact SV.kp_safe h
   .rfl
  .rw [DE];show S.ms i=(S.kp c).ms i;rw [DE]
  .rw [Dw];show(S.mc i j).kp c=(S.kp c).mc i j;rw [Dw]
  .rw [Eb];show S.ow i=(S.kp c).ow i;rw [Eb]
theorem Air (S:St) (d:Option Nat) (x:SV) (u:U):(S.putO d x).up u=(S.up u).putO d x:=by
 cases d <;> cases u <;> rfl
theorem SJ (d:Option Nat) (x:SV):∀(us:List U) (S:St),(S.putO d x).ups us=(S.ups us).putO d x
 | [],_=>rfl
 | u::us,S=>by
  show((S.putO d x).up u).ups us=((S.up u).ups us).putO d x;rw [Air,SJ d x us]
theorem Aex (S:St) (d e:Option Nat) (x y:SV) (h:∀i,d=some i->e≠some i):(S.putO d x).putO e y=(S.putO e y).putO d x:=by
 cases d with
 | none=>rfl
 | some d=>
  cases e with
  | none=>rfl
  | some e=>
   have hne:¬ e=d:=λhe=>h d rfl (by rw [he])
   refine St.ext' (λi=>?_) (λ_=>rfl) (λ_ _=>rfl) (λ_=>rfl);show(if i=e then y else if i=d then x else S.sl i)=(if i=d then x else if i=e then y else S.sl i)
   by_cases h1:i=e
   .subst h1;rw [Al1 rfl,AlZ hne,Al1 rfl]
   .rw [AlZ h1,AlZ h1]
theorem AhT (S:St) (d e:Option Nat) (p q:Out) (hd:∀i,d=some i->e≠some i) (h1:p.x.safe q.ks=true) (h2:q.x.safe p.ks=true) (h3:p.us.all (U.safe q.ks)=true) (h4:q.us.all (U.safe p.ks)=true)
  (h5:p.us.all (λu=>q.us.all λv=>!u.meets v)=true):(S.app d p).app e q=(S.app e q).app d p:=by
 simp only [St.app];rw [Ab4 _ _ _ _ h1,Y1 _ _ _ h3,SJ,Ab4 _ _ _ _ h2,Y1 _ _ _ h4,SJ,Aex _ _ _ _ _ hd,AbR _ _ _ h5,St.kp_kp]
end Go.V
namespace Go.V
def Holds (ops:Array Oper) (S:St) (o:Oper) (y:Bool):Prop:=
 match o.guard with
 | none=>y=true
 | some (j,want)=>∃g,Q9 ops j=some g/\((∃b,S.sl g=.s (.one (.v .bool b))/\y=(b == want))\/(S.sl g=.un/\y=false))
def Stp (E:Env) (N:Nat) (ops:Array Oper) (S:St) (r:Rec):Prop:=
 Rt E N r.o=true/\((Holds ops S r.o true/\(Adz E N r.o S).run=some (r.out,r.lg)/\r.ins=r.o.op.operands.toList.map (Cv S))\/(Holds ops S r.o false/\r.out=XB/\r.lg=[]/\r.ins=[]))
theorem Zz {S:St} {g:Nat} {x:SV} (h:S.sl g=x):S.put g x=S:=by
 refine St.ext' (λi=>?_) (λ_=>rfl) (λ_ _=>rfl) (λ_=>rfl);show(if i=g then x else S.sl i)=S.sl i;split
 .rename_i hi;rw [hi,h]
 .rfl
section
variable {E:Env} {N:Nat} {ops:Array Oper}
theorem VV {o:Oper} {S S':St} {r:Rec} (h:(Xw E N ops o S).run=some (S',r)):r.o=o/\Stp E N ops S r/\S'=S.app o.dst r.out:=by
 have yes:Rt E N o=true->Holds ops S o true->(X5 E N o S).run=some (S',r)->r.o=o/\Stp E N ops S r/\S'=S.app o.dst r.out:=by
  intro hd hh h;simp only [X5,run_bind,AlY,Tr.run,AlV,Prod.mk.injEq]at h;obtain ⟨x,hx,h1,h2⟩:=h;subst h1 h2;exact⟨rfl,⟨hd,.inl ⟨hh,hx,rfl⟩⟩,rfl⟩
 have nay:Rt E N o=true->Holds ops S o false->(Z5 o S).run=some (S',r)->r.o=o/\Stp E N ops S r/\S'=S.app o.dst r.out:=by
  intro hd hh h;simp only [Z5,Tr.run,AlV,Prod.mk.injEq]at h;obtain ⟨h1,h2⟩:=h;subst h1 h2;exact⟨rfl,⟨hd,.inr ⟨hh,rfl,rfl,rfl⟩⟩,rfl⟩
 unfold Xw at h;split at h
 .rename_i hd;split at h
  .rename_i hg;exact yes hd (by simp [Holds,hg]) h
  .rename_i j want hg;split at h
   .rename_i g hgs;split at h
    .rename_i bb hs;have hold:∀y,y=(bb == want)->Holds ops S o y:=λy hy=>by simp only [Holds,hg];exact⟨g,hgs,.inl ⟨bb,hs,hy⟩⟩
     simp only [Tr.run]at h;cases hb:(bb:Bool)with
     | true=>
      rw [hb]at h hs;simp only [Amd]at h;rw [Zz hs]at h;cases want with
      | true=>exact yes hd (hold _ (by rw [hb];rfl)) h
      | false=>exact nay hd (hold _ (by rw [hb];rfl)) h
     | false=>
      rw [hb]at h hs;simp only [Al8,Amv]at h;rw [Zz hs]at h;cases want with
      | true=>exact nay hd (hold _ (by rw [hb];rfl)) h
      | false=>exact yes hd (hold _ (by rw [hb];rfl)) h
    .rename_i hs;exact nay hd (by unfold Holds;rw [hg];exact⟨g,hgs,.inr ⟨hs,rfl⟩⟩) h
    .simp [Tr.run]at h
   .simp [Tr.run]at h
 .simp [Tr.run]at h
theorem Uz (S:St) (d:Option Nat) (p:Out) {t:Nat} (h:d≠some t):(S.app d p).sl t=(S.sl t).kp p.ks:=by
 have e:((S.kp p.ks).ups p.us).sl t=(S.sl t).kp p.ks:=by rw [Aej,Hz]
 cases d with
 | none=>exact e
 | some d=>
  show(if t=d then p.x else((S.kp p.ks).ups p.us).sl t)=_;rw [AlZ (λht=>h (by rw [ht])),e]
theorem Qc {k:Nat}:∀(us:List U) (S:St),us.all (λu=>!u.hits (.o k))=true->(S.ups us).ow k=S.ow k
 | [],_,_=>rfl
 | u::us,S,h=>by
  simp only [Anc,Al2,Al9]at h;show((S.up u).ups us).ow k=_;rw [Qc us _ (by simpa using h.2)];cases u with
  | ow k' o=>
   have:¬ k=k':=λhk=>by rw [hk]at h;simp [U.hits]at h
   show(if k=k' then o else S.ow k)=_;rw [AlZ this]
  | mc _ _ _=>rfl
  | ms _ _=>rfl
theorem QZ {k:Nat}:∀(us:List U) (S:St),us.all (λu=>!u.hits (.m k))=true->(S.ups us).ms k=S.ms k
 | [],_,_=>rfl
 | u::us,S,h=>by
  simp only [Anc,Al2,Al9]at h;show((S.up u).ups us).ms k=_;rw [QZ us _ (by simpa using h.2)];cases u with
  | ms k' row=>
   have:¬ k=k':=λhk=>by rw [hk]at h;simp [U.hits]at h
   show(if k=k' then _ else S.ms k)=_;rw [AlZ this]
  | mc _ _ _=>rfl
  | ow _ _=>rfl
theorem P2 {k off:Nat} {l:Leaf}:∀(us:List U) (S:St),us.all (λu=>!u.hits (.c k off l))=true->(S.ups us).mc k off=S.mc k off
 | [],_,_=>rfl
 | u::us,S,h=>by
  simp only [Anc,Al2,Al9]at h;show((S.up u).ups us).mc k off=_;rw [P2 us _ (by simpa using h.2)];cases u with
  | mc k' off' l'=>
   show(if k=k' then(if off=off' then l' else S.mc k off)else S.mc k off)=_;have:=h.1;simp only [U.hits,Bool.and_eq_false_iff,beq_eq_false_iff_ne]at this;by_cases h1:k=k'
   .rw [Al1 h1,AlZ (λh2=>by rcases this with h3 | h3 <;> simp_all)]
   .rw [AlZ h1]
  | ms k' row=>
   have:¬ k=k':=λhk=>by rw [hk]at h;simp [U.hits]at h
   show(if k=k' then _ else S.mc k off)=_;rw [AlZ this]
  | ow _ _=>rfl
theorem AdR (S:St) (d:Option Nat) (p:Out):(S.app d p).ow=((S.kp p.ks).ups p.us).ow:=by cases d <;> rfl
theorem AfA (S:St) (d:Option Nat) (p:Out):(S.app d p).ms=((S.kp p.ks).ups p.us).ms:=by cases d <;> rfl
theorem AdJ (S:St) (d:Option Nat) (p:Out):(S.app d p).mc=((S.kp p.ks).ups p.us).mc:=by cases d <;> rfl
theorem Aim {x:SV} {c:List Kl} {b:Bool} (h:x.kp c=.s (.one (.v .bool b))):x=.s (.one (.v .bool b)):=by
 cases x with
 | s x=>
  cases x with
  | one l=>
   cases l with
   | v t y=>exact h
   | vw k st win=>
    simp only [SV.kp,S1.kp,Leaf.kp,SV.s.injEq,S1.one.injEq]at h;split at h <;> cases h
   | p k off=>
    simp only [SV.kp,S1.kp,Leaf.kp,SV.s.injEq,S1.one.injEq]at h;split at h <;> cases h
   | mh k=>
    simp only [SV.kp,S1.kp,Leaf.kp,SV.s.injEq,S1.one.injEq]at h;split at h <;> cases h
   | np=>exact h
   | md xs=>exact h
   | qn e=>exact h
   | nil=>exact h
   | no=>exact h
  | ag ls=>simp [SV.kp,S1.kp]at h
  | pl k off=>
   simp only [SV.kp,S1.kp,SV.s.injEq]at h;split at h <;> cases h
  | el k st=>
   simp only [SV.kp,S1.kp,SV.s.injEq]at h;split at h <;> cases h
  | rp t y off=>exact h
  | fv f cs=>
   simp only [SV.kp,S1.kp,SV.s.injEq]at h;split at h <;> cases h
 | tu xs=>simp [SV.kp]at h
 | un=>exact h
 | no=>exact h
theorem Akz {x:SV} {c:List Kl} (h:x.kp c=.un):x=.un:=by
 cases x <;> simp_all [SV.kp]
theorem Aep {a b:Oper} (h:IZ ops a b=true):(∀d,a.dst=some d->d∉IL ops b)/\(∀d,a.dst=some d->b.dst≠some d)/\(∀d,b.dst=some d->d∉IL ops a):=by
 simp only [IZ,Al2]at h;refine⟨λd hd=>?_,λd hd=>?_,λd hd=>?_⟩
 .rw [hd]at h;simp only [Al2,Al9]at h;simpa using h.1.1
 .rw [hd]at h;simp only [Al2,Al9]at h;intro he;rw [he]at h;simp at h
 .rw [hd]at h;simp only [Al9]at h;simpa using h.2
theorem Agp {o:Oper} {t:Nat} (h:Operand.tmp t∈o.op.operands.toList):t∈IL ops o:=
 Anr _ (List.mem_filterMap.2 ⟨.tmp t,h,rfl⟩)
theorem Ua {o:Oper} {j:Nat} {want:Bool} {g:Nat} (h:o.guard=some (j,want)) (hg:Q9 ops j=some g):g∈IL ops o:=
 List.mem_append_right _ (by rw [h];simp [hg])
structure Past (a b:Rec):Prop where
 whole:b.out.ks=[]\/((∀x,x∈a.ins->x.whole=true)/\∀x,x∈a.lg->x.whole=true)
 ins:∀x,x∈a.ins->x.safe b.out.ks=true
 x:a.out.x.safe b.out.ks=true
 lg:∀x,x∈a.lg->x.safe b.out.ks=true
 us:a.out.us.all (U.safe b.out.ks)=true
 hits:∀x,x∈a.lg->b.out.us.all (λu=>!u.hits x)=true
theorem WH {a b:Rec} (h:a.past b=true):Past a b:=by
 simp only [Rec.past,Al2,Ang,List.isEmpty_iff,Amr (p:=SV.whole),Amr (p:=Lg.whole),Amr (p:=SV.safe b.out.ks),Amr (p:=Lg.safe b.out.ks)]at h;obtain ⟨⟨⟨⟨⟨h1,h2⟩,h3⟩,h4⟩,h5⟩,h6⟩:=h;rw [Amr]at h6;exact⟨h1,h2,h3,h4,h5,h6⟩
theorem Stp.move {S S':St} {r:Rec} (h:Stp E N ops S r) (hop:∀t,t∈IL ops r.o->(∀x,x∈r.ins->x=S.sl t->S'.sl t=S.sl t)) (hg:∀t,t∈IL ops r.o->((∃b,S.sl t=.s (.one (.v .bool b)))\/S.sl t=.un)->S'.sl t=S.sl t)
  (hlg:Agl S r.lg->Ag S S' r.lg):Stp E N ops S' r:=by
 have hold:∀y,Holds ops S r.o y->Holds ops S' r.o y:=by
  intro y hy;unfold Holds at hy ⊢;split
  .rename_i hgd;rw [hgd]at hy;exact hy
  .rename_i j want hgd;rw [hgd]at hy;obtain ⟨g,h1,⟨bb,h2,h3⟩ | ⟨h2,h3⟩⟩:=hy
   .exact⟨g,h1,.inl ⟨bb,by rw [hg g (Ua hgd h1) (.inl ⟨bb,h2⟩),h2],h3⟩⟩
   .exact⟨g,h1,.inr ⟨by rw [hg g (Ua hgd h1) (.inr h2),h2],h3⟩⟩
 obtain ⟨hd,h | ⟨h1,h2,h3,h4⟩⟩:=h
 .obtain ⟨h1,h2,h3⟩:=h;have hopn:∀x,x∈r.o.op.operands.toList->Cv S' x=Cv S x:=by
   intro x hx;cases x with
   | tmp t=>exact hop t (Agp hx) (S.sl t) (by rw [h3];exact Aml.2 ⟨.tmp t,hx,rfl⟩) rfl
   | _=>rfl
  refine⟨hd,.inl ⟨hold _ h1,?_,?_⟩⟩
  .unfold Adz at h2 ⊢;rw [AcU E (Cv S') (Cv S) _ _ hopn];exact AgO S S' _ [] h2 (hlg (AhN S _ [] (λk off x hx=>by cases hx) h2))
  .rw [h3];exact AmV λx hx=>(hopn x hx).symm
 .exact⟨hd,.inr ⟨hold _ h1,h2,h3,h4⟩⟩
theorem Stp.swap {S:St} {p q:Rec} (hp:Stp E N ops S p) (hq:Stp E N ops (S.app p.o.dst p.out) q) (hs:IZ ops p.o q.o=true) (ha:p.apart q=true) :
  Stp E N ops S q/\Stp E N ops (S.app q.o.dst q.out) p/\(S.app p.o.dst p.out).app q.o.dst q.out=(S.app q.o.dst q.out).app p.o.dst p.out:=by
 obtain ⟨s1,s2,s3⟩:=Aep hs;simp only [Rec.apart,Al2]at ha;obtain ⟨⟨ha,hb⟩,hm⟩:=ha;have pa:=WH ha;have pb:=WH hb;refine⟨?_,?_,AhT S _ _ _ _ s2 pa.x pb.x pa.us pb.us hm⟩
 .refine hq.move ?_ ?_ ?_
  .intro t ht x hx hxt;have e:=Uz S p.o.dst p.out (λh=>s1 t h ht:p.o.dst≠some t);rw [e]at hxt ⊢;rcases pb.whole with h0 | ⟨h0,_⟩
   .rw [h0,SV.kp_nil]
   .have:=h0 x hx;rw [hxt]at this;exact(SV.kp_whole this).symm
  .intro t ht hb;have e:=Uz S p.o.dst p.out (λh=>s1 t h ht:p.o.dst≠some t);rw [e]at hb ⊢;rcases hb with⟨bb,hb⟩ | hb
   .rw [Aim hb];rfl
   .rw [Akz hb];rfl
  .intro hsee l hl;have hh:=pb.hits l hl;cases l with
   | o k=>show(S.app p.o.dst p.out).ow k=S.ow k;rw [AdR,Qc _ _ hh,Eb]
   | m k=>show(S.app p.o.dst p.out).ms k=S.ms k;rw [AfA,QZ _ _ hh,DE]
   | c k off l=>
    show(S.app p.o.dst p.out).mc k off=S.mc k off;have h1:=hsee k off l hl;rw [AdJ,P2 _ _ hh,Dw]at h1 ⊢;rcases pb.whole with h0 | ⟨_,h0⟩
    .rw [h0,Leaf.kp_nil]
    .have:=h0 _ hl;simp only [Lg.whole]at this;rw [<- h1]at this;exact Leaf.kp_whole this
 .refine hp.move ?_ ?_ ?_
  .intro t ht x hx hxt;have e:=Uz S q.o.dst q.out (λh=>s3 t h ht:q.o.dst≠some t);rw [e];have:=pa.ins x hx;rw [hxt]at this;exact SV.kp_safe this
  .intro t ht hb;have e:=Uz S q.o.dst q.out (λh=>s3 t h ht:q.o.dst≠some t);rcases hb with⟨bb,hb⟩ | hb
   .rw [e,hb];rfl
   .rw [e,hb];rfl
  .intro hsee l hl;have hh:=pa.hits l hl;cases l with
   | o k=>show S.ow k=(S.app q.o.dst q.out).ow k;rw [AdR,Qc _ _ hh,Eb]
   | m k=>show S.ms k=(S.app q.o.dst q.out).ms k;rw [AfA,QZ _ _ hh,DE]
   | c k off l=>
    show S.mc k off=(S.app q.o.dst q.out).mc k off;have h1:=hsee k off l hl;have h2:=pa.lg _ hl;simp only [Lg.safe]at h2;rw [AdJ,P2 _ _ hh,Dw,h1,Leaf.kp_safe h2]
inductive Runs (E:Env) (N:Nat) (ops:Array Oper):List (Nat×Rec)->St->St->Prop
 | nil {S}:Runs E N ops [] S S
 | cons {i r l S S'}:Stp E N ops S r->Runs E N ops l (S.app r.o.dst r.out) S'->Runs E N ops ((i,r)::l) S S'
theorem Runs.front {q:Nat×Rec} {R2:List (Nat×Rec)}:∀(R1:List (Nat×Rec)) {S S':St},(∀p,p∈R1->IZ ops p.2.o q.2.o=true/\p.2.apart q.2=true)->Runs E N ops (R1++q::R2) S S'->Runs E N ops (q::(R1++R2)) S S'
 | [],_,_,_,h=>h
 | (i,p)::R1,S,S',ha,h=>by
  obtain ⟨qi,q⟩:=q;cases h with
  | cons h1 h2=>
   have:=Runs.front R1 (λp hp=>ha p (by simp [hp])) h2;cases this with
   | cons h3 h4=>
    obtain ⟨s1,s2⟩:=ha (i,p) Z;obtain ⟨k1,k2,k3⟩:=h1.swap h3 s1 s2;rw [k3]at h4;exact .cons k1 (.cons k2 h4)
theorem QX:∀(os:List Oper) (S S':St) (n:Nat),(VG E N ops os S).run=some S'->∃rs:List Rec,rs.map (·.o)=os/\Runs E N ops (DI rs n) S S'
 | [],S,S',n,h=>by
  rw [VG]at h;simp only [Tr.run,AlV]at h;subst h;exact⟨[],rfl,.nil⟩
 | o::os,S,S',n,h=>by
  rw [VG]at h;simp only [run_bind,AlY]at h;obtain ⟨⟨S1,r⟩,h1,h2⟩:=h;obtain ⟨e1,e2,e3⟩:=VV h1;subst e3;obtain ⟨rs,k1,k2⟩:=QX os _ S' (n+1) h2;exact⟨r::rs,by rw [AmF,k1,e1],.cons e2 (by rw [e1];exact k2)⟩
theorem V5:∀(os:List Oper) (S S':St) (acc rs:List Rec) (n:Nat),(XX E N ops os S acc).run=some (S',rs)->∃rs':List Rec,rs=acc.reverse++rs'/\rs'.map (·.o)=os/\Runs E N ops (DI rs' n) S S'
 | [],S,S',acc,rs,n,h=>by
  rw [XX]at h;simp only [Tr.run,AlV,Prod.mk.injEq]at h;obtain ⟨h1,h2⟩:=h;subst h1 h2;exact⟨[],Z,rfl,.nil⟩
 | o::os,S,S',acc,rs,n,h=>by
  rw [XX]at h;simp only [run_bind,AlY]at h;obtain ⟨⟨S1,r⟩,h1,h2⟩:=h;obtain ⟨e1,e2,e3⟩:=VV h1;subst e3;obtain ⟨rs',k0,k1,k2⟩:=V5 os _ S' (r::acc) rs (n+1) h2;exact⟨r::rs',by rw [k0];simp,by rw [AmF,k1,e1],.cons e2 (by rw [e1];exact k2)⟩
end
end Go.V