import Derived.Test.YtofhefmbioblbaaGreatQEfA
import Derived.Test.YtofhefmbioblbaaGreatQEfE
import Derived.Shelf.Spec.SlicesInsert
import Derived.Shelf.Spec.SlicesInsertGrow
import Derived.Shelf.SlSortCmp.NoneTotal
import Derived.Shelf.Slices.In.SortNone
set_option linter.unusedVariables false
set_option linter.unusedSimpArgs false
namespace Go.V
open Go.RowKit Go.Shelf
def Bh (n:Int):Value:=.int .i64 n
theorem Ye {w:World} {K:Nat->Prop}:∀{xs:List Int} {vs:List Value} {F:List Nat},RpL (Rp w K (.int .i64)) xs vs F->vs=xs.map Bh/\F=[]
 | [],_,_,h=>h
 | x::xs,_,_,⟨v1,v2,F1,F2,e1,e2,h1,h2⟩=>by
  obtain ⟨rfl,rfl⟩:=Ye h2;simp only [Rp]at h1;obtain ⟨rfl,rfl⟩:=h1;exact⟨e1,e2⟩
theorem SR {w:World} {K:Nat->Prop}:∀(xs:List Int),RpL (Rp w K (.int .i64)) xs (xs.map Bh) []
 | []=>⟨rfl,rfl⟩
 | x::xs=>⟨[Bh x],xs.map Bh,[],[],rfl,rfl,by simp only [Rp];exact⟨rfl,trivial⟩,SR xs⟩
theorem Ix (xs:List Int):∀v∈xs.map Bh,v.oneCell'=true:=by
 intro v hv;obtain ⟨x,_,rfl⟩:=Aml.1 hv;rfl
theorem L2 {w w':World} {Ro:Nat->Prop} {F:List Nat} {vals:List Value} {e:TypeId} {zs:List Int} {g off c n:Nat} {cs:Array Value} {fr:Nat×Nat} (hst:Step w w' (λx=>x∈[]++F)) (hg:w'.heap[g]?=some (.cells cs e fr))
  (hfr:NFt (.int .i64) fr cs.size) (hoff:off+c<=cs.size) (hn:n=zs.length) (hc:zs.length<=c) (hz:(cs.toList.drop off).take zs.length=zs.map Bh) (hgF:g∈F\/w.heap.size<=g) :
  IF w Ro [] F vals ⟨[.one ⟨.sl true e (.int .i64),zs⟩],[],[]⟩ (.slice (some ⟨g,off,none⟩) n c) w':=by
 subst hn;refine⟨[.slice (some ⟨g,off,none⟩) zs.length c],[g],[],[],rfl,?_,⟨rfl,rfl⟩,rfl,Z,?_,hst,RestOk.nil⟩
 .refine⟨_,[],[g],[],rfl,rfl,⟨?_,λh=>by cases h⟩,rfl,rfl⟩;dsimp only;rw [Rp];refine .inr ⟨g,off,c,cs,fr,[],rfl,rfl,hg,hfr,by simpa [Ty.size] using hoff,hc,?_⟩;rw [show List.length zs * (Ty.int .i64).size=zs.length by simp [Ty.size]];have hz':(cs.toList.drop off).take (List.length zs)=zs.map Bh:=hz;rw [hz'];exact SR zs
 .intro x hx;simp only [Amf,Al6]at hx;subst hx;exact⟨BS hg,hgF⟩
theorem KJ (w:World) (T:Nat->Prop):Step w w.drew T:=⟨rfl,rfl,rfl,Amu _,λ_ _ _=>rfl⟩
theorem OC (w:World) (o:Obj) (T:Nat->Prop):Step w (w.alloc o) T:=
 ⟨rfl,rfl,rfl,(by show w.heap.size<=(w.heap.push _).size;simp),λg hg _=>(by show(w.heap.push _)[g]?=_;simp [An2,(O:¬ (g=w.heap.size))])⟩
variable {P:Program} {ρ:Ren}
theorem Sr {w:World} {K:Nat->Prop} {e:TypeId} {xs:List Int} {v:Value} {F:List Nat} (h:Rp w K (.sl true e (.int .i64)) xs [v] F) :
  (xs=[]/\F=[]/\v=.slice none 0 0)\/∃g off c cs fr,v=.slice (some ⟨g,off,none⟩) xs.length c/\F=[g]/\w.heap[g]?=some (.cells cs e fr)/\NFt (.int .i64) fr cs.size/\off+c<=cs.size/\xs.length<=c/\(cs.toList.drop off).take xs.length=xs.map Bh:=by
 rw [Rp]at h;rcases h with⟨h1,h2,h3⟩ | ⟨g,off,c,cs,fr,F',h1,h2,h3,h4,h5,h6,h7⟩
 .injection h3 with h3;exact .inl ⟨h1,h2,h3⟩
 .injection h1 with h1
  obtain ⟨h8,rfl⟩:=Ye h7;refine .inr ⟨g,off,c,cs,fr,h1,h2,h3,h4,by simpa [Ty.size] using h5,h6,?_⟩;have e1:List.length xs * (Ty.int .i64).size=xs.length:=by simp [Ty.size]
  rw [e1]at h8;exact h8
theorem AbP {w:World} {g off:Nat} {cs:Array Value} {e:TypeId} {fr:Nat×Nat} {xs:List Int} (hg:w.heap[g]?=some (.cells cs e fr)) (h:(cs.toList.drop off).take xs.length=xs.map Bh) :
  ∀j v,(xs.map Bh)[j]?=some v->w.cell? ⟨g,off+j,none⟩=some v:=by
 intro j v hj;rw [Bc hg];have hlt:=(Amy.1 hj).1;rw [Amt]at hlt;rw [<- h,Ami hlt,AmC,Amh]at hj;exact hj
theorem AhE {cs cs1 cs2:Array Value} {off i m n:Nat} {A V:List Value} (hA:A.length=n) (hV:V.length=m) (hi:i<=n) (h0:(cs.toList.drop off).take n=A)
  (h1:∀k,cs1[k]?=if off+(i+m)<=k/\k < off+(i+m)+(A.drop i).length then(A.drop i)[k - (off+(i+m))]? else cs[k]?)
  (h2:∀k,cs2[k]?=if off+i<=k/\k < off+i+V.length then V[k - (off+i)]? else cs1[k]?) :
  (cs2.toList.drop off).take (n+m)=A.take i++(V++A.drop i):=by
 have hdl:(A.drop i).length=n - i:=by rw [Amm,hA]
 have htl:(A.take i).length=i:=by rw [Al4,hA];omega
 apply AmT;intro j;by_cases hj:j < i
 .rw [AmQ O,Ami O,AmC,Amh,h2,AlZ O,h1,AlZ O,Ami hj,<- h0,
   Ami O,AmC,Amh]
 .rw [AmE O,htl];by_cases hj2:j < i+m
  .rw [AmQ O,Ami O,AmC,Amh,h2,Al1 O]
   congr 1;omega
  .rw [AmE O,hV];by_cases hj3:j < n+m
   .rw [Ami hj3,AmC,Amh,h2,AlZ O,h1,Al1 O]
    congr 1;omega
   .rw [Amn (by rw [Al4];omega),Amn O]
theorem ZV (L:Go.Proofs.Lays2.n21 P ρ) (e2:TypeId) (xs vs:List Int) (i:Nat) (hi:i<=xs.length) (hv:vs≠[]) (hroom:(xs.length+vs.length) * 8<=140737488355328) :
  CA P (ρ.f 21) [.one ⟨.sl true (ρ.t 3) (.int .i64),xs⟩,.one ⟨.int .i64,(i:Int)⟩,.one ⟨.sl true e2 (.int .i64),vs⟩] [] ⟨[.one ⟨.sl true (ρ.t 3) (.int .i64),xs.take i++(vs++xs.drop i)⟩],[],[]⟩:=by
 refine⟨⟨_,L.f21,rfl,rfl⟩,?_⟩;rintro w _ Ro ms _ F2 ⟨v0,_,G0,_,rfl,rfl,⟨h0,_⟩,⟨v1,_,G1,_,rfl,rfl,⟨h1,_⟩,⟨v2,_,G2,_,rfl,rfl,⟨h2,_⟩,rfl,rfl⟩⟩⟩ hR hnd hlt _;dsimp only at h0 h1 h2;cases ms with
 | cons g gs=>obtain ⟨_,_,_,_,h,_⟩:=hR;cases h
 | nil=>
 obtain ⟨_,rfl⟩:=hR;simp only [Rp]at h1;obtain ⟨h1,rfl⟩:=h1;injection h1 with h1
 subst h1;rcases Sr h2 with⟨h,_,_⟩ | ⟨vb,voff,vc,csv,frv,rfl,rfl,hgv,hnv,hov,hcv,hzv⟩
 .exact absurd h hv
 have hvl:(vs.map Bh).length=vs.length:=Amt _;have hm:0 < vs.length:=List.length_pos_iff.2 hv;have hvs:=AbP hgv hzv;have hlen:(xs.take i++(vs++xs.drop i)).length=xs.length+vs.length:=by simp;omega
 have hmap:(xs.take i++(vs++xs.drop i)).map Bh=(xs.map Bh).take i++(vs.map Bh++(xs.map Bh).drop i):=by simp [List.map_take,List.map_drop]
 have hcl:(xs.map Bh).length=xs.length:=Amt _;rcases Sr h0 with⟨rfl,rfl,rfl⟩ | ⟨b,off,c,cs,fr,rfl,rfl,hg,hnf,hoc,hnc,hz⟩
 .-- nil
  obtain rfl:i=0:=by simpa using hi
  have hN:=BS hgv;refine(Go.Proofs.Any2.slices_Insert_int_end_grow L none 0 0 vb voff vs.length vc [] (vs.map Bh) w hm (Amu _) O (by simpa using hroom) rfl hvl (λ_=>rfl) (λa h=>by cases h) hvs (Ix vs)).mono ?_;rintro _ _ ⟨rfl,rfl⟩;have hge:=grownCap_ge w (0+vs.length) 0 (ρ.t 3);have hgm:=grownCap_le_maxLen w (0+vs.length) 0 (ρ.t 3) (by unfold maxLen;simp at hroom;omega);generalize grownCap w (0+vs.length) 0 (ρ.t 3)=gc at hge hgm;unfold maxLen at hgm;refine⟨_,rfl,?_⟩;have hsz:(([]++vs.map Bh).toArray++Builtin.zeroCells (Value.int .i64 0).cells (gc - (0+vs.length))).size=gc:=by
   rw [AnP,size_zeroCells];simp [Value.cells];omega
  refine L2 (g:=w.heap.size) ((KJ w _).trans (OC w.drew _ _)) (FW w _) (NFt.zero _ (λ_=>by rw [hsz];omega)) (by rw [hsz];omega) (by rw [hlen];simp) (by rw [hlen];simpa using hge) ?_ (.inr (Amu _));rw [hlen,hmap,AmX,AnR,AnC Z];simp only [Amp,Amk,Ams,Aof,List.take_nil,List.drop_nil,Amf];exact AmK Z
 .have hcs:=AbP hg hz;have hcm:cs.size<=9223372036854775807:=hnf.le rfl;have hbv:vb≠b:=by
   rintro rfl;simp at hnd
  by_cases hlt2:i < xs.length
  .by_cases hrm:xs.length+vs.length<=c
   .refine(Go.Proofs.Any2.slices_Insert_int_shift L b off xs.length c i vb voff vs.length vc (xs.map Bh) (vs.map Bh) w hlt2 hm hrm O hbv hcl hvl hcs
     (λj hj=>by rw [Bc hg,Amz O];rfl) (λj hj=>Dt hg hnf.nf O) hvs (Ix xs) (Ix vs) e2 (ρ.t 3) csv.size cs.size
     (by unfold World.shape?;rw [hgv]) (by unfold World.shape?;rw [hg]) O (Dt hgv hnv.nf O) (by
      unfold World.frozen?;rw [hgv];have:=hnv.at' Z;simp only [Bool.and_eq_false_iff,decide_eq_false_iff_not];omega)).mono ?_
    rintro _ _ ⟨rfl,rfl⟩;refine⟨_,rfl,?_⟩;have hgd:w.drew.heap[b]?=some (.cells cs (ρ.t 3) fr):=hg;have hdl:((xs.map Bh).drop i).length=xs.length - i:=by rw [Amm,hcl]
    obtain ⟨c1,s1,s2,s3⟩:=C7 ((xs.map Bh).drop i) (off+(i+vs.length)) w.drew cs hgd O;obtain ⟨s4,s5⟩:=CK (g:=b) ((xs.map Bh).drop i) (off+(i+vs.length)) w.drew;obtain ⟨c2,u1,u2,u3⟩:=C7 (vs.map Bh) (off+i) _ c1 s1 O;obtain ⟨u4,u5⟩:=CK (g:=b) (vs.map Bh) (off+i) (w.drew.setCells b (off+(i+vs.length)) ((xs.map Bh).drop i));refine L2 (g:=b) (((KJ w _).trans (s4.trans u4)).mono (λx hx=>by subst hx;simp)) u1 (by rw [u2,s2];exact hnf) (by rw [u2,s2];exact hoc) hlen.symm (by rw [hlen];exact hrm) ?_ (.inl Z);rw [hlen,hmap];exact AhE hcl hvl hi hz s3 u3
   .refine(Go.Proofs.Any2.slices_Insert_int_grow L b off xs.length c i vb voff vs.length vc (xs.map Bh) (vs.map Bh) w hlt2 hm hnc O hroom hcl hvl hcs hvs (Ix xs) (Ix vs)).mono ?_;rintro _ _ ⟨rfl,rfl⟩;have hge:=grownCap_ge w (xs.length+vs.length) c (ρ.t 3);have hgm:=grownCap_le_maxLen w (xs.length+vs.length) c (ρ.t 3) (by unfold maxLen;omega);generalize grownCap w (xs.length+vs.length) c (ρ.t 3)=gc at hge hgm;unfold maxLen at hgm;refine⟨_,rfl,?_⟩;generalize hrow:((xs.map Bh).take i).toArray++Builtin.zeroCells (Value.int .i64 0).cells (xs.length+vs.length - i)++Builtin.zeroCells (Value.int .i64 0).cells (gc - (xs.length+vs.length))=row;have hsz:row.size=gc:=by
     rw [<- hrow,AnP,AnP,size_zeroCells,size_zeroCells];simp [Value.cells];omega
    have htk:row.toList.take i=(xs.map Bh).take i:=by
     rw [<- hrow,AnR,AnR,Al5,AnC AlR];simp only [List.take_take,Nat.min_self]
    have hgd:(w.alloc (.cells row (ρ.t 3))).drew.heap[w.heap.size]?=some (.cells row (ρ.t 3) (0,0)):=FW w _;have hdl:((xs.map Bh).drop i).length=xs.length - i:=by rw [Amm,hcl]
    obtain ⟨c1,s1,s2,s3⟩:=C7 (vs.map Bh) i _ row hgd O;obtain ⟨s4,s5⟩:=CK (g:=w.heap.size) (vs.map Bh) i (w.alloc (.cells row (ρ.t 3))).drew;have s1':((w.alloc (.cells row (ρ.t 3))).drew.setCells w.heap.size i (vs.map Bh)).drew.heap[w.heap.size]?=some (.cells c1 (ρ.t 3) (0,0)):=s1;obtain ⟨c2,u1,u2,u3⟩:=C7 ((xs.map Bh).drop i) (i+vs.length) _ c1 s1' O;obtain ⟨u4,u5⟩:=CK (g:=w.heap.size) ((xs.map Bh).drop i) (i+vs.length) ((w.alloc (.cells row (ρ.t 3))).drew.setCells w.heap.size i (vs.map Bh)).drew;have hstep:Step w (((w.alloc (.cells row (ρ.t 3))).drew.setCells w.heap.size i (vs.map Bh)).drew.setCells w.heap.size (i+vs.length) ((xs.map Bh).drop i)) (λx=>x∈[]++([b]++([]++([vb]++[]))++[])):=by
     have h9:=(((OC w (.cells row (ρ.t 3)) (λx=>x=w.heap.size)).trans (KJ _ _)).trans s4).trans ((KJ _ _).trans u4);exact⟨h9.os,h9.tape,h9.output,h9.size,λg hg _=>h9.same g hg O⟩
    refine L2 (g:=w.heap.size) hstep u1 (NFt.zero _ (λ_=>by rw [u2,s2,hsz];omega)) (by rw [u2,s2,hsz];omega) hlen.symm (by rw [hlen];exact hge) ?_ (.inr (Amu _));rw [hlen,hmap,AmX];have htl:((xs.map Bh).take i).length=i:=by rw [Al4,hcl];omega
    apply AmT;intro j;by_cases hj:j < i
    .rw [AmQ O,Ami O,Amh,u3,AlZ O,s3,AlZ O,<- htk,Ami hj,Amh]
    .rw [AmE O,htl];by_cases hj2:j < i+vs.length
     .rw [AmQ O,Ami O,Amh,u3,AlZ O,s3,Al1 O]
     .rw [AmE O,hvl];by_cases hj3:j < xs.length+vs.length
      .rw [Ami hj3,Amh,u3,Al1 O]
       congr 1;omega
      .rw [Amn (by rw [Al4];omega),Amn O]
  .obtain rfl:i=xs.length:=O
   have hmap2:(xs.take xs.length++(vs++xs.drop xs.length)).map Bh=xs.map Bh++vs.map Bh:=by simp
   by_cases hrm:xs.length+vs.length<=c
   .refine(Go.Proofs.Any2.slices_Insert_int_end_room L b off xs.length c vb voff vs.length vc (vs.map Bh) w hm hrm O hvl
     (λj hj=>by rw [Bc hg,Amz O];rfl) (λj hj=>Dt hg hnf.nf O) hvs (Ix vs)).mono ?_
    rintro _ _ ⟨rfl,rfl⟩;refine⟨_,rfl,?_⟩;obtain ⟨c1,s1,s2,s3⟩:=C7 (vs.map Bh) (off+xs.length) w cs hg O;obtain ⟨s4,s5⟩:=CK (g:=b) (vs.map Bh) (off+xs.length) w;refine L2 (g:=b) (s4.mono (λx hx=>by subst hx;simp)) s1 (by rw [s2];exact hnf) (by rw [s2];exact hoc) hlen.symm (by rw [hlen];exact hrm) ?_ (.inl Z);rw [hlen,hmap2];apply AmT;intro j;by_cases hj:j < xs.length
    .rw [AmQ O,Ami O,AmC,Amh,s3,AlZ O,<- hz,Ami hj,AmC,Amh]
    .rw [AmE O,hcl];by_cases hj2:j < xs.length+vs.length
     .rw [Ami hj2,AmC,Amh,s3,Al1 O]
      congr 1;omega
     .rw [Amn (by rw [Al4];omega),Amn O]
   .refine(Go.Proofs.Any2.slices_Insert_int_end_grow L (some ⟨b,off,none⟩) xs.length c vb voff vs.length vc (xs.map Bh) (vs.map Bh) w hm hnc O hroom hcl hvl (λh=>by cases h)
     (λa ha j v hj=>by injection ha with ha;subst ha;rw [Bb];exact hcs j v hj) hvs (Ix vs)).mono ?_
    rintro _ _ ⟨rfl,rfl⟩;have hge:=grownCap_ge w (xs.length+vs.length) c (ρ.t 3);have hgm:=grownCap_le_maxLen w (xs.length+vs.length) c (ρ.t 3) (by unfold maxLen;omega);generalize grownCap w (xs.length+vs.length) c (ρ.t 3)=gc at hge hgm;unfold maxLen at hgm;refine⟨_,rfl,?_⟩;have hsz:((xs.map Bh++vs.map Bh).toArray++Builtin.zeroCells (Value.int .i64 0).cells (gc - (xs.length+vs.length))).size=gc:=by
     rw [AnP,size_zeroCells];simp [Value.cells];omega
    refine L2 (g:=w.heap.size) ((KJ w _).trans (OC w.drew _ _)) (FW w _) (NFt.zero _ (λ_=>by rw [hsz];omega)) (by rw [hsz];omega) hlen.symm (by rw [hlen];exact hge) ?_ (.inr (Amu _));rw [hlen,hmap2,AmX,AnR,AnC Z];rw [AmK Z]
theorem Xz {t:TypeId} {d:TypeDesc} {z:Value} (hu:P.underlying t=some d) (hi:(P.info? t).map (λi=>(i.zero,i.size))=some (some z,1)) :
  (∀w,(isAgg t).run P w=.ok (Ib d) w)/\(∀w,(Go.sizeOf t).run P w=.ok 1 w)/\(∀w,(zeroValue t).run P w=.ok z w):=by
 cases h:P.info? t with
 | none=>rw [h]at hi;cases hi
 | some i=>
  rw [h]at hi;simp only [AmS,AlV,Prod.mk.injEq]at hi;obtain ⟨h1,h2⟩:=hi;exact⟨λw=>KF hu w,λw=>by rw [Mh h,h2],λw=>SQ h h1 w⟩
theorem AhJ (mixed:P.follows .mixedOrders=true) (f21:P.funcs[ρ.f 21]?=some (Go.Proofs.Body2.n21 ρ)) (f27:P.funcs[ρ.f 27]?=some (Go.Proofs.Body2.n27 ρ)) (f28:P.funcs[ρ.f 28]?=some (Go.Proofs.Body2.n28 ρ))
  (f35:P.funcs[ρ.f 35]?=some (Go.Proofs.Body2.n35 ρ)) (f39:P.funcs[ρ.f 39]?=some (Go.Proofs.Body2.n39 ρ))
  (t0:P.underlying (ρ.t 0)=some (TypeDesc.tuple #[])) (t3:P.underlying (ρ.t 3)=some (TypeDesc.int IntKind.i64)) (t4:P.underlying (ρ.t 4)=some (TypeDesc.bool)) (t22:P.underlying (ρ.t 22)=some (TypeDesc.slice (ρ.t 3)))
  (i0:(P.info? (ρ.t 0)).map (λi=>(i.zero,i.size))=some (some (Value.tuple #[]),1)) (i3:(P.info? (ρ.t 3)).map (λi=>(i.zero,i.size,i.bytes))=some (some (Value.int IntKind.i64 0),1,8))
  (i4:(P.info? (ρ.t 4)).map (λi=>(i.zero,i.size))=some (some (Value.bool false),1)) (i22:(P.info? (ρ.t 22)).map (λi=>(i.zero,i.size))=some (some (Value.slice none 0 0),1)):Go.Proofs.Lays2.n21 P ρ:=by
 have i3':(P.info? (ρ.t 3)).map (λi=>(i.zero,i.size))=some (some (Value.int IntKind.i64 0),1):=by
  cases h:P.info? (ρ.t 3)with
  | none=>rw [h]at i3;cases i3
  | some i=>
   rw [h]at i3;simp only [AmS,AlV,Prod.mk.injEq]at i3 ⊢;exact⟨i3.1,i3.2.1⟩
 have l0:=Xz t0 i0;have l3:=Xz t3 i3';have l4:=Xz t4 i4;have l22:=Xz t22 i22;exact{ mixed:=mixed,f21:=f21,f27:=f27,f28:=f28,f35:=f35,f39:=f39,t0:=t0,a0:=l0.1,z0:=l0.2.1,v0:=l0.2.2,t3:=t3,a3:=l3.1,z3:=l3.2.1,v3:=l3.2.2,t4:=t4,a4:=l4.1,z4:=l4.2.1,v4:=l4.2.2,t22:=t22,a22:=l22.1,z22:=l22.2.1,v22:=l22.2.2,i3:=i3 }
theorem AdK (L:Go.Proofs.Lays2.n21 P ρ) {x0:List Int} {x1:Int} {x2 y:List Int} (h:(if 0<=x1/\x1.toNat<=x0.length/\x2≠[]/\(x0.length+x2.length) * 8<=140737488355328 then some (x0.take x1.toNat++(x2++x0.drop x1.toNat))else none)=some y) :
  CA P (ρ.f 21) [.one ⟨.sl true (ρ.t 3) (.int .i64),x0⟩,.one ⟨.int .i64,x1⟩,.one ⟨.sl true (ρ.t 3) (.int .i64),x2⟩] [] ⟨[.one ⟨.sl true (ρ.t 3) (.int .i64),y⟩],[],[]⟩:=by
 split at h
 .rename_i hc;injection h with h
  subst h;obtain ⟨h1,h2,h3,h4⟩:=hc;obtain ⟨i,rfl⟩:=Amq h1;exact ZV L _ x0 x2 i h2 h3 h4
 .cases h
end Go.V
namespace Go.V
open Go.RowKit Go.Shelf Go.Sort
theorem AhI {α:Type} [Inhabited α] {w:World} {g off n:Nat} {cs:Array Value} {e:TypeId} {fr:Nat×Nat} (enc:α->Value) (d:Array α) (os:Array Obj) (hg:w.heap[g]?=some (.cells cs e fr)) (hle:off+d.size<=cs.size) :
  Step w (grow (putRow enc (Go.Sort.ahead w n) g off d) os) (λx=>x=g)/\∃cs',(grow (putRow enc (Go.Sort.ahead w n) g off d) os).heap[g]?=some (.cells cs' e fr)/\cs'.size=cs.size/\(cs'.toList.drop off).take d.size=d.toList.map enc:=by
 have hlt:=BS hg;have hsz:(putRow enc (Go.Sort.ahead w n) g off d).heap.size=w.heap.size:=size_putRow enc (Go.Sort.ahead w n) g off d;have hgr:∀k,k < w.heap.size->(grow (putRow enc (Go.Sort.ahead w n) g off d) os).heap[k]?=(putRow enc (Go.Sort.ahead w n) g off d).heap[k]?:=by
  intro k hk;show((putRow enc (Go.Sort.ahead w n) g off d).heap++os)[k]?=_;rw [Array.getElem?_append_left O]
 have hat:∀k,(putRow enc (Go.Sort.ahead w n) g off d).heap[k]?=if g=k then(w.heap[k]?).map (onCells (putCells enc off d))else w.heap[k]?:=by
  intro k;show(w.heap.modify g (onCells (putCells enc off d)))[k]?=_;rw [Array.getElem?_modify]
 refine⟨⟨rfl,rfl,rfl,?_,λk hk hn=>?_⟩,putCells enc off d cs,?_,?_,?_⟩
 .show w.heap.size<=((putRow enc (Go.Sort.ahead w n) g off d).heap++os).size;rw [AnP];omega
 .rw [hgr k hk,hat,AlZ (λh=>hn h.symm)]
 .rw [hgr g hlt,hat,Al1 rfl,hg];rfl
 .simp [putCells]
 .apply AmT;intro j;by_cases hj:j < d.size
  .rw [Ami hj,AmC,Amh];simp only [putCells,Array.getElem?_mapIdx,AmB,Amh];rw [Amz (by omega:off+j < cs.size),AmS,Al1 ⟨O,O⟩,(O:off+j - off=j),getElem!_pos d j hj,Amz hj,AmS]
  .rw [Amn (by rw [Al4];omega),Amn AlR]
theorem Agm {w:World} {g off:Nat} {cs:Array Value} {e:TypeId} {fr:Nat×Nat} {r:Ty} {α:Type} [Inhabited α] {enc:α->Value} {d:Array α} (hg:w.heap[g]?=some (.cells cs e fr)) (hnf:NFt r fr cs.size) (hle:off+d.size<=cs.size)
  (h:(cs.toList.drop off).take d.size=d.toList.map enc):Go.Sort.Holds enc w g off d:=by
 intro j hj;refine⟨?_,Dt hg hnf.nf O⟩;rw [Bc hg];have:=congrArg (·[j]?) h;simp only [Ami hj,AmC,Amh,AmB]at this;rw [this,Amz hj,AmS,getElem!_pos d j hj]
theorem Aem {w w':World} {Ro:Nat->Prop} {F:List Nat} {vals:List Value} {e:TypeId} {r:Ty} {zs:List r.D} {g off c n:Nat} {cs:Array Value} {fr:Nat×Nat} (hst:Step w w' (λx=>x∈[]++F)) (hg:w'.heap[g]?=some (.cells cs e fr))
  (hfr:NFt r fr cs.size) (hoff:off+c * r.size<=cs.size) (hn:n=zs.length) (hc:zs.length<=c) (hz:∀K,RpL (Rp w' K r) zs ((cs.toList.drop off).take (zs.length * r.size)) []) (hgF:g∈F\/w.heap.size<=g)
  (hv:EO vals (0,0)=some (.slice (some ⟨g,off,none⟩) n c)) :
  IF w Ro [] F vals ⟨[],[],[((0,0),⟨.sl true e r,zs⟩)]⟩ (.tuple #[]) w':=by
 subst hn;refine⟨[],[],[],[g],rfl,⟨rfl,rfl⟩,⟨rfl,rfl⟩,⟨_,[g],[],rfl,hv,⟨?_,λh=>by cases h⟩,rfl⟩,Z,?_,hst,RestOk.nil⟩
 .dsimp only;rw [Rp];exact .inr ⟨g,off,c,cs,fr,[],rfl,rfl,hg,hfr,hoff,hc,hz _⟩
 .intro x hx;simp only [Ams,Al6]at hx;subst hx;exact⟨BS hg,hgF⟩
theorem Aeu {w:World} {Ro:Nat->Prop} {vals:List Value} {e:TypeId} {r:Ty} (hv:EO vals (0,0)=some (.slice none 0 0)) :
  IF w Ro [] [] vals ⟨[],[],[((0,0),⟨.sl true e r,[]⟩)]⟩ (.tuple #[]) w:=by
 refine⟨[],[],[],[],rfl,⟨rfl,rfl⟩,⟨rfl,rfl⟩,⟨_,[],[],rfl,hv,⟨?_,λh=>by cases h⟩,rfl⟩,Z,(λx hx=>by simp at hx),Step.refl w _,RestOk.nil⟩;dsimp only;rw [Rp];exact .inl ⟨rfl,rfl,rfl⟩
variable {P:Program} {ρ:Ren}
def MS (xs:List Int):List Int:=xs.mergeSort λx y=>decide (x<=y)
theorem Adv (L : Go.Proofs.Lays.n189 P ρ) (e : TypeId) (xs : List Int) (hlen : xs.length < 4611686018427387904) (hname : ∀ fn, P.funcs[ρ.f 189]? = some fn → (fn.name == "runtime.NumGoroutine") = false ∧ fn.body.isNone = false) :
  CA P (ρ.f 189) [.one ⟨.sl true e (.int .i64),xs⟩] [] ⟨[],[],[((0,0),⟨.sl true e (.int .i64),MS xs⟩)]⟩:=by
 refine⟨⟨_,L.f189,(hname _ L.f189).1,(hname _ L.f189).2⟩,?_⟩;rintro w _ Ro ms _ F2 ⟨v0,_,G0,_,rfl,rfl,⟨h0,_⟩,rfl,rfl⟩ hR hnd hlt _;dsimp only at h0;cases ms with
 | cons g gs=>obtain ⟨_,_,_,_,h,_⟩:=hR;cases h
 | nil=>
 obtain ⟨_,rfl⟩:=hR;have hsl:(MS xs).length=xs.length:=List.length_mergeSort xs;rcases Sr h0 with⟨rfl,rfl,rfl⟩ | ⟨b,off,c,cs,fr,rfl,rfl,hg,hnf,hoc,hnc,hz⟩
 .refine(Go.Proofs.Any.slices_Sort_int_none L none 0 w).mono ?_;rintro _ _ ⟨rfl,rfl⟩;have e0:MS []=[]:=by unfold MS;simp
  rw [e0];exact⟨_,rfl,Aeu rfl⟩
 .have hlt2:=BS hg;have hH:Go.Sort.Holds (Value.int .i64) w b off xs.toArray:=Agm hg hnf AlR (by rw [Am5];exact hz);refine(calls_of_every_depth λD=>Go.Proofs.AnyS.slices_Sort_int_alone L D b off c xs w hH hlt2 hlen).mono ?_;rintro _ _ ⟨rfl,n,os,rfl⟩;refine⟨_,rfl,?_⟩;obtain ⟨k1,cs',k2,k3,k4⟩:=AhI (off:=off) (n:=n) (Value.int .i64) (MS xs).toArray os hg (by rw [Am5,hsl];omega);refine Aem (r:=.int .i64) (zs:=MS xs) (g:=b) (off:=off) (c:=c) (n:=xs.length) (k1.mono (λx hx=>by subst hx;simp)) k2 (by rw [k3];exact hnf) (by rw [k3];simpa [Ty.size] using hoc) hsl.symm O (λK=>?_) (.inl Z) rfl;rw [show(MS xs).length * (Ty.int .i64).size=(MS xs).toArray.size by simp [Ty.size]];rw [k4];exact SR _
theorem Acy (L : Go.Proofs.Lays.n189 P ρ) (hname : ∀ fn, P.funcs[ρ.f 189]? = some fn → (fn.name == "runtime.NumGoroutine") = false ∧ fn.body.isNone = false) {e : TypeId} {xs y : List Int} (h : (if xs.length < 4611686018427387904 then some (xs.mergeSort fun x y => decide (x ≤ y)) else none) = some y) :
  CA P (ρ.f 189) [.one ⟨.sl true e (.int .i64),xs⟩] [] ⟨[],[],[((0,0),⟨.sl true e (.int .i64),y⟩)]⟩:=by
 split at h
 .injection h with h
  subst h;exact Adv L e xs (by assumption) hname
 .cases h
def Ahy (p:Int×Int):Prop:=0<=p.1/\p.1 < 2147483648
abbrev KvS:={ p:Int×Int // Ahy p }
instance:Inhabited KvS:=⟨⟨(0,0),by unfold Ahy;omega⟩⟩
end Go.V