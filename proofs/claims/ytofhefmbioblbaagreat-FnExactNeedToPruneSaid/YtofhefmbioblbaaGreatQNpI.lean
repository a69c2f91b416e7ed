import Derived.Test.YtofhefmbioblbaaGreatQNpA
import Derived.Test.YtofhefmbioblbaaGreatQNpE
import Derived.Shelf.Spec.SlicesInsert
import Derived.Shelf.Spec.SlicesInsertGrow
import Derived.Shelf.SlSortCmp.NoneTotal
import Derived.Shelf.Slices.In.SortNone
set_option linter.unusedVariables false
set_option linter.unusedSimpArgs false
namespace Go.V
open Go.RowKit Go.Shelf
def AP (n:Int):Value:=.int .i64 n
theorem ZY {w:World} {K:Nat->Prop}:∀{xs:List Int} {vs:List Value} {F:List Nat},RpL (Rp w K (.int .i64)) xs vs F->vs=xs.map AP/\F=[]
 | [],_,_,h=>h
 | x::xs,_,_,⟨v1,v2,F1,F2,e1,e2,h1,h2⟩=>by
  obtain ⟨rfl,rfl⟩:=ZY h2;simp only [Rp]at h1;obtain ⟨rfl,rfl⟩:=h1;exact⟨e1,e2⟩
theorem TC {w:World} {K:Nat->Prop}:∀(xs:List Int),RpL (Rp w K (.int .i64)) xs (xs.map AP) []
 | []=>⟨rfl,rfl⟩
 | x::xs=>⟨[AP x],xs.map AP,[],[],rfl,rfl,by simp only [Rp];exact⟨rfl,trivial⟩,TC xs⟩
theorem IU (xs:List Int):∀v∈xs.map AP,v.oneCell'=true:=by
 intro v hv;obtain ⟨x,_,rfl⟩:=Ao0.1 hv;rfl
theorem MR {w w':World} {Ro:Nat->Prop} {F:List Nat} {vals:List Value} {e:TypeId} {zs:List Int} {g off c n:Nat} {cs:Array Value} {fr:Nat×Nat} (hst:Step w w' (λx=>x∈[]++F)) (hg:w'.heap[g]?=some (.cells cs e fr))
  (hfr:NFt (.int .i64) fr cs.size) (hoff:off+c<=cs.size) (hn:n=zs.length) (hc:zs.length<=c) (hz:(cs.toList.drop off).take zs.length=zs.map AP) (hgF:g∈F\/w.heap.size<=g) :
  IY w Ro [] F vals ⟨[.one ⟨.sl true e (.int .i64),zs⟩],[],[]⟩ (.slice (some ⟨g,off,none⟩) n c) w':=by
 subst hn;refine⟨[.slice (some ⟨g,off,none⟩) zs.length c],[g],[],[],rfl,?_,⟨rfl,rfl⟩,rfl,Z,?_,hst,RestOk.nil⟩
 .refine⟨_,[],[g],[],rfl,rfl,⟨?_,λh=>by cases h⟩,rfl,rfl⟩;dsimp only;rw [Rp];refine .inr ⟨g,off,c,cs,fr,[],rfl,rfl,hg,hfr,by simpa [Ty.size] using hoff,hc,?_⟩;rw [show List.length zs * (Ty.int .i64).size=zs.length by simp [Ty.size]];have hz':(cs.toList.drop off).take (List.length zs)=zs.map AP:=hz;rw [hz'];exact TC zs
 .intro x hx;simp only [AoW,AoZ]at hx;subst hx;exact⟨B5 hg,hgF⟩
theorem Lh (w:World) (T:Nat->Prop):Step w w.drew T:=⟨rfl,rfl,rfl,Ao4 _,λ_ _ _=>rfl⟩
theorem Pu (w:World) (o:Obj) (T:Nat->Prop):Step w (w.alloc o) T:=
 ⟨rfl,rfl,rfl,(by show w.heap.size<=(w.heap.push _).size;simp),λg hg _=>(by show(w.heap.push _)[g]?=_;simp [Array.getElem?_push,(O:¬ (g=w.heap.size))])⟩
variable {P:Program} {ρ:Ren}
theorem TP {w:World} {K:Nat->Prop} {e:TypeId} {xs:List Int} {v:Value} {F:List Nat} (h:Rp w K (.sl true e (.int .i64)) xs [v] F) :
  (xs=[]/\F=[]/\v=.slice none 0 0)\/∃g off c cs fr,v=.slice (some ⟨g,off,none⟩) xs.length c/\F=[g]/\w.heap[g]?=some (.cells cs e fr)/\NFt (.int .i64) fr cs.size/\off+c<=cs.size/\xs.length<=c/\(cs.toList.drop off).take xs.length=xs.map AP:=by
 rw [Rp]at h;rcases h with⟨h1,h2,h3⟩ | ⟨g,off,c,cs,fr,F',h1,h2,h3,h4,h5,h6,h7⟩
 .injection h3 with h3;exact .inl ⟨h1,h2,h3⟩
 .injection h1 with h1
  obtain ⟨h8,rfl⟩:=ZY h7;refine .inr ⟨g,off,c,cs,fr,h1,h2,h3,h4,by simpa [Ty.size] using h5,h6,?_⟩;have e1:List.length xs * (Ty.int .i64).size=xs.length:=by simp [Ty.size]
  rw [e1]at h8;exact h8
theorem Ads {w:World} {g off:Nat} {cs:Array Value} {e:TypeId} {fr:Nat×Nat} {xs:List Int} (hg:w.heap[g]?=some (.cells cs e fr)) (h:(cs.toList.drop off).take xs.length=xs.map AP) :
  ∀j v,(xs.map AP)[j]?=some v->w.cell? ⟨g,off+j,none⟩=some v:=by
 intro j v hj;rw [Bf hg];have hlt:=(Apt.1 hj).1;rw [Ao9]at hlt;rw [<- h,Apf hlt,Apu,Ao8]at hj;exact hj
theorem AkB {cs cs1 cs2:Array Value} {off i m n:Nat} {A V:List Value} (hA:A.length=n) (hV:V.length=m) (hi:i<=n) (h0:(cs.toList.drop off).take n=A)
  (h1:∀k,cs1[k]?=if off+(i+m)<=k/\k < off+(i+m)+(A.drop i).length then(A.drop i)[k - (off+(i+m))]? else cs[k]?)
  (h2:∀k,cs2[k]?=if off+i<=k/\k < off+i+V.length then V[k - (off+i)]? else cs1[k]?) :
  (cs2.toList.drop off).take (n+m)=A.take i++(V++A.drop i):=by
 have hdl:(A.drop i).length=n - i:=by rw [Apr,hA]
 have htl:(A.take i).length=i:=by rw [AoQ,hA];omega
 apply Apq;intro j;by_cases hj:j < i
 .rw [ApH O,Apf O,Apu,Ao8,h2,AoH O,h1,AoH O,Apf hj,<- h0,
   Apf O,Apu,Ao8]
 .rw [Apw O,htl];by_cases hj2:j < i+m
  .rw [ApH O,Apf O,Apu,Ao8,h2,AoJ O]
   congr 1;omega
  .rw [Apw O,hV];by_cases hj3:j < n+m
   .rw [Apf hj3,Apu,Ao8,h2,AoH O,h1,AoJ O]
    congr 1;omega
   .rw [App (by rw [AoQ];omega),App O]
theorem Aai (L:Go.Proofs.Lays2.n21 P ρ) (e2:TypeId) (xs vs:List Int) (i:Nat) (hi:i<=xs.length) (hv:vs≠[]) (hroom:(xs.length+vs.length) * 8<=140737488355328) :
  B6 P (ρ.f 21) [.one ⟨.sl true (ρ.t 3) (.int .i64),xs⟩,.one ⟨.int .i64,(i:Int)⟩,.one ⟨.sl true e2 (.int .i64),vs⟩] [] ⟨[.one ⟨.sl true (ρ.t 3) (.int .i64),xs.take i++(vs++xs.drop i)⟩],[],[]⟩:=by
 refine⟨⟨_,L.f21,rfl,rfl⟩,?_⟩;rintro w _ Ro ms _ F2 ⟨v0,_,G0,_,rfl,rfl,⟨h0,_⟩,⟨v1,_,G1,_,rfl,rfl,⟨h1,_⟩,⟨v2,_,G2,_,rfl,rfl,⟨h2,_⟩,rfl,rfl⟩⟩⟩ hR hnd hlt _;dsimp only at h0 h1 h2;cases ms with
 | cons g gs=>obtain ⟨_,_,_,_,h,_⟩:=hR;cases h
 | nil=>
 obtain ⟨_,rfl⟩:=hR;simp only [Rp]at h1;obtain ⟨h1,rfl⟩:=h1;injection h1 with h1
 subst h1;rcases TP h2 with⟨h,_,_⟩ | ⟨vb,voff,vc,csv,frv,rfl,rfl,hgv,hnv,hov,hcv,hzv⟩
 .exact absurd h hv
 have hvl:(vs.map AP).length=vs.length:=Ao9 _;have hm:0 < vs.length:=Aqs.2 hv;have hvs:=Ads hgv hzv;have hlen:(xs.take i++(vs++xs.drop i)).length=xs.length+vs.length:=by simp;omega
 have hmap:(xs.take i++(vs++xs.drop i)).map AP=(xs.map AP).take i++(vs.map AP++(xs.map AP).drop i):=by simp [List.map_take,List.map_drop]
 have hcl:(xs.map AP).length=xs.length:=Ao9 _;rcases TP h0 with⟨rfl,rfl,rfl⟩ | ⟨b,off,c,cs,fr,rfl,rfl,hg,hnf,hoc,hnc,hz⟩
 .-- nil
  obtain rfl:i=0:=by simpa using hi
  have hN:=B5 hgv;refine(Go.Proofs.Any2.slices_Insert_int_end_grow L none 0 0 vb voff vs.length vc [] (vs.map AP) w hm (Ao4 _) O (by simpa using hroom) rfl hvl (λ_=>rfl) (λa h=>by cases h) hvs (IU vs)).mono ?_;rintro _ _ ⟨rfl,rfl⟩;have hge:=grownCap_ge w (0+vs.length) 0 (ρ.t 3);have hgm:=grownCap_le_maxLen w (0+vs.length) 0 (ρ.t 3) (by unfold maxLen;simp at hroom;omega);generalize grownCap w (0+vs.length) 0 (ρ.t 3)=gc at hge hgm;unfold maxLen at hgm;refine⟨_,rfl,?_⟩;have hsz:(([]++vs.map AP).toArray++Builtin.zeroCells (Value.int .i64 0).cells (gc - (0+vs.length))).size=gc:=by
   rw [Aqd,size_zeroCells];simp [Value.cells];omega
  refine MR (g:=w.heap.size) ((Lh w _).trans (Pu w.drew _ _)) (F8 w _) (NFt.zero _ (λ_=>by rw [hsz];omega)) (by rw [hsz];omega) (by rw [hlen];simp) (by rw [hlen];simpa using hge) ?_ (.inr (Ao4 _));rw [hlen,hmap,ApN,Aqa,ApX Z];simp only [Apd,AoS,Ao6,AqC,List.take_nil,List.drop_nil,AoW];exact Ao5 Z
 .have hcs:=Ads hg hz;have hcm:cs.size<=9223372036854775807:=hnf.le rfl;have hbv:vb≠b:=by
   rintro rfl;simp at hnd
  by_cases hlt2:i < xs.length
  .by_cases hrm:xs.length+vs.length<=c
   .refine(Go.Proofs.Any2.slices_Insert_int_shift L b off xs.length c i vb voff vs.length vc (xs.map AP) (vs.map AP) w hlt2 hm hrm O hbv hcl hvl hcs
     (λj hj=>by rw [Bf hg,Apg O];rfl) (λj hj=>DC hg hnf.nf O) hvs (IU xs) (IU vs) e2 (ρ.t 3) csv.size cs.size
     (by unfold World.shape?;rw [hgv]) (by unfold World.shape?;rw [hg]) O (DC hgv hnv.nf O) (by
      unfold World.frozen?;rw [hgv];have:=hnv.at' Z;simp only [Bool.and_eq_false_iff,decide_eq_false_iff_not];omega)).mono ?_
    rintro _ _ ⟨rfl,rfl⟩;refine⟨_,rfl,?_⟩;have hgd:w.drew.heap[b]?=some (.cells cs (ρ.t 3) fr):=hg;have hdl:((xs.map AP).drop i).length=xs.length - i:=by rw [Apr,hcl]
    obtain ⟨c1,s1,s2,s3⟩:=C6 ((xs.map AP).drop i) (off+(i+vs.length)) w.drew cs hgd O;obtain ⟨s4,s5⟩:=CN (g:=b) ((xs.map AP).drop i) (off+(i+vs.length)) w.drew;obtain ⟨c2,u1,u2,u3⟩:=C6 (vs.map AP) (off+i) _ c1 s1 O;obtain ⟨u4,u5⟩:=CN (g:=b) (vs.map AP) (off+i) (w.drew.setCells b (off+(i+vs.length)) ((xs.map AP).drop i));refine MR (g:=b) (((Lh w _).trans (s4.trans u4)).mono (λx hx=>by subst hx;simp)) u1 (by rw [u2,s2];exact hnf) (by rw [u2,s2];exact hoc) hlen.symm (by rw [hlen];exact hrm) ?_ (.inl Z);rw [hlen,hmap];exact AkB hcl hvl hi hz s3 u3
   .refine(Go.Proofs.Any2.slices_Insert_int_grow L b off xs.length c i vb voff vs.length vc (xs.map AP) (vs.map AP) w hlt2 hm hnc O hroom hcl hvl hcs hvs (IU xs) (IU vs)).mono ?_;rintro _ _ ⟨rfl,rfl⟩;have hge:=grownCap_ge w (xs.length+vs.length) c (ρ.t 3);have hgm:=grownCap_le_maxLen w (xs.length+vs.length) c (ρ.t 3) (by unfold maxLen;omega);generalize grownCap w (xs.length+vs.length) c (ρ.t 3)=gc at hge hgm;unfold maxLen at hgm;refine⟨_,rfl,?_⟩;generalize hrow:((xs.map AP).take i).toArray++Builtin.zeroCells (Value.int .i64 0).cells (xs.length+vs.length - i)++Builtin.zeroCells (Value.int .i64 0).cells (gc - (xs.length+vs.length))=row;have hsz:row.size=gc:=by
     rw [<- hrow,Aqd,Aqd,size_zeroCells,size_zeroCells];simp [Value.cells];omega
    have htk:row.toList.take i=(xs.map AP).take i:=by
     rw [<- hrow,Aqa,Aqa,AoN,ApX Aoz];simp only [List.take_take,Nat.min_self]
    have hgd:(w.alloc (.cells row (ρ.t 3))).drew.heap[w.heap.size]?=some (.cells row (ρ.t 3) (0,0)):=F8 w _;have hdl:((xs.map AP).drop i).length=xs.length - i:=by rw [Apr,hcl]
    obtain ⟨c1,s1,s2,s3⟩:=C6 (vs.map AP) i _ row hgd O;obtain ⟨s4,s5⟩:=CN (g:=w.heap.size) (vs.map AP) i (w.alloc (.cells row (ρ.t 3))).drew;have s1':((w.alloc (.cells row (ρ.t 3))).drew.setCells w.heap.size i (vs.map AP)).drew.heap[w.heap.size]?=some (.cells c1 (ρ.t 3) (0,0)):=s1;obtain ⟨c2,u1,u2,u3⟩:=C6 ((xs.map AP).drop i) (i+vs.length) _ c1 s1' O;obtain ⟨u4,u5⟩:=CN (g:=w.heap.size) ((xs.map AP).drop i) (i+vs.length) ((w.alloc (.cells row (ρ.t 3))).drew.setCells w.heap.size i (vs.map AP)).drew;have hstep:Step w (((w.alloc (.cells row (ρ.t 3))).drew.setCells w.heap.size i (vs.map AP)).drew.setCells w.heap.size (i+vs.length) ((xs.map AP).drop i)) (λx=>x∈[]++([b]++([]++([vb]++[]))++[])):=by
     have h9:=(((Pu w (.cells row (ρ.t 3)) (λx=>x=w.heap.size)).trans (Lh _ _)).trans s4).trans ((Lh _ _).trans u4);exact⟨h9.os,h9.tape,h9.output,h9.size,λg hg _=>h9.same g hg O⟩
    refine MR (g:=w.heap.size) hstep u1 (NFt.zero _ (λ_=>by rw [u2,s2,hsz];omega)) (by rw [u2,s2,hsz];omega) hlen.symm (by rw [hlen];exact hge) ?_ (.inr (Ao4 _));rw [hlen,hmap,ApN];have htl:((xs.map AP).take i).length=i:=by rw [AoQ,hcl];omega
    apply Apq;intro j;by_cases hj:j < i
    .rw [ApH O,Apf O,Ao8,u3,AoH O,s3,AoH O,<- htk,Apf hj,Ao8]
    .rw [Apw O,htl];by_cases hj2:j < i+vs.length
     .rw [ApH O,Apf O,Ao8,u3,AoH O,s3,AoJ O]
     .rw [Apw O,hvl];by_cases hj3:j < xs.length+vs.length
      .rw [Apf hj3,Ao8,u3,AoJ O]
       congr 1;omega
      .rw [App (by rw [AoQ];omega),App O]
  .obtain rfl:i=xs.length:=O
   have hmap2:(xs.take xs.length++(vs++xs.drop xs.length)).map AP=xs.map AP++vs.map AP:=by simp
   by_cases hrm:xs.length+vs.length<=c
   .refine(Go.Proofs.Any2.slices_Insert_int_end_room L b off xs.length c vb voff vs.length vc (vs.map AP) w hm hrm O hvl
     (λj hj=>by rw [Bf hg,Apg O];rfl) (λj hj=>DC hg hnf.nf O) hvs (IU vs)).mono ?_
    rintro _ _ ⟨rfl,rfl⟩;refine⟨_,rfl,?_⟩;obtain ⟨c1,s1,s2,s3⟩:=C6 (vs.map AP) (off+xs.length) w cs hg O;obtain ⟨s4,s5⟩:=CN (g:=b) (vs.map AP) (off+xs.length) w;refine MR (g:=b) (s4.mono (λx hx=>by subst hx;simp)) s1 (by rw [s2];exact hnf) (by rw [s2];exact hoc) hlen.symm (by rw [hlen];exact hrm) ?_ (.inl Z);rw [hlen,hmap2];apply Apq;intro j;by_cases hj:j < xs.length
    .rw [ApH O,Apf O,Apu,Ao8,s3,AoH O,<- hz,Apf hj,Apu,Ao8]
    .rw [Apw O,hcl];by_cases hj2:j < xs.length+vs.length
     .rw [Apf hj2,Apu,Ao8,s3,AoJ O]
      congr 1;omega
     .rw [App (by rw [AoQ];omega),App O]
   .refine(Go.Proofs.Any2.slices_Insert_int_end_grow L (some ⟨b,off,none⟩) xs.length c vb voff vs.length vc (xs.map AP) (vs.map AP) w hm hnc O hroom hcl hvl (λh=>by cases h)
     (λa ha j v hj=>by injection ha with ha;subst ha;rw [Be];exact hcs j v hj) hvs (IU vs)).mono ?_
    rintro _ _ ⟨rfl,rfl⟩;have hge:=grownCap_ge w (xs.length+vs.length) c (ρ.t 3);have hgm:=grownCap_le_maxLen w (xs.length+vs.length) c (ρ.t 3) (by unfold maxLen;omega);generalize grownCap w (xs.length+vs.length) c (ρ.t 3)=gc at hge hgm;unfold maxLen at hgm;refine⟨_,rfl,?_⟩;have hsz:((xs.map AP++vs.map AP).toArray++Builtin.zeroCells (Value.int .i64 0).cells (gc - (xs.length+vs.length))).size=gc:=by
     rw [Aqd,size_zeroCells];simp [Value.cells];omega
    refine MR (g:=w.heap.size) ((Lh w _).trans (Pu w.drew _ _)) (F8 w _) (NFt.zero _ (λ_=>by rw [hsz];omega)) (by rw [hsz];omega) hlen.symm (by rw [hlen];exact hge) ?_ (.inr (Ao4 _));rw [hlen,hmap2,ApN,Aqa,ApX Z];rw [Ao5 Z]
theorem YR {t:TypeId} {d:TypeDesc} {z:Value} (hu:P.underlying t=some d) (hi:(P.info? t).map (λi=>(i.zero,i.size))=some (some z,1)) :
  (∀w,(isAgg t).run P w=.ok (IB d) w)/\(∀w,(Go.sizeOf t).run P w=.ok 1 w)/\(∀w,(zeroValue t).run P w=.ok z w):=by
 cases h:P.info? t with
 | none=>rw [h]at hi;cases hi
 | some i=>
  rw [h]at hi;simp only [Apz,AoD,Prod.mk.injEq]at hi;obtain ⟨h1,h2⟩:=hi;exact⟨λw=>Lo hu w,λw=>by rw [MZ h,h2],λw=>Ub h h1 w⟩
theorem Akz (mixed:P.follows .mixedOrders=true) (f21:P.funcs[ρ.f 21]?=some (Go.Proofs.Body2.n21 ρ)) (f27:P.funcs[ρ.f 27]?=some (Go.Proofs.Body2.n27 ρ)) (f28:P.funcs[ρ.f 28]?=some (Go.Proofs.Body2.n28 ρ))
  (f35:P.funcs[ρ.f 35]?=some (Go.Proofs.Body2.n35 ρ)) (f39:P.funcs[ρ.f 39]?=some (Go.Proofs.Body2.n39 ρ))
  (t0:P.underlying (ρ.t 0)=some (TypeDesc.tuple #[])) (t3:P.underlying (ρ.t 3)=some (TypeDesc.int IntKind.i64)) (t4:P.underlying (ρ.t 4)=some (TypeDesc.bool)) (t22:P.underlying (ρ.t 22)=some (TypeDesc.slice (ρ.t 3)))
  (i0:(P.info? (ρ.t 0)).map (λi=>(i.zero,i.size))=some (some (Value.tuple #[]),1)) (i3:(P.info? (ρ.t 3)).map (λi=>(i.zero,i.size,i.bytes))=some (some (Value.int IntKind.i64 0),1,8))
  (i4:(P.info? (ρ.t 4)).map (λi=>(i.zero,i.size))=some (some (Value.bool false),1)) (i22:(P.info? (ρ.t 22)).map (λi=>(i.zero,i.size))=some (some (Value.slice none 0 0),1)):Go.Proofs.Lays2.n21 P ρ:=by
 have i3':(P.info? (ρ.t 3)).map (λi=>(i.zero,i.size))=some (some (Value.int IntKind.i64 0),1):=by
  cases h:P.info? (ρ.t 3)with
  | none=>rw [h]at i3;cases i3
  | some i=>
   rw [h]at i3;simp only [Apz,AoD,Prod.mk.injEq]at i3 ⊢;exact⟨i3.1,i3.2.1⟩
 have l0:=YR t0 i0;have l3:=YR t3 i3';have l4:=YR t4 i4;have l22:=YR t22 i22;exact{ mixed:=mixed,f21:=f21,f27:=f27,f28:=f28,f35:=f35,f39:=f39,t0:=t0,a0:=l0.1,z0:=l0.2.1,v0:=l0.2.2,t3:=t3,a3:=l3.1,z3:=l3.2.1,v3:=l3.2.2,t4:=t4,a4:=l4.1,z4:=l4.2.1,v4:=l4.2.2,t22:=t22,a22:=l22.1,z22:=l22.2.1,v22:=l22.2.2,i3:=i3 }
theorem AfO (L:Go.Proofs.Lays2.n21 P ρ) {x0:List Int} {x1:Int} {x2 y:List Int} (h:(if 0<=x1/\x1.toNat<=x0.length/\x2≠[]/\(x0.length+x2.length) * 8<=140737488355328 then some (x0.take x1.toNat++(x2++x0.drop x1.toNat))else none)=some y) :
  B6 P (ρ.f 21) [.one ⟨.sl true (ρ.t 3) (.int .i64),x0⟩,.one ⟨.int .i64,x1⟩,.one ⟨.sl true (ρ.t 3) (.int .i64),x2⟩] [] ⟨[.one ⟨.sl true (ρ.t 3) (.int .i64),y⟩],[],[]⟩:=by
 split at h
 .rename_i hc;injection h with h
  subst h;obtain ⟨h1,h2,h3,h4⟩:=hc;obtain ⟨i,rfl⟩:=AoX h1;exact Aai L _ x0 x2 i h2 h3 h4
 .cases h
end Go.V
namespace Go.V
open Go.RowKit Go.Shelf Go.Sort
theorem AdL {α:Type} [Inhabited α] {w:World} {g off n:Nat} {cs:Array Value} {e:TypeId} {fr:Nat×Nat} (enc:α->Value) (d:Array α) (os:Array Obj) (hg:w.heap[g]?=some (.cells cs e fr)) (hle:off+d.size<=cs.size) :
  Step w (grow (putRow enc (Go.Sort.ahead w n) g off d) os) (λx=>x=g)/\∃cs',(grow (putRow enc (Go.Sort.ahead w n) g off d) os).heap[g]?=some (.cells cs' e fr)/\cs'.size=cs.size/\(cs'.toList.drop off).take d.size=d.toList.map enc:=by
 have hlt:=B5 hg;have hsz:(putRow enc (Go.Sort.ahead w n) g off d).heap.size=w.heap.size:=size_putRow enc (Go.Sort.ahead w n) g off d;have hgr:∀k,k < w.heap.size->(grow (putRow enc (Go.Sort.ahead w n) g off d) os).heap[k]?=(putRow enc (Go.Sort.ahead w n) g off d).heap[k]?:=by
  intro k hk;show((putRow enc (Go.Sort.ahead w n) g off d).heap++os)[k]?=_;rw [Array.getElem?_append_left O]
 have hat:∀k,(putRow enc (Go.Sort.ahead w n) g off d).heap[k]?=if g=k then(w.heap[k]?).map (onCells (putCells enc off d))else w.heap[k]?:=by
  intro k;show(w.heap.modify g (onCells (putCells enc off d)))[k]?=_;rw [Array.getElem?_modify]
 refine⟨⟨rfl,rfl,rfl,?_,λk hk hn=>?_⟩,putCells enc off d cs,?_,?_,?_⟩
 .show w.heap.size<=((putRow enc (Go.Sort.ahead w n) g off d).heap++os).size;rw [Aqd];omega
 .rw [hgr k hk,hat,AoH (λh=>hn h.symm)]
 .rw [hgr g hlt,hat,AoJ rfl,hg];rfl
 .simp [putCells]
 .apply Apq;intro j;by_cases hj:j < d.size
  .rw [Apf hj,Apu,Ao8];simp only [putCells,Array.getElem?_mapIdx,Apl,Ao8];rw [Apg (by omega:off+j < cs.size),Apz,AoJ ⟨O,O⟩,(O:off+j - off=j),getElem!_pos d j hj,Apg hj,Apz]
  .rw [App (by rw [AoQ];omega),App Aoz]
theorem Y2 {w:World} {g off:Nat} {cs:Array Value} {e:TypeId} {fr:Nat×Nat} {r:Ty} {α:Type} [Inhabited α] {enc:α->Value} {d:Array α} (hg:w.heap[g]?=some (.cells cs e fr)) (hnf:NFt r fr cs.size) (hle:off+d.size<=cs.size)
  (h:(cs.toList.drop off).take d.size=d.toList.map enc):Go.Sort.Holds enc w g off d:=by
 intro j hj;refine⟨?_,DC hg hnf.nf O⟩;rw [Bf hg];have:=congrArg (·[j]?) h;simp only [Apf hj,Apu,Ao8,Apl]at this;rw [this,Apg hj,Apz,getElem!_pos d j hj]
theorem XU {w w':World} {Ro:Nat->Prop} {F:List Nat} {vals:List Value} {e:TypeId} {r:Ty} {zs:List r.D} {g off c n:Nat} {cs:Array Value} {fr:Nat×Nat} (hst:Step w w' (λx=>x∈[]++F)) (hg:w'.heap[g]?=some (.cells cs e fr))
  (hfr:NFt r fr cs.size) (hoff:off+c * r.size<=cs.size) (hn:n=zs.length) (hc:zs.length<=c) (hz:∀K,RpL (Rp w' K r) zs ((cs.toList.drop off).take (zs.length * r.size)) []) (hgF:g∈F\/w.heap.size<=g)
  (hv:Fe vals (0,0)=some (.slice (some ⟨g,off,none⟩) n c)) :
  IY w Ro [] F vals ⟨[],[],[((0,0),⟨.sl true e r,zs⟩)]⟩ (.tuple #[]) w':=by
 subst hn;refine⟨[],[],[],[g],rfl,⟨rfl,rfl⟩,⟨rfl,rfl⟩,⟨_,[g],[],rfl,hv,⟨?_,λh=>by cases h⟩,rfl⟩,Z,?_,hst,RestOk.nil⟩
 .dsimp only;rw [Rp];exact .inr ⟨g,off,c,cs,fr,[],rfl,rfl,hg,hfr,hoff,hc,hz _⟩
 .intro x hx;simp only [Ao6,AoZ]at hx;subst hx;exact⟨B5 hg,hgF⟩
theorem Xg {w:World} {Ro:Nat->Prop} {vals:List Value} {e:TypeId} {r:Ty} (hv:Fe vals (0,0)=some (.slice none 0 0)) :
  IY w Ro [] [] vals ⟨[],[],[((0,0),⟨.sl true e r,[]⟩)]⟩ (.tuple #[]) w:=by
 refine⟨[],[],[],[],rfl,⟨rfl,rfl⟩,⟨rfl,rfl⟩,⟨_,[],[],rfl,hv,⟨?_,λh=>by cases h⟩,rfl⟩,Z,(λx hx=>by simp at hx),Step.refl w _,RestOk.nil⟩;dsimp only;rw [Rp];exact .inl ⟨rfl,rfl,rfl⟩
variable {P:Program} {ρ:Ren}
def Nw (xs:List Int):List Int:=xs.mergeSort λx y=>decide (x<=y)
theorem Ae2 (L : Go.Proofs.Lays.n189 P ρ) (e : TypeId) (xs : List Int) (hlen : xs.length < 4611686018427387904) (hname : ∀ fn, P.funcs[ρ.f 189]? = some fn → (fn.name == "runtime.NumGoroutine") = false ∧ fn.body.isNone = false) :
  B6 P (ρ.f 189) [.one ⟨.sl true e (.int .i64),xs⟩] [] ⟨[],[],[((0,0),⟨.sl true e (.int .i64),Nw xs⟩)]⟩:=by
 refine⟨⟨_,L.f189,(hname _ L.f189).1,(hname _ L.f189).2⟩,?_⟩;rintro w _ Ro ms _ F2 ⟨v0,_,G0,_,rfl,rfl,⟨h0,_⟩,rfl,rfl⟩ hR hnd hlt _;dsimp only at h0;cases ms with
 | cons g gs=>obtain ⟨_,_,_,_,h,_⟩:=hR;cases h
 | nil=>
 obtain ⟨_,rfl⟩:=hR;have hsl:(Nw xs).length=xs.length:=List.length_mergeSort xs;rcases TP h0 with⟨rfl,rfl,rfl⟩ | ⟨b,off,c,cs,fr,rfl,rfl,hg,hnf,hoc,hnc,hz⟩
 .refine(Go.Proofs.Any.slices_Sort_int_none L none 0 w).mono ?_;rintro _ _ ⟨rfl,rfl⟩;have e0:Nw []=[]:=by unfold Nw;simp
  rw [e0];exact⟨_,rfl,Xg rfl⟩
 .have hlt2:=B5 hg;have hH:Go.Sort.Holds (Value.int .i64) w b off xs.toArray:=Y2 hg hnf Aoz (by rw [Apn];exact hz);refine(calls_of_every_depth λD=>Go.Proofs.AnyS.slices_Sort_int_alone L D b off c xs w hH hlt2 hlen).mono ?_;rintro _ _ ⟨rfl,n,os,rfl⟩;refine⟨_,rfl,?_⟩;obtain ⟨k1,cs',k2,k3,k4⟩:=AdL (off:=off) (n:=n) (Value.int .i64) (Nw xs).toArray os hg (by rw [Apn,hsl];omega);refine XU (r:=.int .i64) (zs:=Nw xs) (g:=b) (off:=off) (c:=c) (n:=xs.length) (k1.mono (λx hx=>by subst hx;simp)) k2 (by rw [k3];exact hnf) (by rw [k3];simpa [Ty.size] using hoc) hsl.symm O (λK=>?_) (.inl Z) rfl;rw [show(Nw xs).length * (Ty.int .i64).size=(Nw xs).toArray.size by simp [Ty.size]];rw [k4];exact TC _
theorem AeX (L : Go.Proofs.Lays.n189 P ρ) (hname : ∀ fn, P.funcs[ρ.f 189]? = some fn → (fn.name == "runtime.NumGoroutine") = false ∧ fn.body.isNone = false) {e : TypeId} {xs y : List Int} (h : (if xs.length < 4611686018427387904 then some (xs.mergeSort fun x y => decide (x ≤ y)) else none) = some y) :
  B6 P (ρ.f 189) [.one ⟨.sl true e (.int .i64),xs⟩] [] ⟨[],[],[((0,0),⟨.sl true e (.int .i64),y⟩)]⟩:=by
 split at h
 .injection h with h
  subst h;exact Ae2 L e xs (by assumption) hname
 .cases h
def kvV (p:Int×Int):List Value:=[AP p.1,AP p.2]
theorem Ady {w:World} {K:Nat->Prop}:∀{xs:List (Int×Int)} {vs:List Value} {F:List Nat},RpL (Rp w K (.pair (.int .i64) (.int .i64))) xs vs F->vs=xs.flatMap kvV/\F=[]
 | [],_,_,h=>h
 | x::xs,_,_,⟨v1,v2,F1,F2,e1,e2,h1,h2⟩=>by
  obtain ⟨rfl,rfl⟩:=Ady h2;simp only [Rp]at h1;obtain ⟨a1,a2,G1,G2,rfl,rfl,⟨rfl,rfl⟩,rfl,rfl⟩:=h1;exact⟨e1,e2⟩
theorem Adr {w:World} {K:Nat->Prop}:∀(xs:List (Int×Int)),RpL (Rp w K (.pair (.int .i64) (.int .i64))) xs (xs.flatMap kvV) []
 | []=>⟨rfl,rfl⟩
 | x::xs=>⟨kvV x,xs.flatMap kvV,[],[],rfl,rfl,by simp only [Rp];exact⟨[AP x.1],[AP x.2],[],[],rfl,rfl,⟨rfl,rfl⟩,rfl,rfl⟩,Adr xs⟩
def YC (p:Int×Int):Prop:=0<=p.1/\p.1 < 2147483648
abbrev KvS:={ p:Int×Int // YC p }
instance:Inhabited KvS:=⟨⟨(0,0),by unfold YC;omega⟩⟩
def kvE (u:KvS):List Value:=kvV u.1
def kvC (u v:KvS):Int:=u.1.1 - v.1.1
theorem YE (u v:KvS):Go.Proofs.ltOf kvC u v=decide (u.1.1 < v.1.1):=by
 unfold Go.Proofs.ltOf kvC;rw [decide_eq_decide];omega
theorem Amp:SWO (Go.Proofs.ltOf kvC) where
 irrefl x:=by rw [YE];simp
 trans x y z h1 h2:=by rw [YE]at *;simp only [decide_eq_true_eq]at *;omega
 ntrans x y z h1 h2:=by rw [YE]at *;simp only [decide_eq_false_iff_not]at *;omega
theorem AfY:∀(xs:List (Int×Int)),(∀p∈xs,YC p)->∃us:List KvS,us.map Subtype.val=xs
 | [],_=>⟨[],rfl⟩
 | p::xs,h=>by
  obtain ⟨us,hu⟩:=AfY xs λq hq=>h q (by simp [hq])
  exact⟨⟨p,h p Z⟩::us,by rw [Apk,hu]⟩
theorem UT:∀(us:List KvS) (t:Nat),t < us.length * 2->(us.flatMap kvE)[t]?=some (kvE us[t / 2]!)[t % 2]!
 | [],t,h=>by simp at h
 | u::us,t,h=>by
  match t with
  | 0=>rfl
  | 1=>rfl
  | t+2=>
   have h':t < us.length * 2:=by simp only [AoV]at h;omega
   rw [Ap9,Apw (by simp [kvE,kvV]),show t+2 - (kvE u).length=t by simp [kvE,kvV],UT us t h',show(t+2) / 2=t / 2+1 by omega,show(t+2) % 2=t % 2 by omega];rfl
theorem Zv (us:List KvS):(flatK kvE 2 us.toArray).toList=us.flatMap kvE:=by
 apply Apq;intro t;by_cases ht:t < us.length * 2
 .have hs:t < (flatK kvE 2 us.toArray).size:=by rw [size_flatK,Apn];exact ht
  rw [UT us t ht,Ao8,Apg hs,<- getElem!_pos (flatK kvE 2 us.toArray) t hs,get_flatK kvE 2 us.toArray t (by rw [Apn];exact ht)]
  congr 2
  simp
 .rw [App (by rw [Array.length_toList,size_flatK,Apn];omega),App (by
   have:(us.flatMap kvE).length=us.length * 2:=by
    induction us with
    | nil=>rfl
    | cons u us ih=>rw [Ap9,AoM];simp only [AoV]at ht;rw [ih O];simp [kvE,kvV];omega
   omega)]
theorem AdF (us:List KvS):us.flatMap kvE=(us.map Subtype.val).flatMap kvV:=by
 rw [List.flatMap_map];rfl
def JQ (xs:List (Int×Int)):List (Int×Int):=xs.mergeSort λa b=>decide (a.1<=b.1)
theorem Acs {xs ys:List (Int×Int)} (hp:ys.Perm xs) (hn:(xs.map (·.1)).Nodup) (hs:ys.Pairwise λa b=>a.1<=b.1):ys=JQ xs:=by
 refine List.Perm.eq_of_pairwise (le:=λa b=>decide (a.1<=b.1)=true) ?_ ?_ ?_ (hp.trans (List.mergeSort_perm _ _).symm)
 .intro a b ha hb h1 h2;simp only [decide_eq_true_eq]at h1 h2;have ha':a∈xs:=hp.mem_iff.1 ha;have hb':b∈xs:=(List.mergeSort_perm _ _).mem_iff.1 hb;obtain ⟨i,hi,rfl⟩:=Ao3 ha';obtain ⟨j,hj,rfl⟩:=Ao3 hb';have:i=j:=(List.getElem_inj (xs:=xs.map (·.1)) (h₀:=by simpa using hi) (h₁:=by simpa using hj) hn).1 (by simp only [List.getElem_map];omega);subst this;rfl
 .exact hs.imp λh=>by simpa using h
 .refine List.pairwise_mergeSort ?_ ?_ _
  .intro a b c h1 h2;simp only [decide_eq_true_eq]at *;omega
  .intro a b;simp only [Aqc,decide_eq_true_eq];omega
theorem Wm (L:Go.Proofs.SlLaysF0.n6 P ρ) (aE:∀w,(isAgg (ρ.t 24)).run P w=.ok true w) (zE:∀w,(Go.sizeOf (ρ.t 24)).run P w=.ok 2 w) (g:FuncId) (eg:∀args w,(callFunc g args).run P w=.ok (.enter g args) w)
  (hcl:∀(x y:Int×Int) (W:World),Calls P g #[.agg #[AP x.1,AP x.2],.agg #[AP y.1,AP y.2]] W λe w'=>e=.returned (.int .i64 (Go.RowKit.wrap64 (x.1 - y.1)))/\∃q os',w'=grow (W.drewN q) os')
  (hname : ∀ fn, P.funcs[ρ.f 6]? = some fn → (fn.name == "runtime.NumGoroutine") = false ∧ fn.body.isNone = false)
  (e:TypeId) (xs:List (Int×Int)) (hlen:xs.length < 4611686018427387904) (hk:∀p∈xs,YC p) (hn:(xs.map (·.1)).Nodup) :
  B6 P (ρ.f 6) [.one ⟨.sl true e (.pair (.int .i64) (.int .i64)),xs⟩,.fv g []] [] ⟨[],[],[((0,0),⟨.sl true e (.pair (.int .i64) (.int .i64)),JQ xs⟩)]⟩:=by
 refine⟨(by obtain ⟨nm,_,hf⟩:=L.f6;exact⟨_,hf,hname _ hf⟩),?_⟩;rintro w _ Ro ms _ F2 ⟨v0,_,G0,_,rfl,rfl,⟨h0,_⟩,⟨v1,_,G1,_,rfl,rfl,⟨rfl,vs,rfl,hvs⟩,rfl,rfl⟩⟩ hR hnd hlt _;cases hvs;dsimp only at h0;cases ms with
 | cons g gs=>obtain ⟨_,_,_,_,h,_⟩:=hR;cases h
 | nil=>
 obtain ⟨_,rfl⟩:=hR;have hsl:(JQ xs).length=xs.length:=List.length_mergeSort xs;rw [Rp]at h0;rcases h0 with⟨rfl,rfl,h3⟩ | ⟨b,off,c,cs,fr,F',h1,rfl,hg,hnf,hoc,hnc,h7⟩
 .injection h3 with h3
  subst h3;refine(Go.Proofs.AnyF.slices_SortFunc_none L none 0 _ w).mono ?_;rintro _ _ ⟨rfl,rfl⟩;have e0:JQ []=[]:=by unfold JQ;simp
  rw [e0];exact⟨_,rfl,Xg rfl⟩
 .injection h1 with h1
  subst h1;obtain ⟨h8,rfl⟩:=Ady h7;have e1:List.length xs * (Ty.pair (.int .i64) (.int .i64)).size=xs.length * 2:=rfl;rw [e1]at h8;have hlt2:=B5 hg;have hoc':off+c * 2<=cs.size:=hoc;have hle:xs.length * 2<=c * 2:=ApJ 2 hnc;obtain ⟨us,hus⟩:=AfY xs hk;have hul:us.length=xs.length:=by rw [<- hus];simp
  have hH:HoldsK kvE 2 w b off us.toArray:=by
   refine Y2 hg hnf (by rw [size_flatK,Apn,hul];omega) ?_;rw [size_flatK,Apn,hul,h8,Zv,AdF,hus];simp
  have hus2:us.toArray.size=xs.length:=by rw [Apn,hul]
  rw [<- hus2];refine(Go.Proofs.AnyQ.slices_SortFunc L 2 aE zE kvE (λ_=>rfl) (λu v hv=>by
   simp only [kvE,kvV,AoY,Aqy,or_false]at hv;rcases hv with rfl | rfl <;> rfl) kvC Amp g #[] b off c us.toArray w eg (λm os dk hdk x y=>?_) hH hlt2 (by rw [Apn,hul];exact hlen)).mono ?_
  .have hwr:Go.RowKit.wrap64 (x.1.1 - y.1.1)=kvC x y:=by
    obtain ⟨h1,h2⟩:=x.2;obtain ⟨h3,h4⟩:=y.2;unfold kvC;generalize x.1.1=p at h1 h2 ⊢;generalize y.1.1=q at h3 h4 ⊢;unfold Go.RowKit.wrap64;omega
   rw [<- hwr];exact hcl x.1 y.1 _
  .rintro _ _ ⟨rfl,d',n,os,hp,hs,rfl⟩;refine⟨_,rfl,?_⟩;obtain ⟨hsz,_,hperm⟩:=hp;have e1:d'.extract 0 us.toArray.size=d':=by rw [<- hsz];exact Array.extract_size
   rw [e1,Array.extract_size]at hperm;have hys:d'.toList.map Subtype.val=JQ xs:=by
    refine Acs (by have:=hperm.map Subtype.val;rwa [hus]at this) hn ?_;rw [List.pairwise_map,List.pairwise_iff_getElem];intro i j hi hj hij;have hi':i < d'.size:=by simpa using hi
    have hj':j < d'.size:=by simpa using hj
    have:=hs i j (ApP _) hij O;rw [getElem!_pos d' j hj',getElem!_pos d' i hi',YE]at this;simp only [decide_eq_false_iff_not,Int.not_lt]at this;simpa using this
   have hds:d'.size=xs.length:=by rw [hsz,Apn,hul]
   obtain ⟨k1,cs',k2,k3,k4⟩:=AdL (off:=off) (n:=n) id (flatK kvE 2 d') os hg (by rw [size_flatK,hds];omega);refine XU (r:=.pair (.int .i64) (.int .i64)) (zs:=JQ xs) (g:=b) (off:=off) (c:=c) (n:=us.toArray.size) (k1.mono (λx hx=>by subst hx;simp)) k2 (by rw [k3];exact hnf) (by rw [k3];exact hoc) (by rw [Apn,hul,hsl]) O (λK=>?_) (.inl Z) rfl;have e2:(JQ xs).length * (Ty.pair (.int .i64) (.int .i64)).size=(flatK kvE 2 d').size:=by rw [size_flatK,hds,hsl];rfl
   rw [e2,k4];have e3:(flatK kvE 2 d').toList.map id=(JQ xs).flatMap kvV:=by
    have:=Zv d'.toList;rw [Array.toArray_toList]at this;rw [List.map_id,this,AdF,hys]
   rw [e3];exact Adr _
theorem WT (L:Go.Proofs.SlLaysF0.n6 P ρ) (aE:∀w,(isAgg (ρ.t 24)).run P w=.ok true w) (zE:∀w,(Go.sizeOf (ρ.t 24)).run P w=.ok 2 w) (g:FuncId) (eg:∀args w,(callFunc g args).run P w=.ok (.enter g args) w)
  (hcl:∀(x y:Int×Int) (W:World),Calls P g #[.agg #[AP x.1,AP x.2],.agg #[AP y.1,AP y.2]] W λe w'=>e=.returned (.int .i64 (Go.RowKit.wrap64 (x.1 - y.1)))/\∃q os',w'=grow (W.drewN q) os')
  (hname : ∀ fn, P.funcs[ρ.f 6]? = some fn → (fn.name == "runtime.NumGoroutine") = false ∧ fn.body.isNone = false) {e : TypeId} {xs y : List (Int × Int)}
  (h:(if xs.length < 4611686018427387904/\(∀p∈xs,0<=p.1/\p.1 < 2147483648)/\(xs.map (·.1)).Nodup then some (xs.mergeSort λa b=>decide (a.1<=b.1))else none)=some y) :
  B6 P (ρ.f 6) [.one ⟨.sl true e (.pair (.int .i64) (.int .i64)),xs⟩,.fv g []] [] ⟨[],[],[((0,0),⟨.sl true e (.pair (.int .i64) (.int .i64)),y⟩)]⟩:=by
 split at h
 .rename_i hc;injection h with h
  subst h;exact Wm L aE zE g eg hcl hname e xs hc.1 hc.2.1 hc.2.2
 .cases h
end Go.V