import Derived.Test.YtofhefmbioblbaaGreatQMsG
import Derived.Shelf.Spec.SlicesInsert
import Derived.Shelf.Spec.SlicesInsertGrow
import Derived.Shelf.SlSortCmp.NoneTotal
import Derived.Shelf.Slices.In.SortNone
set_option linter.unusedVariables false
set_option linter.unusedSimpArgs false
namespace Go.V
open Go.RowKit Go.Shelf
def AD (n:Int):Value:=.int .i64 n
theorem Wx {w:World} {K:Nat→Prop}:∀ {xs:List Int} {vs:List Value} {F:List Nat},RpL (Rp w K (.int .i64)) xs vs F→vs=xs.map AD∧F=[]
 | [],_,_,h=>h
 | x::xs,_,_,⟨v1,v2,F1,F2,e1,e2,h1,h2⟩=>by
  obtain ⟨rfl,rfl⟩:=Wx h2
  simp only [Rp] at h1
  obtain ⟨rfl,rfl⟩:=h1
  exact ⟨e1,e2⟩
theorem WQ {w:World} {K:Nat→Prop}:∀ (xs:List Int),RpL (Rp w K (.int .i64)) xs (xs.map AD) []
 | []=>⟨rfl,rfl⟩
 | x::xs=>⟨[AD x],xs.map AD,[],[],rfl,rfl,by simp only [Rp]; exact ⟨rfl,trivial⟩,WQ xs⟩
theorem Hi (xs:List Int):∀ v∈xs.map AD,v.oneCell'=true:=by
 intro v hv
 obtain ⟨x,_,rfl⟩:=List.mem_map.1 hv
 rfl
theorem Kw {w w':World} {Ro:Nat→Prop} {F:List Nat} {vals:List Value} {e:TypeId} {zs:List Int} {g off c n:Nat} {cs:Array Value} {fr:Nat×Nat} (hst:Step w w' (fun x=>x∈[]++F)) (hg:w'.heap[g]?=some (.cells cs e fr))
  (hfr:NFt (.int .i64) fr cs.size) (hoff:off+c≤cs.size) (hn:n=zs.length) (hc:zs.length≤c) (hz:(cs.toList.drop off).take zs.length=zs.map AD) (hgF:g∈F∨w.heap.size≤g) :
  Im w Ro [] F vals ⟨[.one ⟨.sl true e (.int .i64),zs⟩],[],[]⟩ (.slice (some ⟨g,off,none⟩) n c) w':=by
 subst hn
 refine ⟨[.slice (some ⟨g,off,none⟩) zs.length c],[g],[],[],rfl,?_,⟨rfl,rfl⟩,rfl,by simp,?_,hst,RestOk.nil⟩
 ·refine ⟨_,[],[g],[],rfl,rfl,⟨?_,fun h=>by cases h⟩,rfl,rfl⟩
  dsimp only
  rw [Rp]
  refine .inr ⟨g,off,c,cs,fr,[],rfl,rfl,hg,hfr,by simpa [Ty.size] using hoff,hc,?_⟩
  rw [show List.length zs * (Ty.int .i64).size=zs.length by simp [Ty.size]]
  have hz':(cs.toList.drop off).take (List.length zs)=zs.map AD:=hz
  rw [hz']
  exact WQ zs
 ·intro x hx
  simp only [List.append_nil,List.mem_singleton] at hx
  subst hx
  exact ⟨DB hg,hgF⟩
theorem Jh (w:World) (T:Nat→Prop):Step w w.drew T:=⟨rfl,rfl,rfl,Nat.le_refl _,fun _ _ _=>rfl⟩
theorem M4 (w:World) (o:Obj) (T:Nat→Prop):Step w (w.alloc o) T:=
 ⟨rfl,rfl,rfl,(by show w.heap.size≤(w.heap.push _).size; simp),fun g hg _=>(by show (w.heap.push _)[g]?=_; simp [Array.getElem?_push,show ¬ (g=w.heap.size) by omega])⟩
variable {P:Program} {ρ:Ren}
theorem WF {w:World} {K:Nat→Prop} {e:TypeId} {xs:List Int} {v:Value} {F:List Nat} (h:Rp w K (.sl true e (.int .i64)) xs [v] F) :
  (xs=[]∧F=[]∧v=.slice none 0 0)∨∃ g off c cs fr,v=.slice (some ⟨g,off,none⟩) xs.length c∧F=[g]∧w.heap[g]?=some (.cells cs e fr)∧NFt (.int .i64) fr cs.size∧off+c≤cs.size∧xs.length≤c∧(cs.toList.drop off).take xs.length=xs.map AD:=by
 rw [Rp] at h
 rcases h with ⟨h1,h2,h3⟩ | ⟨g,off,c,cs,fr,F',h1,h2,h3,h4,h5,h6,h7⟩
 ·injection h3 with h3; exact .inl ⟨h1,h2,h3⟩
 ·injection h1 with h1
  obtain ⟨h8,rfl⟩:=Wx h7
  refine .inr ⟨g,off,c,cs,fr,h1,h2,h3,h4,by simpa [Ty.size] using h5,h6,?_⟩
  have e1:List.length xs * (Ty.int .i64).size=xs.length:=by simp [Ty.size]
  rw [e1] at h8
  exact h8
theorem XX {w:World} {g off:Nat} {cs:Array Value} {e:TypeId} {fr:Nat×Nat} {xs:List Int} (hg:w.heap[g]?=some (.cells cs e fr)) (h:(cs.toList.drop off).take xs.length=xs.map AD) :
  ∀ j v,(xs.map AD)[j]?=some v→w.cell? ⟨g,off+j,none⟩=some v:=by
 intro j v hj
 rw [AV hg]
 have hlt:=(List.getElem?_eq_some_iff.1 hj).1
 rw [List.length_map] at hlt
 rw [← h,List.getElem?_take_of_lt hlt,List.getElem?_drop,Array.getElem?_toList] at hj
 exact hj
theorem AcO {cs cs1 cs2:Array Value} {off i m n:Nat} {A V:List Value} (hA:A.length=n) (hV:V.length=m) (hi:i≤n) (h0:(cs.toList.drop off).take n=A)
  (h1:∀ k,cs1[k]?=if off+(i+m)≤k∧k < off+(i+m)+(A.drop i).length then (A.drop i)[k - (off+(i+m))]? else cs[k]?)
  (h2:∀ k,cs2[k]?=if off+i≤k∧k < off+i+V.length then V[k - (off+i)]? else cs1[k]?) :
  (cs2.toList.drop off).take (n+m)=A.take i++(V++A.drop i):=by
 have hdl:(A.drop i).length=n - i:=by rw [List.length_drop,hA]
 have htl:(A.take i).length=i:=by rw [List.length_take,hA]; omega
 apply List.ext_getElem?
 intro j
 by_cases hj:j < i
 ·rw [List.getElem?_append_left (by omega),List.getElem?_take_of_lt (by omega),List.getElem?_drop,Array.getElem?_toList,h2,if_neg (by omega),h1,if_neg (by omega),List.getElem?_take_of_lt hj,← h0,
   List.getElem?_take_of_lt (by omega),List.getElem?_drop,Array.getElem?_toList]
 ·rw [List.getElem?_append_right (by omega),htl]
  by_cases hj2:j < i+m
  ·rw [List.getElem?_append_left (by omega),List.getElem?_take_of_lt (by omega),List.getElem?_drop,Array.getElem?_toList,h2,if_pos (by omega)]
   congr 1; omega
  ·rw [List.getElem?_append_right (by omega),hV]
   by_cases hj3:j < n+m
   ·rw [List.getElem?_take_of_lt hj3,List.getElem?_drop,Array.getElem?_toList,h2,if_neg (by omega),h1,if_pos (by omega)]
    congr 1; omega
   ·rw [List.getElem?_eq_none (by rw [List.length_take]; omega),List.getElem?_eq_none (by omega)]
theorem Wc (L:Go.Proofs.Lays2.n21 P ρ) (e2:TypeId) (xs vs:List Int) (i:Nat) (hi:i≤xs.length) (hv:vs≠[]) (hroom:(xs.length+vs.length) * 8≤140737488355328) :
  CN P (ρ.f 21) [.one ⟨.sl true (ρ.t 3) (.int .i64),xs⟩,.one ⟨.int .i64,((i:Nat):Int)⟩,.one ⟨.sl true e2 (.int .i64),vs⟩] [] ⟨[.one ⟨.sl true (ρ.t 3) (.int .i64),xs.take i++(vs++xs.drop i)⟩],[],[]⟩:=by
 refine ⟨⟨_,L.f21,rfl,rfl⟩,?_⟩
 rintro w _ Ro ms _ F2 ⟨v0,_,G0,_,rfl,rfl,⟨h0,_⟩,⟨v1,_,G1,_,rfl,rfl,⟨h1,_⟩,⟨v2,_,G2,_,rfl,rfl,⟨h2,_⟩,rfl,rfl⟩⟩⟩ hR hnd hlt _
 dsimp only at h0 h1 h2
 cases ms with
 | cons g gs=>obtain ⟨_,_,_,_,_,_,_,h,_⟩:=hR; cases h
 | nil=>
 obtain ⟨_,rfl⟩:=hR
 simp only [Rp] at h1
 obtain ⟨h1,rfl⟩:=h1
 injection h1 with h1
 subst h1
 rcases WF h2 with ⟨h,_,_⟩ | ⟨vb,voff,vc,csv,frv,rfl,rfl,hgv,hnv,hov,hcv,hzv⟩
 ·exact absurd h hv
 have hvl:(vs.map AD).length=vs.length:=List.length_map _
 have hm:0 < vs.length:=List.length_pos_iff.2 hv
 have hvs:=XX hgv hzv
 have hlen:(xs.take i++(vs++xs.drop i)).length=xs.length+vs.length:=by simp; omega
 have hmap:(xs.take i++(vs++xs.drop i)).map AD=(xs.map AD).take i++(vs.map AD++(xs.map AD).drop i):=by simp [List.map_take,List.map_drop]
 have hcl:(xs.map AD).length=xs.length:=List.length_map _
 rcases WF h0 with ⟨rfl,rfl,rfl⟩ | ⟨b,off,c,cs,fr,rfl,rfl,hg,hnf,hoc,hnc,hz⟩
 ·-- nil
  obtain rfl:i=0:=by simpa using hi
  have hN:=DB hgv
  refine (Go.Proofs.Any2.slices_Insert_int_end_grow L none 0 0 vb voff vs.length vc [] (vs.map AD) w hm (Nat.le_refl _) (by omega) (by simpa using hroom) rfl hvl (fun _=>rfl) (fun a h=>by cases h) hvs (Hi vs)).mono ?_
  rintro _ _ ⟨rfl,rfl⟩
  have hge:=grownCap_ge w (0+vs.length) 0 (ρ.t 3)
  have hgm:=grownCap_le_maxLen w (0+vs.length) 0 (ρ.t 3) (by unfold maxLen; simp at hroom; omega)
  generalize grownCap w (0+vs.length) 0 (ρ.t 3)=gc at hge hgm
  unfold maxLen at hgm
  refine ⟨_,rfl,?_⟩
  have hsz:(([]++vs.map AD).toArray++Builtin.zeroCells (Value.int .i64 0).cells (gc - (0+vs.length))).size=gc:=by
   rw [Array.size_append,size_zeroCells]; simp [Value.cells]; omega
  refine Kw (g:=w.heap.size) ((Jh w _).trans (M4 w.drew _ _)) (EQ w _) (NFt.zero _ (fun _=>by rw [hsz]; omega)) (by rw [hsz]; omega) (by rw [hlen]; simp) (by rw [hlen]; simpa using hge) ?_ (.inr (Nat.le_refl _))
  rw [hlen,hmap,List.drop_zero,Array.toList_append,List.take_append_of_le_length (by simp)]
  simp only [List.length_nil,Nat.zero_add,List.nil_append,List.map_nil,List.take_nil,List.drop_nil,List.append_nil]
  exact List.take_of_length_le (by simp)
 ·have hcs:=XX hg hz
  have hcm:cs.size≤9223372036854775807:=hnf.le rfl
  have hbv:vb≠b:=by
   rintro rfl
   simp at hnd
  by_cases hlt2:i < xs.length
  ·by_cases hrm:xs.length+vs.length≤c
   ·refine (Go.Proofs.Any2.slices_Insert_int_shift L b off xs.length c i vb voff vs.length vc (xs.map AD) (vs.map AD) w hlt2 hm hrm (by omega) hbv hcl hvl hcs
     (fun j hj=>by rw [AV hg,Array.getElem?_eq_getElem (by omega)]; rfl) (fun j hj=>C3 hg hnf.nf (by omega)) hvs (Hi xs) (Hi vs) e2 (ρ.t 3) csv.size cs.size
     (by unfold World.shape?; rw [hgv]) (by unfold World.shape?; rw [hg]) (by omega) (C3 hgv hnv.nf (by omega)) (by
      unfold World.frozen?; rw [hgv]
      have:=hnv.at' (by simp)
      simp only [Bool.and_eq_false_iff,decide_eq_false_iff_not]; omega)).mono ?_
    rintro _ _ ⟨rfl,rfl⟩
    refine ⟨_,rfl,?_⟩
    have hgd:w.drew.heap[b]?=some (.cells cs (ρ.t 3) fr):=hg
    have hdl:((xs.map AD).drop i).length=xs.length - i:=by rw [List.length_drop,hcl]
    obtain ⟨c1,s1,s2,s3⟩:=CG ((xs.map AD).drop i) (off+(i+vs.length)) w.drew cs hgd (by omega)
    obtain ⟨s4,s5⟩:=Cf (g:=b) ((xs.map AD).drop i) (off+(i+vs.length)) w.drew
    obtain ⟨c2,u1,u2,u3⟩:=CG (vs.map AD) (off+i) _ c1 s1 (by omega)
    obtain ⟨u4,u5⟩:=Cf (g:=b) (vs.map AD) (off+i) (w.drew.setCells b (off+(i+vs.length)) ((xs.map AD).drop i))
    refine Kw (g:=b) (((Jh w _).trans (s4.trans u4)).mono (fun x hx=>by subst hx; simp)) u1 (by rw [u2,s2]; exact hnf) (by rw [u2,s2]; exact hoc) hlen.symm (by rw [hlen]; exact hrm) ?_ (.inl (by simp))
    rw [hlen,hmap]
    exact AcO hcl hvl hi hz s3 u3
   ·refine (Go.Proofs.Any2.slices_Insert_int_grow L b off xs.length c i vb voff vs.length vc (xs.map AD) (vs.map AD) w hlt2 hm hnc (by omega) hroom hcl hvl hcs hvs (Hi xs) (Hi vs)).mono ?_
    rintro _ _ ⟨rfl,rfl⟩
    have hge:=grownCap_ge w (xs.length+vs.length) c (ρ.t 3)
    have hgm:=grownCap_le_maxLen w (xs.length+vs.length) c (ρ.t 3) (by unfold maxLen; omega)
    generalize grownCap w (xs.length+vs.length) c (ρ.t 3)=gc at hge hgm
    unfold maxLen at hgm
    refine ⟨_,rfl,?_⟩
    generalize hrow:((xs.map AD).take i).toArray++Builtin.zeroCells (Value.int .i64 0).cells (xs.length+vs.length - i)++Builtin.zeroCells (Value.int .i64 0).cells (gc - (xs.length+vs.length))=row
    have hsz:row.size=gc:=by
     rw [← hrow,Array.size_append,Array.size_append,size_zeroCells,size_zeroCells]; simp [Value.cells]; omega
    have htk:row.toList.take i=(xs.map AD).take i:=by
     rw [← hrow,Array.toList_append,Array.toList_append,List.append_assoc,List.take_append_of_le_length (by simp; omega)]
     simp only [List.take_take,Nat.min_self]
    have hgd:(w.alloc (.cells row (ρ.t 3))).drew.heap[w.heap.size]?=some (.cells row (ρ.t 3) (0,0)):=EQ w _
    have hdl:((xs.map AD).drop i).length=xs.length - i:=by rw [List.length_drop,hcl]
    obtain ⟨c1,s1,s2,s3⟩:=CG (vs.map AD) i _ row hgd (by omega)
    obtain ⟨s4,s5⟩:=Cf (g:=w.heap.size) (vs.map AD) i (w.alloc (.cells row (ρ.t 3))).drew
    have s1':((w.alloc (.cells row (ρ.t 3))).drew.setCells w.heap.size i (vs.map AD)).drew.heap[w.heap.size]?=some (.cells c1 (ρ.t 3) (0,0)):=s1
    obtain ⟨c2,u1,u2,u3⟩:=CG ((xs.map AD).drop i) (i+vs.length) _ c1 s1' (by omega)
    obtain ⟨u4,u5⟩:=Cf (g:=w.heap.size) ((xs.map AD).drop i) (i+vs.length) ((w.alloc (.cells row (ρ.t 3))).drew.setCells w.heap.size i (vs.map AD)).drew
    have hstep:Step w (((w.alloc (.cells row (ρ.t 3))).drew.setCells w.heap.size i (vs.map AD)).drew.setCells w.heap.size (i+vs.length) ((xs.map AD).drop i)) (fun x=>x∈[]++([b]++([]++([vb]++[]))++[])):=by
     have h9:=(((M4 w (.cells row (ρ.t 3)) (fun x=>x=w.heap.size)).trans (Jh _ _)).trans s4).trans ((Jh _ _).trans u4)
     exact ⟨h9.os,h9.tape,h9.output,h9.size,fun g hg _=>h9.same g hg (by omega)⟩
    refine Kw (g:=w.heap.size) hstep u1 (NFt.zero _ (fun _=>by rw [u2,s2,hsz]; omega)) (by rw [u2,s2,hsz]; omega) hlen.symm (by rw [hlen]; exact hge) ?_ (.inr (Nat.le_refl _))
    rw [hlen,hmap,List.drop_zero]
    have htl:((xs.map AD).take i).length=i:=by rw [List.length_take,hcl]; omega
    apply List.ext_getElem?
    intro j
    by_cases hj:j < i
    ·rw [List.getElem?_append_left (by omega),List.getElem?_take_of_lt (by omega),Array.getElem?_toList,u3,if_neg (by omega),s3,if_neg (by omega),← htk,List.getElem?_take_of_lt hj,Array.getElem?_toList]
    ·rw [List.getElem?_append_right (by omega),htl]
     by_cases hj2:j < i+vs.length
     ·rw [List.getElem?_append_left (by omega),List.getElem?_take_of_lt (by omega),Array.getElem?_toList,u3,if_neg (by omega),s3,if_pos (by omega)]
     ·rw [List.getElem?_append_right (by omega),hvl]
      by_cases hj3:j < xs.length+vs.length
      ·rw [List.getElem?_take_of_lt hj3,Array.getElem?_toList,u3,if_pos (by omega)]
       congr 1; omega
      ·rw [List.getElem?_eq_none (by rw [List.length_take]; omega),List.getElem?_eq_none (by omega)]
  ·obtain rfl:i=xs.length:=by omega
   have hmap2:(xs.take xs.length++(vs++xs.drop xs.length)).map AD=xs.map AD++vs.map AD:=by simp
   by_cases hrm:xs.length+vs.length≤c
   ·refine (Go.Proofs.Any2.slices_Insert_int_end_room L b off xs.length c vb voff vs.length vc (vs.map AD) w hm hrm (by omega) hvl
     (fun j hj=>by rw [AV hg,Array.getElem?_eq_getElem (by omega)]; rfl) (fun j hj=>C3 hg hnf.nf (by omega)) hvs (Hi vs)).mono ?_
    rintro _ _ ⟨rfl,rfl⟩
    refine ⟨_,rfl,?_⟩
    obtain ⟨c1,s1,s2,s3⟩:=CG (vs.map AD) (off+xs.length) w cs hg (by omega)
    obtain ⟨s4,s5⟩:=Cf (g:=b) (vs.map AD) (off+xs.length) w
    refine Kw (g:=b) (s4.mono (fun x hx=>by subst hx; simp)) s1 (by rw [s2]; exact hnf) (by rw [s2]; exact hoc) hlen.symm (by rw [hlen]; exact hrm) ?_ (.inl (by simp))
    rw [hlen,hmap2]
    apply List.ext_getElem?
    intro j
    by_cases hj:j < xs.length
    ·rw [List.getElem?_append_left (by omega),List.getElem?_take_of_lt (by omega),List.getElem?_drop,Array.getElem?_toList,s3,if_neg (by omega),← hz,List.getElem?_take_of_lt hj,List.getElem?_drop,Array.getElem?_toList]
    ·rw [List.getElem?_append_right (by omega),hcl]
     by_cases hj2:j < xs.length+vs.length
     ·rw [List.getElem?_take_of_lt hj2,List.getElem?_drop,Array.getElem?_toList,s3,if_pos (by omega)]
      congr 1; omega
     ·rw [List.getElem?_eq_none (by rw [List.length_take]; omega),List.getElem?_eq_none (by omega)]
   ·refine (Go.Proofs.Any2.slices_Insert_int_end_grow L (some ⟨b,off,none⟩) xs.length c vb voff vs.length vc (xs.map AD) (vs.map AD) w hm hnc (by omega) hroom hcl hvl (fun h=>by cases h)
     (fun a ha j v hj=>by injection ha with ha; subst ha; rw [AT]; exact hcs j v hj) hvs (Hi vs)).mono ?_
    rintro _ _ ⟨rfl,rfl⟩
    have hge:=grownCap_ge w (xs.length+vs.length) c (ρ.t 3)
    have hgm:=grownCap_le_maxLen w (xs.length+vs.length) c (ρ.t 3) (by unfold maxLen; omega)
    generalize grownCap w (xs.length+vs.length) c (ρ.t 3)=gc at hge hgm
    unfold maxLen at hgm
    refine ⟨_,rfl,?_⟩
    have hsz:((xs.map AD++vs.map AD).toArray++Builtin.zeroCells (Value.int .i64 0).cells (gc - (xs.length+vs.length))).size=gc:=by
     rw [Array.size_append,size_zeroCells]; simp [Value.cells]; omega
    refine Kw (g:=w.heap.size) ((Jh w _).trans (M4 w.drew _ _)) (EQ w _) (NFt.zero _ (fun _=>by rw [hsz]; omega)) (by rw [hsz]; omega) hlen.symm (by rw [hlen]; exact hge) ?_ (.inr (Nat.le_refl _))
    rw [hlen,hmap2,List.drop_zero,Array.toList_append,List.take_append_of_le_length (by simp)]
    rw [List.take_of_length_le (by simp)]
theorem Vb {t:TypeId} {d:TypeDesc} {z:Value} (hu:P.underlying t=some d) (hi:(P.info? t).map (fun i=>(i.zero,i.size))=some (some z,1)) :
  (∀ w,(isAgg t).run P w=.ok (GF d) w)∧(∀ w,(Go.sizeOf t).run P w=.ok 1 w)∧(∀ w,(zeroValue t).run P w=.ok z w):=by
 cases h:P.info? t with
 | none=>rw [h] at hi; cases hi
 | some i=>
  rw [h] at hi
  simp only [Option.map_some,Option.some.injEq,Prod.mk.injEq] at hi
  obtain ⟨h1,h2⟩:=hi
  exact ⟨fun w=>Jb hu w,fun w=>by rw [Kr h,h2],fun w=>Wg h h1 w⟩
theorem AcR (mixed:P.follows .mixedOrders=true) (f21:P.funcs[ρ.f 21]?=some (Go.Proofs.Body2.n21 ρ)) (f27:P.funcs[ρ.f 27]?=some (Go.Proofs.Body2.n27 ρ)) (f28:P.funcs[ρ.f 28]?=some (Go.Proofs.Body2.n28 ρ))
  (f35:P.funcs[ρ.f 35]?=some (Go.Proofs.Body2.n35 ρ)) (f39:P.funcs[ρ.f 39]?=some (Go.Proofs.Body2.n39 ρ))
  (t0:P.underlying (ρ.t 0)=some (TypeDesc.tuple #[])) (t3:P.underlying (ρ.t 3)=some (TypeDesc.int IntKind.i64)) (t4:P.underlying (ρ.t 4)=some (TypeDesc.bool)) (t22:P.underlying (ρ.t 22)=some (TypeDesc.slice (ρ.t 3)))
  (i0:(P.info? (ρ.t 0)).map (fun i=>(i.zero,i.size))=some (some (Value.tuple #[]),1)) (i3:(P.info? (ρ.t 3)).map (fun i=>(i.zero,i.size,i.bytes))=some (some (Value.int IntKind.i64 0),1,8))
  (i4:(P.info? (ρ.t 4)).map (fun i=>(i.zero,i.size))=some (some (Value.bool false),1)) (i22:(P.info? (ρ.t 22)).map (fun i=>(i.zero,i.size))=some (some (Value.slice none 0 0),1)):Go.Proofs.Lays2.n21 P ρ:=by
 have i3':(P.info? (ρ.t 3)).map (fun i=>(i.zero,i.size))=some (some (Value.int IntKind.i64 0),1):=by
  cases h:P.info? (ρ.t 3) with
  | none=>rw [h] at i3; cases i3
  | some i=>
   rw [h] at i3
   simp only [Option.map_some,Option.some.injEq,Prod.mk.injEq] at i3 ⊢
   exact ⟨i3.1,i3.2.1⟩
 have l0:=Vb t0 i0
 have l3:=Vb t3 i3'
 have l4:=Vb t4 i4
 have l22:=Vb t22 i22
 exact { mixed:=mixed,f21:=f21,f27:=f27,f28:=f28,f35:=f35,f39:=f39,t0:=t0,a0:=l0.1,z0:=l0.2.1,v0:=l0.2.2,t3:=t3,a3:=l3.1,z3:=l3.2.1,v3:=l3.2.2,t4:=t4,a4:=l4.1,z4:=l4.2.1,v4:=l4.2.2,t22:=t22,a22:=l22.1,z22:=l22.2.1,v22:=l22.2.2,i3:=i3 }
theorem AaA (L:Go.Proofs.Lays2.n21 P ρ) {x0:List Int} {x1:Int} {x2 y:List Int} (h:(if 0≤x1∧x1.toNat≤x0.length∧x2≠[]∧(x0.length+x2.length) * 8≤140737488355328 then some (x0.take x1.toNat++(x2++x0.drop x1.toNat)) else none)=some y) :
  CN P (ρ.f 21) [.one ⟨.sl true (ρ.t 3) (.int .i64),x0⟩,.one ⟨.int .i64,x1⟩,.one ⟨.sl true (ρ.t 3) (.int .i64),x2⟩] [] ⟨[.one ⟨.sl true (ρ.t 3) (.int .i64),y⟩],[],[]⟩:=by
 split at h
 ·rename_i hc
  injection h with h
  subst h
  obtain ⟨h1,h2,h3,h4⟩:=hc
  obtain ⟨i,rfl⟩:=Int.eq_ofNat_of_zero_le h1
  exact Wc L _ x0 x2 i h2 h3 h4
 ·cases h
end Go.V
namespace Go.V
open Go.RowKit Go.Shelf Go.Sort
theorem AcB {α:Type} [Inhabited α] {w:World} {g off n:Nat} {cs:Array Value} {e:TypeId} {fr:Nat×Nat} (enc:α→Value) (d:Array α) (os:Array Obj) (hg:w.heap[g]?=some (.cells cs e fr)) (hle:off+d.size≤cs.size) :
  Step w (grow (putRow enc (Go.Sort.ahead w n) g off d) os) (fun x=>x=g)∧∃ cs',(grow (putRow enc (Go.Sort.ahead w n) g off d) os).heap[g]?=some (.cells cs' e fr)∧cs'.size=cs.size∧(cs'.toList.drop off).take d.size=d.toList.map enc:=by
 have hlt:=DB hg
 have hsz:(putRow enc (Go.Sort.ahead w n) g off d).heap.size=w.heap.size:=size_putRow enc (Go.Sort.ahead w n) g off d
 have hgr:∀ k,k < w.heap.size→(grow (putRow enc (Go.Sort.ahead w n) g off d) os).heap[k]?=(putRow enc (Go.Sort.ahead w n) g off d).heap[k]?:=by
  intro k hk
  show ((putRow enc (Go.Sort.ahead w n) g off d).heap++os)[k]?=_
  rw [Array.getElem?_append_left (by omega)]
 have hat:∀ k,(putRow enc (Go.Sort.ahead w n) g off d).heap[k]?=if g=k then (w.heap[k]?).map (onCells (putCells enc off d)) else w.heap[k]?:=by
  intro k
  show (w.heap.modify g (onCells (putCells enc off d)))[k]?=_
  rw [Array.getElem?_modify]
 refine ⟨⟨rfl,rfl,rfl,?_,fun k hk hn=>?_⟩,putCells enc off d cs,?_,?_,?_⟩
 ·show w.heap.size≤((putRow enc (Go.Sort.ahead w n) g off d).heap++os).size
  rw [Array.size_append]; omega
 ·rw [hgr k hk,hat,if_neg (fun h=>hn h.symm)]
 ·rw [hgr g hlt,hat,if_pos rfl,hg]; rfl
 ·simp [putCells]
 ·apply List.ext_getElem?
  intro j
  by_cases hj:j < d.size
  ·rw [List.getElem?_take_of_lt hj,List.getElem?_drop,Array.getElem?_toList]
   simp only [putCells,Array.getElem?_mapIdx,List.getElem?_map,Array.getElem?_toList]
   rw [Array.getElem?_eq_getElem (by omega:off+j < cs.size),Option.map_some,if_pos ⟨by omega,by omega⟩,show off+j - off=j by omega,getElem!_pos d j hj,Array.getElem?_eq_getElem hj,Option.map_some]
  ·rw [List.getElem?_eq_none (by rw [List.length_take]; omega),List.getElem?_eq_none (by simp; omega)]
theorem AbL {w:World} {g off:Nat} {cs:Array Value} {e:TypeId} {fr:Nat×Nat} {r:Ty} {α:Type} [Inhabited α] {enc:α→Value} {d:Array α} (hg:w.heap[g]?=some (.cells cs e fr)) (hnf:NFt r fr cs.size) (hle:off+d.size≤cs.size)
  (h:(cs.toList.drop off).take d.size=d.toList.map enc):Go.Sort.Holds enc w g off d:=by
 intro j hj
 refine ⟨?_,C3 hg hnf.nf (by omega)⟩
 rw [AV hg]
 have:=congrArg (·[j]?) h
 simp only [List.getElem?_take_of_lt hj,List.getElem?_drop,Array.getElem?_toList,List.getElem?_map] at this
 rw [this,Array.getElem?_eq_getElem hj,Option.map_some,getElem!_pos d j hj]
theorem Aav {w w':World} {Ro:Nat→Prop} {F:List Nat} {vals:List Value} {e:TypeId} {r:Ty} {zs:List r.D} {g off c n:Nat} {cs:Array Value} {fr:Nat×Nat} (hst:Step w w' (fun x=>x∈[]++F)) (hg:w'.heap[g]?=some (.cells cs e fr))
  (hfr:NFt r fr cs.size) (hoff:off+c * r.size≤cs.size) (hn:n=zs.length) (hc:zs.length≤c) (hz:∀ K,RpL (Rp w' K r) zs ((cs.toList.drop off).take (zs.length * r.size)) []) (hgF:g∈F∨w.heap.size≤g)
  (hv:Es vals (0,0)=some (.slice (some ⟨g,off,none⟩) n c)) :
  Im w Ro [] F vals ⟨[],[],[((0,0),⟨.sl true e r,zs⟩)]⟩ (.tuple #[]) w':=by
 subst hn
 refine ⟨[],[],[],[g],rfl,⟨rfl,rfl⟩,⟨rfl,rfl⟩,⟨_,[g],[],rfl,hv,⟨?_,fun h=>by cases h⟩,rfl⟩,by simp,?_,hst,RestOk.nil⟩
 ·dsimp only
  rw [Rp]
  exact .inr ⟨g,off,c,cs,fr,[],rfl,rfl,hg,hfr,hoff,hc,hz _⟩
 ·intro x hx
  simp only [List.nil_append,List.mem_singleton] at hx
  subst hx
  exact ⟨DB hg,hgF⟩
theorem AaL {w:World} {Ro:Nat→Prop} {vals:List Value} {e:TypeId} {r:Ty} (hv:Es vals (0,0)=some (.slice none 0 0)) :
  Im w Ro [] [] vals ⟨[],[],[((0,0),⟨.sl true e r,[]⟩)]⟩ (.tuple #[]) w:=by
 refine ⟨[],[],[],[],rfl,⟨rfl,rfl⟩,⟨rfl,rfl⟩,⟨_,[],[],rfl,hv,⟨?_,fun h=>by cases h⟩,rfl⟩,by simp,(fun x hx=>by simp at hx),Step.refl w _,RestOk.nil⟩
 dsimp only
 rw [Rp]
 exact .inl ⟨rfl,rfl,rfl⟩
variable {P:Program} {ρ:Ren}
def kvV (p:Int×Int):List Value:=[AD p.1,AD p.2]
theorem Yc {w:World} {K:Nat→Prop}:∀ {xs:List (Int×Int)} {vs:List Value} {F:List Nat},RpL (Rp w K (.pair (.int .i64) (.int .i64))) xs vs F→vs=xs.flatMap kvV∧F=[]
 | [],_,_,h=>h
 | x::xs,_,_,⟨v1,v2,F1,F2,e1,e2,h1,h2⟩=>by
  obtain ⟨rfl,rfl⟩:=Yc h2
  simp only [Rp] at h1
  obtain ⟨a1,a2,G1,G2,rfl,rfl,⟨rfl,rfl⟩,rfl,rfl⟩:=h1
  exact ⟨e1,e2⟩
theorem X8 {w:World} {K:Nat→Prop}:∀ (xs:List (Int×Int)),RpL (Rp w K (.pair (.int .i64) (.int .i64))) xs (xs.flatMap kvV) []
 | []=>⟨rfl,rfl⟩
 | x::xs=>⟨kvV x,xs.flatMap kvV,[],[],rfl,rfl,by simp only [Rp]; exact ⟨[AD x.1],[AD x.2],[],[],rfl,rfl,⟨rfl,rfl⟩,rfl,rfl⟩,X8 xs⟩
def Vf (p:Int×Int):Prop:=0≤p.1∧p.1 < 2147483648
abbrev KvS:={ p:Int×Int // Vf p }
instance:Inhabited KvS:=⟨⟨(0,0),by unfold Vf; omega⟩⟩
def kvE (u:KvS):List Value:=kvV u.1
def kvC (u v:KvS):Int:=u.1.1 - v.1.1
theorem U8 (u v:KvS):Go.Proofs.ltOf kvC u v=decide (u.1.1 < v.1.1):=by
 unfold Go.Proofs.ltOf kvC
 rw [decide_eq_decide]; omega
theorem Ad2:SWO (Go.Proofs.ltOf kvC) where
 irrefl x:=by rw [U8]; simp
 trans x y z h1 h2:=by rw [U8] at *; simp only [decide_eq_true_eq] at *; omega
 ntrans x y z h1 h2:=by rw [U8] at *; simp only [decide_eq_false_iff_not] at *; omega
theorem Aal:∀ (xs:List (Int×Int)),(∀ p∈xs,Vf p)→∃ us:List KvS,us.map Subtype.val=xs
 | [],_=>⟨[],rfl⟩
 | p::xs,h=>by
  obtain ⟨us,hu⟩:=Aal xs fun q hq=>h q (by simp [hq])
  exact ⟨⟨p,h p (by simp)⟩::us,by rw [List.map_cons,hu]⟩
theorem RW:∀ (us:List KvS) (t:Nat),t < us.length * 2→(us.flatMap kvE)[t]?=some (kvE us[t / 2]!)[t % 2]!
 | [],t,h=>by simp at h
 | u::us,t,h=>by
  match t with
  | 0=>rfl
  | 1=>rfl
  | t+2=>
   have h':t < us.length * 2:=by simp only [List.length_cons] at h; omega
   rw [List.flatMap_cons,List.getElem?_append_right (by simp [kvE,kvV]),show t+2 - (kvE u).length=t by simp [kvE,kvV],RW us t h',show (t+2) / 2=t / 2+1 by omega,show (t+2) % 2=t % 2 by omega]
   rfl
theorem VG (us:List KvS):(flatK kvE 2 us.toArray).toList=us.flatMap kvE:=by
 apply List.ext_getElem?
 intro t
 by_cases ht:t < us.length * 2
 ·have hs:t < (flatK kvE 2 us.toArray).size:=by rw [size_flatK,List.size_toArray]; exact ht
  rw [RW us t ht,Array.getElem?_toList,Array.getElem?_eq_getElem hs,← getElem!_pos (flatK kvE 2 us.toArray) t hs,get_flatK kvE 2 us.toArray t (by rw [List.size_toArray]; exact ht)]
  congr 2
  simp
 ·rw [List.getElem?_eq_none (by rw [Array.length_toList,size_flatK,List.size_toArray]; omega),List.getElem?_eq_none (by
   have:(us.flatMap kvE).length=us.length * 2:=by
    induction us with
    | nil=>rfl
    | cons u us ih=>rw [List.flatMap_cons,List.length_append]; simp only [List.length_cons] at ht; rw [ih (by omega)]; simp [kvE,kvV]; omega
   omega)]
theorem Yu (us:List KvS):us.flatMap kvE=(us.map Subtype.val).flatMap kvV:=by
 rw [List.flatMap_map]; rfl
def HT (xs:List (Int×Int)):List (Int×Int):=xs.mergeSort fun a b=>decide (a.1≤b.1)
theorem XM {xs ys:List (Int×Int)} (hp:ys.Perm xs) (hn:(xs.map (·.1)).Nodup) (hs:ys.Pairwise fun a b=>a.1≤b.1):ys=HT xs:=by
 refine List.Perm.eq_of_pairwise (le:=fun a b=>decide (a.1≤b.1)=true) ?_ ?_ ?_ (hp.trans (List.mergeSort_perm _ _).symm)
 ·intro a b ha hb h1 h2
  simp only [decide_eq_true_eq] at h1 h2
  have ha':a∈xs:=hp.mem_iff.1 ha
  have hb':b∈xs:=(List.mergeSort_perm _ _).mem_iff.1 hb
  obtain ⟨i,hi,rfl⟩:=List.getElem_of_mem ha'
  obtain ⟨j,hj,rfl⟩:=List.getElem_of_mem hb'
  have:i=j:=(List.getElem_inj (xs:=xs.map (·.1)) (h₀:=by simpa using hi) (h₁:=by simpa using hj) hn).1 (by simp only [List.getElem_map]; omega)
  subst this; rfl
 ·exact hs.imp fun h=>by simpa using h
 ·refine List.pairwise_mergeSort ?_ ?_ _
  ·intro a b c h1 h2
   simp only [decide_eq_true_eq] at *; omega
  ·intro a b
   simp only [Bool.or_eq_true,decide_eq_true_eq]; omega
theorem SR (L:Go.Proofs.SlLaysF0.n6 P ρ) (aE:∀ w,(isAgg (ρ.t 24)).run P w=.ok true w) (zE:∀ w,(Go.sizeOf (ρ.t 24)).run P w=.ok 2 w) (g:FuncId) (eg:∀ args w,(callFunc g args).run P w=.ok (.enter g args) w)
  (hcl:∀ (x y:Int×Int) (W:World),Calls P g #[.agg #[AD x.1,AD x.2],.agg #[AD y.1,AD y.2]] W fun e w'=>e=.returned (.int .i64 (Go.RowKit.wrap64 (x.1 - y.1)))∧∃ q os',w'=grow (W.drewN q) os')
  (hname : ∀ fn, P.funcs[ρ.f 6]? = some fn → (fn.name == "runtime.NumGoroutine") = false ∧ fn.body.isNone = false)
  (e:TypeId) (xs:List (Int×Int)) (hlen:xs.length < 4611686018427387904) (hk:∀ p∈xs,Vf p) (hn:(xs.map (·.1)).Nodup) :
  CN P (ρ.f 6) [.one ⟨.sl true e (.pair (.int .i64) (.int .i64)),xs⟩,.fv g []] [] ⟨[],[],[((0,0),⟨.sl true e (.pair (.int .i64) (.int .i64)),HT xs⟩)]⟩:=by
 refine ⟨(by obtain ⟨nm,_,hf⟩:=L.f6; exact ⟨_,hf,hname _ hf⟩),?_⟩
 rintro w _ Ro ms _ F2 ⟨v0,_,G0,_,rfl,rfl,⟨h0,_⟩,⟨v1,_,G1,_,rfl,rfl,⟨rfl,vs,rfl,hvs⟩,rfl,rfl⟩⟩ hR hnd hlt _
 cases hvs
 dsimp only at h0
 cases ms with
 | cons g gs=>obtain ⟨_,_,_,_,_,_,_,h,_⟩:=hR; cases h
 | nil=>
 obtain ⟨_,rfl⟩:=hR
 have hsl:(HT xs).length=xs.length:=List.length_mergeSort xs
 rw [Rp] at h0
 rcases h0 with ⟨rfl,rfl,h3⟩ | ⟨b,off,c,cs,fr,F',h1,rfl,hg,hnf,hoc,hnc,h7⟩
 ·injection h3 with h3
  subst h3
  refine (Go.Proofs.AnyF.slices_SortFunc_none L none 0 _ w).mono ?_
  rintro _ _ ⟨rfl,rfl⟩
  have e0:HT []=[]:=by unfold HT; simp
  rw [e0]
  exact ⟨_,rfl,AaL rfl⟩
 ·injection h1 with h1
  subst h1
  obtain ⟨h8,rfl⟩:=Yc h7
  have e1:List.length xs * (Ty.pair (.int .i64) (.int .i64)).size=xs.length * 2:=rfl
  rw [e1] at h8
  have hlt2:=DB hg
  have hoc':off+c * 2≤cs.size:=hoc
  have hle:xs.length * 2≤c * 2:=Nat.mul_le_mul_right 2 hnc
  obtain ⟨us,hus⟩:=Aal xs hk
  have hul:us.length=xs.length:=by rw [← hus]; simp
  have hH:HoldsK kvE 2 w b off us.toArray:=by
   refine AbL hg hnf (by rw [size_flatK,List.size_toArray,hul]; omega) ?_
   rw [size_flatK,List.size_toArray,hul,h8,VG,Yu,hus]; simp
  have hus2:us.toArray.size=xs.length:=by rw [List.size_toArray,hul]
  rw [← hus2]
  refine (Go.Proofs.AnyQ.slices_SortFunc L 2 aE zE kvE (fun _=>rfl) (fun u v hv=>by
   simp only [kvE,kvV,List.mem_cons,List.not_mem_nil,or_false] at hv; rcases hv with rfl | rfl <;> rfl) kvC Ad2 g #[] b off c us.toArray w eg (fun m os dk hdk x y=>?_) hH hlt2 (by rw [List.size_toArray,hul]; exact hlen)).mono ?_
  ·have hwr:Go.RowKit.wrap64 (x.1.1 - y.1.1)=kvC x y:=by
    obtain ⟨h1,h2⟩:=x.2
    obtain ⟨h3,h4⟩:=y.2
    unfold kvC
    generalize x.1.1=p at h1 h2 ⊢
    generalize y.1.1=q at h3 h4 ⊢
    unfold Go.RowKit.wrap64
    omega
   rw [← hwr]
   exact hcl x.1 y.1 _
  ·rintro _ _ ⟨rfl,d',n,os,hp,hs,rfl⟩
   refine ⟨_,rfl,?_⟩
   obtain ⟨hsz,_,hperm⟩:=hp
   have e1:d'.extract 0 us.toArray.size=d':=by rw [← hsz]; exact Array.extract_size
   rw [e1,Array.extract_size] at hperm
   have hys:d'.toList.map Subtype.val=HT xs:=by
    refine XM (by have:=hperm.map Subtype.val; rwa [hus] at this) hn ?_
    rw [List.pairwise_map,List.pairwise_iff_getElem]
    intro i j hi hj hij
    have hi':i < d'.size:=by simpa using hi
    have hj':j < d'.size:=by simpa using hj
    have:=hs i j (Nat.zero_le _) hij (by omega)
    rw [getElem!_pos d' j hj',getElem!_pos d' i hi',U8] at this
    simp only [decide_eq_false_iff_not,Int.not_lt] at this
    simpa using this
   have hds:d'.size=xs.length:=by rw [hsz,List.size_toArray,hul]
   obtain ⟨k1,cs',k2,k3,k4⟩:=AcB (off:=off) (n:=n) id (flatK kvE 2 d') os hg (by rw [size_flatK,hds]; omega)
   refine Aav (r:=.pair (.int .i64) (.int .i64)) (zs:=HT xs) (g:=b) (off:=off) (c:=c) (n:=us.toArray.size) (k1.mono (fun x hx=>by subst hx; simp)) k2 (by rw [k3]; exact hnf) (by rw [k3]; exact hoc) (by rw [List.size_toArray,hul,hsl]) (by omega) (fun K=>?_) (.inl (by simp)) rfl
   have e2:(HT xs).length * (Ty.pair (.int .i64) (.int .i64)).size=(flatK kvE 2 d').size:=by rw [size_flatK,hds,hsl]; rfl
   rw [e2,k4]
   have e3:(flatK kvE 2 d').toList.map id=(HT xs).flatMap kvV:=by
    have:=VG d'.toList
    rw [Array.toArray_toList] at this
    rw [List.map_id,this,Yu,hys]
   rw [e3]
   exact X8 _
theorem SH (L:Go.Proofs.SlLaysF0.n6 P ρ) (aE:∀ w,(isAgg (ρ.t 24)).run P w=.ok true w) (zE:∀ w,(Go.sizeOf (ρ.t 24)).run P w=.ok 2 w) (g:FuncId) (eg:∀ args w,(callFunc g args).run P w=.ok (.enter g args) w)
  (hcl:∀ (x y:Int×Int) (W:World),Calls P g #[.agg #[AD x.1,AD x.2],.agg #[AD y.1,AD y.2]] W fun e w'=>e=.returned (.int .i64 (Go.RowKit.wrap64 (x.1 - y.1)))∧∃ q os',w'=grow (W.drewN q) os')
  (hname : ∀ fn, P.funcs[ρ.f 6]? = some fn → (fn.name == "runtime.NumGoroutine") = false ∧ fn.body.isNone = false) {e : TypeId} {xs y : List (Int × Int)}
  (h:(if xs.length < 4611686018427387904∧(∀ p∈xs,0≤p.1∧p.1 < 2147483648)∧(xs.map (·.1)).Nodup then some (xs.mergeSort fun a b=>decide (a.1≤b.1)) else none)=some y) :
  CN P (ρ.f 6) [.one ⟨.sl true e (.pair (.int .i64) (.int .i64)),xs⟩,.fv g []] [] ⟨[],[],[((0,0),⟨.sl true e (.pair (.int .i64) (.int .i64)),y⟩)]⟩:=by
 split at h
 ·rename_i hc
  injection h with h
  subst h
  exact SR L aE zE g eg hcl hname e xs hc.1 hc.2.1 hc.2.2
 ·cases h
end Go.V