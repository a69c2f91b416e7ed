import Derived.Test.YtofhefmbioblbaaGreatQMsC
import Derived.Below
import Derived.Laws.Cells
import Derived.Laws.Concat
import Derived.Deep.AppendSrc
import Derived.Laws.Tables
import Derived.Laws.Strings
import Derived.Laws.StructEq
import Derived.Laws.IdiomCopy
set_option linter.unusedVariables false
set_option linter.unusedSimpArgs false
set_option maxRecDepth 100000
namespace Go.V.G
open Go.V
def BC (n:Int):List Int:=[IntKind.wrap .u8 (n / 256),IntKind.wrap .u8 n]
def pgb (kind:Int) (l:List Int):List Int:=[kind]++l.flatMap BC
theorem IY:∀ l:List Int,(l.flatMap BC).length=2 * l.length
 | []=>rfl
 | a::l=>by rw [List.flatMap_cons,List.length_append,IY l]; simp [BC]; omega
theorem L1 (kind:Int) {l:List Int} (h:l.length=32):(pgb kind l).length=65:=by unfold pgb; rw [List.length_append,IY,h]; rfl
def V2 (l:List Int):Prop:=∀ v∈l,0≤v∧v≤65535
theorem Yr {n:Int} (h:0≤n∧n≤65535):F4 n=some (BC n):=by
 unfold F4 BC
 rw [iy (by omega),show (2:Int) ^ (min (Int.toNat 8) (IntKind.bits .i64))=256 from rfl,Int.fdiv_eq_ediv_of_nonneg _ (by omega)]
theorem Ady {n:Int} (h:0≤n∧n≤65535):IntKind.wrap .i64 (Int.tdiv n 256)=n / 256:=by
 rw [Int.tdiv_eq_ediv_of_nonneg h.1,w64 (by omega) (by omega)]
theorem T7 {l:List Int} {i:Nat} {v:Int} (h:l[i]?=some v):(l.take (i+1)).flatMap BC=(l.take i).flatMap BC++BC v:=by
 rw [BG h,List.flatMap_append]; simp
theorem Rr {b:Bls} {x y z l:List Int} {kind:Int} {m:Nat} (hl:l.length=32) (hv:V2 l) (hm:m < b.length) (hz:z.length≤1048576) (hr:Ris z) :
  DU ((m:Nat):Int) kind l b x y z=some (b.set m (AA (pgb kind l)),x,y,pt z ((m:Nat):Int)):=by
 unfold DU
 have h:=Ap DI (fun i=>(((m:Nat):Int),[kind]++(l.take i).flatMap BC,l,((l.length:Nat):Int),((i:Nat):Int),b,x,y,z)) l.length (((m:Nat):Int),[kind]++(l.take l.length).flatMap BC,b,x,y,z) (fun i hi=>by
   have hg:=Ak hi
   have hvv:=hv _ (List.mem_of_getElem? hg)
   have hroom:Aa (([kind]++(l.take i).flatMap BC).length+(BC (gb l i)).length) 1=true:=by
    simp only [Aa,decide_eq_true_eq,List.length_append,IY,List.length_take,List.length_singleton,BC,List.length_cons,List.length_nil]; omega
   unfold DI
   dsimp only
   rw [iy (by omega),iy (by omega),Int.toNat_natCast,hg,Option.bind_some,iy (by omega),Ady hvv,show ([IntKind.wrap .u8 (gb l i / 256),IntKind.wrap .u8 (gb l i)]:List Int)=BC (gb l i) from rfl,if_pos hroom,Ao (by omega),T7 hg,List.append_assoc]) (by
   unfold DI
   dsimp only
   rw [ino (by omega)])
 rw [List.take_length] at h
 rw [show Ab DI (((m:Nat):Int),[kind],l,((l.length:Nat):Int),0,b,x,y,z)=_ from h,Option.bind_some]
 dsimp only
 rw [show [kind]++l.flatMap BC=pgb kind l from rfl,M7 (by rw [L1 kind hl]; omega) hm hz hr]
 rfl
theorem Ou {b:Bls} {x y z l:List Int} {kind:Int} {m:Nat} (hl:l.length=32) (hv:V2 l) (hm:m < b.length) (hz:z.length≤1048576) (hr:Ris z) :
  BR ((m:Nat):Int) kind l b x y z=some (b.set m (AA (pgb kind l)),x,y,pt z ((m:Nat):Int)):=by
 unfold BR
 have h:=Ap BZ (fun i=>(((m:Nat):Int),[kind]++(l.take i).flatMap BC,l,((l.length:Nat):Int),((i:Nat):Int),b,x,y,z)) l.length (((m:Nat):Int),[kind]++(l.take l.length).flatMap BC,b,x,y,z) (fun i hi=>by
   have hg:=Ak hi
   have hvv:=hv _ (List.mem_of_getElem? hg)
   have hroom:Aa (([kind]++(l.take i).flatMap BC).length+(BC (gb l i)).length) 1=true:=by
    simp only [Aa,decide_eq_true_eq,List.length_append,IY,List.length_take,List.length_singleton,BC,List.length_cons,List.length_nil]; omega
   unfold BZ
   dsimp only
   rw [iy (by omega),iy (by omega),Int.toNat_natCast,hg,Option.bind_some,Yr hvv,Option.bind_some,if_pos hroom,Ao (by omega),T7 hg,List.append_assoc]) (by
   unfold BZ
   dsimp only
   rw [ino (by omega)])
 rw [List.take_length] at h
 have hp:=L1 kind hl
 rw [show Ab BZ (((m:Nat):Int),[kind],l,((l.length:Nat):Int),0,b,x,y,z)=_ from h,Option.bind_some]
 dsimp only
 rw [show [kind]++l.flatMap BC=pgb kind l from rfl,IP (by omega),Option.bind_some,QE (EZ (by omega)) hm hz hr]
 rfl
theorem ZB {kind:Int} {l:List Int} (hk:0≤kind∧kind≤255):U8s (AA (pgb kind l)):=OX fun v hv=>by
 unfold pgb at hv
 rcases List.mem_append.1 hv with hv | hv
 ·rw [List.mem_singleton.1 hv]; exact hk
 ·obtain ⟨a,_,ha⟩:=List.mem_flatMap.1 hv
  unfold BC at ha
  simp only [List.mem_cons,List.not_mem_nil,or_false] at ha
  rcases ha with rfl | rfl <;> exact Ph _
theorem Yf:∀ {a b:List Int},Ris a→Ris b→(∀ v,v∈a↔v∈b)→a=b:=by
 intro a b ha hb
 rw [ris_iff] at ha hb
 induction a generalizing b with
 | nil=>
  intro h
  cases b with
  | nil=>rfl
  | cons v b=>exact absurd ((h v).2 (by simp)) (by simp)
 | cons v a ih=>
  intro h
  cases b with
  | nil=>exact absurd ((h v).1 (by simp)) (by simp)
  | cons w b=>
   rw [List.pairwise_cons] at ha hb
   have hvw:v=w:=by
    have h1:=(h v).1 (by simp)
    have h2:=(h w).2 (by simp)
    rcases List.mem_cons.1 h1 with h1 | h1
    ·exact h1
    ·rcases List.mem_cons.1 h2 with h2 | h2
     ·exact h2.symm
     ·have:=ha.1 w h2; have:=hb.1 v h1; omega
   subst hvw
   refine congrArg (v :: ·) (ih ha.2 hb.2 fun u=>?_)
   have hu:=h u
   constructor
   ·intro hm
    rcases List.mem_cons.1 (hu.1 (by simp [hm])) with rfl | h3
    ·have:=ha.1 u hm; omega
    ·exact h3
   ·intro hm
    rcases List.mem_cons.1 (hu.2 (by simp [hm])) with rfl | h3
    ·have:=hb.1 u hm; omega
    ·exact h3
noncomputable def pts (z l:List Int):List Int:=l.foldl pt z
theorem QF (z l:List Int) (v:Int):pts z (l++[v])=pt (pts z l) v:=by unfold pts; rw [List.foldl_append]; rfl
theorem Kj {z:List Int} (hr:Ris z):∀ {l:List Int},z.length+l.length≤1048576→Ris (pts z l)∧(pts z l).length≤z.length+l.length∧∀ v,v∈pts z l↔v∈z∨v∈l:=by
 intro l
 induction l generalizing z with
 | nil=>intro h; exact ⟨hr,by simp [pts],fun v=>by simp [pts]⟩
 | cons a l ih=>
  intro h
  rw [List.length_cons] at h
  obtain ⟨_,_,h3,h4,h5⟩:=Dt (z:=z) (by omega) hr a
  obtain ⟨i1,i2,i3⟩:=ih h4 (by omega)
  refine ⟨i1,?_,fun v=>?_⟩
  ·have:pts z (a::l)=pts (pt z a) l:=rfl
   rw [this,List.length_cons]; omega
  ·have:pts z (a::l)=pts (pt z a) l:=rfl
   rw [this,i3 v,h5 v,List.mem_cons]
   constructor
   ·rintro ((h | h) | h)
    ·exact .inl h
    ·exact .inr (.inl h)
    ·exact .inr (.inr h)
   ·rintro (h | h | h)
    ·exact .inl (.inl h)
    ·exact .inl (.inr h)
    ·exact .inr h
theorem Abi {z a c:List Int} (hr:Ris z) (h:z.length+(a.length+c.length)≤1048576):pts z (a++c)=pts z (c++a):=by
 obtain ⟨h1,_,h3⟩:=Kj hr (l:=a++c) (by rw [List.length_append]; omega)
 obtain ⟨g1,_,g3⟩:=Kj hr (l:=c++a) (by rw [List.length_append]; omega)
 refine Yf h1 g1 fun v=>?_
 rw [h3 v,g3 v,List.mem_append,List.mem_append]
 constructor
 ·rintro (h | h | h)
  ·exact .inl h
  ·exact .inr (.inr h)
  ·exact .inr (.inl h)
 ·rintro (h | h | h)
  ·exact .inl h
  ·exact .inr (.inr h)
  ·exact .inr (.inl h)
def tl (l:List Kv):Nat→Nat→List Int
 | _,0=>[]
 | k,d+1=>if oth l k=true then ((k:Nat):Int)::tl l (k+1) d else tl l (k+1) d
theorem WM (l:List Kv):∀ d k v,v∈tl l k d↔∃ m:Nat,v=((m:Nat):Int)∧k≤m∧m < k+d∧oth l m=true
 | 0,k,v=>by
  simp only [tl,List.not_mem_nil,false_iff]
  rintro ⟨m,_,h1,h2,_⟩; omega
 | d+1,k,v=>by
  have ih:=WM l d (k+1) v
  have key:v∈tl l (k+1) d∨(v=((k:Nat):Int)∧oth l k=true)↔∃ m:Nat,v=((m:Nat):Int)∧k≤m∧m < k+(d+1)∧oth l m=true:=by
   rw [ih]
   constructor
   ·rintro (⟨m,h1,h2,h3,h4⟩ | ⟨h1,h2⟩)
    ·exact ⟨m,h1,by omega,by omega,h4⟩
    ·exact ⟨k,h1,by omega,by omega,h2⟩
   ·rintro ⟨m,h1,h2,h3,h4⟩
    by_cases hkm:k=m
    ·subst hkm; exact .inr ⟨h1,h4⟩
    ·exact .inl ⟨m,h1,by omega,by omega,h4⟩
  rw [← key]
  simp only [tl]
  cases ho:oth l k with
  | true=>
   rw [if_pos rfl,List.mem_cons]
   constructor
   ·rintro (h | h)
    ·exact .inr ⟨h,rfl⟩
    ·exact .inl h
   ·rintro (h | ⟨h,_⟩)
    ·exact .inr h
    ·exact .inl h
  | false=>
   rw [if_neg (by simp)]
   constructor
   ·intro h; exact .inl h
   ·rintro (h | ⟨_,h⟩)
    ·exact h
    ·cases h
theorem VK (l:List Kv):∀ d k,(tl l k d).Pairwise (· < ·)
 | 0,k=>List.Pairwise.nil
 | d+1,k=>by
  simp only [tl]
  split
  ·refine List.pairwise_cons.2 ⟨fun v hv=>?_,VK l d (k+1)⟩
   obtain ⟨m,rfl,h1,_,_⟩:=(WM l d (k+1) v).1 hv
   omega
  ·exact VK l d (k+1)
theorem ZC (l:List Kv):∀ d k,(tl l k d).length≤d
 | 0,k=>Nat.le_refl _
 | d+1,k=>by
  have:=ZC l d (k+1)
  simp only [tl]; split
  ·rw [List.length_cons]; omega
  ·omega
def qk (s:Kv):Int:=((s.1.toNat / 32:Nat):Int)
noncomputable def Ee (l:List Kv):List Int:=pts [] (l.map qk)
theorem ZV {l:List Kv} (hk:Ks l) (hl:l.length≤1000):Ee l=tl l 0 32:=by
 unfold Ee
 obtain ⟨h1,_,h3⟩:=Kj (z:=[]) (by rw [ris_iff]; exact List.Pairwise.nil) (l:=l.map qk) (by simp; omega)
 refine Yf h1 (ris_iff.2 (VK l 32 0)) fun v=>?_
 rw [h3 v,WM]
 constructor
 ·rintro (h | h)
  ·cases h
  ·obtain ⟨s,hs,rfl⟩:=List.mem_map.1 h
   have:=(Pt (hk s hs)).2
   refine ⟨s.1.toNat / 32,rfl,by omega,by omega,?_⟩
   unfold oth; rw [List.any_eq_true]; exact ⟨s,hs,by simp⟩
 ·rintro ⟨m,rfl,_,_,h⟩
  unfold oth at h
  rw [List.any_eq_true] at h
  obtain ⟨s,hs,h⟩:=h
  have:s.1.toNat / 32=m:=by simpa using h
  exact .inr (List.mem_map.2 ⟨s,hs,by unfold qk; rw [this]⟩)
def goS (nx go:List Int) (k:Nat):List Int:=if gb nx k=0 then go else go++[gb nx k]
theorem JO {go:List Int} (h:go.length≤1000) (v:Int):Aa (go.length+([v]:List Int).length) 8=true:=by simp only [Aa,decide_eq_true_eq,List.length_singleton]; omega
section
variable {b:Bls} {x y z nx go T top A:List Int} {vals vals0:List (List Int)} {root:Int} {j k:Nat}
theorem AaI (hT:T[j]?=some ((k:Nat):Int)) (hTl:T.length≤32) (hk:k < 32) (hn:nx.length=32) (hvl:vals.length=32) (hA:vals[k]?=some A) (hAl:A.length=32) (hg:go.length≤1000) (hz:nz A=false) :
  Av (nx,vals,go,T,((T.length:Nat):Int),((j:Nat):Int),root,top,vals0,b,x,y,z)=some (.inl (nx.set k 0,vals,goS nx go k,T,((T.length:Nat):Int),((j+1:Nat):Int),root,top,vals0,b,x,y,z)):=by
 have hj:=(List.getElem?_eq_some_iff.1 hT).1
 have hnk:nx[k]?=some (gb nx k):=Ak (by omega)
 have he:=Ea (l:=A) (by omega)
 rw [hz] at he
 unfold Av
 dsimp only
 rw [iy (by omega),iy (by omega),iy (by omega),Nat.zero_add,Int.toNat_natCast,hT,Option.bind_some,iy (by omega),iy (by omega),Nat.zero_add,Int.toNat_natCast,hnk,Option.bind_some]
 by_cases h0:gb nx k=0
 ·rw [ino (not_not_intro h0),Option.bind_some]
  dsimp only
  rw [iy (by omega),iy (by omega),Nat.zero_add,Int.toNat_natCast,hnk,Option.bind_some,Option.bind_some,iy (by omega),iy (by omega),hA,Option.bind_some,Option.bind_some,he,Option.bind_some,if_pos (by simp),Option.bind_some]
  dsimp only
  unfold goS
  rw [Ao (by omega),if_pos h0]
 ·rw [iy h0,iy (by omega),iy (by omega),Option.bind_some,if_pos (JO hg _),Option.bind_some]
  dsimp only
  rw [iy (by omega),iy (by omega),Nat.zero_add,Int.toNat_natCast,hnk,Option.bind_some,Option.bind_some,iy (by omega),iy (by omega),hA,Option.bind_some,Option.bind_some,he,Option.bind_some,if_pos (by simp),Option.bind_some]
  dsimp only
  unfold goS
  rw [Ao (by omega),if_neg h0]
theorem YB {f:Sp} (hT:T[j]?=some ((k:Nat):Int)) (hTl:T.length≤32) (hk:k < 32) (hn:nx.length=32) (hvl:vals.length=32) (hA:vals[k]?=some A) (hAl:A.length=32) (hg:go.length≤1000) (hz:nz A=true)
  (ht:AE b x y z=some (0,false,f)) :
  Av (nx,vals,go,T,((T.length:Nat):Int),((j:Nat):Int),root,top,vals0,b,x,y,z)=some (.inr (.inr (0,false,f))):=by
 have hj:=(List.getElem?_eq_some_iff.1 hT).1
 have hnk:nx[k]?=some (gb nx k):=Ak (by omega)
 have he:=Ea (l:=A) (by omega)
 rw [hz] at he
 unfold Av
 dsimp only
 rw [iy (by omega),iy (by omega),iy (by omega),Nat.zero_add,Int.toNat_natCast,hT,Option.bind_some,iy (by omega),iy (by omega),Nat.zero_add,Int.toNat_natCast,hnk,Option.bind_some]
 by_cases h0:gb nx k=0
 ·rw [ino (not_not_intro h0),Option.bind_some]
  dsimp only
  rw [iy (by omega),iy (by omega),Nat.zero_add,Int.toNat_natCast,hnk,Option.bind_some,Option.bind_some,iy (by omega),iy (by omega),hA,Option.bind_some,Option.bind_some,he,Option.bind_some,if_neg (by simp),ht,Option.bind_some]
  dsimp only
  rw [if_pos (by simp),Option.bind_some]
 ·rw [iy h0,iy (by omega),iy (by omega),Option.bind_some,if_pos (JO hg _),Option.bind_some]
  dsimp only
  rw [iy (by omega),iy (by omega),Nat.zero_add,Int.toNat_natCast,hnk,Option.bind_some,Option.bind_some,iy (by omega),iy (by omega),hA,Option.bind_some,Option.bind_some,he,Option.bind_some,if_neg (by simp),ht,Option.bind_some]
  dsimp only
  rw [if_pos (by simp),Option.bind_some]
theorem YZ {m:Int} {b1 b2:Bls} {x1 y1 z1 x2 y2 z2:List Int} (hT:T[j]?=some ((k:Nat):Int)) (hTl:T.length≤32) (hk:k < 32) (hn:nx.length=32) (hvl:vals.length=32) (hA:vals[k]?=some A) (hAl:A.length=32) (hg:go.length≤1000) (hz:nz A=true)
  (ht:AE b x y z=some (m,true,b1,x1,y1,z1)) (hp:BR m 81 A b1 x1 y1 z1=some (b2,x2,y2,z2)) :
  Av (nx,vals,go,T,((T.length:Nat):Int),((j:Nat):Int),root,top,vals0,b,x,y,z)=some (.inl (nx.set k m,vals,goS nx go k,T,((T.length:Nat):Int),((j+1:Nat):Int),root,top,vals0,b2,x2,y2,z2)):=by
 have hj:=(List.getElem?_eq_some_iff.1 hT).1
 have hnk:nx[k]?=some (gb nx k):=Ak (by omega)
 have he:=Ea (l:=A) (by omega)
 rw [hz] at he
 have hn2:(nx.set k 0).length=32:=by rw [List.length_set]; exact hn
 have hs:(nx.set k 0)[k]?=some 0:=List.getElem?_set_self (by omega)
 unfold Av
 dsimp only
 rw [iy (by omega),iy (by omega),iy (by omega),Nat.zero_add,Int.toNat_natCast,hT,Option.bind_some,iy (by omega),iy (by omega),Nat.zero_add,Int.toNat_natCast,hnk,Option.bind_some]
 by_cases h0:gb nx k=0
 ·rw [ino (not_not_intro h0),Option.bind_some]
  dsimp only
  rw [iy (by omega),iy (by omega),Nat.zero_add,Int.toNat_natCast,hnk,Option.bind_some,Option.bind_some,iy (by omega),iy (by omega),hA,Option.bind_some,Option.bind_some,he,Option.bind_some,if_neg (by simp),ht,Option.bind_some]
  dsimp only
  rw [if_neg (by simp),iy (by omega),iy (by omega),Option.bind_some,Option.bind_some,hp,Option.bind_some,iy (by omega),iy (by omega),hs,Option.bind_some,Option.bind_some,Option.bind_some]
  dsimp only
  unfold goS
  rw [Ao (by omega),List.set_set,if_pos h0]
 ·rw [iy h0,iy (by omega),iy (by omega),Option.bind_some,if_pos (JO hg _),Option.bind_some]
  dsimp only
  rw [iy (by omega),iy (by omega),Nat.zero_add,Int.toNat_natCast,hnk,Option.bind_some,Option.bind_some,iy (by omega),iy (by omega),hA,Option.bind_some,Option.bind_some,he,Option.bind_some,if_neg (by simp),ht,Option.bind_some]
  dsimp only
  rw [if_neg (by simp),iy (by omega),iy (by omega),Option.bind_some,Option.bind_some,hp,Option.bind_some,iy (by omega),iy (by omega),hs,Option.bind_some,Option.bind_some,Option.bind_some]
  dsimp only
  unfold goS
  rw [Ao (by omega),List.set_set,if_neg h0]
variable {ots:List Bool} {lvs:List (List Int)}
theorem Xj (hk:k < 32) (hll:lvs.length=32) (hol:ots.length=32) (ho:ots[k]?=some false) :
  Bi (top,ots,go,nx,lvs,((32:Nat):Int),((k:Nat):Int),b,x,y,z)=some (.inl (top,ots,go,nx,lvs,((32:Nat):Int),((k+1:Nat):Int),b,x,y,z)):=by
 have hlk:lvs[k]?=some lvs[k]:=List.getElem?_eq_getElem (by omega)
 unfold Bi
 dsimp only
 rw [iy (by omega),iy (by omega),iy (by omega),Nat.zero_add,Int.toNat_natCast,hlk,Option.bind_some,iy (by omega),iy (by omega),ho,Option.bind_some,if_pos (by simp),Option.bind_some]
 dsimp only
 rw [Ao (by omega)]
theorem AaB (hk:k < 32) (hll:lvs.length=32) (hol:ots.length=32) (htl:top.length=32) (hn:nx.length=32) (ho:ots[k]?=some true) (hA:lvs[k]?=some A) (hAl:A.length=32) (hg:go.length≤1000) (hz:nz A=false) :
  Bi (top,ots,go,nx,lvs,((32:Nat):Int),((k:Nat):Int),b,x,y,z)=some (.inl (top,ots,goS top go k,nx.set k 0,lvs,((32:Nat):Int),((k+1:Nat):Int),b,x,y,z)):=by
 have hnk:nx[k]?=some (gb nx k):=Ak (by omega)
 have htk:top[k]?=some (gb top k):=Ak (by omega)
 have he:=Ik (l:=A) (by omega)
 rw [hz] at he
 unfold Bi
 dsimp only
 rw [iy (by omega),iy (by omega),iy (by omega),Nat.zero_add,Int.toNat_natCast,hA,Option.bind_some,iy (by omega),iy (by omega),ho,Option.bind_some,if_neg (by simp),iy (by omega),iy (by omega),htk,Option.bind_some]
 by_cases h0:gb top k=0
 ·rw [ino (not_not_intro h0),Option.bind_some]
  dsimp only
  rw [iy (by omega),iy (by omega),Nat.zero_add,Int.toNat_natCast,hnk,Option.bind_some,Option.bind_some,hA,Option.bind_some,he,Option.bind_some,if_neg (by simp),Option.bind_some]
  dsimp only
  rw [Option.bind_some]
  dsimp only
  unfold goS
  rw [Ao (by omega),if_pos h0]
 ·rw [iy h0,iy (by omega),iy (by omega),Option.bind_some,if_pos (JO hg _),Option.bind_some]
  dsimp only
  rw [iy (by omega),iy (by omega),Nat.zero_add,Int.toNat_natCast,hnk,Option.bind_some,Option.bind_some,hA,Option.bind_some,he,Option.bind_some,if_neg (by simp),Option.bind_some]
  dsimp only
  rw [Option.bind_some]
  dsimp only
  unfold goS
  rw [Ao (by omega),if_neg h0]
theorem YX {m:Int} {b1 b2:Bls} {x1 y1 z1 x2 y2 z2:List Int} (hk:k < 32) (hll:lvs.length=32) (hol:ots.length=32) (htl:top.length=32) (hn:nx.length=32) (ho:ots[k]?=some true) (hA:lvs[k]?=some A) (hAl:A.length=32) (hg:go.length≤1000) (hz:nz A=true)
  (ht:Bh b x y z=some (m,b1,x1,y1,z1)) (hp:DU m 81 A b1 x1 y1 z1=some (b2,x2,y2,z2)) :
  Bi (top,ots,go,nx,lvs,((32:Nat):Int),((k:Nat):Int),b,x,y,z)=some (.inl (top,ots,goS top go k,nx.set k m,lvs,((32:Nat):Int),((k+1:Nat):Int),b2,x2,y2,z2)):=by
 have hnk:nx[k]?=some (gb nx k):=Ak (by omega)
 have htk:top[k]?=some (gb top k):=Ak (by omega)
 have he:=Ik (l:=A) (by omega)
 rw [hz] at he
 have hn2:(nx.set k 0).length=32:=by rw [List.length_set]; exact hn
 have hs:(nx.set k 0)[k]?=some 0:=List.getElem?_set_self (by omega)
 have hn3:(nx.set k m).length=32:=by rw [List.length_set]; exact hn
 have hs3:(nx.set k m)[k]?=some m:=List.getElem?_set_self (by omega)
 unfold Bi
 dsimp only
 rw [iy (by omega),iy (by omega),iy (by omega),Nat.zero_add,Int.toNat_natCast,hA,Option.bind_some,iy (by omega),iy (by omega),ho,Option.bind_some,if_neg (by simp),iy (by omega),iy (by omega),htk,Option.bind_some]
 by_cases h0:gb top k=0
 ·rw [ino (not_not_intro h0),Option.bind_some]
  dsimp only
  rw [iy (by omega),iy (by omega),Nat.zero_add,Int.toNat_natCast,hnk,Option.bind_some,Option.bind_some,hA,Option.bind_some,he,Option.bind_some,if_pos rfl,ht,Option.bind_some]
  dsimp only
  rw [iy (by omega),iy (by omega),hs,Option.bind_some,Option.bind_some,List.set_set,iy (by omega),iy (by omega),hs3,Option.bind_some,Option.bind_some,hp,Option.bind_some,Option.bind_some]
  dsimp only
  rw [Option.bind_some]
  dsimp only
  unfold goS
  rw [Ao (by omega),if_pos h0]
 ·rw [iy h0,iy (by omega),iy (by omega),Option.bind_some,if_pos (JO hg _),Option.bind_some]
  dsimp only
  rw [iy (by omega),iy (by omega),Nat.zero_add,Int.toNat_natCast,hnk,Option.bind_some,Option.bind_some,hA,Option.bind_some,he,Option.bind_some,if_pos rfl,ht,Option.bind_some]
  dsimp only
  rw [iy (by omega),iy (by omega),hs,Option.bind_some,Option.bind_some,List.set_set,iy (by omega),iy (by omega),hs3,Option.bind_some,Option.bind_some,hp,Option.bind_some,Option.bind_some]
  dsimp only
  rw [Option.bind_some]
  dsimp only
  unfold goS
  rw [Ao (by omega),if_neg h0]
end
end Go.V.G
set_option maxRecDepth 100000
namespace Go.V.G
open Go.V
theorem Ox {l:List Int} {k:Nat} {v:Int} (h:k < l.length):gb (l.set k v) k=v:=by unfold gb; rw [List.getElem?_set_self h]; rfl
theorem Db {l:List Int} {k j:Nat} {v:Int} (h:k≠j):gb (l.set k v) j=gb l j:=by unfold gb; rw [List.getElem?_set_ne h]
def Bl (top:List Int) (l:List Kv):Nat→List Int
 | 0=>[]
 | k+1=>if oth l k=true then goS top (Bl top l k) k else Bl top l k
theorem MS (top:List Int) (l:List Kv):∀ k,(Bl top l k).length≤k
 | 0=>Nat.le_refl _
 | k+1=>by
  have:=MS top l k
  simp only [Bl]
  split
  ·unfold goS; split
   ·omega
   ·rw [List.length_append,List.length_singleton]; omega
  ·omega
structure Tv (n:Nat) (b0:Bls) (x0 z0 top:List Int) (l:List Kv) (k:Nat) (nx:List Int) (b:Bls) (x z:List Int) (q:Nat):Prop where
 wk:Wk n b x z q
 bu:∀ c∈b,U8s c
 nl:nx.length=32
 dn:∀ j,j < k→oth l j=true→nz (av b0 top l j)=true→∃ m:Nat,gb nx j=((m:Nat):Int)∧(33≤m∧m < n)∧bit x0 m=false∧bit x m=true∧blk b m=AA (pgb 81 (av b0 top l j))
 dz:∀ j,j < k→oth l j=true→nz (av b0 top l j)=false→gb nx j=0
 st:∀ j,j < 32→(k≤j∨oth l j=false)→gb nx j=gb top j
 ds:∀ i j,i < j→j < k→oth l i=true→oth l j=true→nz (av b0 top l i)=true→nz (av b0 top l j)=true→gb nx i≠gb nx j
 ot:∀ i,i < 160→bit x0 i=true→blk b i=blk b0 i∧bit x i=true
 zm:∀ v∈z,v∈z0∨∃ m:Nat,v=((m:Nat):Int)∧(33≤m∧m < n)∧bit x m=true
 hi:∀ i,n≤i→i < 160→bit x i=bit x0 i
section
variable {n:Nat} {b0 b:Bls} {x0 z0 top nx x z:List Int} {l:List Kv} {k q:Nat}
theorem Tv.skip (h:Tv n b0 x0 z0 top l k nx b x z q) (ho:oth l k=false):Tv n b0 x0 z0 top l (k+1) nx b x z q:=by
 refine ⟨h.wk,h.bu,h.nl,fun j hj h1 h2=>?_,fun j hj h1 h2=>?_,fun j hj h1=>?_,fun i j hij hj h1 h2 h3 h4=>?_,h.ot,h.zm,h.hi⟩
 ·by_cases hjk:j=k
  ·subst hjk; rw [ho] at h1; cases h1
  ·exact h.dn j (by omega) h1 h2
 ·by_cases hjk:j=k
  ·subst hjk; rw [ho] at h1; cases h1
  ·exact h.dz j (by omega) h1 h2
 ·rcases h1 with h1 | h1
  ·exact h.st j hj (.inl (by omega))
  ·exact h.st j hj (.inr h1)
 ·by_cases hjk:j=k
  ·subst hjk; rw [ho] at h2; cases h2
  ·exact h.ds i j hij (by omega) h1 h2 h3 h4
theorem Tv.no (h:Tv n b0 x0 z0 top l k nx b x z q) (hk:k < 32) (ho:oth l k=true) (hz:nz (av b0 top l k)=false):Tv n b0 x0 z0 top l (k+1) (nx.set k 0) b x z q:=by
 have hnl:=h.nl
 refine ⟨h.wk,h.bu,by rw [List.length_set]; exact h.nl,fun j hj h1 h2=>?_,fun j hj h1 h2=>?_,fun j hj h1=>?_,fun i j hij hj h1 h2 h3 h4=>?_,h.ot,h.zm,h.hi⟩
 ·by_cases hjk:k=j
  ·subst hjk; rw [hz] at h2; cases h2
  ·rw [Db hjk]; exact h.dn j (by omega) h1 h2
 ·by_cases hjk:k=j
  ·subst hjk; exact Ox (by omega)
  ·rw [Db hjk]; exact h.dz j (by omega) h1 h2
 ·have hne:k≠j:=by
   rintro rfl
   rcases h1 with h1 | h1
   ·omega
   ·rw [ho] at h1; cases h1
  rw [Db hne]
  rcases h1 with h1 | h1
  ·exact h.st j hj (.inl (by omega))
  ·exact h.st j hj (.inr h1)
 ·have hjk:k≠j:=by rintro rfl; rw [hz] at h4; cases h4
  have hik:k≠i:=by rintro rfl; rw [hz] at h3; cases h3
  rw [Db hjk,Db hik]
  exact h.ds i j hij (by omega) h1 h2 h3 h4
theorem Tv.yes (h:Tv n b0 x0 z0 top l k nx b x z q) (hq:q≤1000) (hk:k < 32) (ho:oth l k=true) (hnz:nz (av b0 top l k)=true) {m:Nat} (hm:33≤m∧m < n) (hbm:bit x m=false) (hw:Wk n (b.set m Bj) (setB x m) (pt z ((m:Nat):Int)) (q+1)) :
  Tv n b0 x0 z0 top l (k+1) (nx.set k ((m:Nat):Int)) ((b.set m Bj).set m (AA (pgb 81 (av b0 top l k)))) (setB x m) (pt (pt z ((m:Nat):Int)) ((m:Nat):Int)) (q+2):=by
 have hnl:=h.nl
 have hn:=h.wk.hn; have hbl:=h.wk.hb; have hx:=h.wk.hx
 have hpl:=L1 81 (HV b0 top l k)
 have hz1:=h.wk.hz
 obtain ⟨_,_,z3,z4,z5⟩:=Dt (z:=z) (by omega) h.wk.hr ((m:Nat):Int)
 obtain ⟨_,_,_,_,y5⟩:=Dt (z:=pt z ((m:Nat):Int)) (by omega) z4 ((m:Nat):Int)
 have hbit:∀ i,i < 160→bit (setB x m) i=(decide (i=m) || bit x i):=fun i hi=>BW h.wk.hu (by omega) (by omega)
 have hblk:∀ i,i≠m→blk ((b.set m Bj).set m (AA (pgb 81 (av b0 top l k)))) i=blk b i:=fun i hi=>by rw [BS (Ne.symm hi),BS (Ne.symm hi)]
 refine ⟨hw.lay (by omega) (EZ (by omega)) m,fun c hc=>?_,by rw [List.length_set]; exact h.nl,fun j hj h1 h2=>?_,fun j hj h1 h2=>?_,fun j hj h1=>?_,fun i j hij hj h1 h2 h3 h4=>?_,fun i hi h1=>?_,fun v hv=>?_,fun i h1 h2=>?_⟩
 ·rcases List.mem_or_eq_of_mem_set hc with hc | rfl
  ·rcases List.mem_or_eq_of_mem_set hc with hc | rfl
   ·exact h.bu c hc
   ·exact QL
  ·exact ZB (by omega)
 ·by_cases hjk:k=j
  ·subst hjk
   refine ⟨m,Ox (by omega),hm,?_,by rw [hbit m (by omega)]; simp,F9 (by rw [List.length_set]; omega)⟩
   cases hx0:bit x0 m with
   | false=>rfl
   | true=>
    have:=(h.ot m (by omega) hx0).2
    rw [hbm] at this; cases this
  ·obtain ⟨m',e1,e2,e3,e4,e5⟩:=h.dn j (by omega) h1 h2
   have hmm:m'≠m:=by rintro rfl; rw [hbm] at e4; cases e4
   exact ⟨m',by rw [Db hjk]; exact e1,e2,e3,by rw [hbit m' (by omega),e4,Bool.or_true],by rw [hblk m' hmm]; exact e5⟩
 ·by_cases hjk:k=j
  ·subst hjk; rw [hnz] at h2; cases h2
  ·rw [Db hjk]; exact h.dz j (by omega) h1 h2
 ·have hne:k≠j:=by
   rintro rfl
   rcases h1 with h1 | h1
   ·omega
   ·rw [ho] at h1; cases h1
  rw [Db hne]
  rcases h1 with h1 | h1
  ·exact h.st j hj (.inl (by omega))
  ·exact h.st j hj (.inr h1)
 ·by_cases hjk:k=j
  ·subst hjk
   rw [Db (by omega),Ox (by omega)]
   obtain ⟨m',e1,e2,e3,e4,e5⟩:=h.dn i (by omega) h1 h3
   rw [e1]
   intro he
   obtain rfl:m'=m:=by omega
   rw [hbm] at e4; cases e4
  ·rw [Db (by omega),Db hjk]
   exact h.ds i j hij (by omega) h1 h2 h3 h4
 ·obtain ⟨e1,e2⟩:=h.ot i hi h1
  have him:i≠m:=by rintro rfl; rw [hbm] at e2; cases e2
  exact ⟨by rw [hblk i him]; exact e1,by rw [hbit i hi,e2,Bool.or_true]⟩
 ·have key:v∈z∨v=((m:Nat):Int):=by
   rcases (y5 v).1 hv with hv | hv
   ·exact (z5 v).1 hv
   ·exact .inr hv
  rcases key with hv | rfl
  ·rcases h.zm v hv with hv | ⟨m',e1,e2,e3⟩
   ·exact .inl hv
   ·exact .inr ⟨m',e1,e2,by rw [hbit m' (by omega),e3,Bool.or_true]⟩
  ·exact .inr ⟨m,rfl,hm,by rw [hbit m (by omega)]; simp⟩
 ·rw [hbit i h2,decide_eq_false (show ¬ i=m by omega),Bool.false_or]; exact h.hi i h1 h2
structure Cx (n:Nat) (b0:Bls) (top:List Int) (l:List Kv):Prop where
 hn:n≤160
 ht:top.length=32
 hv:∀ k,V2 (av b0 top l k)
abbrev ots (l:List Kv):List Bool:=(List.range 32).map (oth l)
abbrev lvs (b0:Bls) (top:List Int) (l:List Kv):List (List Int):=(List.range 32).map (aft b0 top l)
abbrev vls (b0:Bls) (top:List Int) (l:List Kv):List (List Int):=(List.range 32).map (av b0 top l)
theorem MB {vals0:List (List Int)} {y T pre:List Int} {root:Int} (cx:Cx n b0 top l) (hTl:T.length≤32) (hpre:pre.length≤1):∀ (d k j:Nat) (nx:List Int) (b:Bls) (x z:List Int) (q:Nat),k+d=32→T.drop j=tl l k d→Tv n b0 x0 z0 top l k nx b x z q→q+2 * d≤900→
  (∃ f,cnt x n+nwC b0 top l k < nwC b0 top l 32∧Ab Av (nx,vls b0 top l,Bl top l k,T,((T.length:Nat):Int),((j:Nat):Int),root,top,vals0,b,x,y,z)=some (.inr (0,false,f)))∨
  ∃ nx' b' x' z' q',Tv n b0 x0 z0 top l 32 nx' b' x' z' q'∧q'≤q+2 * d∧cnt x' n+nwC b0 top l 32=cnt x n+nwC b0 top l k∧
   Ab Av (nx,vls b0 top l,Bl top l k,T,((T.length:Nat):Int),((j:Nat):Int),root,top,vals0,b,x,y,z)=some (.inl (nx',Bl top l 32,root,top,vals0,b',x',y,z'))∧
   Ab Bi (top,ots l,pre++Bl top l k,nx,lvs b0 top l,((32:Nat):Int),((k:Nat):Int),b,x,y,z)=some (pre++Bl top l 32,nx',b',x',y,z')
 | 0,k,j,nx,b,x,z,q,hkd,hT,h,hq=>by
  obtain rfl:k=32:=by omega
  have hjl:T.length≤j:=by
   have:(T.drop j).length=0:=by rw [hT]; rfl
   rw [List.length_drop] at this; omega
  refine .inr ⟨nx,b,x,z,q,h,by omega,rfl,?_,?_⟩
  ·rw [An]
   have:Av (nx,vls b0 top l,Bl top l 32,T,((T.length:Nat):Int),((j:Nat):Int),root,top,vals0,b,x,y,z)=some (.inr (.inl (nx,Bl top l 32,root,top,vals0,b,x,y,z))):=by
    unfold Av
    dsimp only
    rw [ino (by omega)]
   rw [this]
  ·rw [An]
   have:Bi (top,ots l,pre++Bl top l 32,nx,lvs b0 top l,((32:Nat):Int),((32:Nat):Int),b,x,y,z)=some (.inr (pre++Bl top l 32,nx,b,x,y,z)):=by
    unfold Bi
    dsimp only
    rw [ino (by omega)]
   rw [this]
 | d+1,k,j,nx,b,x,z,q,hkd,hT,h,hq=>by
  have hk:k < 32:=by omega
  have hgl:=MS top l k
  have hol:(ots l).length=32:=DD _ _
  have hll:(lvs b0 top l).length=32:=DD _ _
  have hvl:(vls b0 top l).length=32:=DD _ _
  have hok:(ots l)[k]?=some (oth l k):=F5 32 _ hk
  have hlk:(lvs b0 top l)[k]?=some (aft b0 top l k):=F5 32 _ hk
  have hvk:(vls b0 top l)[k]?=some (av b0 top l k):=F5 32 _ hk
  have hal:=HV b0 top l k
  have hpl:(pre++Bl top l k).length≤1000:=by rw [List.length_append]; omega
  simp only [tl] at hT
  cases ho:oth l k with
  | false=>
   rw [ho,if_neg (by simp)] at hT
   rw [ho] at hok
   have hg1:Bl top l (k+1)=Bl top l k:=by simp only [Bl,ho,Bool.false_eq_true,if_false]
   have hn1:nwC b0 top l (k+1)=nwC b0 top l k:=by simp only [nwC,ho,Bool.false_and,Bool.false_eq_true,if_false,Nat.add_zero]
   have ih:=MB (vals0:=vals0) (y:=y) (root:=root) cx hTl hpre d (k+1) j nx b x z q (by omega) hT (h.skip ho) (by omega)
   rw [hg1,hn1] at ih
   rcases ih with ⟨f,e1,e2⟩ | ⟨nx',b',x',z',q',e0,eq,e1,e2,e3⟩
   ·exact .inl ⟨f,e1,e2⟩
   ·refine .inr ⟨nx',b',x',z',q',e0,by omega,e1,e2,?_⟩
    rw [An,Xj hk hll hol hok]
    exact e3
  | true=>
   rw [ho,if_pos rfl] at hT
   rw [ho] at hok
   have hak:aft b0 top l k=av b0 top l k:=by unfold aft; rw [ho]; rfl
   rw [hak] at hlk
   have hTj:T[j]?=some ((k:Nat):Int):=by
    have:(T.drop j)[0]?=some ((k:Nat):Int):=by rw [hT]; rfl
    rwa [List.getElem?_drop,Nat.add_zero] at this
   have hTd:T.drop (j+1)=tl l (k+1) d:=by
    have:(T.drop j).drop 1=tl l (k+1) d:=by rw [hT]; rfl
    rwa [List.drop_drop] at this
   have hgo:goS nx (Bl top l k) k=Bl top l (k+1):=by
    have e:=h.st k hk (.inl (Nat.le_refl _))
    simp only [Bl,ho,if_true]
    unfold goS; rw [e]
   have hgo2:goS top (pre++Bl top l k) k=pre++Bl top l (k+1):=by
    simp only [Bl,ho,if_true]
    unfold goS
    split
    ·rfl
    ·rw [List.append_assoc]
   cases hnz:nz (av b0 top l k) with
   | false=>
    have hn1:nwC b0 top l (k+1)=nwC b0 top l k:=by simp only [nwC,ho,hnz,Bool.and_false,Bool.false_eq_true,if_false,Nat.add_zero]
    have ih:=MB (vals0:=vals0) (y:=y) (root:=root) cx hTl hpre d (k+1) (j+1) (nx.set k 0) b x z q (by omega) hTd (h.no hk ho hnz) (by omega)
    rw [hn1] at ih
    have hi:=AaI (b:=b) (x:=x) (y:=y) (z:=z) (top:=top) (vals0:=vals0) (root:=root) hTj hTl hk h.nl hvl hvk hal (show (Bl top l k).length≤1000 by omega) hnz
    have hs:=AaB (b:=b) (x:=x) (y:=y) (z:=z) hk hll hol cx.ht h.nl hok hlk hal hpl hnz
    rw [hgo] at hi
    rw [hgo2] at hs
    rcases ih with ⟨f,e1,e2⟩ | ⟨nx',b',x',z',q',e0,eq,e1,e2,e3⟩
    ·exact .inl ⟨f,e1,by rw [An,hi]; exact e2⟩
    ·exact .inr ⟨nx',b',x',z',q',e0,by omega,e1,by rw [An,hi]; exact e2,by rw [An,hs]; exact e3⟩
   | true=>
    have hn1:nwC b0 top l (k+1)=nwC b0 top l k+1:=by simp only [nwC,ho,hnz,Bool.and_true,if_true]
    rcases RZ (y:=y) h.wk (by omega) with ⟨c0,hi⟩ | ⟨m,hm,hbm,hts,hti,hw,hc⟩
    ·refine .inl ⟨(b,x,y,z),?_,?_⟩
     ·have hmono:∀ d k',nwC b0 top l k'≤nwC b0 top l (k' + d):=by
       intro d
       induction d with
       | zero=>intro k'; exact Nat.le_refl _
       | succ d ih=>
        intro k'
        have:=ih k'
        rw [show k' + (d+1)=(k' + d)+1 by omega]
        simp only [nwC]; omega
      have:=hmono (32 - (k+1)) (k+1)
      rw [show k+1+(32 - (k+1))=32 by omega] at this
      omega
     ·rw [An,YB hTj hTl hk h.nl hvl hvk hal (show (Bl top l k).length≤1000 by omega) hnz hi]
    ·have hmn:=hm.2
     have hbl:=h.wk.hb
     have hzl:=hw.hz
     have hp1:=Ou (b:=b.set m Bj) (x:=setB x m) (y:=y) (kind:=81) (m:=m) hal (cx.hv k) (by rw [List.length_set]; omega) (show (pt z ((m:Nat):Int)).length≤1048576 by omega) hw.hr
     have hp2:=Rr (b:=b.set m Bj) (x:=setB x m) (y:=y) (kind:=81) (m:=m) hal (cx.hv k) (by rw [List.length_set]; omega) (show (pt z ((m:Nat):Int)).length≤1048576 by omega) hw.hr
     have hi:=YZ (top:=top) (vals0:=vals0) (root:=root) hTj hTl hk h.nl hvl hvk hal (show (Bl top l k).length≤1000 by omega) hnz hti hp1
     have hs:=YX hk hll hol cx.ht h.nl hok hlk hal hpl hnz hts hp2
     rw [hgo] at hi
     rw [hgo2] at hs
     have ih:=MB (vals0:=vals0) (y:=y) (root:=root) cx hTl hpre d (k+1) (j+1) _ _ _ _ (q+2) (by omega) hTd (h.yes (by omega) hk ho hnz hm hbm hw) (by omega)
     rw [hn1] at ih
     rcases ih with ⟨f,e1,e2⟩ | ⟨nx',b',x',z',q',e0,eq,e1,e2,e3⟩
     ·exact .inl ⟨f,by omega,by rw [An,hi]; exact e2⟩
     ·exact .inr ⟨nx',b',x',z',q',e0,by omega,by omega,by rw [An,hi]; exact e2,by rw [An,hs]; exact e3⟩
end
section
variable {b0:Bls} {top:List Int} {l:List Kv} {root:Int} {b:Bls} {x y z:List Int}
theorem HP (htl:top.length=32):Ab CS (l,top,List.replicate (Int.toNat 32) ([]:List Int),[],((List.length (List.replicate (Int.toNat 32) ([]:List Int)):Nat):Int),0,root,top,top.map (lfv b0),b,x,y,z) =
  some (l,top,top.map (lfv b0),[],root,top,top.map (lfv b0),b,x,y,z):=by
 have h:=Ap CS (fun k=>(l,top,(List.range 32).map (fun j=>if j < k then lfv b0 (gb top j) else []),([]:List Int),((32:Nat):Int),((k:Nat):Int),root,top,top.map (lfv b0),b,x,y,z)) 32
  (l,top,(List.range 32).map (fun j=>if j < 32 then lfv b0 (gb top j) else []),[],root,top,top.map (lfv b0),b,x,y,z) (fun k hk=>by
   have hs:=SE 32 k (fun j=>lfv b0 (gb top j)) (fun _=>([]:List Int))
   have hgt:=F5 32 (fun j=>if j < k then lfv b0 (gb top j) else ([]:List Int)) hk
   have hln:((List.range 32).map (fun j=>if j < k then lfv b0 (gb top j) else ([]:List Int))).length=32:=DD _ _
   have hg:(top.map (lfv b0))[k]?=some (lfv b0 (gb top k)):=by rw [List.getElem?_map,Ak (by omega)]; rfl
   have hl32:=SZ b0 (gb top k)
   generalize (List.range 32).map (fun j=>if j < k then lfv b0 (gb top j) else ([]:List Int))=vs at *
   unfold CS
   dsimp only
   rw [iy (by omega),iy (by omega),Int.toNat_natCast,hg,Option.bind_some,Gg (by omega),Option.bind_some,iy (by omega),hln,iy (by omega),Nat.zero_add,hgt,Option.bind_some,Option.bind_some,Ao (by omega),hs]) (by
   unfold CS
   dsimp only
   rw [ino (by omega)])
 rw [Sw,Sa _ htl] at h
 have e0:List.replicate (Int.toNat 32) ([]:List Int)=(List.range 32).map (fun j=>if j < 0 then lfv b0 (gb top j) else []):=by
  rw [map_none,I2]; rfl
 rw [e0,DD]
 exact h
theorem JC (htl:top.length=32) (hk:Ks l) (hl:l.length≤1000):Ab B6 (top,top.map (lfv b0),[],l,((l.length:Nat):Int),0,root,top,top.map (lfv b0),b,x,y,z) =
  some (top,vls b0 top l,Ee l,root,top,top.map (lfv b0),b,x,y,z):=by
 have h:=Ap B6 (fun i=>(top,(List.range 32).map (av b0 top (l.take i)),pts [] ((l.take i).map qk),l,((l.length:Nat):Int),((i:Nat):Int),root,top,top.map (lfv b0),b,x,y,z)) l.length
  (top,(List.range 32).map (av b0 top (l.take l.length)),pts [] ((l.take l.length).map qk),root,top,top.map (lfv b0),b,x,y,z) (fun i hi=>by
   have hs:=Th hi
   generalize sg l i=s at hs
   have hks:=hk s (List.mem_of_getElem? hs)
   obtain ⟨d1,d2⟩:=Pt hks
   obtain ⟨m1,m2⟩:=Sv hks
   have ha:=SD (b:=b0) (top:=top) hs
   have g2:=F5 32 (av b0 top (l.take i)) d2
   have l2:((List.range 32).map (av b0 top (l.take i))).length=32:=DD _ _
   have hal:=HV b0 top (l.take i) (s.1.toNat / 32)
   have e2:=SM 32 (s.1.toNat / 32) (av b0 top (l.take i)) (av b0 top (l.take (i+1))) (v:=(av b0 top (l.take i) (s.1.toNat / 32)).set (s.1.toNat % 32) s.2)
    (by rw [ha]; unfold upd; rw [if_pos rfl]) (fun k hne=>by rw [ha]; unfold upd; rw [if_neg (Ne.symm hne)])
   have hAr:(av b0 top (l.take i) (s.1.toNat / 32))[s.1.toNat % 32]?=some (gb (av b0 top (l.take i) (s.1.toNat / 32)) (s.1.toNat % 32)):=Ak (by omega)
   have hp:pts [] ((l.take (i+1)).map qk)=pt (pts [] ((l.take i).map qk)) ((s.1.toNat / 32:Nat):Int):=by
    rw [BG hs,List.map_append]
    exact QF _ _ _
   obtain ⟨p1,p2,_⟩:=Kj (z:=[]) (by rw [ris_iff]; exact List.Pairwise.nil) (l:=(l.take i).map qk) (by simp; omega)
   have hpl:(pts [] ((l.take i).map qk)).length≤1048576:=by
    rw [List.length_map,List.length_take] at p2
    simp only [List.length_nil] at p2; omega
   have hin:=(Dt hpl p1 ((s.1.toNat / 32:Nat):Int)).2.1
   generalize (List.range 32).map (av b0 top (l.take i))=vs at *
   unfold B6
   dsimp only
   rw [iy (by omega),iy (by omega),Int.toNat_natCast,hs,Option.bind_some,d1,m1,iy (by omega),iy (by omega),iy (by omega),Nat.zero_add,Int.toNat_natCast,g2,Option.bind_some,iy (by omega),iy (by omega),Option.bind_some,iy (by omega),Option.bind_some,Nat.zero_add,Int.toNat_natCast,hAr,Option.bind_some,Option.bind_some,hAr,Option.bind_some,iy (by omega),hin,Option.bind_some,Ao (by omega),e2,hp]) (by
   unfold B6
   dsimp only
   rw [ino (by omega)])
 rw [List.take_length] at h
 have e0:top.map (lfv b0)=(List.range 32).map (av b0 top (l.take 0)):=by rw [← Sa (lfv b0) htl]; rfl
 have h2:Ab B6 (top,(List.range 32).map (av b0 top (l.take 0)),[],l,((l.length:Nat):Int),0,root,top,top.map (lfv b0),b,x,y,z)=_:=h
 rw [← e0] at h2
 exact h2
end
end Go.V.G
set_option maxRecDepth 100000
namespace Go.V.G
open Go.V
theorem SN {b:Bls} {x y top:List Int} {root:Int} (h:tre b x y root=some top):top.length=32:=by
 unfold tre at h
 split at h
 ·obtain rfl:=Option.some.inj h; simp [zer]
 ·split at h
  ·obtain rfl:=Option.some.inj h; exact KQ _
  ·cases h
theorem VZ (j:Nat):gb zer j=0:=by
 unfold gb zer
 rw [List.getElem?_replicate]
 split <;> rfl
theorem Ad7 {b:Bls} {x y top:List Int} {root:Int} (h:tre b x y root=some top):∀ j,j < 32→gb top j=0∨(pgB b x y (gb top j) 81=true∧nz (B1 (blk b (gb top j).toNat))=true):=by
 intro j hj
 unfold tre at h
 split at h
 ·obtain rfl:=Option.some.inj h; exact .inl (VZ j)
 ·split at h
  ·rename_i hc
   obtain rfl:=Option.some.inj h
   simp only [Bool.and_eq_true] at hc
   have:=all_range.1 hc.2.2 j hj
   unfold stG at this
   simp only [Bool.or_eq_true,Bool.and_eq_true,decide_eq_true_eq] at this
   rcases this with h1 | h1
   ·exact .inl h1
   ·exact .inr ⟨h1.1,h1.2.1⟩
  ·cases h
theorem AdF {b:Bls} {x y top:List Int} {root:Int} (h:tre b x y root=some top):∀ j,j < 32→nz (lfv b (gb top j))=decide (¬ gb top j=0):=by
 intro j hj
 unfold lfv
 rcases Ad7 h j hj with h1 | ⟨_,h2⟩
 ·rw [if_pos h1,decide_eq_false (not_not_intro h1)]; rfl
 ·split
  ·rename_i h1; rw [decide_eq_false (not_not_intro h1)]; rfl
  ·rename_i h1; rw [decide_eq_true h1]; exact h2
theorem Aac {b:Bls} (hu:∀ c∈b,U8s c) (i:Nat):U8s (blk b i):=by
 by_cases h:i < b.length
 ·exact hu _ (DT h)
 ·unfold blk; rw [List.getElem?_eq_none (by omega)]; intro v hv; cases hv
theorem Xa {c:List Int} (h:U8s c):V2 (B1 c):=fun v hv=>by
 unfold B1 at hv
 obtain ⟨k,_,rfl⟩:=List.mem_map.1 hv
 exact Adz h _
theorem Aak:V2 zer:=fun v hv=>by unfold zer at hv; rw [List.eq_of_mem_replicate hv]; omega
theorem AdW {b:Bls} (hu:∀ c∈b,U8s c) (a:Int):V2 (lfv b a):=by
 unfold lfv
 split
 ·exact Aak
 ·exact Xa (Aac hu _)
theorem Aci {b:Bls} {top:List Int} {l:List Kv} (hu:∀ c∈b,U8s c) (hv:∀ s∈l,0≤s.2∧s.2≤65535) (k:Nat):V2 (av b top l k):=by
 unfold av
 have key:∀ (l:List Kv) (v:List Int),V2 v→(∀ s∈l,0≤s.2∧s.2≤65535)→V2 (l.foldl (upd k) v):=by
  intro l
  induction l with
  | nil=>intro v h _; exact h
  | cons s l ih=>
   intro v h hs
   rw [List.foldl_cons]
   refine ih _ ?_ fun s' h'=>hs s' (by simp [h'])
   unfold upd
   split
   ·intro w hw
    rcases List.mem_or_eq_of_mem_set hw with hw | rfl
    ·exact h w hw
    ·exact hs s (by simp)
   ·exact h
 exact key l _ (AdW hu _) hv
theorem ZN {b:Bls} {x y top:List Int} {root:Int} (hu:∀ c∈b,U8s c) (h:tre b x y root=some top):V2 top:=by
 unfold tre at h
 split at h
 ·obtain rfl:=Option.some.inj h; exact Aak
 ·split at h
  ·obtain rfl:=Option.some.inj h; exact Xa (Aac hu _)
  ·cases h
theorem Yv {b:Bls} {x y:List Int} {l:List Kv} (h:Pq b x y l=true):l.length≤64∧Ks l∧(∀ s∈l,s.2=0∨liv b x y s.2=true)∧∀ i,i+1 < l.length→(sg l i).1 < (sg l (i+1)).1:=by
 unfold Pq at h
 simp only [Bool.and_eq_true,decide_eq_true_eq] at h
 obtain ⟨h1,h2⟩:=h
 have key:=all_range.1 h2
 have hg:∀ s∈l,∃ i,i < l.length∧sg l i=s:=fun s hs=>by
  obtain ⟨i,hi,he⟩:=List.getElem_of_mem hs
  exact ⟨i,hi,by unfold sg; rw [List.getElem?_eq_getElem hi,he]; rfl⟩
 refine ⟨h1,fun s hs=>?_,fun s hs=>?_,fun i hi=>?_⟩
 ·obtain ⟨i,hi,rfl⟩:=hg s hs
  have:=key i hi
  unfold SF at this
  simp only [Bool.and_eq_true,decide_eq_true_eq] at this
  exact this.1
 ·obtain ⟨i,hi,rfl⟩:=hg s hs
  have:=key i hi
  unfold SF at this
  simp only [Bool.and_eq_true,Bool.or_eq_true,decide_eq_true_eq] at this
  exact this.2.1
 ·have:=key (i+1) hi
  unfold SF at this
  simp only [Bool.and_eq_true,Bool.or_eq_true,decide_eq_true_eq] at this
  rcases this.2.2 with h3 | h3
  ·omega
  ·exact h3
theorem Aad {b:Bls} {x y:List Int} {v:Int} (hb:b.length≤160) (h:v=0∨liv b x y v=true):0≤v∧v≤65535:=by
 rcases h with rfl | h
 ·omega
 ·obtain ⟨m,rfl,_,h2,_⟩:=Dg h; omega
section
variable {at_:Int} {b:Bls} {x y z go:List Int}
theorem Qf (hy:Ris y) (h:y.length+go.length≤1000000):Ab CQ (at_,go,((go.length:Nat):Int),0,b,x,y,z)=some (at_,b,x,pts y go,z):=by
 have hl:=Ap CQ (fun i=>(at_,go,((go.length:Nat):Int),((i:Nat):Int),b,x,pts y (go.take i),z)) go.length (at_,b,x,pts y (go.take go.length),z) (fun i hi=>by
  have hg:=Ak hi
  have htl:(go.take i).length≤go.length:=by rw [List.length_take]; omega
  obtain ⟨p1,p2,_⟩:=Kj hy (l:=go.take i) (by omega)
  have hin:=(Dt (z:=pts y (go.take i)) (by omega) p1 (gb go i)).2.1
  have hp:pts y (go.take (i+1))=pt (pts y (go.take i)) (gb go i):=by rw [BG hg]; exact QF _ _ _
  unfold CQ Gy
  dsimp only
  rw [iy (by omega),iy (by omega),iy (by omega),Nat.zero_add,Int.toNat_natCast,hg,Option.bind_some,hin,Option.bind_some,Option.bind_some]
  dsimp only
  rw [Ao (by omega),hp]) (by
  unfold CQ
  dsimp only
  rw [ino (by omega)])
 rw [List.take_length] at hl
 exact hl
theorem P6 (hy:Ris y) (h:y.length+go.length≤1000000):Ab DZ (at_,go,((go.length:Nat):Int),0,b,x,y,z)=some (at_,b,x,pts y go,z):=by
 have hl:=Ap DZ (fun i=>(at_,go,((go.length:Nat):Int),((i:Nat):Int),b,x,pts y (go.take i),z)) go.length (at_,b,x,pts y (go.take go.length),z) (fun i hi=>by
  have hg:=Ak hi
  have htl:(go.take i).length≤go.length:=by rw [List.length_take]; omega
  obtain ⟨p1,p2,_⟩:=Kj hy (l:=go.take i) (by omega)
  have hin:=(Dt (z:=pts y (go.take i)) (by omega) p1 (gb go i)).1
  have hp:pts y (go.take (i+1))=pt (pts y (go.take i)) (gb go i):=by rw [BG hg]; exact QF _ _ _
  unfold DZ
  dsimp only
  rw [iy (by omega),iy (by omega),iy (by omega),Nat.zero_add,Int.toNat_natCast,hg,Option.bind_some,hin,Option.bind_some,Ao (by omega),hp]) (by
  unfold DZ
  dsimp only
  rw [ino (by omega)])
 rw [List.take_length] at hl
 exact hl
end
def rtL (root:Int):List Int:=if root=0 then [] else [root]
structure Sk (b:Bls) (x y z top:List Int) (l:List Kv) (root at_:Int) (b':Bls) (x' y' z':List Int):Prop where
 ex:∃ nx b1 x1 z1 q1,Tv b.length b x z top l 32 nx b1 x1 z1 q1∧q1≤191∧cnt x1 b.length+nwC b top l 32=cnt x b.length∧nz nx=anC b top l 32∧
  ((nz nx=false∧at_=0∧b'=b1∧x'=x1∧z'=z1)∨(nz nx=true∧∃ m:Nat,at_=((m:Nat):Int)∧(33≤m∧m < b.length)∧bit x1 m=false∧b'=(b1.set m Bj).set m (AA (pgb 80 nx))∧x'=setB x1 m∧z'=pt (pt z1 ((m:Nat):Int)) ((m:Nat):Int)∧
   Wk b.length b' x' z' (q1+2)∧cnt x' b.length+1=cnt x1 b.length))
 yy:y'=pts y (Bl top l 32++rtL root)
theorem Aej {b b1:Bls} {x y z top nx x1 z1:List Int} {l:List Kv} {root:Int} {q:Nat} (ht:tre b x y root=some top) (h:Tv b.length b x z top l 32 nx b1 x1 z1 q):nz nx=anC b top l 32:=by
 have hone:∀ j,j < 32→nz (av b top l j)=decide (¬ gb nx j=0):=fun j hj=>by
  cases ho:oth l j with
  | false=>rw [U5 ho,AdF ht j hj,h.st j hj (.inr ho)]
  | true=>
   cases hn:nz (av b top l j) with
   | false=>rw [h.dz j hj ho hn]; rfl
   | true=>
    obtain ⟨m,e,hm,_⟩:=h.dn j hj ho hn
    rw [e,decide_eq_true (by omega)]
 have hnl:=h.nl
 unfold nz anC
 cases hA:(List.range 32).any fun j=>nz (av b top l j) with
 | true=>
  obtain ⟨j,hj,hz⟩:=List.any_eq_true.1 hA
  have hj':=List.mem_range.1 hj
  rw [List.any_eq_true]
  rw [hone j hj'] at hz
  exact ⟨gb nx j,List.mem_of_getElem? (Ak (by omega)),hz⟩
 | false=>
  rw [List.any_eq_false] at hA ⊢
  intro v hv
  obtain ⟨j,hj,rfl⟩:=List.getElem_of_mem hv
  have:=hA j (List.mem_range.2 (by omega))
  rw [hone j (by omega)] at this
  unfold gb at this
  rwa [List.getElem?_eq_getElem hj,Option.getD_some] at this
theorem Acl {b b1:Bls} {x z top nx x1 z1:List Int} {l:List Kv} {n q:Nat} (hn:n≤160) (ht:V2 top) (htl:top.length=32) (h:Tv n b x z top l 32 nx b1 x1 z1 q):V2 nx:=by
 intro v hv
 obtain ⟨j,hj,rfl⟩:=List.getElem_of_mem hv
 have hnl:=h.nl
 have e:nx[j]=gb nx j:=by unfold gb; rw [List.getElem?_eq_getElem hj]; rfl
 have hj':j < 32:=by omega
 rw [e]
 cases ho:oth l j with
 | false=>rw [h.st j hj' (.inr ho)]; exact ht _ (List.mem_of_getElem? (Ak (by omega)))
 | true=>
  cases hz:nz (av b top l j) with
  | false=>rw [h.dz j hj' ho hz]; omega
  | true=>obtain ⟨m,e,hm,_⟩:=h.dn j hj' ho hz; rw [e]; omega
theorem AbN {b:Bls} {x y z top:List Int} {l:List Kv} {root:Int} (g:GS b x y z) (h:SB b x y z) (hu:∀ c∈b,U8s c) (hux:U8s x) (ht:tre b x y root=some top) (hs:Pq b x y l=true) (h0:l.length≠0) (hy:Ris y) (hyl:y.length≤1000) :
  (cnt x b.length < ndK b top l∧∃ f,Bb root top (top.map (lfv b)) l b x y z=some (0,false,f))∨
  ∃ at_ b' x' y' z',Sk b x y z top l root at_ b' x' y' z'∧cnt x' b.length+ndK b top l=cnt x b.length∧Bb root top (top.map (lfv b)) l b x y z=some (at_,true,b',x',y',z')∧ED root l b x y z=some (at_,b',x',y',z'):=by
 obtain ⟨hl64,hk,hlv,_⟩:=Yv hs
 have htl:=SN ht
 have htv:=ZN hu ht
 have hb:=g.hb
 have cx:Cx b.length b top l:=⟨hb.2,htl,Aci hu fun s hs=>Aad hb.2 (hlv s hs)⟩
 have hwk:=g.wk hux
 have tv0:Tv b.length b x z top l 0 top b x z 127:=⟨hwk,hu,htl,fun j hj=>absurd hj (by omega),fun j hj=>absurd hj (by omega),fun j _ _=>rfl,fun i j _ hj=>absurd hj (by omega),fun i _ hi=>⟨rfl,hi⟩,fun v hv=>.inl hv,fun i _ _=>rfl⟩
 have hT:Ee l=tl l 0 32:=ZV hk (by omega)
 have hTl:(Ee l).length≤32:=by rw [hT]; exact ZC l 32 0
 have hprel:(rtL root).length≤1:=by unfold rtL; split <;> simp
 have hgl:=MS top l 32
 have hrr:∀ v:Int,Aa (([]:List Int).length+([v]:List Int).length) 8=true:=fun v=>by simp [Aa]
 have hr32:Aa (([]:List Int).length+top.length) 8=true:=by simp only [Aa,decide_eq_true_eq,List.length_nil,htl]; omega
 have hnd:ndK b top l=nwC b top l 32+(if anC b top l 32=true then 1 else 0):=by unfold ndK; rw [if_neg h0]
 have hpreI:∀ r,Ab Av (top,vls b top l,[],Ee l,(((Ee l).length:Nat):Int),0,root,top,top.map (lfv b),b,x,y,z)=some (.inr r)→Bb root top (top.map (lfv b)) l b x y z=some r:=fun r hr=>by
  unfold Bb
  rw [ino (by omega),Gg (by omega),Option.bind_some,iy (by omega),iy (by omega),if_pos Vl,HP htl,Option.bind_some]
  dsimp only
  rw [JC htl hk (by omega),Option.bind_some]
  dsimp only
  rw [hr,Option.bind_some]
 have hold:∀ (at_:Int) (b:Bls) (x y z:List Int),(if (decide (¬ (root:Int)=0))=true then
        if (Aa (List.length (Bl top l 32)+List.length ([root]:List Int)) 8)=true then
        some (Bl top l 32++([root]:List Int),at_,b,x,y,z)
        else none
       else
        some (Bl top l 32,at_,b,x,y,z))=some (Bl top l 32++rtL root,at_,b,x,y,z):=fun at_ b x y z=>by
   unfold rtL
   by_cases hr:root=0
   ·rw [ino (not_not_intro hr),if_pos hr,List.append_nil]
   ·rw [iy hr,if_pos (JO (by omega) _),if_neg hr]
 rcases MB (vals0:=top.map (lfv b)) (y:=y) (T:=Ee l) (pre:=rtL root) (root:=root) cx hTl hprel 32 0 0 top b x z 127 rfl (by rw [List.drop_zero]; exact hT) tv0 (by omega) with ⟨f,e1,e2⟩ | ⟨nx,b1,x1,z1,q1,tv,hq1,hc,e2,e3⟩
 ·refine .inl ⟨?_,f,hpreI _ e2⟩
  have:nwC b top l 0=0:=rfl
  rw [hnd]; omega
 ·have hc':cnt x1 b.length+nwC b top l 32=cnt x b.length:=hc
  have hnn:=Aej ht tv
  have hnv:=Acl hb.2 htv htl tv
  have hnl:=tv.nl
  have hfin:(Bl top l 32).length+(rtL root).length≤100:=by omega
  have hap:(Bl top l 32++rtL root).length≤100:=by rw [List.length_append]; omega
  have hap2:(rtL root++Bl top l 32).length≤100:=by rw [List.length_append]; omega
  have hcomm:pts y (rtL root++Bl top l 32)=pts y (Bl top l 32++rtL root):=Abi hy (by omega)
  have e3':Ab Bi (top,ots l,rtL root,top,lvs b top l,((32:Nat):Int),0,b,x,y,z)=some (rtL root++Bl top l 32,nx,b1,x1,y,z1):=by
   have:=e3
   simp only [Bl,List.append_nil] at this
   exact this
  have hll:((List.range 32).map (aft b top l)).length=32:=DD _ _
  cases hz:nz nx with
  | false=>
   right
   refine ⟨0,b1,x1,_,z1,⟨⟨nx,b1,x1,z1,q1,tv,by omega,hc',hnn,.inl ⟨hz,rfl,rfl,rfl,rfl⟩⟩,rfl⟩,?_,?_,?_⟩
   ·rw [hnd,← hnn,hz,if_neg (by simp)]; omega
   ·unfold Bb
    rw [ino (by omega),Gg (by omega),Option.bind_some,iy (by omega),iy (by omega),if_pos Vl,HP htl,Option.bind_some]
    dsimp only
    rw [JC htl hk (by omega),Option.bind_some]
    dsimp only
    have e2':Ab Av (top,vls b top l,[],Ee l,(((Ee l).length:Nat):Int),0,root,top,top.map (lfv b),b,x,y,z)=_:=e2
    rw [e2',Option.bind_some]
    dsimp only
    rw [Ea (by omega),Option.bind_some,Bool.not_not,hz,if_neg (by simp),Option.bind_some]
    dsimp only
    rw [hold,Option.bind_some]
    dsimp only
    rw [Qf hy (by omega),Option.bind_some]
   ·unfold ED
    rw [ino (by omega),OE (g.rs h hu),ht,Option.bind_some,R6 (g.rs h hu) ht htl hk (by omega),Option.bind_some]
    unfold trS
    dsimp only
    have hgo0:(if (decide (¬ (root:Int)=0))=true then
     if (Aa (List.length ([]:List Int)+List.length ([root]:List Int)) 8)=true then
     some (top,(List.range 32).map (aft b top l),(List.range 32).map (oth l),([]:List Int)++([root]:List Int),b,x,y,z)
     else none
     else some (top,(List.range 32).map (aft b top l),(List.range 32).map (oth l),[],b,x,y,z))=some (top,(List.range 32).map (aft b top l),(List.range 32).map (oth l),rtL root,b,x,y,z):=by
     unfold rtL
     by_cases hr:root=0
     ·rw [ino (not_not_intro hr),if_pos hr]
     ·rw [iy hr,if_pos (hrr root),if_neg hr,List.nil_append]
    rw [hgo0,Option.bind_some]
    dsimp only
    rw [if_pos hr32,List.nil_append,hll,e3',Option.bind_some]
    dsimp only
    rw [Ik (by omega),Option.bind_some,hz,if_neg (by simp),Option.bind_some]
    dsimp only
    rw [P6 hy (by omega),Option.bind_some,hcomm]
  | true=>
   rcases RZ (y:=y) tv.wk (by omega) with ⟨c0,hi⟩ | ⟨m,hm,hbm,hts,hti,hw,hcm⟩
   ·refine .inl ⟨?_,(b1,x1,y,z1),?_⟩
    ·rw [hnd,← hnn,hz,if_pos rfl]; omega
    ·unfold Bb
     rw [ino (by omega),Gg (by omega),Option.bind_some,iy (by omega),iy (by omega),if_pos Vl,HP htl,Option.bind_some]
     dsimp only
     rw [JC htl hk (by omega),Option.bind_some]
     dsimp only
     have e2':Ab Av (top,vls b top l,[],Ee l,(((Ee l).length:Nat):Int),0,root,top,top.map (lfv b),b,x,y,z)=_:=e2
     rw [e2',Option.bind_some]
     dsimp only
     rw [Ea (by omega),Option.bind_some,Bool.not_not,hz,if_pos rfl,hi,Option.bind_some]
     dsimp only
     rw [if_pos (by simp),Option.bind_some]
   ·right
    have hbl:=tv.wk.hb
    have hzl:=hw.hz
    have hp1:=Ou (b:=b1.set m Bj) (x:=setB x1 m) (y:=y) (kind:=80) (m:=m) hnl hnv (by rw [List.length_set]; omega) (show (pt z1 ((m:Nat):Int)).length≤1048576 by omega) hw.hr
    have hp2:=Rr (b:=b1.set m Bj) (x:=setB x1 m) (y:=y) (kind:=80) (m:=m) hnl hnv (by rw [List.length_set]; omega) (show (pt z1 ((m:Nat):Int)).length≤1048576 by omega) hw.hr
    have hpl:=L1 80 hnl
    have hw2:=hw.lay (by omega) (EZ (d:=pgb 80 nx) (by omega)) m
    refine ⟨_,_,_,_,_,⟨⟨nx,b1,x1,z1,q1,tv,by omega,hc',hnn,.inr ⟨hz,m,rfl,hm,hbm,rfl,rfl,rfl,hw2,hcm⟩⟩,rfl⟩,?_,?_,?_⟩
    ·rw [hnd,← hnn,hz,if_pos rfl]; omega
    ·unfold Bb
     rw [ino (by omega),Gg (by omega),Option.bind_some,iy (by omega),iy (by omega),if_pos Vl,HP htl,Option.bind_some]
     dsimp only
     rw [JC htl hk (by omega),Option.bind_some]
     dsimp only
     have e2':Ab Av (top,vls b top l,[],Ee l,(((Ee l).length:Nat):Int),0,root,top,top.map (lfv b),b,x,y,z)=_:=e2
     rw [e2',Option.bind_some]
     dsimp only
     rw [Ea (by omega),Option.bind_some,Bool.not_not,hz,if_pos rfl,hti,Option.bind_some]
     dsimp only
     rw [if_neg (by simp),hp1,Option.bind_some,Option.bind_some]
     dsimp only
     rw [hold,Option.bind_some]
     dsimp only
     rw [Qf hy (by omega),Option.bind_some]
    ·unfold ED
     rw [ino (by omega),OE (g.rs h hu),ht,Option.bind_some,R6 (g.rs h hu) ht htl hk (by omega),Option.bind_some]
     unfold trS
     dsimp only
     have hgo0:(if (decide (¬ (root:Int)=0))=true then
      if (Aa (List.length ([]:List Int)+List.length ([root]:List Int)) 8)=true then
      some (top,(List.range 32).map (aft b top l),(List.range 32).map (oth l),([]:List Int)++([root]:List Int),b,x,y,z)
      else none
      else some (top,(List.range 32).map (aft b top l),(List.range 32).map (oth l),[],b,x,y,z))=some (top,(List.range 32).map (aft b top l),(List.range 32).map (oth l),rtL root,b,x,y,z):=by
      unfold rtL
      by_cases hr:root=0
      ·rw [ino (not_not_intro hr),if_pos hr]
      ·rw [iy hr,if_pos (hrr root),if_neg hr,List.nil_append]
     rw [hgo0,Option.bind_some]
     dsimp only
     rw [if_pos hr32,List.nil_append,hll,e3',Option.bind_some]
     dsimp only
     rw [Ik (by omega),Option.bind_some,hz,if_pos rfl,hts,Option.bind_some]
     dsimp only
     rw [hp2,Option.bind_some,Option.bind_some]
     dsimp only
     rw [P6 hy (by omega),Option.bind_some,hcomm]
theorem Sk.wk {b b':Bls} {x y z top x' y' z':List Int} {l:List Kv} {root at_:Int} (s:Sk b x y z top l root at_ b' x' y' z'):Wk b.length b' x' z' 200:=by
 obtain ⟨nx,b1,x1,z1,q1,tv,hq,_,_,h⟩:=s.ex
 rcases h with ⟨_,_,rfl,rfl,rfl⟩ | ⟨_,m,_,_,_,_,_,_,hw,_⟩
 ·have:=tv.wk
  exact ⟨this.hn,this.hb,this.hk,this.hx,this.hu,this.hlow,this.hr,by have:=this.hz; omega⟩
 ·exact ⟨hw.hn,hw.hb,hw.hk,hw.hx,hw.hu,hw.hlow,hw.hr,by have:=hw.hz; omega⟩
theorem Sk.yl {b b':Bls} {x y z top x' y' z':List Int} {l:List Kv} {root at_:Int} (s:Sk b x y z top l root at_ b' x' y' z') (hy:Ris y) (hyl:y.length≤1000):Ris y'∧y'.length≤1100∧∀ v,v∈y'↔v∈y∨v∈Bl top l 32++rtL root:=by
 have h1:=MS top l 32
 have h2:(rtL root).length≤1:=by unfold rtL; split <;> simp
 have h3:(Bl top l 32++rtL root).length≤33:=by rw [List.length_append]; omega
 obtain ⟨p1,p2,p3⟩:=Kj hy (l:=Bl top l 32++rtL root) (by omega)
 rw [s.yy]
 exact ⟨p1,by omega,p3⟩
theorem GS.ylen {b:Bls} {x y z:List Int} (g:GS b x y z):Ris y∧y.length≤127:=by
 have hb:=g.hb
 have hyr:=(FI g.hy).1
 exact ⟨hyr,Pv hyr fun i hi=>by have:=(FI g.hy).2 i hi; omega⟩
end Go.V.G
set_option maxRecDepth 100000
namespace Go.V.G
open Go.V
theorem Yt {n q:Nat} {b b2:Bls} {x x2 y z z2:List Int} (g:GS b x y z) (hn:b.length=n) (wk:Wk n b2 x2 z2 q) (up:∀ i,i < 160→bit x i=true→bit x2 i=true)
  (hi:∀ i,n≤i→i < 160→bit x2 i=bit x i) (zm:∀ v∈z2,v∈z∨(33≤v∧v < (n:Int)∧bit x2 v.toNat=true)):GS b2 x2 y z2:=by
 have hb:=wk.hb
 have hn2:=wk.hn
 obtain ⟨r1,_⟩:=FI g.hy
 have m1:=E5 g.hy
 have m2:=E5 g.hz
 refine ⟨by omega,wk.hx,wk.hk,fun i hi160=>?_,L8 r1 fun v hv=>?_,L8 wk.hr fun v hv=>?_⟩
 ·unfold bG
  by_cases h1:i < 33
  ·rw [wk.hlow i h1,decide_eq_true h1,decide_eq_false (show ¬ b2.length≤i by omega)]; rfl
  ·rw [decide_eq_false h1]
   by_cases h2:b2.length≤i
   ·have:=g.hbits i hi160
    unfold bG at this
    rw [decide_eq_false h1,decide_eq_true (show b.length≤i by omega)] at this
    rw [hi i (by omega) hi160,decide_eq_true h2]
    exact this
   ·rw [decide_eq_false h2]; rfl
 ·obtain ⟨p1,p2,p3⟩:=m1 v hv
  exact ⟨p1,by omega,up _ (by omega) p3⟩
 ·rcases zm v hv with hv | ⟨p1,p2,p3⟩
  ·obtain ⟨p1,p2,p3⟩:=m2 v hv
   exact ⟨p1,by omega,up _ (by omega) p3⟩
  ·exact ⟨p1,by omega,p3⟩
theorem Lr.gs {b b2:Bls} {x y z data l x2 z2:List Int} (h:Lr b.length b x z data l b2 x2 z2) (g:GS b x y z):GS b2 x2 y z2:=by
 have hn:=h.wk.hn
 refine Yt g rfl h.wk h.up (fun i hi hi2=>?_) fun v hv=>?_
 ·refine (h.oth i hi2 fun hh=>?_).2
  obtain ⟨j,hj,he⟩:=List.getElem_of_mem hh
  obtain ⟨k,e,hk,_⟩:=h.at_ j hj
  rw [List.getElem?_eq_getElem hj] at e
  have:=Option.some.inj e
  omega
 ·rcases h.zm v hv with hv | hv
  ·exact .inl hv
  ·right
   obtain ⟨j,hj,he⟩:=List.getElem_of_mem hv
   obtain ⟨k,e,hk,_,p,_⟩:=h.at_ j hj
   rw [List.getElem?_eq_getElem hj,he] at e
   have e':=Option.some.inj e
   subst e'
   exact ⟨by omega,by omega,by rw [Int.toNat_natCast]; exact p⟩
theorem Lt.gs {b b2:Bls} {x y z sh A x2 z2:List Int} {ps:List (List UInt8)} {r q:Nat} (h:Lt b.length b x z sh ps A r b2 x2 z2 q) (g:GS b x y z):GS b2 x2 y z2:=by
 have hn:=h.wk.hn
 have hlen:=h.len
 obtain ⟨⟨r1,r2⟩,_,r4,_⟩:=h.rt
 have hA:∀ v∈A,∃ k:Nat,v=((k:Nat):Int)∧(33≤k∧k < b.length)∧bit x2 k=true:=fun v hv=>by
  obtain ⟨j,hj,he⟩:=List.getElem_of_mem hv
  obtain ⟨k,e,hk,p,_⟩:=h.at_ j (by omega)
  rw [List.getElem?_eq_getElem hj,he] at e
  exact ⟨k,Option.some.inj e,hk,p⟩
 refine Yt g rfl h.wk h.up (fun i hi hi2=>?_) fun v hv=>?_
 ·refine (h.oth i hi2 (fun hh=>?_) (by omega)).2
  obtain ⟨k,e,hk,_⟩:=hA _ hh
  omega
 ·rcases h.zm v hv with hv | hv | rfl
  ·exact .inl hv
  ·right
   obtain ⟨k,rfl,hk,p⟩:=hA v hv
   exact ⟨by omega,by omega,by rw [Int.toNat_natCast]; exact p⟩
  ·exact .inr ⟨by omega,by omega,by rw [Int.toNat_natCast]; exact r4⟩
theorem AdU {a b:List Int} {i:Nat} (h:i < a.length):gb (a++b) i=gb a i:=by unfold gb; rw [List.getElem?_append_left h]
theorem Lt.mem {n q r:Nat} {b b2:Bls} {x z sh A x2 z2:List Int} {ps:List (List UInt8)} (h:Lt n b x z sh ps A r b2 x2 z2 q) {a:Int} (ha:a∈A):∃ j,j < ps.length∧A[j]?=some a:=by
 obtain ⟨j,hj,he⟩:=List.getElem_of_mem ha
 have:=h.len
 exact ⟨j,by omega,by rw [List.getElem?_eq_getElem hj,he]⟩
end Go.V.G
set_option maxRecDepth 100000
namespace Go.V.G
open Go.V
inductive Atom where
 | ins (b:UInt8)
 | keep
 | drop
 deriving DecidableEq
def mk (f:Bool):Atom:=if f=true then .keep else .drop
def pa (p:Prt):List Atom:=p.2.2.map Atom.ins++List.replicate (p.1+p.2.1).toNat (mk (decide (0 < p.1)))
def Aed (c:List Prt):List Atom:=c.flatMap pa
def U6:List Atom→List Bool
 | []=>[]
 | .ins _::l=>U6 l
 | .keep::l=>true::U6 l
 | .drop::l=>false::U6 l
def AaS (b:UInt8):List (List UInt8)→List (List UInt8)
 | p::ps=>(b::p)::ps
 | []=>[[b]]
def V3:List Atom→List (List UInt8)
 | []=>[[]]
 | .ins b::l=>AaS b (V3 l)
 | .keep::l=>[]::V3 l
 | .drop::l=>[]::V3 l
end Go.V.G
namespace Go.V
theorem AT (g off n:Nat):(⟨g,off,none⟩:Addr).add n=⟨g,off+n,none⟩:=by
 unfold Addr.add; split
 ·subst_vars; rfl
 ·rfl
theorem add_add (a:Addr) (i j:Nat):(a.add i).add j=a.add (i+j):=by
 unfold Addr.add
 by_cases hi:i=0
 ·subst hi; simp
 ·by_cases hj:j=0
  ·subst hj; simp [hi]
  ·have:¬ (i+j=0):=by omega
   simp only [hi,hj,this,if_false]
   congr 1; omega
theorem AV {w:World} {g:Nat} {cs:Array Value} {e:TypeId} {fr:Nat×Nat} (h:w.heap[g]?=some (.cells cs e fr)) (i:Nat):w.cell? ⟨g,i,none⟩=cs[i]?:=by
 unfold World.cell?; rw [h]; rfl
theorem C3 {w:World} {g:Nat} {cs:Array Value} {e:TypeId} {fr:Nat×Nat} (h:w.heap[g]?=some (.cells cs e fr)) (hf:∀ i,i < cs.size→¬ (fr.1≤i∧i < fr.2)) {i:Nat} (hi:i < cs.size):w.frozen? ⟨g,i,none⟩=false:=by
 unfold World.frozen?; rw [h]
 have:=hf i hi
 simp only [Bool.and_eq_false_iff,decide_eq_false_iff_not]
 omega
theorem LG {w:World} {g:Nat} {cs:Array Value} {e:TypeId} {fr:Nat×Nat} (h:w.heap[g]?=some (.cells cs e fr)) (i:Nat) (v:Value) :
  (w.setCell ⟨g,i,none⟩ v).heap[g]?=some (.cells (cs.setIfInBounds i v) e fr):=by
 simp only [World.setCell,Array.getElem?_modify,if_true,h,Option.map_some]
 rfl
theorem DB {w:World} {g:Nat} {o:Obj} (h:w.heap[g]?=some o):g < w.heap.size:=(Array.getElem?_eq_some_iff.1 h).1
def RpL {α:Type} (p:α→List Value→List Nat→Prop):List α→List Value→List Nat→Prop
 | [],vs,F=>vs=[]∧F=[]
 | x::xs,vs,F=>∃ v1 v2 F1 F2,vs=v1++v2∧F=F1++F2∧p x v1 F1∧RpL p xs v2 F2
def NF (fr:Nat×Nat) (n:Nat):Prop:=∀ i,i < n→¬ (fr.1≤i∧i < fr.2)
structure NFt (r:Ty) (fr:Nat×Nat) (n:Nat):Prop where
 nf:NF fr n
 at':r≠.int .u8→¬ (fr.1≤n∧n < fr.2)
 le:r=.int .i64→n≤9223372036854775807
theorem NFt.zero (r:Ty) {n:Nat} (h:r=.int .i64→n≤9223372036854775807):NFt r (0,0) n:=⟨fun i _ hx=>by simp at hx,fun _ hx=>by simp at hx,h⟩
def ErV:Bool→Value→Prop
 | false,v=>v=.nilIface
 | true,v=>∃ te pe,v=.iface te pe
def Rp (w:World) (K:Nat→Prop):(t:Ty)→t.D→List Value→List Nat→Prop
 | .int k,n,vs,F=>vs=[.int k n]∧F=[]
 | .bool,b,vs,F=>vs=[.bool b]∧F=[]
 | .str,s,vs,F=>vs=[.string ⟨s.toArray⟩]∧F=[]
 | .er,b,vs,F=>∃ v,vs=[v]∧F=[]∧ErV b v
 | .lp,_,_,_=>False
 | .unit,_,vs,F=>vs=[]∧F=[]
 | .pair a b,x,vs,F=>∃ v1 v2 F1 F2,vs=v1++v2∧F=F1++F2∧Rp w K a x.1 v1 F1∧Rp w K b x.2 v2 F2
 | .sl true e r,xs,vs,F=>(xs=[]∧F=[]∧vs=[.slice none 0 0])∨
   ∃ g off c cs fr F',vs=[.slice (some ⟨g,off,none⟩) (List.length xs) c]∧F=g::F'∧w.heap[g]?=some (.cells cs e fr)∧NFt r fr cs.size∧
    off+c * r.size≤cs.size∧List.length xs≤c∧RpL (Rp w K r) xs ((cs.toList.drop off).take (List.length xs * r.size)) F'
 | .pt t,o,vs,F=>F=[]∧match o with
  | none=>vs=[.pointer none]
  | some x=>∃ ad ws,vs=[.pointer (some ad)]∧Rp w K t x ws []∧K ad.block∧ad.block < w.heap.size∧∀ j,j < ws.length→w.cell? (ad.add j)=ws[j]?
 | .sl false _ r,xs,vs,F=>F=[]∧∃ A c ws,vs=[.slice A (List.length xs) c]∧List.length xs≤c∧RpL (Rp w K r) xs ws []∧
   (xs=[]∨∃ ad,A=some ad∧K ad.block∧ad.block < w.heap.size∧∀ j,j < ws.length→w.cell? (ad.add j)=ws[j]?)
section
variable {α:Type} {p q:α→List Value→List Nat→Prop}
theorem RpL.mono (h:∀ x vs F,p x vs F→q x vs F):∀ {xs:List α} {vs F},RpL p xs vs F→RpL q xs vs F
 | [],_,_,hx=>hx
 | _::_,_,_,⟨v1,v2,F1,F2,e1,e2,h1,h2⟩=>⟨v1,v2,F1,F2,e1,e2,h _ _ _ h1,RpL.mono h h2⟩
theorem RpL.len {n:Nat} (h:∀ x vs F,p x vs F→vs.length=n):∀ {xs:List α} {vs F},RpL p xs vs F→vs.length=xs.length * n
 | [],_,_,⟨e,_⟩=>by subst e; simp
 | x::xs,_,_,⟨v1,v2,F1,F2,e1,_,h1,h2⟩=>by
  have a:=h _ _ _ h1; have b:=RpL.len h h2
  subst e1
  simp only [List.length_append,List.length_cons,a,b,Nat.succ_mul]; omega
theorem RpL.append:∀ {xs ys:List α} {vs ws F G},RpL p xs vs F→RpL p ys ws G→RpL p (xs++ys) (vs++ws) (F++G)
 | [],_,_,_,_,_,⟨e1,e2⟩,h=>by subst e1 e2; exact h
 | _::_,_,_,_,_,_,⟨v1,v2,F1,F2,e1,e2,h1,h2⟩,h=>by
  subst e1 e2
  exact ⟨v1,_,F1,_,List.append_assoc ..,List.append_assoc ..,h1,RpL.append h2 h⟩
theorem RpL.split:∀ {xs ys:List α} {vs F},RpL p (xs++ys) vs F→∃ v1 v2 F1 F2,vs=v1++v2∧F=F1++F2∧RpL p xs v1 F1∧RpL p ys v2 F2
 | [],_,vs,F,h=>⟨[],vs,[],F,rfl,rfl,⟨rfl,rfl⟩,h⟩
 | _::_,_,_,_,⟨v1,v2,F1,F2,e1,e2,h1,h2⟩=>by
  obtain ⟨a,b,c,d,e3,e4,h3,h4⟩:=RpL.split h2
  subst e1 e2 e3 e4
  exact ⟨v1++a,b,F1++c,d,(List.append_assoc ..).symm,(List.append_assoc ..).symm,⟨v1,a,F1,c,rfl,rfl,h1,h3⟩,h4⟩
theorem RpL.get {n:Nat} (hn:∀ x vs F,p x vs F→vs.length=n):∀ {xs:List α} {vs F} {i:Nat} {x:α},RpL p xs vs F→xs[i]?=some x→
  ∃ v1 v v2 F1 G F2,vs=v1++(v++v2)∧v1.length=i * n∧F=F1++(G++F2)∧p x v G∧
   RpL p (xs.take i) v1 F1∧RpL p (xs.drop (i+1)) v2 F2
 | [],_,_,i,_,_,hi=>by simp at hi
 | y::ys,_,_,0,x,⟨v1,v2,F1,F2,e1,e2,h1,h2⟩,hi=>by
  simp only [List.getElem?_cons_zero,Option.some.injEq] at hi
  subst hi e1 e2
  exact ⟨[],v1,v2,[],F1,F2,rfl,by simp,rfl,h1,⟨rfl,rfl⟩,h2⟩
 | y::ys,_,_,i+1,x,⟨v1,v2,F1,F2,e1,e2,h1,h2⟩,hi=>by
  simp only [List.getElem?_cons_succ] at hi
  obtain ⟨a,v,b,G1,G,G2,e3,hl,e4,hp,ht,hd⟩:=RpL.get hn h2 hi
  subst e1 e2 e3 e4
  refine ⟨v1++a,v,b,F1++G1,G,G2,by simp,?_,by simp,hp,⟨v1,a,F1,G1,rfl,rfl,h1,ht⟩,by simpa using hd⟩
  rw [List.length_append,hn _ _ _ h1,hl,Nat.succ_mul]; omega
theorem RpL.set {xs:List α} {i:Nat} {x y:α} (hi:xs[i]?=some x) {v1 v2 v F1 F2 G} (ht:RpL p (xs.take i) v1 F1) (hd:RpL p (xs.drop (i+1)) v2 F2) (hy:p y v G) :
  RpL p (xs.set i y) (v1++(v++v2)) (F1++(G++F2)):=by
 have hlt:i < xs.length:=(List.getElem?_eq_some_iff.1 hi).1
 rw [List.set_eq_take_append_cons_drop,if_pos hlt]
 exact RpL.append ht ⟨v,v2,G,F2,rfl,rfl,hy,hd⟩
end
theorem Rp.len {w:World} {K:Nat→Prop}:∀ (t:Ty) (x:t.D) {vs F},Rp w K t x vs F→vs.length=t.size
 | .int _,_,_,_,h=>by simp only [Rp] at h; simp [h.1,Ty.size]
 | .bool,_,_,_,h=>by simp only [Rp] at h; simp [h.1,Ty.size]
 | .er,_,_,_,h=>by simp only [Rp] at h; obtain ⟨v,rfl,_⟩:=h; simp [Ty.size]
 | .lp,_,_,_,h=>by simp only [Rp] at h
 | .str,_,_,_,h=>by simp only [Rp] at h; simp [h.1,Ty.size]
 | .unit,_,_,_,h=>by simp only [Rp] at h; simp [h.1,Ty.size]
 | .pair a b,x,_,_,h=>by
  simp only [Rp] at h
  obtain ⟨v1,v2,F1,F2,rfl,_,h1,h2⟩:=h
  simp [Ty.size,Rp.len a _ h1,Rp.len b _ h2]
 | .sl true _ r,_,_,_,h=>by
  simp only [Rp] at h
  rcases h with ⟨_,_,rfl⟩ | ⟨g,off,c,cs,fr,F',rfl,_⟩ <;> simp [Ty.size]
 | .sl false _ r,_,_,_,h=>by
  simp only [Rp] at h
  obtain ⟨_,A,c,ws,rfl,_⟩:=h
  simp [Ty.size]
 | .pt t,o,_,_,h=>by
  simp only [Rp] at h
  cases o with
  | none=>simp [h.2,Ty.size]
  | some x=>obtain ⟨_,ad,ws,rfl,_⟩:=h; simp [Ty.size]
def CV (w w':World) (F:List Nat):Prop:=∀ g∈F,w'.heap[g]?=w.heap[g]?
def KSame (w w':World) (K K':Nat→Prop):Prop:=w.heap.size≤w'.heap.size∧∀ g,K g→g < w.heap.size→w'.heap[g]?=w.heap[g]?∧K' g
theorem KSame.refl (w:World) (K:Nat→Prop):KSame w w K K:=⟨Nat.le_refl _,fun _ h _=>⟨rfl,h⟩⟩
theorem KZ {w w':World} {a:Addr} (h:w'.heap[a.block]?=w.heap[a.block]?):w'.cell? a=w.cell? a:=by
 unfold World.cell?; rw [h]
theorem C9 (a:Addr) (n:Nat):(a.add n).block=a.block:=by unfold Addr.add; split <;> rfl
theorem Rp.frame {w w':World} {K K':Nat→Prop} (hK:KSame w w' K K'):∀ (t:Ty) (x:t.D) {vs F},Rp w K t x vs F→CV w w' F→Rp w' K' t x vs F
 | .int _,_,_,_,h,_=>by simp only [Rp] at h ⊢; exact h
 | .bool,_,_,_,h,_=>by simp only [Rp] at h ⊢; exact h
 | .er,_,_,_,h,_=>by simp only [Rp] at h ⊢; exact h
 | .lp,_,_,_,h,_=>by simp only [Rp] at h
 | .str,_,_,_,h,_=>by simp only [Rp] at h ⊢; exact h
 | .unit,_,_,_,h,_=>by simp only [Rp] at h ⊢; exact h
 | .pair a b,x,_,_,h,hF=>by
  simp only [Rp] at h ⊢
  obtain ⟨v1,v2,F1,F2,rfl,rfl,h1,h2⟩:=h
  exact ⟨v1,v2,F1,F2,rfl,rfl,Rp.frame hK a _ h1 fun g hg=>hF g (by simp [hg]),Rp.frame hK b _ h2 fun g hg=>hF g (by simp [hg])⟩
 | .sl true _ r,xs,_,_,h,hF=>by
  simp only [Rp] at h ⊢
  rcases h with h | ⟨g,off,c,cs,fr,F',rfl,rfl,hh,hn,hc,hl,hr⟩
  ·exact .inl h
  ·refine .inr ⟨g,off,c,cs,fr,F',rfl,rfl,by rw [hF g (by simp)]; exact hh,hn,hc,hl,?_⟩
   have key:∀ (ys:List r.D) (us:List Value) (G:List Nat),CV w w' G→RpL (Rp w K r) ys us G→RpL (Rp w' K' r) ys us G:=by
    intro ys
    induction ys with
    | nil=>intro us G _ h; exact h
    | cons y ys ih=>
     rintro us G hG ⟨v1,v2,F1,F2,rfl,rfl,h1,h2⟩
     exact ⟨v1,v2,F1,F2,rfl,rfl,Rp.frame hK r y h1 fun g hg=>hG g (by simp [hg]),ih _ _ (fun g hg=>hG g (by simp [hg])) h2⟩
   exact key _ _ _ (fun g hg=>hF g (by simp [hg])) hr
 | .sl false _ r,xs,_,_,h,_=>by
  simp only [Rp] at h ⊢
  obtain ⟨rfl,A,c,ws,rfl,hle,hr,hx⟩:=h
  refine ⟨rfl,A,c,ws,rfl,hle,?_,?_⟩
  ·have key:∀ (ys:List r.D) (us:List Value) (G:List Nat),CV w w' G→RpL (Rp w K r) ys us G→RpL (Rp w' K' r) ys us G:=by
    intro ys
    induction ys with
    | nil=>intro us G _ h; exact h
    | cons y ys ih=>
     rintro us G hG ⟨v1,v2,F1,F2,rfl,rfl,h1,h2⟩
     exact ⟨v1,v2,F1,F2,rfl,rfl,Rp.frame hK r y h1 fun g hg=>hG g (by simp [hg]),ih _ _ (fun g hg=>hG g (by simp [hg])) h2⟩
   exact key _ _ _ (fun g hg=>by cases hg) hr
  ·rcases hx with hx | ⟨ad,e,h1,h2,h3⟩
   ·exact .inl hx
   ·obtain ⟨h4,h5⟩:=hK.2 _ h1 h2
    exact .inr ⟨ad,e,h5,Nat.lt_of_lt_of_le h2 hK.1,fun j hj=>(KZ (w:=w) (w':=w') (a:=ad.add j) (by rw [C9]; exact h4)).trans (h3 j hj)⟩
 | .pt t,o,_,_,h,_=>by
  simp only [Rp] at h ⊢
  refine ⟨h.1,?_⟩
  cases o with
  | none=>exact h.2
  | some x=>
   obtain ⟨ad,ws,e,h0,h1,h2,h3⟩:=h.2
   obtain ⟨h4,h5⟩:=hK.2 _ h1 h2
   exact ⟨ad,ws,e,Rp.frame hK t x h0 (fun g hg=>by cases hg),h5,Nat.lt_of_lt_of_le h2 hK.1,fun j hj=>(KZ (w:=w) (w':=w') (a:=ad.add j) (by rw [C9]; exact h4)).trans (h3 j hj)⟩
theorem RpL.frame {w w':World} {K K':Nat→Prop} (hK:KSame w w' K K') (r:Ty):∀ (ys:List r.D) (us:List Value) (G:List Nat),CV w w' G→RpL (Rp w K r) ys us G→RpL (Rp w' K' r) ys us G:=by
 intro ys
 induction ys with
 | nil=>intro us G _ h; exact h
 | cons y ys ih=>
  rintro us G hG ⟨v1,v2,F1,F2,rfl,rfl,h1,h2⟩
  exact ⟨v1,v2,F1,F2,rfl,rfl,Rp.frame hK r y h1 fun g hg=>hG g (by simp [hg]),ih _ _ (fun g hg=>hG g (by simp [hg])) h2⟩
theorem Z6 {w:World} {K:Nat→Prop} {t:Ty} {x:t.D} {vs F} (hs:t.size=1) (h:Rp w K t x vs F):∃ v,vs=[v]:=by
 have:=Rp.len t x h
 rw [hs] at this
 match vs,this with
 | [v],_=>exact ⟨v,rfl⟩
theorem VP {t:Ty} {x z:t.D} (hp:∀ a b,t≠.pair a b) (hu:t≠.unit) {u:Ty} {zz:u.D} {y:t.D} (h:setCell t x 0 u zz=some y):∃ e:u=t,y=e ▸ zz:=by
 cases t with
 | pair a b=>exact absurd rfl (hp a b)
 | unit=>exact absurd rfl hu
 | lp=>simp [setCell] at h
 | _=>simp only [setCell] at h; split at h <;> simp_all
theorem Rp.cell {w:World} {K:Nat→Prop}:∀ (t:Ty) (x:t.D) (j:Nat) {c:(u:Ty)×u.D} {vs F},Rp w K t x vs F→As t x j=some c→
  ∃ pre v post Fa G Fb,vs=pre++([v]++post)∧pre.length=j∧F=Fa++(G++Fb)∧Rp w K c.1 c.2 [v] G∧
   ∀ (w':World) (K':Nat→Prop) (y:c.1.D) (v':Value) (G':List Nat) (x':t.D),setCell t x j c.1 y=some x'→Rp w' K' c.1 y [v'] G'→KSame w w' K K'→
    CV w w' Fa→CV w w' Fb→Rp w' K' t x' (pre++([v']++post)) (Fa++(G'++Fb))
 | .pair a b,(x,y),j,c,vs,F,h,hc=>by
  simp only [Rp] at h
  obtain ⟨v1,v2,F1,F2,rfl,rfl,h1,h2⟩:=h
  have l1:=Rp.len a _ h1
  simp only [As] at hc
  split at hc
  ·rename_i hj
   obtain ⟨pre,v,post,Fa,G,Fb,rfl,hl,rfl,hv,hset⟩:=Rp.cell a x j h1 hc
   refine ⟨pre,v,post++v2,Fa,G,Fb++F2,by simp,hl,by simp,hv,?_⟩
   intro w' K' z v' G' x' hs hz hK sa sb
   simp only [setCell,if_pos hj,Option.map_eq_some_iff] at hs
   obtain ⟨xa,hxa,rfl⟩:=hs
   simp only [Rp]
   refine ⟨pre++([v']++post),v2,Fa++(G'++Fb),F2,by simp,by simp,hset w' K' z v' G' xa hxa hz hK sa (fun g hg=>sb g (by simp [hg])),?_⟩
   exact Rp.frame hK b _ h2 fun g hg=>sb g (by simp [hg])
  ·rename_i hj
   obtain ⟨pre,v,post,Fa,G,Fb,rfl,hl,rfl,hv,hset⟩:=Rp.cell b y _ h2 hc
   refine ⟨v1++pre,v,post,F1++Fa,G,Fb,by simp,by rw [List.length_append]; omega,by simp,hv,?_⟩
   intro w' K' z v' G' x' hs hz hK sa sb
   simp only [setCell,if_neg hj,Option.map_eq_some_iff] at hs
   obtain ⟨xb,hxb,rfl⟩:=hs
   simp only [Rp]
   refine ⟨v1,pre++([v']++post),F1,Fa++(G'++Fb),by simp,by simp,?_,hset w' K' z v' G' xb hxb hz hK (fun g hg=>sa g (by simp [hg])) sb⟩
   exact Rp.frame hK a _ h1 fun g hg=>sa g (by simp [hg])
 | .unit,_,_,_,_,_,_,hc=>by simp [As] at hc
 | .int k,x,j,c,vs,F,h,hc=>leafCase (fun _ _=>by simp) (by simp) rfl h hc (by cases j <;> simp [As] at hc ⊢)
 | .bool,x,j,c,vs,F,h,hc=>leafCase (fun _ _=>by simp) (by simp) rfl h hc (by cases j <;> simp [As] at hc ⊢)
 | .lp,_,_,_,_,_,h,_=>by simp only [Rp] at h
 | .er,x,j,c,vs,F,h,hc=>leafCase (fun _ _=>by simp) (by simp) rfl h hc (by cases j <;> simp [As] at hc ⊢)
 | .pt t,x,j,c,vs,F,h,hc=>leafCase (fun _ _=>by simp) (by simp) rfl h hc (by cases j <;> simp [As] at hc ⊢)
 | .str,x,j,c,vs,F,h,hc=>leafCase (fun _ _=>by simp) (by simp) rfl h hc (by cases j <;> simp [As] at hc ⊢)
 | .sl o e r,x,j,c,vs,F,h,hc=>leafCase (fun _ _=>by simp) (by simp) rfl h hc (by cases j <;> simp [As] at hc ⊢)
where
 leafCase {w:World} {K:Nat→Prop} {t:Ty} {x:t.D} {j:Nat} {c:(u:Ty)×u.D} {vs F} (hp:∀ a b,t≠.pair a b) (hu:t≠.unit) (hs:t.size=1)
   (h:Rp w K t x vs F) (hc:As t x j=some c) (hj:j=0) :
   ∃ pre v post Fa G Fb,vs=pre++([v]++post)∧pre.length=j∧F=Fa++(G++Fb)∧Rp w K c.1 c.2 [v] G∧
    ∀ (w':World) (K':Nat→Prop) (y:c.1.D) (v':Value) (G':List Nat) (x':t.D),setCell t x j c.1 y=some x'→Rp w' K' c.1 y [v'] G'→KSame w w' K K'→
     CV w w' Fa→CV w w' Fb→Rp w' K' t x' (pre++([v']++post)) (Fa++(G'++Fb)):=by
  subst hj
  have hct:c=⟨t,x⟩:=by
   cases t with
   | pair a b=>exact absurd rfl (hp a b)
   | unit=>exact absurd rfl hu
   | lp=>simp [Ty.size] at hs
   | _=>simp only [As,Option.some.injEq] at hc; exact hc.symm
  subst hct
  obtain ⟨v,rfl⟩:=Z6 hs h
  refine ⟨[],v,[],[],F,[],by simp,rfl,by simp,h,?_⟩
  intro w' K' y v' G' x' hset hy _ _ _
  obtain ⟨e,rfl⟩:=VP (z:=x) hp hu hset
  simpa using hy
def adr (w:World) (h:Value):Ty→AH→Option Addr
 | .sl _ _ r,(i,j)::ps=>match h with
  | .slice (some a) _ _=>match ps with
   | []=>some (a.add (i * r.size+j))
   | p::ps=>match w.cell? (a.add (i * r.size+j)),cty r j with
    | some h',some t'=>adr w h' t' (p::ps)
    | _,_=>none
  | _=>none
 | _,_=>none
where
 cty:Ty→Nat→Option Ty
  | .pair a b,j=>if j < a.size then cty a j else cty b (j - a.size)
  | .unit,_=>none
  | t,0=>some t
  | _,_+1=>none
def hdr (w:World) (h:Value) (t:Ty):AH→Option Value
 | []=>some h
 | st=>match adr w h t st with
  | some a=>w.cell? a
  | none=>none
theorem CU:∀ (t:Ty) (x:t.D) (j:Nat) {c},As t x j=some c→adr.cty t j=some c.1
 | .pair a b,(x,y),j,c,h=>by
  simp only [As] at h; simp only [adr.cty]
  split at h
  ·rename_i hj; rw [if_pos hj]; exact CU a x j h
  ·rename_i hj; rw [if_neg hj]; exact CU b y _ h
 | .unit,_,_,_,h=>by simp [As] at h
 | .int _,_,0,_,h=>by simp only [As,Option.some.injEq] at h; subst h; rfl
 | .bool,_,0,_,h=>by simp only [As,Option.some.injEq] at h; subst h; rfl
 | .er,_,0,_,h=>by simp only [As,Option.some.injEq] at h; subst h; rfl
 | .lp,_,_,_,h=>by simp [As] at h
 | .str,_,0,_,h=>by simp only [As,Option.some.injEq] at h; subst h; rfl
 | .pt _,_,0,_,h=>by simp only [As,Option.some.injEq] at h; subst h; rfl
 | .sl _ _ _,_,0,_,h=>by simp only [As,Option.some.injEq] at h; subst h; rfl
 | .int _,_,_+1,_,h=>by simp [As] at h
 | .bool,_,_+1,_,h=>by simp [As] at h
 | .er,_,_+1,_,h=>by simp [As] at h
 | .str,_,_+1,_,h=>by simp [As] at h
 | .pt _,_,_+1,_,h=>by simp [As] at h
 | .sl _ _ _,_,_+1,_,h=>by simp [As] at h
theorem CY {α β:Type} (o:Option β) (f:β→Tr α):(Tr.get β o f).run=o.bind fun b=>(f b).run:=by cases o <;> rfl
theorem run_bind {α β:Type} (t:Tr α) (f:α→Tr β):(t.bind f).run=t.run.bind fun x=>(f x).run:=by
 induction t with
 | ret a=>rfl
 | fail=>rfl
 | br c t e ih1 ih2=>simp only [Tr.bind,Tr.run]; split <;> assumption
 | get γ o g ih=>cases o <;> simp [Tr.bind,Tr.run,ih]
 | alt γ δ s g h ih1 ih2=>cases s <;> simp [Tr.bind,Tr.run,ih1,ih2]
 | rdO k g ih=>rfl
 | rdC k off g ih=>rfl
 | rdM k g ih=>rfl
theorem UG {α:Type} (cs:List α) (off n:Nat) (a v b:List α) (h:(cs.drop off).take n=a++(v++b)) (j:Nat) (hj:j < v.length):cs[off+a.length+j]?=v[j]?:=by
 have h1:((cs.drop off).take n)[a.length+j]?=v[j]?:=by
  rw [h,List.getElem?_append_right (by omega),List.getElem?_append_left (by omega)]
  congr 1; omega
 rw [← h1,List.getElem?_take,List.getElem?_drop]
 have:a.length+j < n:=by
  have:=congrArg List.length h
  simp only [List.length_take,List.length_append] at this
  have h3:(cs.drop off).length=cs.length - off:=List.length_drop ..
  rcases Nat.lt_or_ge (a.length+j) n with h4 | h4
  ·exact h4
  ·omega
 rw [if_pos this]; congr 1; omega
theorem Rp.elem {w:World} {K:Nat→Prop} {e:TypeId} {r:Ty} {xs:List r.D} {h:Value} {F:List Nat} (hp:Rp w K (.sl true e r) xs [h] F) {i j:Nat} {row:r.D} {c:(u:Ty)×u.D}
  (hi:xs[i]?=some row) (hc:As r row j=some c) :
  ∃ (g off cap:Nat) (cs:Array Value) (fr:Nat×Nat) (v:Value) (F1 Fa G Fb F2:List Nat),h=.slice (some ⟨g,off,none⟩) xs.length cap∧F=g::(F1++((Fa++(G++Fb))++F2))∧w.heap[g]?=some (.cells cs e fr)∧NFt r fr cs.size∧
   off+cap * r.size≤cs.size∧xs.length≤cap∧
   cs[off+(i * r.size+j)]?=some v∧off+(i * r.size+j) < cs.size∧Rp w K c.1 c.2 [v] G∧
   ∀ (w':World) (K':Nat→Prop) (y:c.1.D) (v':Value) (G':List Nat) (row':r.D) (cs':Array Value),setCell r row j c.1 y=some row'→Rp w' K' c.1 y [v'] G'→KSame w w' K K'→
    w'.heap[g]?=some (.cells cs' e fr)→cs'=cs.setIfInBounds (off+(i * r.size+j)) v'→CV w w' F1→CV w w' Fa→CV w w' Fb→CV w w' F2→
    Rp w' K' (.sl true e r) (xs.set i row') [h] (g::(F1++((Fa++(G'++Fb))++F2))):=by
 simp only [Rp] at hp
 rcases hp with ⟨rfl,_⟩ | ⟨g,off,cap,cs,fr,F',hh,rfl,hg,hn,hoff,hlen,hr⟩
 ·simp at hi
 obtain ⟨v1,v,v2,F1,G0,F2,hw,hl,rfl,hrow,ht,hd⟩:=RpL.get (fun x vs F h=>Rp.len r x h) hr hi
 obtain ⟨pre,u,post,Fa,G,Fb,rfl,hpl,rfl,hu,hset⟩:=Rp.cell r row j hrow hc
 have hcell:cs[off+(i * r.size+j)]?=some u:=by
  have:=UG cs.toList off _ v1 (pre++([u]++post)) v2 hw pre.length (by simp)
  rw [List.getElem?_append_right (by omega)] at this
  simp only [Nat.sub_self,List.cons_append,List.nil_append,List.getElem?_cons_zero] at this
  rw [hl,hpl] at this
  rw [← Array.getElem?_toList,← this]; congr 1; omega
 have hlt:off+(i * r.size+j) < cs.size:=(Array.getElem?_eq_some_iff.1 hcell).1
 have hil:i < xs.length:=(List.getElem?_eq_some_iff.1 hi).1
 injection hh with hh _
 refine ⟨g,off,cap,cs,fr,u,F1,Fa,G,Fb,F2,hh,rfl,hg,hn,hoff,hlen,hcell,hlt,hu,?_⟩
 intro w' K' y v' G' row' cs' hs hy hK hg' hcs s1 sa sb s2
 subst hcs
 simp only [Rp]
 refine .inr ⟨g,off,cap,_,fr,_,by rw [List.length_set,hh],rfl,hg',by simpa using hn,by simpa using hoff,by simpa using hlen,?_⟩
 have hnew:=RpL.set hi (RpL.frame hK r _ _ _ s1 ht) (RpL.frame hK r _ _ _ s2 hd) (hset w' K' y v' G' row' hs hy hK sa sb)
 rw [List.length_set]
 have:((cs.setIfInBounds (off+(i * r.size+j)) v').toList.drop off).take (xs.length * r.size)=v1++((pre++([v']++post))++v2):=by
  rw [Array.toList_setIfInBounds,List.drop_set,if_neg (by omega),List.take_set,hw]
  have h1:v1++((pre++([u]++post))++v2)=(v1++pre)++u::(post++v2):=by simp
  have h2:v1++((pre++([v']++post))++v2)=(v1++pre)++v'::(post++v2):=by simp
  rw [h1,h2,List.set_append_right _ _ (by rw [List.length_append]; omega)]
  have h3:off+(i * r.size+j) - off - (v1++pre).length=0:=by rw [List.length_append]; omega
  rw [h3]; rfl
 rw [this]
 exact hnew
theorem Dm {e:TypeId} {r:Ty} {xs:List r.D} {i j:Nat} {ps:AH} {c:(u:Ty)×u.D} (h:(Al (.sl true e r) xs ((i,j)::ps)).run=some c) :
  ∃ row d,xs[i]?=some row∧As r row j=some d∧(Al d.1 d.2 ps).run=some c:=by
 simp only [Al,CY,Option.bind_eq_some_iff] at h
 obtain ⟨row,hrow,h⟩:=h
 split at h
 ·rename_i d hd; exact ⟨row,d,hrow,hd,h⟩
 ·simp [Tr.run] at h
theorem Uv {g:Nat} {F1 Fa G Fb F2:List Nat} (hnd:(g::(F1++((Fa++(G++Fb))++F2))).Nodup):G.Nodup:=by
 rw [List.nodup_cons] at hnd
 have h1:=hnd.2
 rw [List.nodup_append] at h1
 have h2:=h1.2.1
 rw [List.nodup_append] at h2
 have h3:=h2.1
 rw [List.nodup_append] at h3
 have h4:=h3.2.1
 rw [List.nodup_append] at h4
 exact h4.1
theorem Rp.reach {w:World} {K:Nat→Prop}:∀ (st:AH) (t:Ty) (x:t.D) {h:Value} {F:List Nat} {c:(u:Ty)×u.D},Rp w K t x [h] F→(Al t x st).run=some c→
  ∃ h' F',hdr w h t st=some h'∧Rp w K c.1 c.2 [h'] F'∧(∀ g∈F',g∈F)∧(F.Nodup→F'.Nodup)∧(st≠[]→∃ a,adr w h t st=some a∧w.cell? a=some h'∧a.block∈F∧a.spot=none∧w.frozen? a=false)
 | [],t,x,h,F,c,hp,hg=>by
  simp only [Al,Tr.run,Option.some.injEq] at hg
  subst hg
  exact ⟨h,F,rfl,hp,fun _ hg=>hg,fun h=>h,fun hne=>absurd rfl hne⟩
 | (i,j)::ps,t,x,h,F,c,hp,hg=>by
  match t,x,hp,hg with
  | .sl true e r,xs,hp,hg=>
   obtain ⟨row,d,hrow,hd,hrest⟩:=Dm hg
   obtain ⟨g,off,cap,cs,fr,v,F1,Fa,G,Fb,F2,rfl,rfl,hh,hn,_,_,hcell,hlt,hv,_⟩:=Rp.elem hp hrow hd
   have hc?:w.cell? ⟨g,off+(i * r.size+j),none⟩=some v:=by rw [AV hh]; exact hcell
   obtain ⟨h',F',hhd,hp',hsub,hnod,hne⟩:=Rp.reach ps d.1 d.2 hv hrest
   refine ⟨h',F',?_,hp',?_,fun hx=>hnod (Uv hx),?_⟩
   ·cases ps with
    | nil=>
     simp only [hdr,Option.some.injEq] at hhd
     subst hhd
     simp only [hdr,adr,AT]; exact hc?
    | cons p ps=>
     simp only [hdr,adr,AT,hc?,CU r row j hd]
     simpa only [hdr] using hhd
   ·intro b hb
    have:=hsub b hb
    simp [*]
   ·intro _
    cases ps with
    | nil=>
     simp only [hdr,Option.some.injEq] at hhd
     subst hhd
     exact ⟨⟨g,off+(i * r.size+j),none⟩,by simp only [adr,AT],hc?,by simp,rfl,C3 hh hn.nf hlt⟩
    | cons p ps=>
     obtain ⟨a,ha,h1,h2,h3,h4⟩:=hne (by simp)
     refine ⟨a,by simp only [adr,AT,hc?,CU r row j hd]; exact ha,h1,?_,h3,h4⟩
     simp [*]
  | .sl false _ _,_,_,hg=>simp [Al,Tr.run] at hg
  | .int _,_,_,hg=>simp [Al,Tr.run] at hg
  | .bool,_,_,hg=>simp [Al,Tr.run] at hg
  | .er,_,_,hg=>simp [Al,Tr.run] at hg
  | .lp,_,_,hg=>simp [Al,Tr.run] at hg
  | .str,_,_,hg=>simp [Al,Tr.run] at hg
  | .unit,_,_,hg=>simp [Al,Tr.run] at hg
  | .pair _ _,_,_,hg=>simp [Al,Tr.run] at hg
theorem Su {w w':World} {h:Value} {t:Ty} {p:Nat×Nat}:adr w' h t [p]=adr w h t [p]:=by
 cases t with
 | sl o e r=>
  cases h with
  | slice A _ _=>cases A <;> rfl
  | _=>rfl
 | _=>rfl
theorem Rp.put {w:World} {K:Nat→Prop}:∀ (st:AH) (t:Ty) (x:t.D) {h:Value} {F:List Nat} {c:(u:Ty)×u.D} {z:c.1.D} {y:t.D},st≠[]→Rp w K t x [h] F→F.Nodup→(Al t x st).run=some c→(EL t x st c.1 z).run=some y→
  ∃ a h' Fa G Fb,adr w h t st=some a∧w.cell? a=some h'∧a.spot=none∧F=Fa++(G++Fb)∧a.block∈Fa∧Rp w K c.1 c.2 [h'] G∧w.frozen? a=false∧
   ∀ (w':World) (K':Nat→Prop) (v':Value) (G':List Nat),Rp w' K' c.1 z [v'] G'→KSame w w' K K'→w'.heap[a.block]?=(w.setCell a v').heap[a.block]?→
    (∀ g∈Fa++Fb,g≠a.block→w'.heap[g]?=w.heap[g]?)→Rp w' K' t y [h] (Fa++(G'++Fb))∧∀ n,adr w' h t (BP st n)=adr w h t (BP st n)
 | [],_,_,_,_,_,_,_,hne,_,_,_,_=>absurd rfl hne
 | (i,j)::ps,t,x,h,F,c,z,y,_,hp,hnd,hg,hs=>by
  match t,x,y,hp,hg,hs with
  | .sl true e r,xs,y,hp,hg,hs=>
   obtain ⟨row,d,hrow,hd,hrest⟩:=Dm hg
   have hs':∃ yy row',(EL d.1 d.2 ps c.1 z).run=some yy∧setCell r row j d.1 yy=some row'∧y=(xs:List r.D).set i row':=by
    simp only [EL,CY,Option.bind_eq_some_iff] at hs
    obtain ⟨row2,hrow2,hs⟩:=hs
    obtain rfl:row=row2:=by rw [hrow] at hrow2; injection hrow2
    rw [hd] at hs
    simp only [run_bind,Option.bind_eq_some_iff] at hs
    obtain ⟨yy,h1,hs⟩:=hs
    split at hs
    ·rename_i row' hr; simp only [Tr.run,Option.some.injEq] at hs; exact ⟨yy,row',h1,hr,hs.symm⟩
    ·simp [Tr.run] at hs
   obtain ⟨yy,row',hsy,hset,rfl⟩:=hs'
   obtain ⟨g,off,cap,cs,fr,v,F1,Fa,G,Fb,F2,rfl,rfl,hh,hn,hcap,hlen,hcell,hlt,hv,hput⟩:=Rp.elem hp hrow hd
   have hc?:w.cell? ⟨g,off+(i * r.size+j),none⟩=some v:=by rw [AV hh]; exact hcell
   cases ps with
   | nil=>
    simp only [Al,Tr.run,Option.some.injEq] at hrest
    subst hrest
    simp only [EL] at hsy
    split at hsy
    ·simp only [Tr.run,Option.some.injEq] at hsy
     subst hsy
     refine ⟨⟨g,off+(i * r.size+j),none⟩,v,g::(F1++Fa),G,Fb++F2,by simp only [adr,AT],hc?,rfl,by simp,by simp,hv,C3 hh hn.nf hlt,?_⟩
     intro w' K' v' G' hz hK hblk hrest
     have hnd':∀ b,b∈F1∨b∈Fa∨b∈Fb∨b∈F2→b≠g:=by
      rintro b hb rfl
      rw [List.nodup_cons] at hnd
      apply hnd.1
      simp only [List.mem_append]
      rcases hb with hb | hb | hb | hb <;> simp [hb]
     have hnew:w'.heap[g]?=some (.cells (cs.setIfInBounds (off+(i * r.size+j)) v') e fr):=by
      rw [hblk]; exact LG hh _ _
     have:=hput w' K' z v' G' row' _ hset hz hK hnew rfl (fun b hb=>hrest b (by simp [hb]) (hnd' b (by simp [hb]))) (fun b hb=>hrest b (by simp [hb]) (hnd' b (by simp [hb])))
      (fun b hb=>hrest b (by simp [hb]) (hnd' b (by simp [hb]))) (fun b hb=>hrest b (by simp [hb]) (hnd' b (by simp [hb])))
     exact ⟨by simpa using this,fun n=>Su⟩
    ·simp [Tr.run] at hsy
   | cons p ps=>
    have hndG:G.Nodup:=Uv hnd
    obtain ⟨a,h',Ga,G0,Gb,ha,h1,h2,rfl,hain,hG0,h4,hset2⟩:=Rp.put (p::ps) d.1 d.2 (by simp) hv hndG hrest hsy
    have hag:a.block≠g:=by
     rintro rfl
     rw [List.nodup_cons] at hnd
     apply hnd.1
     simp [hain]
    have hout:∀ b,b∈F1∨b∈Fa∨b∈Fb∨b∈F2→b≠a.block:=by
     rintro b hb rfl
     rw [List.nodup_cons] at hnd
     have hn2:=hnd.2
     have hA:∀ (X Y:List Nat),(X++Y).Nodup→∀ q,q∈X→q∈Y→False:=fun X Y hXY q hX hY=>(List.nodup_append.1 hXY).2.2 q hX q hY rfl
     rcases hb with hb | hb | hb | hb
     ·exact hA F1 _ hn2 a.block hb (by simp [hain])
     ·have h5:=(List.nodup_append.1 hn2).2.1
      have h6:=(List.nodup_append.1 h5).1
      exact hA Fa _ h6 a.block hb (by simp [hain])
     ·have h5:=(List.nodup_append.1 hn2).2.1
      have h6:=(List.nodup_append.1 h5).1
      have h7:=(List.nodup_append.1 h6).2.1
      exact hA _ Fb h7 a.block (by simp [hain]) hb
     ·have h5:=(List.nodup_append.1 hn2).2.1
      exact hA _ F2 h5 a.block (by simp [hain]) hb
    refine ⟨a,h',g::(F1++(Fa++Ga)),G0,Gb++(Fb++F2),by simp only [adr,AT,hc?,CU r row j hd]; exact ha,h1,h2,by simp,by simp [hain],hG0,h4,?_⟩
    intro w' K' v' G' hz hK hblk hrest2
    obtain ⟨hinner,hadr⟩:=hset2 w' K' v' G' hz hK hblk (fun b hb hne=>hrest2 b (by simp only [List.mem_append,List.mem_cons] at hb ⊢; rcases hb with hb | hb <;> simp [hb]) hne)
    have hgs:w'.heap[g]?=some (.cells cs e fr):=by rw [hrest2 g (by simp) (Ne.symm hag)]; exact hh
    have hsame:cs=cs.setIfInBounds (off+(i * r.size+j)) v:=by
     apply Array.ext_getElem?
     intro m
     rw [Array.getElem?_setIfInBounds]
     split
     ·subst_vars; first | exact hcell | (rw [if_pos hlt]; exact hcell)
     ·rfl
    have:=hput w' K' yy v (Ga++(G'++Gb)) row' cs hset hinner hK hgs hsame (fun b hb=>hrest2 b (by simp [hb]) (hout b (by simp [hb]))) (fun b hb=>hrest2 b (by simp [hb]) (hout b (by simp [hb])))
      (fun b hb=>hrest2 b (by simp [hb]) (hout b (by simp [hb]))) (fun b hb=>hrest2 b (by simp [hb]) (hout b (by simp [hb])))
    refine ⟨by simpa using this,fun n=>?_⟩
    have hc2:w'.cell? ⟨g,off+(i * r.size+j),none⟩=some v:=by rw [AV hgs]; exact hcell
    have hb:BP ((i,j)::p::ps) n=(i,j)::BP (p::ps) n:=rfl
    obtain ⟨q',ps',hq⟩:∃ q' ps',BP (p::ps) n=q'::ps':=by
     cases ps with
     | nil=>obtain ⟨x,y⟩:=p; exact ⟨_,_,rfl⟩
     | cons q2 ps=>exact ⟨_,_,rfl⟩
    have:=hadr n
    rw [hb]
    rw [hq] at this ⊢
    simp only [adr,AT,hc?,hc2,CU r row j hd]
    exact this
  | .sl false _ _,_,_,_,hg,_=>simp [Al,Tr.run] at hg
  | .int _,_,_,_,hg,_=>simp [Al,Tr.run] at hg
  | .bool,_,_,_,hg,_=>simp [Al,Tr.run] at hg
  | .er,_,_,_,hg,_=>simp [Al,Tr.run] at hg
  | .lp,_,_,_,hg,_=>simp [Al,Tr.run] at hg
  | .str,_,_,_,hg,_=>simp [Al,Tr.run] at hg
  | .unit,_,_,_,hg,_=>simp [Al,Tr.run] at hg
  | .pair _ _,_,_,_,hg,_=>simp [Al,Tr.run] at hg
end Go.V
namespace Go.V
def glo:Nat→Prop:=fun _=>False
def GlF:World→Prop:=fun _=>True
theorem Adm {w:World} (_:GlF w) {g:Nat} (hg:glo g):g < w.heap.size:=hg.elim
theorem ZE {w w':World} (_:GlF w) (_:∀ g,glo g→w'.heap[g]?=w.heap[g]?):GlF w':=trivial
theorem Ab1 (w:World):GlF w:=trivial
end Go.V
namespace Go.V
open Go.RowKit
structure Base where
 w0:World
 Ro:Nat→Prop
 O0:Nat→Prop
 n1:Nat
 ms:List (Nat×Nat)
 fx:List (Nat×Value)
 gl:GlF w0∧∀ g,glo g→Ro g∧¬ O0 g
structure Cc where
 mb:Nat→Nat
 mo:Nat→Nat
 hv:Nat→Value
 F:Nat→List Nat
def Ce (S:St) (c:Cc) (g:Nat):Prop:=(∃ k,S.ms k≠none∧c.mb k=g)∨(∃ k,S.ow k≠none∧g∈c.F k)
def Kok (b:Base) (S:St) (c:Cc) (g:Nat):Prop:=(b.Ro g∨b.w0.heap.size≤g∨b.O0 g)∧¬ Ce S c g
def Pp (size len:Nat) (win:Option (Nat×Nat)) (h v:Value):Prop:=
 match win with
 | none=>v=h
 | some (lo,m)=>∃ A n cap A' cap' q,h=.slice A n cap∧v=.slice A' (min m (len - lo)) cap'∧min m (len - lo)≤cap'∧q+cap'≤cap∧(0 < min m (len - lo)→q=lo)∧
  (A=none→A'=none∧cap'=0)∧∀ a,A=some a→A'=some (a.add (q * size))
def SC (S:St) (c:Cc) (p:Nat×Nat) (v:Value):Prop:=∃ n,S.ms p.1=some n∧v=.pointer (some ⟨c.mb p.1,c.mo p.1+p.2,none⟩)
def LeafOk (S:St) (c:Cc) (w:World) (K:Nat→Prop):Leaf→Value→Prop
 | .v t x,v=>Rp w K t x [v] []
 | .vw k st win,v=>∃ (o:Own) (e:TypeId) (r:Ty) (ys:List r.D) (h:Value),S.ow k=some o∧(Al (.sl true o.e o.r) o.xs st).run=some ⟨.sl true e r,ys⟩∧
  hdr w (c.hv k) (.sl true o.e o.r) st=some h∧Pp r.size ys.length win h v
 | .qn e,v=>∃ q:Bool,v=.bool q∧(q=true→e=true)
 | .nil,v=>v=.slice none 0 0
 | .p k off,v=>SC S c (k,off) v
 | .np,v=>v=.pointer none
 | .no,_=>True
inductive All2 {α β:Type} (p:α→β→Prop):List α→List β→Prop
 | nil:All2 p [] []
 | cons {a b as bs}:p a b→All2 p as bs→All2 p (a::as) (b::bs)
def S1Ok (S:St) (c:Cc) (w:World) (K:Nat→Prop):S1→Value→Prop
 | .one l,v=>LeafOk S c w K l v
 | .ag ls,v=>∃ vs:List Value,v=.agg vs.toArray∧All2 (LeafOk S c w K) ls vs
 | .pl k off,v=>∃ n,S.ms k=some n∧v=.pointer (some ⟨c.mb k,c.mo k+off,none⟩)
 | .el k st,v=>∃ (o:Own) (a:Addr),S.ow k=some o∧adr w (c.hv k) (.sl true o.e o.r) st=some a∧v=.pointer (some a)∧
  ∃ (pre:AH) (p:Nat×Nat) (d:(u:Ty)×u.D),st=pre++[p]∧(Al (.sl true o.e o.r) o.xs pre).run=some d
 | .rp t x off,v=>∃ (a:Addr) (vs:List Value),v=.pointer (some (a.add off))∧Rp w K t x vs []∧K a.block∧a.block < w.heap.size∧∀ j,j < vs.length→w.cell? (a.add j)=vs[j]?
 | .fv f cs,v=>∃ vs:List Value,v=.func (.func f) #[] vs.toArray∧All2 (SC S c) cs vs
def AI (S:St) (c:Cc) (w:World) (K:Nat→Prop):SV→Value→Prop
 | .s x,v=>S1Ok S c w K x v
 | .tu xs,v=>∃ vs:List Value,v=.tuple vs.toArray∧All2 (S1Ok S c w K) xs vs
 | .un,v=>v=undef
 | .no,_=>True
def AdL (w0:World) (g o n:Nat) (cs:Array Value) (e:TypeId) (fr:Nat×Nat):Prop:=
 ∀ cs0 e0 fr0,w0.heap[g]?=some (.cells cs0 e0 fr0)→e0=e∧fr0=fr∧cs0.size=cs.size∧∀ i,(i < o∨o+n≤i)→cs[i]?=cs0[i]?
structure Inv (b:Base) (S:St) (w:World) (c:Cc):Prop where
 ms:∀ k n,S.ms k=some n→∃ cs e fr,w.heap[c.mb k]?=some (.cells cs e fr)∧c.mo k+n≤cs.size∧NF fr cs.size∧(∀ i v,i < n→cs[c.mo k+i]?=some v→LeafOk S c w (Kok b S c) (S.mc k i) v)∧AdL b.w0 (c.mb k) (c.mo k) n cs e fr
 ow:∀ k o,S.ow k=some o→Rp w (Kok b S c) (.sl true o.e o.r) o.xs [c.hv k] (c.F k)
 nd:∀ k,S.ow k≠none→(c.F k).Nodup
 oo:∀ k k',k≠k'→S.ow k≠none→S.ow k'≠none→∀ g,g∈c.F k→g∉c.F k'
 mm:∀ k k',k≠k'→S.ms k≠none→S.ms k'≠none→c.mb k≠c.mb k'
 mo:∀ k k',S.ms k≠none→S.ow k'≠none→c.mb k∉c.F k'
 fr:∀ g,Ce S c g→g < w.heap.size∧(b.w0.heap.size≤g∨b.O0 g)
 fix:∀ g,g < b.w0.heap.size→¬ b.O0 g→w.heap[g]?=b.w0.heap[g]?
 os:w.os=b.w0.os
 tape:w.tape=b.w0.tape
 output:w.output=b.w0.output
 size:b.w0.heap.size≤w.heap.size
 an:∀ m g,b.ms[m]?=some g→c.mb (b.n1+m)=g.1∧c.mo (b.n1+m)=g.2
theorem ZG {b:Base} {S:St} {w:World} {c:Cc} (hi:Inv b S w c):GlF w∧∀ g,glo g→Kok b S c g:=by
 have hb:=b.gl
 have hlt:∀ g,glo g→g < b.w0.heap.size:=fun g hg=>Adm hb.1 hg
 refine ⟨ZE hb.1 fun g hg=>hi.fix g (hlt g hg) (hb.2 g hg).2,fun g hg=>⟨.inl (hb.2 g hg).1,fun ho=>?_⟩⟩
 rcases (hi.fr g ho).2 with h | h
 ·have:=hlt g hg; omega
 ·exact (hb.2 g hg).2 h
structure Slots (N:Nat) (S:St) (c:Cc) (w:World) (K:Nat→Prop) (a:Act):Prop where
 ok:∀ i,AI S c w K (S.sl i) (a.tmps.getD i undef)
 n:a.tmps.size=N
 d:a.defers=[]
def Sim (b:Base) (N:Nat) (S:St) (a:Act) (w:World):Prop:=∃ c,Inv b S w c∧Slots N S c w (Kok b S c) a∧∀ p,p∈b.fx→a.tmps.getD p.1 undef=p.2
theorem AdN {b:Base} {a:Act} (h:∀ p,p∈b.fx→a.tmps.getD p.1 undef=p.2) {d:Option Nat} {v:Value} (hd:∀ k,d=some k→∀ p,p∈b.fx→p.1≠k):∀ p,p∈b.fx→(a.put d v).tmps.getD p.1 undef=p.2:=by
 intro p hp
 cases d with
 | none=>exact h p hp
 | some k=>
  have hne:=hd k rfl p hp
  have:(a.put (some k) v).tmps.getD p.1 undef=a.tmps.getD p.1 undef:=by
   simp [Act.put,Array.getElem?_setIfInBounds_ne (Ne.symm hne)]
  rw [this]; exact h p hp
section
variable {α β γ:Type} {p:α→β→Prop}
theorem All2.mono {q:α→β→Prop} {as bs} (h:∀ a b,p a b→q a b) (hx:All2 p as bs):All2 q as bs:=by
 induction hx with
 | nil=>exact .nil
 | cons h1 _ ih=>exact .cons (h _ _ h1) ih
theorem All2.map {f:α→γ} {q:γ→β→Prop} {as bs} (h:∀ a b,p a b→q (f a) b) (hx:All2 p as bs):All2 q (as.map f) bs:=by
 induction hx with
 | nil=>exact .nil
 | cons h1 _ ih=>exact .cons (h _ _ h1) ih
theorem All2.len {as bs} (hx:All2 p as bs):as.length=bs.length:=by
 induction hx with
 | nil=>rfl
 | cons _ _ ih=>simp [ih]
theorem All2.get {as bs} (hx:All2 p as bs):∀ {i:Nat} {a},as[i]?=some a→∃ b,bs[i]?=some b∧p a b:=by
 induction hx with
 | nil=>intro i a h; simp at h
 | cons h1 _ ih=>
  intro i a h
  cases i with
  | zero=>simp only [List.getElem?_cons_zero,Option.some.injEq] at h; subst h; exact ⟨_,rfl,h1⟩
  | succ i=>simp only [List.getElem?_cons_succ] at h ⊢; exact ih h
theorem All2.append {as bs as' bs'} (hx:All2 p as bs) (hy:All2 p as' bs'):All2 p (as++as') (bs++bs'):=by
 induction hx with
 | nil=>exact hy
 | cons h1 _ ih=>exact .cons h1 ih
theorem All2.take {as bs} (hx:All2 p as bs):∀ n,All2 p (as.take n) (bs.take n):=by
 induction hx with
 | nil=>intro n; simp; exact .nil
 | cons h1 _ ih=>
  intro n
  cases n with
  | zero=>exact .nil
  | succ n=>exact .cons h1 (ih n)
theorem All2.drop {as bs} (hx:All2 p as bs):∀ n,All2 p (as.drop n) (bs.drop n):=by
 induction hx with
 | nil=>intro n; simp; exact .nil
 | cons h1 h2 ih=>
  intro n
  cases n with
  | zero=>exact .cons h1 h2
  | succ n=>exact ih n
theorem All2.set {as bs} (hx:All2 p as bs):∀ (n:Nat) {a b},p a b→All2 p (as.set n a) (bs.set n b):=by
 induction hx with
 | nil=>intro n _ _ _; exact .nil
 | cons h1 h2 ih=>
  intro n _ _ h
  cases n with
  | zero=>exact .cons h h2
  | succ n=>exact .cons h1 (ih n h)
end
structure Step (w w':World) (T:Nat→Prop):Prop where
 os:w'.os=w.os
 tape:w'.tape=w.tape
 output:w'.output=w.output
 size:w.heap.size≤w'.heap.size
 same:∀ g,g < w.heap.size→¬ T g→w'.heap[g]?=w.heap[g]?
theorem Step.refl (w:World) (T:Nat→Prop):Step w w T:=⟨rfl,rfl,rfl,Nat.le_refl _,fun _ _ _=>rfl⟩
theorem Step.mono {w w':World} {T T':Nat→Prop} (h:Step w w' T) (ht:∀ g,T g→T' g):Step w w' T':=⟨h.os,h.tape,h.output,h.size,fun g hg hn=>h.same g hg fun x=>hn (ht g x)⟩
theorem Step.trans {w w1 w2:World} {T:Nat→Prop} (h:Step w w1 T) (k:Step w1 w2 T):Step w w2 T:=
 ⟨k.os.trans h.os,k.tape.trans h.tape,k.output.trans h.output,Nat.le_trans h.size k.size,fun g hg hn=>(k.same g (Nat.lt_of_lt_of_le hg h.size) hn).trans (h.same g hg hn)⟩
theorem VL {w w':World} {K:Nat→Prop}:∀ (st:AH) (t:Ty) (x:t.D) {h:Value} {F:List Nat} {c:(u:Ty)×u.D},Rp w K t x [h] F→CV w w' F→(Al t x st).run=some c→adr w' h t st=adr w h t st
 | [],t,x,h,F,c,_,_,_=>by cases t <;> rfl
 | (i,j)::ps,t,x,h,F,c,hp,hs,hg=>by
  match t,x,hp,hg with
  | .sl true e r,xs,hp,hg=>
   obtain ⟨row,d,hrow,hd,hrest⟩:=Dm hg
   obtain ⟨g,off,cap,cs,fr,v,F1,Fa,G,Fb,F2,rfl,rfl,hh,hn,_,_,hcell,hlt,hv,_⟩:=Rp.elem hp hrow hd
   have hh':w'.heap[g]?=some (.cells cs e fr):=by rw [hs g (by simp)]; exact hh
   have h1:w.cell? ⟨g,off+(i * r.size+j),none⟩=some v:=by rw [AV hh]; exact hcell
   have h2:w'.cell? ⟨g,off+(i * r.size+j),none⟩=some v:=by rw [AV hh']; exact hcell
   cases ps with
   | nil=>simp only [adr]
   | cons p ps=>
    simp only [adr,AT,h1,h2,CU r row j hd]
    exact VL (p::ps) d.1 d.2 hv (fun g hg=>hs g (by simp [hg])) hrest
  | .sl false _ _,_,_,hg=>simp [Al,Tr.run] at hg
  | .int _,_,_,hg=>simp [Al,Tr.run] at hg
  | .bool,_,_,hg=>simp [Al,Tr.run] at hg
  | .er,_,_,hg=>simp [Al,Tr.run] at hg
  | .lp,_,_,hg=>simp [Al,Tr.run] at hg
  | .str,_,_,hg=>simp [Al,Tr.run] at hg
  | .pt _,_,_,hg=>simp [Al,Tr.run] at hg
  | .unit,_,_,hg=>simp [Al,Tr.run] at hg
  | .pair _ _,_,_,hg=>simp [Al,Tr.run] at hg
theorem Aa4 {w w':World} {K:Nat→Prop} {st:AH} {t:Ty} {x:t.D} {h:Value} {F:List Nat} {c:(u:Ty)×u.D} (hp:Rp w K t x [h] F) (hs:CV w w' F) (hg:(Al t x st).run=some c):hdr w' h t st=hdr w h t st:=by
 cases st with
 | nil=>rfl
 | cons p ps=>
  obtain ⟨h',F',_,_,_,_,hne⟩:=Rp.reach (p::ps) t x hp hg
  obtain ⟨a,ha,hc,hb,_,_⟩:=hne (by simp)
  simp only [hdr,VL (p::ps) t x hp hs hg,ha]
  exact KZ (hs _ hb)
theorem TY {w w':World} {K:Nat→Prop}:∀ (st:AH) (t:Ty) (x:t.D) {h:Value} {F:List Nat} {c:(u:Ty)×u.D} (p:Nat×Nat),Rp w K t x [h] F→CV w w' F→(Al t x st).run=some c→adr w' h t (st++[p])=adr w h t (st++[p])
 | [],t,x,h,F,c,p,_,_,_=>Su
 | (i,j)::ps,t,x,h,F,c,p,hp,hs,hg=>by
  match t,x,hp,hg with
  | .sl true e r,xs,hp,hg=>
   obtain ⟨row,d,hrow,hd,hrest⟩:=Dm hg
   obtain ⟨g,off,cap,cs,fr,v,F1,Fa,G,Fb,F2,rfl,rfl,hh,hn,_,_,hcell,hlt,hv,_⟩:=Rp.elem hp hrow hd
   have hh':w'.heap[g]?=some (.cells cs e fr):=by rw [hs g (by simp)]; exact hh
   have h1:w.cell? ⟨g,off+(i * r.size+j),none⟩=some v:=by rw [AV hh]; exact hcell
   have h2:w'.cell? ⟨g,off+(i * r.size+j),none⟩=some v:=by rw [AV hh']; exact hcell
   have ih:=TY ps d.1 d.2 p hv (fun g hg=>hs g (by simp [hg])) hrest
   cases ps with
   | nil=>
    simp only [List.nil_append] at ih
    simp only [List.cons_append,List.nil_append,adr,AT,h1,h2,CU r row j hd]; exact ih
   | cons q ps=>
    simp only [List.cons_append] at ih
    simp only [List.cons_append,adr,AT,h1,h2,CU r row j hd]; exact ih
  | .sl false _ _,_,_,hg=>simp [Al,Tr.run] at hg
  | .int _,_,_,hg=>simp [Al,Tr.run] at hg
  | .bool,_,_,hg=>simp [Al,Tr.run] at hg
  | .er,_,_,hg=>simp [Al,Tr.run] at hg
  | .lp,_,_,hg=>simp [Al,Tr.run] at hg
  | .str,_,_,hg=>simp [Al,Tr.run] at hg
  | .pt _,_,_,hg=>simp [Al,Tr.run] at hg
  | .unit,_,_,hg=>simp [Al,Tr.run] at hg
  | .pair _ _,_,_,hg=>simp [Al,Tr.run] at hg
theorem Lm:∀ (pre:AH) (i j n:Nat),BP (pre++[(i,j)]) n=pre++[(i,j+n)]
 | [],_,_,_=>rfl
 | [p],i,j,n=>rfl
 | p::q::ps,i,j,n=>by
  show p::BP (q::ps++[(i,j)]) n=_
  rw [Lm (q::ps) i j n]; rfl
theorem Vk {w:World}:∀ (st:AH) {h:Value} {t:Ty} {e:TypeId} {r:Ty} {o:Bool} {a:Addr} {n cap:Nat} {x:t.D} {ys:List r.D} {K:Nat→Prop} {F:List Nat} (i:Nat),Rp w K t x [h] F→(Al t x st).run=some ⟨.sl o e r,ys⟩→hdr w h t st=some (.slice (some a) n cap)→
  adr w h t (st++[(i,0)])=some (a.add (i * r.size))
 | [],h,t,e,r,o,a,n,cap,x,ys,K,F,i,hp,hg,hh=>by
  simp only [hdr,Option.some.injEq] at hh
  subst hh
  simp only [Al,Tr.run,Option.some.injEq] at hg
  injection hg with hg _
  subst hg
  simp only [List.nil_append,adr,Nat.add_zero]
 | (i0,j)::ps,h,t,e,r,o,a,n,cap,x,ys,K,F,i,hp,hg,hh=>by
  match t,x,hp,hg,hh with
  | .sl true e0 r0,xs,hp,hg,hh=>
   obtain ⟨row,d,hrow,hd,hrest⟩:=Dm hg
   obtain ⟨g,off,cap',cs,fr,v,F1,Fa,G,Fb,F2,rfl,rfl,hb,hn,_,_,hcell,hlt,hv,_⟩:=Rp.elem hp hrow hd
   have h1:w.cell? ⟨g,off+(i0 * r0.size+j),none⟩=some v:=by rw [AV hb]; exact hcell
   have hh':hdr w v d.1 ps=some (.slice (some a) n cap):=by
    cases ps with
    | nil=>simp only [hdr,adr,AT,h1,Option.some.injEq] at hh; simp only [hdr,hh]
    | cons p ps=>simp only [hdr,adr,AT,h1,CU r0 row j hd] at hh; simpa only [hdr] using hh
   have ih:=Vk ps i hv hrest hh'
   cases ps with
   | nil=>
    simp only [List.nil_append] at ih
    simp only [List.cons_append,List.nil_append,adr,AT,h1,CU r0 row j hd]; exact ih
   | cons q ps=>
    simp only [List.cons_append] at ih
    simp only [List.cons_append,adr,AT,h1,CU r0 row j hd]; exact ih
  | .sl false _ _,_,_,hg,_=>simp [Al,Tr.run] at hg
  | .int _,_,_,hg,_=>simp [Al,Tr.run] at hg
  | .bool,_,_,hg,_=>simp [Al,Tr.run] at hg
  | .er,_,_,hg,_=>simp [Al,Tr.run] at hg
  | .lp,_,_,hg,_=>simp [Al,Tr.run] at hg
  | .str,_,_,hg,_=>simp [Al,Tr.run] at hg
  | .pt _,_,_,hg,_=>simp [Al,Tr.run] at hg
  | .unit,_,_,hg,_=>simp [Al,Tr.run] at hg
  | .pair _ _,_,_,hg,_=>simp [Al,Tr.run] at hg
theorem M8 {w:World}:∀ (st:AH) {h:Value} {t:Ty} {a:Addr} (n:Nat),adr w h t st=some a→adr w h t (BP st n)=some (a.add n)
 | [],h,t,a,n,ha=>by cases t <;> simp [adr] at ha
 | [(i,j)],h,t,a,n,ha=>by
  cases t with
  | sl o e r=>
   cases h with
   | slice A m cp=>
    cases A with
    | none=>simp [adr] at ha
    | some A=>
     simp only [adr,Option.some.injEq] at ha
     subst ha
     simp only [BP,adr,add_add,Option.some.injEq]
     congr 1; omega
   | _=>simp [adr] at ha
  | _=>simp [adr] at ha
 | (i,j)::q::ps,h,t,a,n,ha=>by
  cases t with
  | sl o e r=>
   cases h with
   | slice A m cp=>
    cases A with
    | none=>simp [adr] at ha
    | some A=>
     have hb:BP ((i,j)::q::ps) n=(i,j)::BP (q::ps) n:=rfl
     have hq:∃ q' ps',BP (q::ps) n=q'::ps':=by
      cases ps with
      | nil=>obtain ⟨x,y⟩:=q; exact ⟨_,_,rfl⟩
      | cons q2 ps=>exact ⟨_,_,rfl⟩
     obtain ⟨q',ps',hq⟩:=hq
     rw [hb,hq]
     simp only [adr] at ha ⊢
     split at ha
     ·rename_i h' t' h1 h2
      have:=M8 (q::ps) n ha
      rw [hq] at this
      exact this
     ·cases ha
   | _=>simp [adr] at ha
  | _=>simp [adr] at ha
structure Stay (S S':St) (c c':Cc) (w w':World) (K K':Nat→Prop) (ks:List Kl):Prop where
 vw:∀ k st win v,ks.all (fun x=>x.okV k st)=true→LeafOk S c w K (.vw k st win) v→LeafOk S' c' w' K' (.vw k st win) v
 el:∀ k st v,ks.all (fun x=>x.okE k st)=true→S1Ok S c w K (.el k st) v→S1Ok S' c' w' K' (.el k st) v
 pl:∀ k off v,ks.all (fun x=>x.okM k)=true→S1Ok S c w K (.pl k off) v→S1Ok S' c' w' K' (.pl k off) v
 kk:KSame w w' K K'
section
variable {S S':St} {c c':Cc} {w w':World} {K K':Nat→Prop} {ks:List Kl}
theorem Stay.leaf (h:Stay S S' c c' w w' K K' ks) {l:Leaf} {v:Value} (hl:LeafOk S c w K l v):LeafOk S' c' w' K' (l.kp ks) v:=by
 cases l with
 | v t x=>exact Rp.frame h.kk t x hl fun g hg=>by cases hg
 | vw k st win=>
  simp only [Leaf.kp]
  split
  ·rename_i hk; exact h.vw k st win v hk hl
  ·trivial
 | qn e=>exact hl
 | nil=>exact hl
 | p k off=>
  simp only [Leaf.kp]
  split
  ·rename_i hk; exact h.pl k off v hk hl
  ·trivial
 | np=>exact hl
 | no=>trivial
theorem Stay.s1 (h:Stay S S' c c' w w' K K' ks) {x:S1} {v:Value} (hx:S1Ok S c w K x v):S1Ok S' c' w' K' (x.kp ks) v:=by
 cases x with
 | one l=>exact h.leaf hx
 | ag ls=>
  obtain ⟨vs,e,hv⟩:=hx
  exact ⟨vs,e,hv.map fun _ _=>h.leaf⟩
 | pl k off=>
  simp only [S1.kp]
  split
  ·rename_i hk; exact h.pl k off v hk hx
  ·trivial
 | el k st=>
  simp only [S1.kp]
  split
  ·rename_i hk; exact h.el k st v hk hx
  ·trivial
 | rp t x off=>
  obtain ⟨a,vs,e,hr,hk,hs,hc⟩:=hx
  obtain ⟨h1,h2⟩:=h.kk.2 _ hk hs
  exact ⟨a,vs,e,Rp.frame h.kk t x hr (fun g hg=>by cases hg),h2,Nat.lt_of_lt_of_le hs h.kk.1,
   fun j hj=>(KZ (w:=w) (w':=w') (a:=a.add j) (by rw [C9]; exact h1)).trans (hc j hj)⟩
 | fv f cs=>
  simp only [S1.kp]
  split
  ·rename_i hk
   obtain ⟨vs,e,hv⟩:=hx
   refine ⟨vs,e,?_⟩
   clear e
   induction hv with
   | nil=>exact .nil
   | cons h1 _ ih=>
    refine .cons ?_ (ih ?_)
    ·exact h.pl _ _ _ (List.all_eq_true.2 fun x hx=>by have:=List.all_eq_true.1 hk x hx; simp only [List.all_cons,Bool.and_eq_true] at this; exact this.1) h1
    ·exact List.all_eq_true.2 fun x hx=>by have:=List.all_eq_true.1 hk x hx; simp only [List.all_cons,Bool.and_eq_true] at this; exact this.2
  ·trivial
theorem Stay.sv (h:Stay S S' c c' w w' K K' ks) {x:SV} {v:Value} (hx:AI S c w K x v):AI S' c' w' K' (x.kp ks) v:=by
 cases x with
 | s x=>exact h.s1 hx
 | tu xs=>
  obtain ⟨vs,e,hv⟩:=hx
  exact ⟨vs,e,hv.map fun _ _=>h.s1⟩
 | un=>exact hx
 | no=>trivial
theorem Stay.slots {N:Nat} {a:Act} (h:Stay S S' c c' w w' K K' ks) (hs:Slots N S c w K a) (hsl:∀ i,S'.sl i=(S.sl i).kp ks) (d:Option Nat) (x:SV) (v:Value) (hd:∀ k,d=some k→k < N)
  (hx:AI S' c' w' K' x v) (hrest:∀ l v,LeafOk (S'.putO d x) c' w' K' l v↔LeafOk S' c' w' K' l v) (hrest1:∀ l v,S1Ok (S'.putO d x) c' w' K' l v↔S1Ok S' c' w' K' l v) :
  Slots N (S'.putO d x) c' w' K' (a.put d v):=by
 have hsv:∀ l v,AI (S'.putO d x) c' w' K' l v↔AI S' c' w' K' l v:=by
  intro l v
  cases l with
  | s y=>exact hrest1 y v
  | tu ys=>
   constructor
   ·rintro ⟨vs,e,hv⟩; exact ⟨vs,e,hv.mono fun y v=>(hrest1 y v).1⟩
   ·rintro ⟨vs,e,hv⟩; exact ⟨vs,e,hv.mono fun y v=>(hrest1 y v).2⟩
  | un=>exact Iff.rfl
  | no=>exact Iff.rfl
 cases d with
 | none=>
  refine ⟨fun i=>?_,hs.n,hs.d⟩
  rw [hsv]
  show AI S' c' w' K' (S'.sl i) _
  rw [hsl]; exact h.sv (hs.ok i)
 | some d=>
  refine ⟨fun i=>?_,by simp [Act.put,hs.n],hs.d⟩
  rw [hsv]
  show AI S' c' w' K' (if i=d then x else S'.sl i) _
  split
  ·rename_i e; subst e
   have:(a.put (some i) v).tmps.getD i undef=v:=by
    have:=hd i rfl
    simp [Act.put,hs.n,this]
   rw [this]; exact hx
  ·rename_i e
   have:(a.put (some d) v).tmps.getD i undef=a.tmps.getD i undef:=by
    simp [Act.put,Array.getElem?_setIfInBounds_ne (Ne.symm e)]
   rw [this,hsl]; exact h.sv (hs.ok i)
end
theorem Hx {S S':St} {c:Cc} {w:World} {K:Nat→Prop} (ho:S'.ow=S.ow) (hm:S'.ms=S.ms) (l:Leaf) (v:Value):LeafOk S' c w K l v↔LeafOk S c w K l v:=by
 cases l <;> simp only [LeafOk,SC,ho,hm]
theorem JN {S S':St} {c:Cc} {w:World} {K:Nat→Prop} (ho:S'.ow=S.ow) (hm:S'.ms=S.ms) (x:S1) (v:Value):S1Ok S' c w K x v↔S1Ok S c w K x v:=by
 cases x with
 | one l=>exact Hx ho hm l v
 | ag ls=>
  constructor
  ·rintro ⟨vs,e,hv⟩; exact ⟨vs,e,hv.mono fun l v=>(Hx ho hm l v).1⟩
  ·rintro ⟨vs,e,hv⟩; exact ⟨vs,e,hv.mono fun l v=>(Hx ho hm l v).2⟩
 | pl k off=>simp only [S1Ok,hm]
 | el k st=>simp only [S1Ok,ho]
 | rp t x off=>exact Iff.rfl
 | fv f cs=>
  constructor
  ·rintro ⟨vs,e,hv⟩; exact ⟨vs,e,hv.mono fun p v ⟨n,h,h'⟩=>⟨n,by rw [← hm]; exact h,h'⟩⟩
  ·rintro ⟨vs,e,hv⟩; exact ⟨vs,e,hv.mono fun p v ⟨n,h,h'⟩=>⟨n,by rw [hm]; exact h,h'⟩⟩
theorem Ib {S S':St} {c:Cc} (ho:S'.ow=S.ow) (hm:S'.ms=S.ms) (g:Nat):Ce S' c g↔Ce S c g:=by
 simp only [Ce,ho,hm]
theorem Fz {b:Base} {S S':St} {c:Cc} (ho:S'.ow=S.ow) (hm:S'.ms=S.ms):Kok b S' c=Kok b S c:=by
 funext g; simp only [Kok,Ib ho hm]
theorem Pd (S:St) (d:Option Nat) (x:SV):(S.putO d x).ow=S.ow:=by cases d <;> rfl
theorem Pn (S:St) (d:Option Nat) (x:SV):(S.putO d x).ms=S.ms:=by cases d <;> rfl
theorem Acq (S:St) (d:Option Nat) (x:SV):(S.putO d x).mc=S.mc:=by cases d <;> rfl
theorem Leaf.kp_nil (l:Leaf):l.kp []=l:=by cases l <;> simp [Leaf.kp]
theorem S1.kp_nil (x:S1):x.kp []=x:=by
 cases x with
 | one l=>simp [S1.kp,Leaf.kp_nil]
 | ag ls=>simp only [S1.kp]; congr 1; exact (List.map_congr_left fun l _=>Leaf.kp_nil l).trans (List.map_id ls)
 | _=>simp [S1.kp]
theorem SV.kp_nil (x:SV):x.kp []=x:=by
 cases x with
 | s x=>simp [SV.kp,S1.kp_nil]
 | tu xs=>simp only [SV.kp]; congr 1; exact (List.map_congr_left fun x _=>S1.kp_nil x).trans (List.map_id xs)
 | un=>rfl
 | no=>rfl
theorem GX (S:St) (ks:List Kl) (i:Nat):(S.kp ks).sl i=(S.sl i).kp ks:=by
 cases ks with
 | nil=>exact (SV.kp_nil _).symm
 | cons k ks=>rfl
theorem Dh (S:St) (ks:List Kl) (k i:Nat):(S.kp ks).mc k i=(S.mc k i).kp ks:=by
 cases ks with
 | nil=>exact (Leaf.kp_nil _).symm
 | cons k ks=>rfl
theorem DM (S:St) (ks:List Kl):(S.kp ks).ow=S.ow:=by cases ks <;> rfl
theorem Dd (S:St) (ks:List Kl):(S.kp ks).ms=S.ms:=by cases ks <;> rfl
theorem Aaw (us:List U):∀ S:St,(S.ups us).sl=S.sl:=by
 induction us with
 | nil=>intro S; rfl
 | cons u us ih=>intro S; rw [St.ups,ih]; cases u <;> rfl
theorem Inv.put {b:Base} {S S':St} {w:World} {c:Cc} (ho:S'.ow=S.ow) (hm:S'.ms=S.ms) (hc:S'.mc=S.mc) (h:Inv b S w c):Inv b S' w c:=by
 have hk:Kok b S' c=Kok b S c:=Fz ho hm
 refine ⟨?_,?_,?_,?_,?_,?_,?_,h.fix,h.os,h.tape,h.output,h.size,h.an⟩
 ·intro k n hn
  rw [hm] at hn
  obtain ⟨cs,e,fr,h1,h2,h3,h4,h5⟩:=h.ms k n hn
  exact ⟨cs,e,fr,h1,h2,h3,fun i v hlt hv=>by rw [hk,hc]; exact (Hx ho hm _ _).2 (h4 i v hlt hv),h5⟩
 ·intro k o hk'; rw [hk]; rw [ho] at hk'; exact h.ow k o hk'
 ·intro k hk'; rw [ho] at hk'; exact h.nd k hk'
 ·intro k k' hne h1 h2; rw [ho] at h1 h2; exact h.oo k k' hne h1 h2
 ·intro k k' hne h1 h2; rw [hm] at h1 h2; exact h.mm k k' hne h1 h2
 ·intro k k' h1 h2; rw [hm] at h1; rw [ho] at h2; exact h.mo k k' h1 h2
 ·intro g hg; exact h.fr g ((Ib ho hm g).1 hg)
end Go.V
namespace Go.V
open Go.RowKit
theorem O8 {ks:List Kl} {p:Kl→Bool} (h:ks.all p=true) {k:Kl} (hk:k∈ks):p k=true:=List.all_eq_true.1 h k hk
theorem Stay.of {b:Base} {S S':St} {c c':Cc} {w w':World} {ks:List Kl} (hi:Inv b S w c)
  (h1:∀ k o,S.ow k=some o→.all k∈ks∨(S'.ow k=some o∧c'.hv k=c.hv k∧CV w w' (c.F k))∨
   (.deep k∈ks∧c'.hv k=c.hv k∧∃ xs',S'.ow k=some ⟨o.e,o.r,xs'⟩∧xs'.length=o.xs.length))
  (h2:∀ k n,S.ms k=some n→.m k∈ks∨(S'.ms k=some n∧c'.mb k=c.mb k∧c'.mo k=c.mo k))
  (kk:KSame w w' (Kok b S c) (Kok b S' c')):Stay S S' c c' w w' (Kok b S c) (Kok b S' c') ks:=by
 refine ⟨?_,?_,?_,kk⟩
 ·rintro k st win v hk ⟨o,e,r,ys,h,ho,hg,hh,hw⟩
  rcases h1 k o ho with hx | ⟨h3,h4,h5⟩ | ⟨hx,h4,xs',h5,h6⟩
  ·have:=O8 hk hx
   simp [Kl.okV] at this
  ·exact ⟨o,e,r,ys,h,h3,hg,by rw [h4,Aa4 (hi.ow k o ho) h5 hg]; exact hh,hw⟩
  ·have:=O8 hk hx
   simp only [Kl.okV,beq_self_eq_true,Bool.not_true,Bool.false_or,List.isEmpty_iff] at this
   subst this
   simp only [Al,Tr.run,Option.some.injEq] at hg
   injection hg with ha hb
   injection ha with _ he hr
   obtain ⟨oe,or,oxs⟩:=o
   simp only at he hr h5 h6 hb
   subst he hr
   obtain rfl:=eq_of_heq hb
   exact ⟨_,oe,or,xs',h,h5,rfl,by rw [h4]; exact hh,by rw [h6]; exact hw⟩
 ·rintro k st v hk ⟨o,a,ho,ha,rfl,pre,p,d,rfl,hd⟩
  rcases h1 k o ho with hx | ⟨h3,h4,h5⟩ | ⟨hx,h4,xs',h5,h6⟩
  ·have:=O8 hk hx
   simp [Kl.okE] at this
  ·exact ⟨o,a,h3,by rw [h4,TY pre _ _ p (hi.ow k o ho) h5 hd]; exact ha,rfl,pre,p,d,rfl,hd⟩
  ·have:=O8 hk hx
   simp only [Kl.okE,beq_self_eq_true,Bool.not_true,Bool.false_or,decide_eq_true_eq,List.length_append,List.length_cons,List.length_nil] at this
   obtain rfl:pre=[]:=List.eq_nil_of_length_eq_zero (by omega)
   exact ⟨_,a,h5,by rw [h4]; rw [List.nil_append] at ha ⊢; rw [Su (w:=w)]; exact ha,rfl,[],p,_,rfl,rfl⟩
 ·rintro k off v hk ⟨n,hn,rfl⟩
  rcases h2 k n hn with hx | ⟨h3,h4,h5⟩
  ·have:=O8 hk hx
   simp [Kl.okM] at this
  ·exact ⟨n,h3,by rw [h4,h5]⟩
theorem RL {b:Base} {S S':St} {c c':Cc} {w w':World} {T:Nat→Prop} (hst:Step w w' T) (hT:∀ g,T g→Ce S c g) (ho:∀ g,Ce S' c' g→Ce S c g∨w.heap.size≤g) :
  KSame w w' (Kok b S c) (Kok b S' c'):=
 ⟨hst.size,fun g ⟨h1,h2⟩ hg=>⟨hst.same g hg fun ht=>h2 (hT g ht),h1,fun hx=>(ho g hx).elim h2 fun h3=>by omega⟩⟩
theorem Inv.fix' {b:Base} {S:St} {c:Cc} {w w':World} {T:Nat→Prop} (hi:Inv b S w c) (hst:Step w w' T) (hT:∀ g,T g→Ce S c g):∀ g,g < b.w0.heap.size→¬ b.O0 g→w'.heap[g]?=b.w0.heap[g]?:=by
 intro g hg hn
 have hl:=hi.size
 rw [hst.same g (by omega) fun ht=>?_]
 ·exact hi.fix g hg hn
 ·rcases (hi.fr g (hT g ht)).2 with h | h
  ·omega
  ·exact hn h
theorem Inv.newMem {b:Base} {S:St} {c:Cc} {w w':World} (hi:Inv b S w c) (d:Nat) (hdn:d < b.n1) (row:List Leaf) (vs:List Value) (e:TypeId) (hw:w' = { w with heap:=w.heap.push (.cells vs.toArray e) })
  (hrow:All2 (LeafOk S c w (Kok b S c)) row vs) (hkp:row.map (Leaf.kp [.m d])=row) :
  ∃ c',(c'.mb d=w.heap.size∧c'.mo d=0)∧Inv b ((S.kp [.m d]).up (.ms d row)) w' c'∧Stay S ((S.kp [.m d]).up (.ms d row)) c c' w w' (Kok b S c) (Kok b ((S.kp [.m d]).up (.ms d row)) c') [.m d]:=by
 let c':Cc:=⟨fun k=>if k=d then w.heap.size else c.mb k,fun k=>if k=d then 0 else c.mo k,c.hv,c.F⟩
 generalize hS:(S.kp [.m d]).up (.ms d row)=S'
 have how:S'.ow=S.ow:=by subst hS; rfl
 have hms:∀ k,S'.ms k=if k=d then some row.length else S.ms k:=by subst hS; intro k; rfl
 have hmc:∀ k i,S'.mc k i=if k=d then row.getD i .no else (S.mc k i).kp [.m d]:=by subst hS; intro k i; rfl
 have hst:Step w w' fun _=>False:=by
  subst hw
  exact ⟨rfl,rfl,rfl,by simp,fun g hg _=>by simp [Array.getElem?_push,show ¬ (g=w.heap.size) by omega]⟩
 have hown:∀ g,Ce S' c' g→Ce S c g∨w.heap.size≤g:=by
  rintro g (⟨k,hk,rfl⟩ | ⟨k,hk,hg⟩)
  ·by_cases hkd:k=d
   ·subst hkd; right; simp [c']
   ·left; left; exact ⟨k,by rw [hms,if_neg hkd] at hk; exact hk,by simp [c',hkd]⟩
  ·left; right; exact ⟨k,by rw [how] at hk; exact hk,hg⟩
 have kk:=RL (b:=b) hst (fun _ h=>h.elim) hown
 have stay:Stay S S' c c' w w' (Kok b S c) (Kok b S' c') [.m d]:=by
  refine Stay.of hi ?_ ?_ kk
  ·intro k o ho
   exact .inr (.inl ⟨by rw [how]; exact ho,rfl,fun g hg=>hst.same g (hi.fr g (.inr ⟨k,by rw [ho]; simp,hg⟩)).1 (fun h=>h)⟩)
  ·intro k n hn
   by_cases hkd:k=d
   ·subst hkd; exact .inl (by simp)
   ·exact .inr ⟨by rw [hms,if_neg hkd]; exact hn,by simp [c',hkd],by simp [c',hkd]⟩
 refine ⟨c',by simp [c'],?_,stay⟩
 refine ⟨?_,?_,?_,?_,?_,?_,?_,hi.fix' hst (fun _ h=>h.elim),hst.os.trans hi.os,hst.tape.trans hi.tape,hst.output.trans hi.output,Nat.le_trans hi.size hst.size,fun m g hg=>by have:=hi.an m g hg; simpa [c',show ¬ (b.n1+m=d) by omega] using this⟩
 ·intro k n hn
  rw [hms] at hn
  by_cases hkd:k=d
  ·subst hkd
   rw [if_pos rfl] at hn
   injection hn with hn
   have hmo:c'.mo k=0:=by simp [c']
   refine ⟨vs.toArray,e,(0,0),?_,?_,?_,?_,?_⟩
   ·subst hw; simp [c']
   ·rw [List.size_toArray,← hrow.len,hn,hmo]; omega
   ·intro i _ h; simp at h
   rotate_left
   ·intro cs0 e0 fr0 h0
    have h7:=DB h0
    have h8:=hi.size
    have h9:c'.mb k=w.heap.size:=by simp [c']
    omega
   ·intro i v _ hv
    rw [hmo,Nat.zero_add,List.getElem?_toArray] at hv
    have hi':i < row.length:=by rw [hrow.len]; exact (List.getElem?_eq_some_iff.1 hv).1
    obtain ⟨v',h1,h2⟩:=hrow.get (List.getElem?_eq_getElem hi')
    rw [hv] at h1
    injection h1 with h1
    subst h1
    rw [hmc,if_pos rfl,List.getD_eq_getElem?_getD,List.getElem?_eq_getElem hi',Option.getD_some]
    have h3:=stay.leaf h2
    have h4:row[i].kp [.m k]=row[i]:=by
     have:=congrArg (·[i]?) hkp
     simpa [List.getElem?_eq_getElem hi'] using this
    rw [h4] at h3
    exact h3
  ·rw [if_neg hkd] at hn
   obtain ⟨cs,e',fr,h1,h2,h3,h4,h5⟩:=hi.ms k n hn
   have hb1:c'.mb k=c.mb k:=by simp [c',hkd]
   have hb2:c'.mo k=c.mo k:=by simp [c',hkd]
   rw [hb1,hb2]
   refine ⟨cs,e',fr,?_,h2,h3,?_,h5⟩
   ·rw [hst.same _ (DB h1) (fun h=>h)]; exact h1
   ·intro i v hlt hv
    rw [hmc,if_neg hkd]
    exact stay.leaf (h4 i v hlt hv)
 ·intro k o ho
  rw [how] at ho
  exact Rp.frame kk _ _ (hi.ow k o ho) fun g hg=>hst.same g (hi.fr g (.inr ⟨k,by rw [ho]; simp,hg⟩)).1 (fun h=>h)
 ·intro k hk; rw [how] at hk; exact hi.nd k hk
 ·intro k k' hne h1 h2; rw [how] at h1 h2; exact hi.oo k k' hne h1 h2
 ·intro k k' hne h1 h2
  rw [hms] at h1 h2
  by_cases hkd:k=d
  ·have hkd':¬ k'=d:=fun h=>hne (hkd.trans h.symm)
   rw [if_neg hkd'] at h2
   have:=(hi.fr (c.mb k') (.inl ⟨k',h2,rfl⟩)).1
   simp only [c',hkd,if_true,hkd',if_false]; omega
  ·rw [if_neg hkd] at h1
   have h5:=(hi.fr (c.mb k) (.inl ⟨k,h1,rfl⟩)).1
   by_cases hkd':k'=d
   ·simp only [c',hkd,if_false,hkd',if_true]; omega
   ·rw [if_neg hkd'] at h2
    simp only [c',hkd,hkd',if_false]; exact hi.mm k k' hne h1 h2
 ·intro k k' h1 h2
  rw [hms] at h1; rw [how] at h2
  by_cases hkd:k=d
  ·simp only [c',hkd,if_true]
   intro hg
   have:=(hi.fr _ (.inr ⟨k',h2,hg⟩)).1
   omega
  ·rw [if_neg hkd] at h1
   simp only [c',hkd,if_false]; exact hi.mo k k' h1 h2
 ·intro g hg
  rcases hown g hg with h | h
  ·have:=hi.fr g h
   exact ⟨Nat.lt_of_lt_of_le this.1 hst.size,this.2⟩
  ·refine ⟨?_,.inl (Nat.le_trans hi.size h)⟩
   rcases hg with ⟨k,hk,rfl⟩ | ⟨k,hk,hg⟩
   ·by_cases hkd:k=d
    ·subst hw; simp [c',hkd]
    ·rw [hms,if_neg hkd] at hk
     have:=(hi.fr (c.mb k) (.inl ⟨k,hk,rfl⟩)).1
     have h6:c'.mb k=c.mb k:=by simp [c',hkd]
     rw [h6]; exact Nat.lt_of_lt_of_le this hst.size
   ·rw [how] at hk
    exact Nat.lt_of_lt_of_le (hi.fr g (.inr ⟨k,hk,hg⟩)).1 hst.size
theorem Inv.setMem {b:Base} {S S':St} {c:Cc} {w w':World} (hi:Inv b S w c) (k off n:Nat) (l:Leaf) (v:Value) (hk:S.ms k=some n) (ho:off < n) (hl:LeafOk S c w (Kok b S c) l v)
  (hS:S'=S.up (.mc k off l)) (hw:w'=w.setCell ⟨c.mb k,c.mo k+off,none⟩ v) :
  Inv b S' w' c∧Stay S S' c c w w' (Kok b S c) (Kok b S' c) []:=by
 have how:S'.ow=S.ow:=by subst hS; rfl
 have hms:S'.ms=S.ms:=by subst hS; rfl
 have hmc:∀ i j,S'.mc i j=if i=k then (if j=off then l else S.mc i j) else S.mc i j:=by subst hS; intro i j; rfl
 have hKok:Kok b S' c=Kok b S c:=Fz how hms
 have hst:Step w w' fun g=>g=c.mb k:=by
  subst hw
  exact ⟨rfl,rfl,rfl,by simp [World.setCell],fun g _ hg=>Below.heap_setCell _ _ _ _ hg⟩
 have hT:∀ g,g=c.mb k→Ce S c g:=fun g hg=>.inl ⟨k,by rw [hk]; simp,hg.symm⟩
 have hF:∀ k',S.ow k'≠none→CV w w' (c.F k'):=fun k' hk' g hg=>hst.same g (hi.fr g (.inr ⟨k',hk',hg⟩)).1 fun e=>hi.mo k k' (by rw [hk]; simp) hk' (e ▸ hg)
 have kk:KSame w w' (Kok b S c) (Kok b S' c):=RL hst hT (fun g hg=>.inl ((Ib how hms g).1 hg))
 have stay:Stay S S' c c w w' (Kok b S c) (Kok b S' c) []:=by
  refine Stay.of hi ?_ ?_ kk
  ·intro k' o ho'
   exact .inr (.inl ⟨by rw [how]; exact ho',rfl,hF k' (by rw [ho']; simp)⟩)
  ·intro k' n' hn'
   exact .inr ⟨by rw [hms]; exact hn',rfl,rfl⟩
 refine ⟨?_,stay⟩
 have hleaf:∀ {l v},LeafOk S c w (Kok b S c) l v→LeafOk S' c w' (Kok b S' c) l v:=fun {l v} h=>by
  have:=stay.leaf h
  rwa [Leaf.kp_nil] at this
 refine ⟨?_,?_,?_,?_,?_,?_,?_,hi.fix' hst hT,hst.os.trans hi.os,hst.tape.trans hi.tape,hst.output.trans hi.output,Nat.le_trans hi.size hst.size,hi.an⟩
 ·intro k' n' hn'
  rw [hms] at hn'
  obtain ⟨cs,e,fr,h1,h2,h3,h4,h5⟩:=hi.ms k' n' hn'
  by_cases hkk:k'=k
  ·subst hkk
   rw [hk] at hn'
   injection hn' with hn'
   refine ⟨cs.setIfInBounds (c.mo k' + off) v,e,fr,by subst hw; exact LG h1 _ _,by simpa using h2,by simpa using h3,?_,?_⟩
   rotate_left
   ·intro cs0 e0 fr0 h0
    obtain ⟨g1,g2,g3,g4⟩:=h5 cs0 e0 fr0 h0
    refine ⟨g1,g2,by simpa using g3,fun i hio=>?_⟩
    rw [Array.getElem?_setIfInBounds_ne (by omega)]
    exact g4 i hio
   intro i u hlt hu
   rw [hmc,if_pos rfl]
   by_cases hio:i=off
   ·subst hio
    rw [if_pos rfl]
    rw [Array.getElem?_setIfInBounds_self_of_lt (by omega)] at hu
    injection hu with hu
    subst hu
    exact hleaf hl
   ·rw [if_neg hio]
    rw [Array.getElem?_setIfInBounds_ne (by omega)] at hu
    exact hleaf (h4 i u hlt hu)
  ·refine ⟨cs,e,fr,?_,h2,h3,fun i u hlt hu=>?_,h5⟩
   ·rw [hst.same _ (DB h1) (hi.mm k' k hkk (by rw [hn']; simp) (by rw [hk]; simp))]; exact h1
   ·rw [hmc,if_neg hkk]; exact hleaf (h4 i u hlt hu)
 ·intro k' o ho'
  rw [how] at ho'
  exact Rp.frame kk _ _ (hi.ow k' o ho') (hF k' (by rw [ho']; simp))
 ·intro k' hk'; rw [how] at hk'; exact hi.nd k' hk'
 ·intro k1 k2 hne h1 h2; rw [how] at h1 h2; exact hi.oo k1 k2 hne h1 h2
 ·intro k1 k2 hne h1 h2; rw [hms] at h1 h2; exact hi.mm k1 k2 hne h1 h2
 ·intro k1 k2 h1 h2; rw [hms] at h1; rw [how] at h2; exact hi.mo k1 k2 h1 h2
 ·intro g hg
  have:=hi.fr g ((Ib how hms g).1 hg)
  exact ⟨Nat.lt_of_lt_of_le this.1 hst.size,this.2⟩
theorem Inv.setOwn {b:Base} {S S':St} {c:Cc} {w w':World} (hi:Inv b S w c) (κ:Nat) (o':Own) (gs:List Nat) (ks:List Kl) (h':Value) (F':List Nat)
  (how:∀ k,S'.ow k=if k=κ then some o' else if k∈gs then none else S.ow k) (hms:S'.ms=S.ms) (hmc:∀ k i,S'.mc k i=(S.mc k i).kp ks)
  (hgs:∀ k,k∈gs→.all k∈ks) (hκ:∀ o,S.ow κ=some o→.all κ∈ks∨(.deep κ∈ks∧h'=c.hv κ∧∃ xs',o'=⟨o.e,o.r,xs'⟩∧xs'.length=o.xs.length))
  (hst:Step w w' fun g=>∃ k,(k=κ∨k∈gs)∧S.ow k≠none∧g∈c.F k)
  (hF:∀ g,g∈F'→g < w'.heap.size∧((∃ k,(k=κ∨k∈gs)∧S.ow k≠none∧g∈c.F k)∨w.heap.size≤g)) (hnd:F'.Nodup)
  (hR:∀ K',KSame w w' (Kok b S c) K'→(∀ g,w.heap.size≤g→g∉F'→K' g)→Rp w' K' (.sl true o'.e o'.r) o'.xs [h'] F') :
  ∃ c',(c'.mb=c.mb∧c'.mo=c.mo)∧c'.hv κ=h'∧c'.F κ=F'∧Inv b S' w' c'∧Stay S S' c c' w w' (Kok b S c) (Kok b S' c') ks∧∀ k,k≠κ→c'.hv k=c.hv k∧c'.F k=c.F k:=by
 let c':Cc:=⟨c.mb,c.mo,fun k=>if k=κ then h' else c.hv k,fun k=>if k=κ then F' else c.F k⟩
 have hcF:∀ k,k≠κ→c'.F k=c.F k:=fun k hk=>by simp [c',hk]
 have hch:∀ k,k≠κ→c'.hv k=c.hv k:=fun k hk=>by simp [c',hk]
 have hcκ:c'.F κ=F':=by simp [c']
 have hT:∀ g,(∃ k,(k=κ∨k∈gs)∧S.ow k≠none∧g∈c.F k)→Ce S c g:=fun g ⟨k,_,h1,h2⟩=>.inr ⟨k,h1,h2⟩
 have hkept:∀ k,k≠κ→S'.ow k≠none→k∉gs∧S.ow k≠none:=by
  intro k hk h
  rw [how,if_neg hk] at h
  by_cases hg:k∈gs
  ·rw [if_pos hg] at h; exact absurd rfl h
  ·rw [if_neg hg] at h; exact ⟨hg,h⟩
 have hown:∀ g,Ce S' c' g→Ce S c g∨w.heap.size≤g:=by
  rintro g (⟨k,hk,rfl⟩ | ⟨k,hk,hg⟩)
  ·exact .inl (.inl ⟨k,by rw [hms] at hk; exact hk,rfl⟩)
  ·by_cases hkκ:k=κ
   ·subst hkκ
    rw [hcκ] at hg
    rcases (hF g hg).2 with h | h
    ·exact .inl (hT g h)
    ·exact .inr h
   ·rw [hcF k hkκ] at hg
    exact .inl (.inr ⟨k,(hkept k hkκ hk).2,hg⟩)
 have kk:KSame w w' (Kok b S c) (Kok b S' c'):=RL hst hT hown
 have hsame:∀ k,k≠κ→k∉gs→S.ow k≠none→CV w w' (c.F k):=fun k hk hg ho g hgF=>hst.same g (hi.fr g (.inr ⟨k,ho,hgF⟩)).1 (by
  rintro ⟨k2,h1,h2,h3⟩
  have hne:k≠k2:=by rintro rfl; exact h1.elim hk hg
  exact hi.oo k k2 hne ho h2 g hgF h3)
 have stay:Stay S S' c c' w w' (Kok b S c) (Kok b S' c') ks:=by
  refine Stay.of hi ?_ ?_ kk
  ·intro k o ho
   by_cases hkκ:k=κ
   ·subst hkκ
    rcases hκ o ho with h | ⟨h1,h2,xs',h3,h4⟩
    ·exact .inl h
    ·exact .inr (.inr ⟨h1,by simp [c',h2],xs',by rw [how,if_pos rfl,h3],h4⟩)
   ·by_cases hg:k∈gs
    ·exact .inl (hgs k hg)
    ·exact .inr (.inl ⟨by rw [how,if_neg hkκ,if_neg hg]; exact ho,hch k hkκ,hsame k hkκ hg (by rw [ho]; simp)⟩)
  ·intro k n hn
   exact .inr ⟨by rw [hms]; exact hn,rfl,rfl⟩
 refine ⟨c',⟨rfl,rfl⟩,by simp [c'],hcκ,?_,stay,fun k hk=>⟨hch k hk,hcF k hk⟩⟩
 refine ⟨?_,?_,?_,?_,?_,?_,?_,hi.fix' hst hT,hst.os.trans hi.os,hst.tape.trans hi.tape,hst.output.trans hi.output,Nat.le_trans hi.size hst.size,hi.an⟩
 ·intro k n hn
  rw [hms] at hn
  obtain ⟨cs,e,fr,h1,h2,h3,h4,h5⟩:=hi.ms k n hn
  refine ⟨cs,e,fr,?_,h2,h3,fun i u hlt hu=>by rw [hmc]; exact stay.leaf (h4 i u hlt hu),h5⟩
  show w'.heap[c.mb k]?=_
  rw [hst.same _ (DB h1) (by rintro ⟨k2,_,h5,h6⟩; exact hi.mo k k2 (by rw [hn]; simp) h5 h6)]; exact h1
 ·intro k o ho
  by_cases hkκ:k=κ
  ·subst hkκ
   rw [how,if_pos rfl] at ho
   injection ho with ho
   subst ho
   have:c'.hv k=h':=by simp [c']
   rw [this,hcκ]
   refine hR _ kk fun g hg hgF=>⟨.inr (.inl (Nat.le_trans hi.size hg)),?_⟩
   rintro (⟨k2,h1,rfl⟩ | ⟨k2,h1,h2⟩)
   ·rw [hms] at h1
    have:=(hi.fr (c.mb k2) (.inl ⟨k2,h1,rfl⟩)).1
    have h9:c'.mb k2=c.mb k2:=rfl
    omega
   ·by_cases hk2:k2=k
    ·subst hk2; rw [hcκ] at h2; exact hgF h2
    ·rw [hcF k2 hk2] at h2
     have:=(hi.fr g (.inr ⟨k2,(hkept k2 hk2 h1).2,h2⟩)).1
     omega
  ·have h1:=hkept k hkκ (by rw [ho]; simp)
   rw [how,if_neg hkκ,if_neg h1.1] at ho
   rw [hch k hkκ,hcF k hkκ]
   exact Rp.frame kk _ _ (hi.ow k o ho) (hsame k hkκ h1.1 h1.2)
 ·intro k hk
  by_cases hkκ:k=κ
  ·subst hkκ; rw [hcκ]; exact hnd
  ·rw [hcF k hkκ]; exact hi.nd k (hkept k hkκ hk).2
 ·intro k1 k2 hne h1 h2 g hg
  by_cases hk1:k1=κ
  ·have hk2:k2≠κ:=fun h=>hne (hk1.trans h.symm)
   have h4:=hkept k2 hk2 h2
   rw [hcF k2 hk2]
   subst hk1
   rw [hcκ] at hg
   rcases (hF g hg).2 with ⟨k3,h5,h6,h7⟩ | h5
   ·have hne3:k3≠k2:=by rintro rfl; exact h5.elim hk2 h4.1
    exact hi.oo k3 k2 hne3 h6 h4.2 g h7
   ·intro hx
    have:=(hi.fr g (.inr ⟨k2,h4.2,hx⟩)).1
    omega
  ·have h3:=hkept k1 hk1 h1
   rw [hcF k1 hk1] at hg
   by_cases hk2:k2=κ
   ·subst hk2
    rw [hcκ]
    intro hx
    rcases (hF g hx).2 with ⟨k3,h5,h6,h7⟩ | h5
    ·have hne3:k1≠k3:=by rintro rfl; exact h5.elim hk1 h3.1
     exact hi.oo k1 k3 hne3 h3.2 h6 g hg h7
    ·have:=(hi.fr g (.inr ⟨k1,h3.2,hg⟩)).1
     omega
   ·rw [hcF k2 hk2]
    exact hi.oo k1 k2 hne h3.2 (hkept k2 hk2 h2).2 g hg
 ·intro k1 k2 hne h1 h2; rw [hms] at h1 h2; exact hi.mm k1 k2 hne h1 h2
 ·intro k1 k2 h1 h2
  rw [hms] at h1
  by_cases hk2:k2=κ
  ·subst hk2
   rw [hcκ]
   intro hx
   rcases (hF _ hx).2 with ⟨k3,_,h6,h7⟩ | h5
   ·exact hi.mo k1 k3 h1 h6 h7
   ·have:=(hi.fr (c.mb k1) (.inl ⟨k1,h1,rfl⟩)).1
    have h9:c'.mb k1=c.mb k1:=rfl
    omega
  ·rw [hcF k2 hk2]; exact hi.mo k1 k2 h1 (hkept k2 hk2 h2).2
 ·intro g hg
  refine ⟨?_,?_⟩
  ·rcases hg with ⟨k,hk,rfl⟩ | ⟨k,hk,hg⟩
   ·rw [hms] at hk
    exact Nat.lt_of_lt_of_le (hi.fr (c.mb k) (.inl ⟨k,hk,rfl⟩)).1 hst.size
   ·by_cases hkκ:k=κ
    ·subst hkκ; rw [hcκ] at hg; exact (hF g hg).1
    ·rw [hcF k hkκ] at hg
     exact Nat.lt_of_lt_of_le (hi.fr g (.inr ⟨k,(hkept k hkκ hk).2,hg⟩)).1 hst.size
  ·rcases hown g hg with h | h
   ·exact (hi.fr g h).2
   ·exact .inl (Nat.le_trans hi.size h)
end Go.V
namespace Go.V
open Go.RowKit
def Be:Ty→Value
 | .int k=>.int k 0
 | .bool=>.bool false
 | .str=>.string ⟨#[]⟩
 | .pt _=>.pointer none
 | .er=>.nilIface
 | _=>.slice none 0 0
def Oa:Ty→Value→Bool
 | .int k,.int k' n=>k == k' && n == 0
 | .bool,.bool b=>!b
 | .str,.string s=>s.data.isEmpty
 | .sl _ _ _,.slice none 0 0=>true
 | .pt _,.pointer none=>true
 | _,_=>false
theorem Lc {t:Ty} {v:Value} (h:Oa t v=true):v=Be t∧t.size=1∧∀ a b,t≠.pair a b:=by
 unfold Oa at h
 split at h
 ·simp only [Bool.and_eq_true,beq_iff_eq] at h
  obtain ⟨rfl,rfl⟩:=h
  exact ⟨rfl,rfl,by simp⟩
 ·rename_i b
  cases b
  ·exact ⟨rfl,rfl,by simp⟩
  ·cases h
 ·rename_i s
  obtain ⟨d⟩:=s
  simp only [Array.isEmpty_iff] at h
  subst h
  exact ⟨rfl,rfl,by simp⟩
 ·exact ⟨rfl,rfl,by simp⟩
 ·exact ⟨rfl,rfl,by simp⟩
 ·cases h
def Hp:List Ty→List Value→Bool
 | [],[]=>true
 | t::ts,v::vs=>Oa t v && Hp ts vs
 | _,_=>false
theorem LM:∀ {ts:List Ty} {vs:List Value},Hp ts vs=true→vs=ts.map Be∧∀ t∈ts,t.size=1∧∀ a b,t≠.pair a b
 | [],[],_=>⟨rfl,by simp⟩
 | t::ts,v::vs,h=>by
  simp only [Hp,Bool.and_eq_true] at h
  obtain ⟨h1,h2⟩:=Lc h.1
  obtain ⟨h3,h4⟩:=LM h.2
  refine ⟨by rw [h1,h3]; rfl,?_⟩
  intro u hu
  rcases List.mem_cons.1 hu with rfl | hu
  ·exact h2
  ·exact h4 u hu
 | [],_::_,h=>by simp [Hp] at h
 | _::_,[],h=>by simp [Hp] at h
def BL:Ty→TypeDesc→Bool
 | .int k,.int k'=>k == k'
 | .bool,.bool=>true
 | .str,.string=>true
 | _,_=>false
def GF:TypeDesc→Bool
 | .struct _ | .array _ _=>true
 | _=>false
def Co (P:Program):List (Nat×Nat×Bool)→List Field→Bool
 | [],[]=>true
 | (o,n,ag)::fs,f::gs=>f.offset == o && !(n == 0) && (match P.info? f.type with | some i=>i.size == n | none=>false) &&
  (match P.underlying f.type with | some d=>GF d == ag | none=>false) && Co P fs gs
 | _,_=>false
def Ng (P:Program):List Ty→List Field→Bool
 | [],[]=>true
 | t :: ts, f :: gs => !(f.name == "_") && (match P.underlying f.type with | some d => BL t d | none => false) && Ng P ts gs
 | _,_=>false
def Mc:List (Nat×Nat×Bool)→Nat→Bool
 | [],_=>true
 | (o,n,ag)::fs,i=>o == i && n == 1 && !ag && Mc fs (i+1)
def MJ (P:Program) (t:TypeId):TI→Bool
 | .cell u=>(match P.underlying t with | some d=>BL u d | none=>false) &&
  (match P.info? t with | some i=>i.size == 1 && (match i.zero with | some z=>Oa u z | none=>false) | none=>false)
 | .slice e ts bytes=>(match P.underlying t with | some (.slice e')=>e == e' | _=>false) &&
  (match P.info? t with | some i=>i.size == 1 && (match i.zero with | some z=>Oa (.sl true 0 .unit) z | none=>false) | none=>false) &&
  (match P.info? e with | some i=>i.size == ts.length && i.bytes == bytes && !(bytes == 0) && !(ts.isEmpty) && (match i.zero with | some z=>Hp ts z.cells.toList && !(ts.length == 1 && GF ((P.underlying e).getD .invalid) && false) | none=>false) | none=>false)
 | .struct fs row eq=>(match P.underlying t with
  | some (.struct fields)=>Co P fs fields.toList && (!eq || (Ng P row fields.toList && Mc fs 0 && !P.stoodInHeld t && !P.eqGuardType P.depth t))
  | _=>false) &&
  (match P.info? t with | some i=>i.size == row.length && (match i.zero with | some (.agg cs)=>Hp row cs.toList | _=>false) | none=>false)
 | .ptr e=>(match P.underlying t with | some (.pointer e')=>e == e' | _=>false) && (match P.info? t with | some i=>i.size == 1 && (match i.zero with | some (.pointer none)=>true | _=>false) | none=>false)
 | .err=>(match P.underlying t with | some (.interface _)=>true | _=>false)
 | .other=>true
def TabOk (P:Program) (ti:TypeId→TI):Prop:=∀ t,MJ P t (ti t)=true
section
variable {P:Program} {ti:TypeId→TI} (h:TabOk P ti) {t:TypeId}
include h
theorem TabOk.cell {u:Ty} (ht:ti t=.cell u):(∃ d,P.underlying t=some d∧BL u d=true)∧∃ i,P.info? t=some i∧i.size=1∧i.zero=some (Be u)∧u.size=1:=by
 have:=h t
 rw [ht] at this
 simp only [MJ,Bool.and_eq_true] at this
 obtain ⟨h1,h2⟩:=this
 split at h1
 ·rename_i d hd
  refine ⟨⟨d,hd,h1⟩,?_⟩
  split at h2
  ·rename_i i hi
   simp only [Bool.and_eq_true,beq_iff_eq] at h2
   obtain ⟨h3,h4⟩:=h2
   split at h4
   ·rename_i z hz; exact ⟨i,hi,h3,by rw [hz,(Lc h4).1],(Lc h4).2.1⟩
   ·cases h4
  ·cases h2
 ·cases h1
theorem TabOk.slice {e:TypeId} {ts:List Ty} {bytes:Nat} (ht:ti t=.slice e ts bytes):P.underlying t=some (.slice e)∧(∃ i,P.info? t=some i∧i.size=1∧i.zero=some (.slice none 0 0))∧
  0 < bytes∧0 < ts.length∧∃ i z,P.info? e=some i∧i.size=ts.length∧i.bytes=bytes∧i.zero=some z∧z.cells.toList=ts.map Be∧∀ t∈ts,t.size=1∧∀ a b,t≠.pair a b:=by
 have:=h t
 rw [ht] at this
 simp only [MJ,Bool.and_eq_true] at this
 obtain ⟨⟨h1,h2⟩,h3⟩:=this
 refine ⟨?_,?_,?_⟩
 ·split at h1
  ·rename_i e' he; simp only [beq_iff_eq] at h1; rw [he,h1]
  ·cases h1
 ·split at h2
  ·rename_i i hi
   simp only [Bool.and_eq_true,beq_iff_eq] at h2
   obtain ⟨h4,h5⟩:=h2
   split at h5
   ·rename_i z hz; exact ⟨i,hi,h4,by rw [hz,(Lc h5).1]; rfl⟩
   ·cases h5
  ·cases h2
 ·split at h3
  ·rename_i i hi
   simp only [Bool.and_eq_true,beq_iff_eq,Bool.not_eq_true',beq_eq_false_iff_ne] at h3
   obtain ⟨⟨⟨⟨h4,h5⟩,h6⟩,h7⟩,h8⟩:=h3
   split at h8
   ·rename_i z hz
    simp only [Bool.and_eq_true] at h8
    obtain ⟨h9,h10⟩:=LM h8.1
    refine ⟨by omega,?_,i,z,hi,h4,h5,hz,h9,h10⟩
    cases ts with
    | nil=>simp at h7
    | cons a b=>simp
   ·cases h8
  ·cases h3
theorem TabOk.struct {fs:List (Nat×Nat×Bool)} {row:List Ty} {eq:Bool} (ht:ti t=.struct fs row eq):∃ fields,P.underlying t=some (.struct fields)∧Co P fs fields.toList=true∧
  (eq=true→Ng P row fields.toList=true∧Mc fs 0=true∧P.stoodInHeld t=false∧P.eqGuardType P.depth t=false)∧
  ∃ i,P.info? t=some i∧i.size=row.length∧i.zero=some (.agg (row.map Be).toArray)∧∀ t∈row,t.size=1∧∀ a b,t≠.pair a b:=by
 have:=h t
 rw [ht] at this
 simp only [MJ,Bool.and_eq_true] at this
 obtain ⟨h1,h2⟩:=this
 split at h1
 ·rename_i fields hf
  simp only [Bool.and_eq_true,Bool.or_eq_true,Bool.not_eq_true'] at h1
  refine ⟨fields,hf,h1.1,?_,?_⟩
  ·intro he
   rcases h1.2 with h3 | h3
   ·rw [he] at h3; cases h3
   ·exact ⟨h3.1.1.1,h3.1.1.2,h3.1.2,h3.2⟩
  ·split at h2
   ·rename_i i hi
    simp only [Bool.and_eq_true,beq_iff_eq] at h2
    obtain ⟨h4,h5⟩:=h2
    split at h5
    ·rename_i cs hz
     obtain ⟨h6,h7⟩:=LM h5
     refine ⟨i,hi,h4,?_,h7⟩
     rw [hz,← h6]
    ·cases h5
   ·cases h2
 ·cases h1
theorem TabOk.ptr {e:TypeId} (ht:ti t=.ptr e):P.underlying t=some (.pointer e)∧∃ i,P.info? t=some i∧i.size=1∧i.zero=some (.pointer none):=by
 have:=h t
 rw [ht] at this
 simp only [MJ,Bool.and_eq_true] at this
 obtain ⟨h1,h2⟩:=this
 refine ⟨?_,?_⟩
 ·split at h1
  ·rename_i e' he; simp only [beq_iff_eq] at h1; rw [he,h1]
  ·cases h1
 ·split at h2
  ·rename_i i hi
   simp only [Bool.and_eq_true,beq_iff_eq] at h2
   obtain ⟨h3,h4⟩:=h2
   split at h4
   ·rename_i hz; exact ⟨i,hi,h3,hz⟩
   ·cases h4
  ·cases h2
end
def Tr.ev {α:Type} (S:St):Tr α→Option α
 | .ret a=>some a
 | .fail=>none
 | .br c t e=>if c=true then t.ev S else e.ev S
 | .get _ o f=>o.bind fun b=>(f b).ev S
 | .alt _ _ s f g=>match s with
  | .inl b=>(f b).ev S
  | .inr b=>(g b).ev S
 | .rdO k f=>(f (S.ow k)).ev S
 | .rdC k off f=>(f (S.mc k off)).ev S
 | .rdM k f=>(f (S.ms k)).ev S
theorem Ai {α β:Type} (S:St) (t:Tr α) (f:α→Tr β):(t.bind f).ev S=(t.ev S).bind fun x=>(f x).ev S:=by
 induction t with
 | ret a=>rfl
 | fail=>rfl
 | br c t e ih1 ih2=>simp only [Tr.bind,Tr.ev]; split <;> assumption
 | get γ o g ih=>cases o <;> simp [Tr.bind,Tr.ev,ih]
 | alt γ δ s g h ih1 ih2=>cases s <;> simp [Tr.bind,Tr.ev,ih1,ih2]
 | rdO k g ih=>simp [Tr.bind,Tr.ev,ih]
 | rdC k off g ih=>simp [Tr.bind,Tr.ev,ih]
 | rdM k g ih=>simp [Tr.bind,Tr.ev,ih]
theorem Acn {α:Type} (S:St) (t:Tr α):∀ (g:List Lg) {x:α} {l:List Lg},(t.at S g).run=some (x,l)→t.ev S=some x:=by
 induction t with
 | ret a=>intro g x l h; simp only [Tr.at,Tr.run,Option.some.injEq,Prod.mk.injEq] at h; simp [Tr.ev,h.1]
 | fail=>intro g x l h; simp [Tr.at,Tr.run] at h
 | br c t e ih1 ih2=>
  intro g x l h
  simp only [Tr.at,Tr.run] at h
  simp only [Tr.ev]
  split at h
  ·rename_i hc; rw [if_pos hc]; exact ih1 g h
  ·rename_i hc; rw [if_neg hc]; exact ih2 g h
 | get γ o f ih=>
  intro g x l h
  simp only [Tr.at,CY,Option.bind_eq_some_iff] at h
  obtain ⟨b,hb,h⟩:=h
  simp only [Tr.ev,hb,Option.bind_some]
  exact ih b g h
 | alt γ δ s f f' ih1 ih2=>
  intro g x l h
  cases s with
  | inl b=>exact ih1 b g h
  | inr b=>exact ih2 b g h
 | rdO k f ih=>intro g x l h; exact ih _ _ h
 | rdC k off f ih=>intro g x l h; exact ih _ _ h
 | rdM k f ih=>intro g x l h; exact ih _ _ h
theorem Bv {α:Type} {S:St} {c:Bool} {t:Tr α} {a:α} (h:(Tr.iff c t).ev S=some a):c=true∧t.ev S=some a:=by
 simp only [Tr.ev] at h
 split at h
 ·exact ⟨by assumption,h⟩
 ·cases h
theorem Jc {S:St}:∀ (st:AH) (t:Ty) (x:t.D),(Al t x st).ev S=(Al t x st).run
 | [],_,_=>rfl
 | (i,j)::ps,t,x=>by
  match t,x with
  | .sl true e r,xs=>
   simp only [Al,Tr.ev,CY]
   congr 1; funext row
   split
   ·rename_i d _; exact Jc ps d.1 d.2
   ·rfl
  | .sl false _ _,_=>rfl
  | .int _,_=>rfl
  | .bool,_=>rfl
  | .er,_=>rfl
  | .lp,_=>rfl
  | .str,_=>rfl
  | .pt _,_=>rfl
  | .unit,_=>rfl
  | .pair _ _,_=>rfl
theorem RV {S:St}:∀ (st:AH) (t:Ty) (x:t.D) (u:Ty) (z:u.D),(EL t x st u z).ev S=(EL t x st u z).run
 | [],t,x,u,z=>by simp only [EL]; split <;> rfl
 | (i,j)::ps,t,x,u,z=>by
  match t,x with
  | .sl true e r,xs=>
   simp only [EL,Tr.ev,CY]
   congr 1; funext row
   split
   ·rename_i d _
    rw [Ai,run_bind,RV ps d.1 d.2 u z]
    congr 1; funext y
    split <;> rfl
   ·rfl
  | .sl false _ _,_=>rfl
  | .int _,_=>rfl
  | .bool,_=>rfl
  | .er,_=>rfl
  | .lp,_=>rfl
  | .str,_=>rfl
  | .pt _,_=>rfl
  | .unit,_=>rfl
  | .pair _ _,_=>rfl
theorem Abg {S:St} {c:Cc} {w:World} {K:Nat→Prop} (v:Value):AI S c w K (Tt v) v:=by
 unfold Tt
 split
 ·simp [AI,S1Ok,LeafOk,Rp]
 ·simp [AI,S1Ok,LeafOk,Rp]
 ·rename_i s; simp [AI,S1Ok,LeafOk,Rp]
 ·simp [AI,S1Ok,LeafOk]
 ·simp [AI,S1Ok,LeafOk,Rp,ErV]
 ·simp [AI,S1Ok,LeafOk]
 ·trivial
theorem AF {N:Nat} {S:St} {c:Cc} {w:World} {K:Nat→Prop} {a:Act} (hs:Slots N S c w K a) (x:Operand):AI S c w K (Cw S x) (a.eval x):=by
 cases x with
 | tmp t=>exact hs.ok t
 | const v=>exact Abg v
 | global g=>trivial
 | func f=>exact ⟨[],rfl,.nil⟩
theorem Rp.one {w:World} {K:Nat→Prop}:∀ (t:Ty) (x:t.D) {vs F},Rp w K t x vs F→∀ v∈vs,v.oneCell'=true
 | .int _,_,_,_,h=>by simp only [Rp] at h; simp [h.1,Value.oneCell']
 | .bool,_,_,_,h=>by simp only [Rp] at h; simp [h.1,Value.oneCell']
 | .lp,_,_,_,h=>by simp only [Rp] at h
 | .er,b,_,_,h=>by
  simp only [Rp] at h
  obtain ⟨v,rfl,_,hv⟩:=h
  cases b with
  | false=>simp only [ErV] at hv; subst hv; simp [Value.oneCell']
  | true=>obtain ⟨te,pe,rfl⟩:=hv; simp [Value.oneCell']
 | .str,_,_,_,h=>by simp only [Rp] at h; simp [h.1,Value.oneCell']
 | .unit,_,_,_,h=>by simp only [Rp] at h; simp [h.1]
 | .pair a b,x,_,_,h=>by
  simp only [Rp] at h
  obtain ⟨v1,v2,F1,F2,rfl,_,h1,h2⟩:=h
  intro v hv
  rcases List.mem_append.1 hv with hv | hv
  ·exact Rp.one a _ h1 v hv
  ·exact Rp.one b _ h2 v hv
 | .sl true _ r,_,_,_,h=>by
  simp only [Rp] at h
  rcases h with ⟨_,_,rfl⟩ | ⟨g,off,c,cs,fr,F',rfl,_⟩ <;> simp [Value.oneCell']
 | .sl false _ r,_,_,_,h=>by
  simp only [Rp] at h
  obtain ⟨_,A,c,ws,rfl,_⟩:=h
  simp [Value.oneCell']
 | .pt t,o,_,_,h=>by
  simp only [Rp] at h
  cases o with
  | none=>simp [h.2,Value.oneCell']
  | some x=>obtain ⟨_,ad,ws,rfl,_⟩:=h; simp [Value.oneCell']
theorem Lj {w:World} {K:Nat→Prop} {e:TypeId} {r:Ty} {xs:List r.D} {h:Value} {F:List Nat} (hp:Rp w K (.sl true e r) xs [h] F):∃ A cap,h=.slice A xs.length cap∧(A=none→xs=[]∧cap=0∧F=[]):=by
 simp only [Rp] at hp
 rcases hp with ⟨rfl,rfl,h1⟩ | ⟨g,off,cap,cs,fr,F',h1,_⟩
 ·injection h1 with h1; exact ⟨none,0,h1,fun _=>⟨rfl,rfl,rfl⟩⟩
 ·injection h1 with h1; exact ⟨_,cap,h1,fun h=>by cases h⟩
theorem Aan {size len:Nat} {win:Option (Nat×Nat)} {A:Option Addr} {cap:Nat} {v:Value} (h:Pp size len win (.slice A len cap) v):∃ A' n cap',v=.slice A' n cap':=by
 cases win with
 | none=>exact ⟨A,len,cap,h⟩
 | some p=>
  obtain ⟨lo,m⟩:=p
  obtain ⟨A0,n0,cap0,A',cap',q,_,h2,_⟩:=h
  exact ⟨A',_,cap',h2⟩
theorem QR {b:Base} {S:St} {c:Cc} {w:World} {K:Nat→Prop} (hi:Inv b S w c) {k:Nat} {st:AH} {win:Option (Nat×Nat)} {v:Value} (h:LeafOk S c w K (.vw k st win) v):∃ A n cap,v=.slice A n cap:=by
 obtain ⟨o,e,r,ys,hd,ho,hg,hh,hw⟩:=h
 obtain ⟨h',F',h1,h2,_⟩:=Rp.reach st _ _ (hi.ow k o ho) hg
 rw [hh] at h1
 injection h1 with h1
 subst h1
 obtain ⟨A,cap,rfl,_⟩:=Lj h2
 exact Aan hw
theorem W7 {b:Base} {S:St} {c:Cc} {w:World} {K:Nat→Prop} (hi:Inv b S w c) {l:Leaf} {v:Value} (h:LeafOk S c w K l v) (hl:l.is=true):v.oneCell'=true:=by
 cases l with
 | v t x=>exact Rp.one t x h v (by simp)
 | vw k st win=>obtain ⟨A,n,cap,rfl⟩:=QR hi h; rfl
 | qn e=>obtain ⟨q,rfl,_⟩:=h; rfl
 | nil=>rw [show v=.slice none 0 0 from h]; rfl
 | p k off=>obtain ⟨n,_,rfl⟩:=h; rfl
 | np=>rw [show v=.pointer none from h]; rfl
 | no=>cases hl
theorem AaH {v:Value} (h:v.oneCell'=true):v.cells = #[v]:=by cases v <;> first | rfl | (simp [Value.oneCell'] at h)
theorem HD {b:Base} {S:St} {c:Cc} {w:World} {K:Nat→Prop} (hi:Inv b S w c) {x:SV} {v:Value} {ls:List Leaf} (hx:AI S c w K x v) (hl:Cs x=some ls) :
  ∃ vs:List Value,v.cells=vs.toArray∧All2 (LeafOk S c w K) ls vs∧(∀ u∈vs,u.oneCell'=true):=by
 match x,hx,hl with
 | .s (.one l),hx,hl=>
  simp only [Cs] at hl
  split at hl
  ·rename_i hl'
   injection hl with hl
   subst hl
   have:=W7 hi hx hl'
   exact ⟨[v],AaH this,.cons hx .nil,by simpa using this⟩
  ·cases hl
 | .s (.ag ls'),hx,hl=>
  simp only [Cs] at hl
  split at hl
  ·rename_i hl'
   injection hl with hl
   subst hl
   obtain ⟨vs,rfl,hv⟩:=hx
   refine ⟨vs,rfl,hv,?_⟩
   intro u hu
   have key:∀ (ls:List Leaf) (vs:List Value),All2 (LeafOk S c w K) ls vs→ls.all Leaf.is=true→∀ u∈vs,u.oneCell'=true:=by
    intro ls vs h
    induction h with
    | nil=>intro _ u hu; cases hu
    | cons h1 _ ih=>
     intro hall u hu
     simp only [List.all_cons,Bool.and_eq_true] at hall
     rcases List.mem_cons.1 hu with rfl | hu
     ·exact W7 hi h1 hall.1
     ·exact ih hall.2 u hu
   exact key _ _ hv hl' u hu
  ·cases hl
 | .s (.pl k off),hx,hl=>
  simp only [Cs,Option.some.injEq] at hl
  subst hl
  obtain ⟨n,hn,rfl⟩:=hx
  exact ⟨[_],rfl,.cons ⟨n,hn,rfl⟩ .nil,by simp [Value.oneCell']⟩
 | .s (.el ..),_,hl=>simp [Cs] at hl
 | .s (.rp t x 0),hx,hl=>
  simp only [Cs,Option.some.injEq] at hl
  subst hl
  obtain ⟨a,vs,rfl,h1,h2,h3,h4⟩:=hx
  refine ⟨[_],rfl,.cons ?_ .nil,by simp [Value.oneCell']⟩
  simp only [LeafOk,Rp]
  exact ⟨trivial,a,vs,by simp [Addr.add],h1,h2,h3,h4⟩
 | .s (.rp _ _ (_+1)),_,hl=>simp [Cs] at hl
 | .s (.fv ..),_,hl=>simp [Cs] at hl
 | .tu _,_,hl=>simp [Cs] at hl
 | .un,_,hl=>simp [Cs] at hl
 | .no,_,hl=>simp [Cs] at hl
end Go.V
namespace Go.V
open Go.RowKit
def Did (b:Base) (S:St) (c:Cc) (w:World) (out:Out) (v:Value) (w':World):Prop:=
 ∃ c',Inv b ((S.kp out.ks).ups out.us) w' c'∧Stay S ((S.kp out.ks).ups out.us) c c' w w' (Kok b S c) (Kok b ((S.kp out.ks).ups out.us) c') out.ks∧
  AI ((S.kp out.ks).ups out.us) c' w' (Kok b ((S.kp out.ks).ups out.us) c') out.x v
theorem Did.same {b:Base} {S:St} {c:Cc} {w:World} (hi:Inv b S w c) {x:SV} {v:Value} (hx:AI S c w (Kok b S c) x v):Did b S c w ⟨x,[],[]⟩ v w:=
 ⟨c,hi,⟨fun _ _ _ _ _ h=>h,fun _ _ _ _ h=>h,fun _ _ _ _ h=>h,KSame.refl _ _⟩,hx⟩
theorem Did.sim {b:Base} {N:Nat} {S:St} {c:Cc} {w w':World} {a:Act} {out:Out} {v:Value} (hs:Slots N S c w (Kok b S c) a) (h:Did b S c w out v w') (d:Option Nat) (hd:∀ k,d=some k→k < N)
  (hfx:∀ p,p∈b.fx→a.tmps.getD p.1 undef=p.2) (hdx:∀ k,d=some k→∀ p,p∈b.fx→p.1≠k) :
  Sim b N (S.app d out) (a.put d v) w':=by
 obtain ⟨c',h1,h2,h3⟩:=h
 refine ⟨c',h1.put (Pd ..) (Pn ..) (Acq ..),?_,AdN hfx hdx⟩
 show Slots N (((S.kp out.ks).ups out.us).putO d out.x) c' w' (Kok b (((S.kp out.ks).ups out.us).putO d out.x) c') _
 rw [Fz (Pd _ d out.x) (Pn _ d out.x)]
 exact h2.slots hs (fun i=>by rw [Aaw,GX]) d out.x v hd h3 (fun l v=>Hx (Pd ..) (Pn ..) l v) (fun x v=>JN (Pd ..) (Pn ..) x v)
section
variable {P:Program} {w:World} {K:Nat→Prop} {S:St} {c:Cc}
theorem TN (l:List UInt8):(⟨l.toArray⟩:ByteArray).toList=l:=by
 simp
theorem Cj {k:IntKind} {n:Int} {v:Value} (h:LeafOk S c w K (.v (.int k) n) v):v=.int k n:=by
 have:=h; simp only [LeafOk,Rp] at this; simpa using this.1
theorem D2 {n:Bool} {v:Value} (h:LeafOk S c w K (.v .bool n) v):v=.bool n:=by
 have:=h; simp only [LeafOk,Rp] at this; simpa using this.1
theorem AcZ {n:Bool} {v:Value} (h:LeafOk S c w K (.v .er n) v):ErV n v:=by
 have:=h; simp only [LeafOk,Rp] at this
 obtain ⟨u,h1,_,h2⟩:=this
 simp only [List.cons.injEq,and_true] at h1
 subst h1; exact h2
theorem DE {n:List UInt8} {v:Value} (h:LeafOk S c w K (.v .str n) v):v=.string ⟨n.toArray⟩:=by
 have:=h; simp only [LeafOk,Rp] at this; simpa using this.1
theorem CH {k:IntKind} {n:Int}:LeafOk S c w K (.v (.int k) n) (.int k n):=by simp [LeafOk,Rp]
theorem BV {n:Bool}:LeafOk S c w K (.v .bool n) (.bool n):=by simp [LeafOk,Rp]
theorem OI {n:List UInt8}:LeafOk S c w K (.v .str n) (.string ⟨n.toArray⟩):=by simp [LeafOk,Rp]
theorem Cm {l:Leaf} {v:Value} (h:LeafOk S c w K l v):AI S c w K (.s (.one l)) v:=h
theorem AY {l:Leaf} {v:Value} (h:AI S c w K (.s (.one l)) v):LeafOk S c w K l v:=h
theorem TP (op:BinOp) (t:TypeId) (x y:Operand) {u v:Value} (hu:u.oneCell'=true) (hn:u≠.nilIface):eqGuard op t x y u v=pure ():=by
 cases u <;> first | (simp [Value.oneCell'] at hu; done) | (exact absurd rfl hn) | (cases op <;> rfl)
theorem Kq (d:Nat) (t:TypeId) (a b:Bool) (ht:P.underlying t=some .bool):(Op.equalIn (d+1) t (.bool a) (.bool b)).run P w=.ok (a == b) w:=by
 simp only [Op.equalIn,Sem.run_bind,run_underlying ht,Result.andThen_ok,Sem.run_pure]
theorem Xx (d:Nat) (t:TypeId) (k k':IntKind) (a b:Int) (ht:P.underlying t=some (.int k')):(Op.equalIn (d+1) t (.int k a) (.int k b)).run P w=.ok (a == b) w:=by
 simp only [Op.equalIn,Sem.run_bind,run_underlying ht,Result.andThen_ok,if_true,Sem.run_pure]
theorem AbI (t:TypeId) (a b:Bool) (ht:P.underlying t=some .bool):(binOp .eql t (.bool a) (.bool b)).run P w=.ok (.bool (a == b)) w:=by
 simp only [binOp,Op.equal,Sem.run_bind,show Op.maxDepth=9999+1 from rfl,Kq _ _ _ _ ht,Result.andThen_ok,Sem.run_pure]
theorem Abv (t:TypeId) (a b:Bool) (ht:P.underlying t=some .bool):(binOp .neq t (.bool a) (.bool b)).run P w=.ok (.bool (a != b)) w:=by
 simp only [binOp,Op.equal,Sem.run_bind,show Op.maxDepth=9999+1 from rfl,Kq _ _ _ _ ht,Result.andThen_ok,Sem.run_pure]
 rfl
theorem AaF {ti:TypeId→TI} (hT:TabOk P ti) {t:TypeId} (ht:ti t=.err):∃ ms,P.underlying t=some (.interface ms):=by
 have:=hT t
 rw [ht] at this
 simp only [MJ] at this
 split at this
 ·rename_i ms hms; exact ⟨ms,hms⟩
 ·cases this
theorem WW (d:Nat) (t:TypeId) {ms:Array (String×TypeId)} (hu:P.underlying t=some (.interface ms)) (u:TypeId) (x:Value):(Op.equalIn (d+1) t (.iface u x) .nilIface).run P w=.ok false w:=by
 rw [Op.equalIn]
 simp [run_underlying hu]
theorem W1 (d:Nat) (t:TypeId) {ms:Array (String×TypeId)} (hu:P.underlying t=some (.interface ms)):(Op.equalIn (d+1) t .nilIface .nilIface).run P w=.ok true w:=by
 rw [Op.equalIn]
 simp [run_underlying hu]
theorem AdQ (t:TypeId) (x:Operand) {n:Bool} {v:Value} (hv:ErV n v) {ms:Array (String×TypeId)} (hu:P.underlying t=some (.interface ms)):(do eqGuard .neq t x (.const .nilIface) v .nilIface; binOp .neq t v .nilIface).run P w=.ok (.bool n) w:=by
 cases n with
 | false=>
  simp only [ErV] at hv
  subst hv
  rw [show eqGuard .neq t x (.const .nilIface) .nilIface .nilIface=pure () by cases x <;> rfl]
  simp only [Sem.run_bind,Sem.run_pure,Result.andThen_ok,binOp,Op.equal,show Op.maxDepth=9999+1 from rfl,W1 _ _ hu]
  rfl
 | true=>
  obtain ⟨te,pe,rfl⟩:=hv
  rw [show eqGuard .neq t x (.const .nilIface) (.iface te pe) .nilIface=pure () from rfl]
  simp only [Sem.run_bind,Sem.run_pure,Result.andThen_ok,binOp,Op.equal,show Op.maxDepth=9999+1 from rfl,WW _ _ hu]
  rfl
theorem AcV (op:BinOp) (t:TypeId) (x y:Leaf) (u v:Value) (l:Leaf) (hx:LeafOk S c w K x u) (hy:LeafOk S c w K y v) (h:(VW op x y).ev S=some l)
  (ht:∀ a,x=.v .bool a→P.underlying t=some .bool):∃ r,(binOp op t u v).run P w=.ok r w∧LeafOk S c w K l r:=by
 unfold VW at h
 split at h
 ·rename_i k a k' b'
  obtain rfl:=Cj hx
  obtain rfl:=Cj hy
  split at h
  ·obtain ⟨h1,h2⟩:=Bv h
   simp only [decide_eq_true_eq] at h1
   simp only [Tr.ev,Option.some.injEq] at h2
   subst h2
   have:¬ ((b':Int) < 0):=Int.not_lt.2 h1
   exact ⟨_,by simp [binOp,Op.shift,this],CH⟩
  ·obtain ⟨h1,h2⟩:=Bv h
   simp only [decide_eq_true_eq] at h1
   simp only [Tr.ev,Option.some.injEq] at h2
   subst h2
   have:¬ ((b':Int) < 0):=Int.not_lt.2 h1
   exact ⟨_,by simp [binOp,Op.shift,this],CH⟩
  ·rename_i hs1 hs2
   split at h
   ·rename_i hk
    subst hk
    split at h
    case h_4 | h_5=>
     obtain ⟨h1,h2⟩:=Bv h
     simp only [decide_eq_true_eq] at h1
     simp only [Tr.ev,Option.some.injEq] at h2
     subst h2
     exact ⟨_,by simp [binOp,Op.intDiv,h1],CH⟩
    case h_16=>simp [Tr.ev] at h
    all_goals
     simp only [Tr.ev,Option.some.injEq] at h
     subst h
    ·exact ⟨_,by simp [binOp,Op.intArith] <;> rfl,CH⟩
    ·exact ⟨_,by simp [binOp,Op.intArith] <;> rfl,CH⟩
    ·exact ⟨_,by simp [binOp,Op.intArith] <;> rfl,CH⟩
    ·exact ⟨_,by simp [binOp,Op.intBits] <;> rfl,CH⟩
    ·exact ⟨_,by simp [binOp,Op.intBits] <;> rfl,CH⟩
    ·exact ⟨_,by simp [binOp,Op.intBits] <;> rfl,CH⟩
    ·exact ⟨_,by simp [binOp,Op.intBits] <;> rfl,CH⟩
    ·exact ⟨_,by simp [binOp,Op.intCmp] <;> rfl,BV⟩
    ·exact ⟨_,by simp [binOp,Op.intCmp] <;> rfl,BV⟩
    ·exact ⟨_,by simp [binOp,Op.intCmp] <;> rfl,BV⟩
    ·exact ⟨_,by simp [binOp,Op.intCmp] <;> rfl,BV⟩
    ·exact ⟨_,by simp [binOp,Op.intCmp] <;> rfl,BV⟩
    ·exact ⟨_,by simp [binOp,Op.intCmp] <;> rfl,BV⟩
   ·simp [Tr.ev] at h
 ·rename_i a b'
  obtain rfl:=D2 hx
  obtain rfl:=D2 hy
  have htt:=ht a rfl
  split at h
  ·simp only [Tr.ev,Option.some.injEq] at h; subst h; exact ⟨_,AbI t a b' htt,BV⟩
  ·simp only [Tr.ev,Option.some.injEq] at h; subst h; exact ⟨_,Abv t a b' htt,BV⟩
  ·simp [Tr.ev] at h
 ·rename_i a b'
  obtain rfl:=DE hx
  obtain rfl:=DE hy
  have e1:=TN a
  have e2:=TN b'
  split at h
  ·obtain ⟨h1,h2⟩:=Bv h
   simp only [decide_eq_true_eq] at h1
   simp only [Tr.ev,Option.some.injEq] at h2
   subst h2
   refine ⟨.string (⟨(List.toArray a)⟩++⟨List.toArray b'⟩),?_,?_⟩
   ·have:¬ ((9223372036854775807:Int) < (List.length a:Int)+(List.length b':Int)):=by omega
    simp [binOp,Op.stringOp,ByteArray.size,this]
   ·have:(⟨(List.toArray a)⟩++⟨List.toArray b'⟩:ByteArray)=⟨((a:List UInt8)++b').toArray⟩:=by
     apply ByteArray.ext; simp
    rw [this]; exact OI
  ·simp only [Tr.ev,Option.some.injEq] at h; subst h; exact ⟨_,by simp [binOp,Op.stringOp,e1,e2] <;> rfl,BV⟩
  ·simp only [Tr.ev,Option.some.injEq] at h; subst h; exact ⟨_,by simp [binOp,Op.stringOp,e1,e2] <;> rfl,BV⟩
  ·simp only [Tr.ev,Option.some.injEq] at h; subst h; exact ⟨_,by simp [binOp,Op.stringOp,e1,e2] <;> rfl,BV⟩
  ·simp only [Tr.ev,Option.some.injEq] at h; subst h; exact ⟨_,by simp [binOp,Op.stringOp,e1,e2] <;> rfl,BV⟩
  ·simp only [Tr.ev,Option.some.injEq] at h; subst h; exact ⟨_,by simp [binOp,Op.stringOp,e1,e2] <;> rfl,BV⟩
  ·simp only [Tr.ev,Option.some.injEq] at h; subst h; exact ⟨_,by simp [binOp,Op.stringOp,e1,e2] <;> rfl,BV⟩
  ·simp [Tr.ev] at h
 ·simp [Tr.ev] at h
theorem AdG (op:UnOp) (x:Leaf) (u:Value) (l:Leaf) (hx:LeafOk S c w K x u) (h:(vun op x).ev S=some l):∃ r,(Op.unary op u).run P w=.ok r w∧LeafOk S c w K l r:=by
 unfold vun at h
 split at h
 ·obtain rfl:=Cj hx
  split at h
  ·simp only [Tr.ev,Option.some.injEq] at h; subst h; exact ⟨_,by simp [Op.unary,Op.intArith] <;> rfl,CH⟩
  ·simp only [Tr.ev,Option.some.injEq] at h; subst h; exact ⟨_,by simp [Op.unary,Op.intBits] <;> rfl,CH⟩
  ·simp [Tr.ev] at h
 ·obtain rfl:=D2 hx
  split at h
  ·simp only [Tr.ev,Option.some.injEq] at h; subst h; exact ⟨_,by simp [Op.unary] <;> rfl,BV⟩
  ·simp [Tr.ev] at h
 ·simp [Tr.ev] at h
end
end Go.V
namespace Go.V
open Go.RowKit
theorem SG {α:Type} (l:List α) (a b n k:Nat) (h:a+b≤n):(((l.drop k).take n).drop a).take b=(l.drop (k+a)).take b:=by
 rw [List.drop_take,List.drop_drop,List.take_take]
 congr 1; omega
theorem S6 {w:World} {K:Nat→Prop} {e:TypeId} {r:Ty} {ys:List r.D} {h v:Value} {F:List Nat} {lo m:Nat} (hp:Rp w K (.sl true e r) ys [h] F) (hnd:F.Nodup) (hw:Pp r.size ys.length (some (lo,m)) h v) :
  ∃ F',Rp w K (.sl true e r) ((ys.drop lo).take m) [v] F'∧(∀ g,g∈F'→g∈F)∧F'.Nodup:=by
 obtain ⟨A,n,cap,A',cap',q,hh,hv,hle,hq,hlo,hnone,hsome⟩:=hw
 have hlen:((ys.drop lo).take m).length=min m (ys.length - lo):=by rw [List.length_take,List.length_drop]
 simp only [Rp] at hp ⊢
 rcases hp with ⟨rfl,rfl,h1⟩ | ⟨g,off,c,cs,fr,F0,h1,rfl,hg,hn,hoff,hc,hr⟩
 ·injection h1 with h1
  rw [hh] at h1
  injection h1 with h2 h3 h4
  obtain ⟨h5,h6⟩:=hnone h2
  subst h5 h6
  refine ⟨[],.inl ⟨by simp,rfl,?_⟩,by simp,by simp⟩
  rw [hv]; simp
 ·injection h1 with h1 _
  rw [hh] at h1
  injection h1 with h2 h3 h4
  subst h2 h3 h4
  have hA:=hsome _ rfl
  subst hA
  have hsplit:ys=ys.take lo++((ys.drop lo).take m++(ys.drop lo).drop m):=by rw [List.take_append_drop,List.take_append_drop]
  rw [hsplit] at hr
  obtain ⟨v1,v23,F1,F23,e1,rfl,r1,r23⟩:=RpL.split hr
  obtain ⟨v2,v3,F2,F3,rfl,rfl,r2,r3⟩:=RpL.split r23
  have l1:=RpL.len (fun x vs F h=>Rp.len r x h) r1
  have l2:=RpL.len (fun x vs F h=>Rp.len r x h) r2
  have l3:=RpL.len (fun x vs F h=>Rp.len r x h) r3
  refine ⟨g::F2,.inr ⟨g,off+q * r.size,cap',cs,fr,F2,?_,rfl,hg,hn,?_,?_,?_⟩,?_,?_⟩
  ·rw [hv,hlen,AT]
  ·have:(q+cap') * r.size≤cap * r.size:=Nat.mul_le_mul_right _ hq
   rw [Nat.add_mul] at this; omega
  ·rw [hlen]; exact hle
  ·rw [hlen]
   rcases Nat.eq_zero_or_pos (min m (ys.length - lo)) with hz | hz
   ·rw [hz]
    have hnil:(ys.drop lo).take m=[]:=List.eq_nil_of_length_eq_zero (by rw [hlen,hz])
    rw [hnil] at r2 ⊢
    simp only [Nat.zero_mul,List.take_zero]
    exact ⟨rfl,r2.2⟩
   ·have hqlo:=hlo hz
    subst hqlo
    rw [List.take_append_drop,List.take_append_drop] at e1
    have hlo':q < ys.length:=by omega
    have hl1:v1.length=q * r.size:=by rw [l1,List.length_take]; congr 1; omega
    have hl2:v2.length=min m (ys.length - q) * r.size:=by rw [l2,hlen]
    have:(cs.toList.drop (off+q * r.size)).take (min m (ys.length - q) * r.size)=v2:=by
     have hb:q * r.size+min m (ys.length - q) * r.size≤ys.length * r.size:=by rw [← Nat.add_mul]; exact Nat.mul_le_mul_right _ (by omega)
     have:=SG cs.toList (q * r.size) (min m (ys.length - q) * r.size) (ys.length * r.size) off hb
     rw [← this,e1,← hl1,List.drop_left,← hl2,List.take_left]
    rw [this]; exact r2
  ·intro b hb
   rcases List.mem_cons.1 hb with rfl | hb
   ·simp
   ·simp [hb]
  ·rw [List.nodup_cons] at hnd ⊢
   refine ⟨fun hb=>hnd.1 (by simp [hb]),?_⟩
   exact (List.nodup_append.1 (List.nodup_append.1 hnd.2).2.1).1
theorem Hq {b:Base} {S:St} {c:Cc} {w:World} (hi:Inv b S w c) {k:Nat} {st:AH} {win:Option (Nat×Nat)} {v:Value} {o:Own} (h:LeafOk S c w (Kok b S c) (.vw k st win) v) (hv:(Er k st win).ev S=some o) :
  S.ow k≠none∧∃ F',Rp w (Kok b S c) (.sl true o.e o.r) o.xs [v] F'∧(∀ g,g∈F'→g∈c.F k)∧F'.Nodup:=by
 obtain ⟨o0,e,r,ys,hd,ho,hg,hh,hw⟩:=h
 refine ⟨by rw [ho]; simp,?_⟩
 simp only [Er,Tr.ev,ho,Ai,Option.bind_eq_some_iff] at hv
 obtain ⟨c0,hc0,hv⟩:=hv
 rw [Jc] at hc0
 rw [hg] at hc0
 injection hc0 with hc0
 subst hc0
 have hown:=hi.ow k o0 ho
 have hndk:=hi.nd k (by rw [ho]; simp)
 obtain ⟨h',F',h1,h2,h3,h9,_⟩:=Rp.reach st _ _ hown hg
 rw [hh] at h1
 injection h1 with h1
 subst h1
 have hnd':F'.Nodup:=h9 hndk
 cases win with
 | none=>
  simp only [Tr.ev,Option.some.injEq] at hv
  subst hv
  have hw':v=hd:=hw
  subst hw'
  exact ⟨F',h2,h3,hnd'⟩
 | some p=>
  obtain ⟨lo,m⟩:=p
  simp only [Tr.ev,Option.some.injEq] at hv
  subst hv
  obtain ⟨F2,h4,h5,h6⟩:=S6 h2 hnd' hw
  exact ⟨F2,h4,fun g hg=>h3 g (h5 g hg),h6⟩
def Ms (win:Option (Nat×Nat)) (n:Nat):Nat:=match win with | none=>n | some (lo,m)=>min m (n - lo)
theorem Ul {b:Base} {S:St} {c:Cc} {w:World} (hi:Inv b S w c) {k:Nat} {st:AH} {win:Option (Nat×Nat)} {v:Value} {o:Own} (h:LeafOk S c w (Kok b S c) (.vw k st win) v) (hv:(Er k st win).ev S=some o) :
  ∃ (o0:Own) (ys:List o.r.D) (A:Option Addr) (cap:Nat),S.ow k=some o0∧(Al (.sl true o0.e o0.r) o0.xs st).run=some ⟨.sl true o.e o.r,ys⟩∧hdr w (c.hv k) (.sl true o0.e o0.r) st=some (.slice A ys.length cap)∧
   (A=none→ys.length=0∧cap=0)∧Pp o.r.size ys.length win (.slice A ys.length cap) v∧o.xs.length=Ms win ys.length∧
   Rp w (Kok b S c) (.sl true o0.e o0.r) o0.xs [c.hv k] (c.F k):=by
 obtain ⟨o0,e,r,ys,hd,hk,hg,hh,hw⟩:=h
 simp only [Er,Tr.ev,hk,Ai,Option.bind_eq_some_iff] at hv
 obtain ⟨c0,hc0,hv⟩:=hv
 rw [Jc,hg] at hc0
 injection hc0 with hc0
 subst hc0
 have hown:=hi.ow k o0 hk
 obtain ⟨hd',Fd,g1,g2,_⟩:=Rp.reach st _ _ hown hg
 rw [hh] at g1
 injection g1 with g1
 subst g1
 obtain ⟨Ad,capd,rfl,hnd'⟩:=Lj g2
 have hz:Ad=none→ys.length=0∧capd=0:=fun hA=>⟨by have h8:ys=[]:=(hnd' hA).1; rw [h8]; rfl,(hnd' hA).2.1⟩
 cases win with
 | none=>simp only [Tr.ev,Option.some.injEq] at hv; subst hv; exact ⟨o0,ys,Ad,capd,hk,hg,hh,hz,hw,rfl,hown⟩
 | some p=>
  obtain ⟨lo,m⟩:=p
  simp only [Tr.ev,Option.some.injEq] at hv; subst hv
  exact ⟨o0,ys,Ad,capd,hk,hg,hh,hz,hw,by simp [List.length_take,List.length_drop,Ms],hown⟩
theorem MV {w:World} {K:Nat→Prop} {e:TypeId} {r:Ty} {xs:List r.D} {v:Value} {F:List Nat} (hp:Rp w K (.sl true e r) xs [v] F) :
  ∃ A cap ws F',v=.slice A xs.length cap∧RpL (Rp w K r) xs ws F'∧(∀ g,g∈F'→g∈F)∧(A=none→xs=[]∧cap=0)∧
   (xs=[]∨∃ ad,A=some ad∧ad.block < w.heap.size∧∀ j,j < ws.length→w.cell? (ad.add j)=ws[j]?):=by
 simp only [Rp] at hp
 rcases hp with ⟨rfl,rfl,h1⟩ | ⟨g,off,cap,cs,fr,F',h1,rfl,hg,hn,hoff,hc,hr⟩
 ·injection h1 with h1
  exact ⟨none,0,[],[],h1,⟨rfl,rfl⟩,by simp,fun _=>⟨rfl,rfl⟩,.inl rfl⟩
 ·injection h1 with h1
  refine ⟨_,cap,_,F',h1,hr,fun b hb=>by simp [hb],fun h=>(by cases h),.inr ⟨_,rfl,DB hg,fun j hj=>?_⟩⟩
  rw [AT,AV hg,List.getElem?_take,List.getElem?_drop,← Array.getElem?_toList]
  rw [List.length_take] at hj
  rw [if_pos (by omega)]
theorem Fw {b:Base} {S:St} {c:Cc} {w:World} (hi:Inv b S w c) {l:Leaf} {v:Value} {o:Own} (h:LeafOk S c w (Kok b S c) l v) (hv:(JF l).ev S=some o) :
  ∃ A cap ws F',v=.slice A o.xs.length cap∧RpL (Rp w (Kok b S c) o.r) o.xs ws F'∧
   (o.xs=[]∨∃ ad,A=some ad∧ad.block < w.heap.size∧∀ j,j < ws.length→w.cell? (ad.add j)=ws[j]?):=by
 unfold JF at hv
 split at hv
 ·rename_i o' e r xs
  simp only [Tr.ev,Option.some.injEq] at hv
  subst hv
  cases o' with
  | true=>
   obtain ⟨A,cap,ws,F',h1,h2,_,_,h3⟩:=MV h
   exact ⟨A,cap,ws,F',h1,h2,h3⟩
  | false=>
   simp only [LeafOk,Rp] at h
   obtain ⟨_,A,cap,ws,h1,_,h2,h3⟩:=h
   injection h1 with h1
   refine ⟨A,cap,ws,[],h1,h2,?_⟩
   rcases h3 with h3 | ⟨ad,h4,_,h5,h6⟩
   ·exact .inl h3
   ·exact .inr ⟨ad,h4,h5,h6⟩
 ·obtain ⟨_,F',h1,_,_⟩:=Hq hi h hv
  obtain ⟨A,cap,ws,F2,h2,h3,_,_,h4⟩:=MV h1
  exact ⟨A,cap,ws,F2,h2,h3,h4⟩
 ·simp [Tr.ev] at hv
theorem Ad3 {b:Base} {S:St} {c:Cc} {w:World} (hi:Inv b S w c) {t:TI} {l:Leaf} {v:Value} {n:Nat} (h:LeafOk S c w (Kok b S c) l v) (hv:(AaT t l).ev S=some n) :
  (∃ s:ByteArray,v=.string s∧s.size=n∧t.isStr=true)∨(t.isSl=true∧∃ A cap,v=.slice A n cap):=by
 unfold AaT at hv
 split at hv
 ·split at hv
  ·simp only [Tr.ev,Option.some.injEq] at hv
   subst hv
   rw [DE h]
   exact .inl ⟨_,rfl,by simp [ByteArray.size],by assumption⟩
  ·simp [Tr.ev] at hv
 ·rename_i o e r xs
  split at hv
  ·simp only [Tr.ev,Option.some.injEq] at hv
   subst hv
   obtain ⟨A,cap,ws,F',h1,_⟩:=Fw (o:=⟨e,r,xs⟩) hi h (by simp [JF,Tr.ev])
   exact .inr ⟨by assumption,A,cap,h1⟩
  ·simp [Tr.ev] at hv
 ·split at hv
  ·simp only [Ai,Option.bind_eq_some_iff,Tr.ev,Option.some.injEq] at hv
   obtain ⟨o,ho,rfl⟩:=hv
   obtain ⟨A,cap,ws,F',h1,_⟩:=Fw hi h (by simpa [JF] using ho)
   exact .inr ⟨by assumption,A,cap,h1⟩
  ·simp [Tr.ev] at hv
 ·split at hv
  ·simp only [Tr.ev,Option.some.injEq] at hv
   subst hv
   rw [show v=.slice none 0 0 from h]
   exact .inr ⟨by assumption,none,0,rfl⟩
  ·simp [Tr.ev] at hv
 ·simp [Tr.ev] at hv
theorem AcW {size len:Nat} {win:Option (Nat×Nat)} {h v:Value} {A:Option Addr} {n cap:Nat} (hl:h=.slice A len cap∧(A=none→len=0∧cap=0)) (hv:Pp size len win h v) {A1:Option Addr} {cap1:Nat}
  (hv1:v=.slice A1 n cap1) {lo m mx:Nat} (hle:lo+m≤n) (hmx:lo+m≤mx) (hcap:mx≤cap1) (A2:Option Addr) (hA:A2=if mx=lo then A1 else A1.map (·.add (lo * size)))
  (hlen:∀ p,win=some p→n=min p.2 (len - p.1)) (hlen0:win=none→n=len):Pp size len (Aai win lo m) h (.slice A2 m (mx - lo)):=by
 subst hA
 obtain ⟨rfl,hnone⟩:=hl
 cases win with
 | none=>
  have hv':v=.slice A len cap:=hv
  rw [hv'] at hv1
  injection hv1 with e1 e2 e3
  subst e1 e2 e3
  refine ⟨A,len,cap,(if mx=lo then A else A.map (·.add (lo * size))),mx - lo,if mx=lo then 0 else lo,rfl,?_,?_,?_,?_,?_,?_⟩
  ·congr 1; omega
  ·have:min m (len - lo)=m:=by omega
   omega
  ·split <;> omega
  ·intro hz; rw [if_neg (by omega)]
  ·intro hn
   obtain ⟨h1,h2⟩:=hnone hn
   subst hn
   refine ⟨?_,by omega⟩
   split <;> rfl
  ·intro a ha
   subst ha
   split
   ·simp [Addr.add]
   ·rfl
 | some p=>
  obtain ⟨l0,m0⟩:=p
  obtain ⟨A0,n0,cap0,A',cap',q,e0,e1,h1,h2,h3,h4,h5⟩:=hv
  injection e0 with f1 f2 f3
  subst f1 f2 f3
  rw [e1] at hv1
  injection hv1 with f1 f2 f3
  subst f1 f3
  have hn:=hlen _ rfl
  simp only at hn
  refine ⟨A,len,cap,(if mx=lo then A' else A'.map (·.add (lo * size))),mx - lo,if mx=lo then q else q+lo,rfl,?_,?_,?_,?_,?_,?_⟩
  ·congr 1; omega
  ·have:min m (len - (l0+lo))=m:=by omega
   omega
  ·split <;> omega
  ·intro hz
   rw [if_neg (by omega)]
   have:=h3 (by omega)
   omega
  ·intro hA
   obtain ⟨g1,g2⟩:=h4 hA
   refine ⟨?_,by omega⟩
   subst g1
   split <;> rfl
  ·intro a ha
   have:=h5 a ha
   subst this
   split
   ·rfl
   ·simp only [Option.map_some,add_add,Option.some.injEq]
    congr 1; rw [Nat.add_mul]
end Go.V
namespace Go.V
open Go.RowKit
section
variable {P:Program} {ti:TypeId→TI} {w:World}
theorem AbU {t:TI} (h:t.isStr=true):t=.cell .str:=by
 unfold TI.isStr at h; split at h
 ·rfl
 ·cases h
theorem AaK {t:TI} {n:Nat} (h:t.isSlOf n=true):∃ e ts bytes,t=.slice e ts bytes∧ts.length=n:=by
 unfold TI.isSlOf at h; split at h
 ·exact ⟨_,_,_,rfl,by simpa using h⟩
 ·cases h
theorem AcI {t:TI} (h:t.isSl=true):∃ e ts bytes,t=.slice e ts bytes:=by
 unfold TI.isSl at h; split at h
 ·exact ⟨_,_,_,rfl⟩
 ·cases h
theorem K7 (hT:TabOk P ti) {t:TypeId} (h:(ti t).isStr=true):P.underlying t=some .string:=by
 obtain ⟨⟨d,hd,he⟩,_⟩:=hT.cell (AbU h)
 rw [hd]; cases d <;> first | rfl | (simp [BL] at he; done)
theorem MF:∀ (ts:List Ty),(∀ t∈ts,t.size=1)→(AM ts).size=ts.length
 | [],_=>rfl
 | [t],h=>by simpa [AM] using h t (by simp)
 | t::u::ts,h=>by
  have:=MF (u::ts) fun x hx=>h x (by simp [hx])
  simp only [AM,Ty.size,h t (by simp),this,List.length_cons]; omega
theorem Kt (hT:TabOk P ti) {t:TypeId} {n:Nat} (h:(ti t).isSlOf n=true):∃ e i,P.underlying t=some (.slice e)∧P.info? e=some i∧i.size=n:=by
 obtain ⟨e,ts,bytes,he,hn⟩:=AaK h
 obtain ⟨h1,_,_,_,i,z,h2,h3,_⟩:=hT.slice he
 exact ⟨e,i,h1,h2,by rw [h3,hn]⟩
theorem I9 (hT:TabOk P ti) {t:TypeId} (h:(ti t).isSl=true):∃ e i,P.underlying t=some (.slice e)∧P.info? e=some i:=by
 obtain ⟨e,ts,bytes,he⟩:=AcI h
 obtain ⟨h1,_,_,_,i,z,h2,_⟩:=hT.slice he
 exact ⟨e,i,h1,h2⟩
theorem Ql {N:Nat} {S:St} {c:Cc} {a:Act} {K:Nat→Prop} (hs:Slots N S c w K a) {x:Option Operand} {d:Nat} {n:Int} (h:(Pf (x.map (Cw S)) d).ev S=some n) :
  (x=none∧n=d)∨∃ y k,x=some y∧a.eval y=.int k n:=by
 cases x with
 | none=>simp only [Option.map_none,Pf,Tr.ev,Option.some.injEq] at h; exact .inl ⟨rfl,h.symm⟩
 | some y=>
  simp only [Option.map_some] at h
  have hy:=AF hs y
  unfold Pf at h
  split at h
  ·simp at *
  ·rename_i k n' he
   injection he with he
   rw [he] at hy
   simp only [Tr.ev,Option.some.injEq] at h
   subst h
   have hy':LeafOk S c w K (.v (.int k) n') (a.eval y):=hy
   exact .inr ⟨y,k,rfl,Cj hy'⟩
  ·simp [Tr.ev] at h
theorem KI {N:Nat} {S:St} {c:Cc} {a:Act} {K:Nat→Prop} (hs:Slots N S c w K a) {len:Nat} {lo hi mx:Option Operand} {f:Nat→Nat→Tr SV} {r:SV}
  (h:(JQ len (lo.map (Cw S)) (hi.map (Cw S)) (mx.map (Cw S)) f).ev S=some r) (isS:Bool) (cap:Nat) (hcap:len≤cap) (hmx:isS=false→mx=none) :
  ∃ l n m,(f l n).ev S=some r∧l+n≤len∧l+n≤m∧m≤cap∧(mx=none→m=cap)∧(Instr.sliceBounds isS len cap (lo.map a.eval) (hi.map a.eval) (mx.map a.eval)).run P w=.ok (l,l+n,m) w:=by
 simp only [JQ,Ai,Option.bind_eq_some_iff] at h
 obtain ⟨l,hl,hh,hhh,m,hm,g0⟩:=h
 obtain ⟨c1,g1⟩:=Bv g0
 obtain ⟨c2,g2⟩:=Bv g1
 obtain ⟨c3,g3⟩:=Bv g2
 obtain ⟨c4,g4⟩:=Bv g3
 obtain ⟨c5,g5⟩:=Bv g4
 simp only [decide_eq_true_eq] at c2 c3 c4 c5
 have hlo:=Ql hs hl
 have hhi:=Ql hs hhh
 have hmm:=Ql hs hm
 obtain ⟨l',rfl⟩:=Int.eq_ofNat_of_zero_le c2
 obtain ⟨h',rfl⟩:=Int.eq_ofNat_of_zero_le (show (0:Int)≤hh by omega)
 obtain ⟨m',rfl⟩:=Int.eq_ofNat_of_zero_le (show (0:Int)≤m by omega)
 simp only [Int.toNat_natCast] at g5
 have c3':l'≤h':=by omega
 have c4':h'≤m':=by omega
 have c5':m'≤len:=by omega
 have e:l' + (h' - l')=h':=by omega
 have s1:∀ (x:Operand) (k:IntKind) (i y:Nat) (code:BoundsCode),a.eval x=.int k (i:Int)→i≤y→(Instr.sliceBound (a.eval x) y code).run P w=.ok i w:=by
  intro x k i y code hx hiy
  rw [hx]
  simp only [Instr.sliceBound,asIntOf,Sem.run_bind,Sem.run_pure,Result.andThen_ok,Sem.run_ite]
  rw [if_pos ⟨by omega,by omega⟩]; simp
 rcases hmm with ⟨rfl,hm0⟩ | ⟨my,mk,rfl,hme⟩
 ·refine ⟨l',h' - l',cap,g5,by omega,by omega,Nat.le_refl _,fun _=>rfl,?_⟩
  rw [e]
  rcases hhi with ⟨rfl,hh0⟩ | ⟨hy,hk,rfl,hhe⟩
  ·obtain rfl:h'=len:=by omega
   rcases hlo with ⟨rfl,hl0⟩ | ⟨ly,lk,rfl,hle⟩
   ·obtain rfl:l'=0:=by omega
    simp [Instr.sliceBounds]
   ·simp [Instr.sliceBounds,s1 ly lk l' _ _ hle c3']
  ·rcases hlo with ⟨rfl,hl0⟩ | ⟨ly,lk,rfl,hle⟩
   ·obtain rfl:l'=0:=by omega
    cases isS <;> simp [Instr.sliceBounds,s1 hy hk h' _ _ hhe (show h'≤cap by omega)]
   ·cases isS <;> simp [Instr.sliceBounds,s1 hy hk h' _ _ hhe (show h'≤cap by omega),s1 ly lk l' _ _ hle c3']
 ·rcases hhi with ⟨rfl,hh0⟩ | ⟨hy,hk,rfl,hhe⟩
  ·simp at c1
  ·refine ⟨l',h' - l',m',g5,by omega,by omega,by omega,fun hx=>(by cases hx),?_⟩
   rw [e]
   cases isS with
   | false=>cases hmx rfl
   | true=>
    rcases hlo with ⟨rfl,hl0⟩ | ⟨ly,lk,rfl,hle⟩
    ·obtain rfl:l'=0:=by omega
     simp [Instr.sliceBounds,s1 my mk m' _ _ hme (show m'≤cap by omega),s1 hy hk h' _ _ hhe c4']
    ·simp [Instr.sliceBounds,s1 my mk m' _ _ hme (show m'≤cap by omega),s1 hy hk h' _ _ hhe c4',s1 ly lk l' _ _ hle c3']
theorem XF (s:List UInt8) (l n:Nat) (_h:l+n≤s.length):(⟨s.toArray⟩:ByteArray).extract l (l+n)=⟨((s.drop l).take n).toArray⟩:=by
 apply ByteArray.ext
 simp only [ByteArray.data_extract]
 apply Array.ext'
 simp [List.extract_eq_take_drop]
theorem Ab2 {b:Base} {N:Nat} {S:St} {c:Cc} {a:Act} (hT:TabOk P ti) (hi:Inv b S w c) (hs:Slots N S c w (Kok b S c) a) {t:TypeId} {x:Leaf} {v:Value} {lo hi' mx:Option Operand} {r:SV}
  (hx:LeafOk S c w (Kok b S c) x v) (h:(VB (ti t) x (lo.map (Cw S)) (hi'.map (Cw S)) (mx.map (Cw S))).ev S=some r) :
  ∃ u,(Instr.sliceAt t v (lo.map a.eval) (hi'.map a.eval) (mx.map a.eval)).run P w=.ok u w∧AI S c w (Kok b S c) r u:=by
 unfold VB at h
 split at h
 ·rename_i s
  split at h
  ·rename_i hc
   simp only [Bool.and_eq_true,Option.isNone_iff_eq_none,Option.map_eq_none_iff] at hc
   obtain ⟨hc,rfl⟩:=hc
   obtain rfl:=DE hx
   have hu:=K7 hT hc
   obtain ⟨l,n,m,h1,h2,h3,h4,h5,h6⟩:=KI (P:=P) hs h false s.length (Nat.le_refl _) (fun _=>rfl)
   simp only [Tr.ev,Option.some.injEq] at h1
   subst h1
   simp only [Option.map_none] at h6
   refine ⟨.string ⟨((s.drop l).take n).toArray⟩,?_,Cm OI⟩
   simp only [Instr.sliceAt,Instr.slice,Sem.run_bind,run_underlying hu,Result.andThen_ok,Option.map_none,Option.isSome_none,Bool.false_eq_true,if_false]
   have hsz:(ByteArray.mk s.toArray).size=s.length:=by simp [ByteArray.size]
   simp [hsz,h6,XF s l n h2]
  ·simp [Tr.ev] at h
 ·rename_i e r' xs
  split at h
  ·rename_i hc
   obtain ⟨e',i,hu,hie,hsz⟩:=Kt hT hc
   simp only [LeafOk,Rp] at hx
   obtain ⟨_,A,cap,ws,hv,hcap,hr,hxs⟩:=hx
   injection hv with hv
   subst hv
   obtain ⟨l,n,m,h1,h2,h3,h4,h5,h6⟩:=KI (P:=P) hs h true cap hcap (fun hx=>(by cases hx))
   simp only [Tr.ev,Option.some.injEq] at h1
   subst h1
   refine ⟨.slice (if m=l then A else A.map (·.add (l * r'.size))) n (m - l),?_,?_⟩
   ·simp only [Instr.sliceAt,Instr.slice,Sem.run_bind,run_underlying hu,Result.andThen_ok,h6,sizeOf,typeInfo,Sem.run_pure]
    simp [hie,hsz,Nat.add_sub_cancel_left]
   ·have hlen:((xs.drop l).take n).length=n:=by rw [List.length_take,List.length_drop]; omega
    have hsplit:xs=xs.take l++((xs.drop l).take n++(xs.drop l).drop n):=by rw [List.take_append_drop,List.take_append_drop]
    rw [hsplit] at hr
    obtain ⟨v1,v23,F1,F23,e1,eF,r1,r23⟩:=RpL.split hr
    obtain ⟨v2,v3,F2,F3,rfl,rfl,r2,r3⟩:=RpL.split r23
    have l1:=RpL.len (fun x vs F h=>Rp.len r' x h) r1
    have hF2:F2=[]:=by
     have:=congrArg List.length eF
     simp only [List.length_nil,List.length_append] at this
     exact List.eq_nil_of_length_eq_zero (by omega)
    subst hF2
    simp only [AI,S1Ok,LeafOk,Rp]
    refine ⟨trivial,_,_,v2,by rw [hlen],by rw [hlen]; omega,r2,?_⟩
    rcases Nat.eq_zero_or_pos n with hz | hz
    ·left; exact List.eq_nil_of_length_eq_zero (by rw [hlen,hz])
    ·right
     rcases hxs with rfl | ⟨ad,rfl,k1,k2,k3⟩
     ·simp at h2; omega
     ·refine ⟨ad.add (l * r'.size),by rw [if_neg (by omega)]; rfl,by rw [C9]; exact k1,by rw [C9]; exact k2,fun j hj=>?_⟩
      rw [add_add,k3 _ (by rw [e1]; simp only [List.length_append]; rw [l1,List.length_take,Nat.min_eq_left (by omega)]; omega),e1]
      have:l * r'.size=v1.length:=by rw [l1,List.length_take,Nat.min_eq_left (by omega)]
      rw [this,List.getElem?_append_right (by omega),List.getElem?_append_left (by omega)]
      congr 1; omega
  ·simp [Tr.ev] at h
 ·rename_i k st win
  simp only [Ai,Option.bind_eq_some_iff] at h
  obtain ⟨o,ho,h⟩:=h
  split at h
  ·rename_i hc
   obtain ⟨e',i,hu,hie,hsz⟩:=Kt hT hc
   obtain ⟨hne,F',hp,hsub,hnd⟩:=Hq hi hx ho
   obtain ⟨A,cap,ws,F2,rfl,hr,_,hnone,hxs⟩:=MV hp
   have hcap:o.xs.length≤cap:=by
    simp only [Rp] at hp
    rcases hp with ⟨h1,_⟩ | ⟨g,off,c1,cs,fr,F0,h1,_,_,_,_,h2,_⟩
    ·rw [h1]; simp
    ·injection h1 with h1 _; injection h1 with _ _ h1; omega
   obtain ⟨l,n,m,h1,h2,h3,h4,h5,h6⟩:=KI (P:=P) hs h true cap hcap (fun hx=>(by cases hx))
   simp only [Tr.ev,Option.some.injEq] at h1
   subst h1
   refine ⟨.slice (if m=l then A else A.map (·.add (l * o.r.size))) n (m - l),?_,?_⟩
   ·simp only [Instr.sliceAt,Instr.slice,Sem.run_bind,run_underlying hu,Result.andThen_ok,h6,sizeOf,typeInfo,Sem.run_pure]
    simp [hie,hsz,Nat.add_sub_cancel_left]
   ·obtain ⟨o0,ys,Ad,capd,hk,hg,hh,hz,hw,hl,_⟩:=Ul hi hx ho
    refine ⟨o0,_,o.r,ys,_,hk,hg,hh,?_⟩
    refine AcW (n:=o.xs.length) ⟨rfl,hz⟩ hw rfl h2 h3 h4 _ rfl ?_ ?_
    ·intro p hp'; subst hp'; exact hl
    ·intro hp'; subst hp'; exact hl
  ·simp [Tr.ev] at h
 ·split at h
  ·rename_i hc
   obtain ⟨e',i,hu,hie⟩:=I9 hT hc
   obtain rfl:v=.slice none 0 0:=hx
   obtain ⟨l,n,m,h1,h2,h3,h4,h5,h6⟩:=KI (P:=P) hs h true 0 (Nat.le_refl _) (fun hx=>(by cases hx))
   simp only [Tr.ev,Option.some.injEq] at h1
   subst h1
   obtain rfl:l=0:=by omega
   obtain rfl:n=0:=by omega
   obtain rfl:m=0:=by omega
   refine ⟨.slice none 0 0,?_,rfl⟩
   simp only [Instr.sliceAt,Instr.slice,Sem.run_bind,run_underlying hu,Result.andThen_ok,h6,sizeOf,typeInfo,Sem.run_pure]
   simp [hie]
  ·simp [Tr.ev] at h
 ·simp [Tr.ev] at h
theorem Qq {b:Base} {S:St} {c:Cc} (hT:TabOk P ti) (hi:Inv b S w c) {t:TypeId} {x:Leaf} {v:Value} {k:IntKind} {i:Int} {r:SV}
  (hx:LeafOk S c w (Kok b S c) x v) (h:(VN (ti t) x i).ev S=some r) :
  ∃ u,(Instr.indexAt t v (.int k i)).run P w=.ok u w∧AI S c w (Kok b S c) r u:=by
 unfold VN at h
 replace h:=Bv h
 obtain ⟨c1,h⟩:=h
 simp only [decide_eq_true_eq] at c1
 obtain ⟨j,rfl⟩:=Int.eq_ofNat_of_zero_le c1
 simp only [Int.toNat_natCast] at h
 split at h
 ·rename_i e r' xs
  split at h
  ·rename_i hc
   obtain ⟨e',ie,hu,hie,hsz⟩:=Kt hT hc
   simp only [Tr.ev,Option.bind_eq_some_iff,Option.some.injEq] at h
   obtain ⟨row,hrow,rfl⟩:=h
   have hj:j < xs.length:=(List.getElem?_eq_some_iff.1 hrow).1
   simp only [LeafOk,Rp] at hx
   obtain ⟨_,A,cap,ws,hv,hcap,hr,hxs⟩:=hx
   injection hv with hv
   subst hv
   rcases hxs with rfl | ⟨ad,rfl,k1,k2,k3⟩
   ·simp at hj
   obtain ⟨v1,u,v2,F1,G,F2,rfl,l1,hF,hp,_,_⟩:=RpL.get (fun x vs F h=>Rp.len r' x h) hr hrow
   have hG:G=[]:=by
    have:=congrArg List.length hF
    simp only [List.length_nil,List.length_append] at this
    exact List.eq_nil_of_length_eq_zero (by omega)
   subst hG
   refine ⟨.pointer (some (ad.add (j * r'.size))),?_,⟨ad.add (j * r'.size),u,by simp [Addr.add],hp,by rw [C9]; exact k1,by rw [C9]; exact k2,fun m hm=>?_⟩⟩
   ·have hlt:(j:Int) < (List.length xs:Int):=by omega
    simp only [Instr.indexAt,run_underlying hu,asIntOf,sizeOf,typeInfo,hie,Sem.run_bind,Result.andThen_ok,Sem.run_pure,Sem.run_ite,run_program]
    rw [if_pos ⟨c1,hlt⟩]; simp [hsz]
   ·rw [add_add,k3 _ (by simp only [List.length_append]; omega)]
    rw [List.getElem?_append_right (by omega),List.getElem?_append_left (by omega)]
    congr 1; omega
  ·simp [Tr.ev] at h
 ·rename_i k' st win
  simp only [Ai,Option.bind_eq_some_iff] at h
  obtain ⟨o,ho,h⟩:=h
  split at h
  ·rename_i hc
   obtain ⟨e',ie,hu,hie,hsz⟩:=Kt hT hc
   replace h:=Bv h
   obtain ⟨c2,h⟩:=h
   simp only [decide_eq_true_eq] at c2
   have hj:j < o.xs.length:=by omega
   simp only [Tr.ev,Option.some.injEq] at h
   subst h
   obtain ⟨o0,ys,Ad,capd,hk,hg,hh,hz,hw,hl,hown⟩:=Ul hi hx ho
   have hval:∃ a0 cap',v=.slice (some (a0.add (Vd win * o.r.size))) o.xs.length cap'∧Ad=some a0:=by
    cases Ad with
    | none=>
     have h8:=(hz rfl).1
     rw [h8] at hl
     cases win with
     | none=>simp only [Ms] at hl; omega
     | some p=>obtain ⟨lo,m'⟩:=p; simp only [Ms] at hl; omega
    | some a0=>
     cases win with
     | none=>
      have hw':v=.slice (some a0) ys.length capd:=hw
      exact ⟨a0,capd,by rw [hw',hl]; simp [Addr.add,Vd,Ms],rfl⟩
     | some p=>
      obtain ⟨lo,m'⟩:=p
      obtain ⟨A0,n0,cap0,A',cap',q,e0,e1,h1,h2,h3,h4,h5⟩:=hw
      injection e0 with f1 f2 f3
      subst f1
      have:=h5 a0 rfl
      subst this
      simp only [Ms] at hl
      have hq:q=lo:=h3 (by omega)
      subst hq
      exact ⟨a0,cap',by rw [e1,hl]; rfl,rfl⟩
   obtain ⟨a0,cap',rfl,rfl⟩:=hval
   refine ⟨.pointer (some ((a0.add (Vd win * o.r.size)).add (j * o.r.size))),?_,?_⟩
   ·have hlt:(j:Int) < (List.length o.xs:Int):=by omega
    simp only [Instr.indexAt,run_underlying hu,asIntOf,sizeOf,typeInfo,hie,Sem.run_bind,Result.andThen_ok,Sem.run_pure,Sem.run_ite,run_program]
    rw [if_pos ⟨c1,hlt⟩]; simp [hsz]
   ·refine ⟨o0,_,hk,?_,rfl,st,_,_,rfl,hg⟩
    rw [add_add,← Nat.add_mul]
    exact Vk st _ hown hg hh
  ·simp [Tr.ev] at h
 ·simp [Tr.ev] at h
end
end Go.V
namespace Go.V
open Go.RowKit
section
variable {P:Program} {ti:TypeId→TI}
theorem TG {x:TI} {ts:List Ty} (h:x.cells=some ts):x.vcells=some ts:=by
 cases x with
 | struct fs row eq=>
  simp only [TI.cells] at h
  split at h
  ·cases h
  ·exact h
 | ptr e=>cases h
 | _=>exact h
theorem It (hT:TabOk P ti) {t:TypeId} {ts:List Ty} (h:(ti t).vcells=some ts):∃ i,P.info? t=some i∧i.size=ts.length∧(∃ d,P.underlying t=some d∧GF d=(ti t).isAgg)∧
  ((ti t).isAgg=false→∃ u,ts=[u])∧∃ z,i.zero=some z∧z.cells.toList=ts.map Be∧∀ u∈ts,u.size=1∧∀ a b,u≠.pair a b:=by
 cases ht:ti t with
 | cell u=>
  rw [ht] at h
  simp only [TI.vcells,TI.cells,Option.some.injEq] at h
  subst h
  obtain ⟨⟨d,hd,hdd⟩,i,hi,h1,h2,h3⟩:=hT.cell ht
  refine ⟨i,hi,h1,⟨d,hd,?_⟩,fun _=>⟨u,rfl⟩,_,h2,?_,?_⟩
  ·cases u <;> cases d <;> first | rfl | (simp [BL] at hdd; done)
  ·cases u <;> first | rfl | (simp [Ty.size] at h3; done) | (cases d <;> simp [BL] at hdd)
  ·intro v hv
   simp only [List.mem_singleton] at hv
   subst hv
   refine ⟨h3,?_⟩
   cases v <;> cases d <;> first | (simp [BL] at hdd; done) | simp
 | slice e ts' bytes=>
  rw [ht] at h
  simp only [TI.vcells,TI.cells,Option.some.injEq] at h
  subst h
  obtain ⟨h1,⟨i,hi,h2,h3⟩,_⟩:=hT.slice ht
  exact ⟨i,hi,h2,⟨_,h1,rfl⟩,fun _=>⟨_,rfl⟩,_,h3,rfl,by simp [Ty.size]⟩
 | struct fs row eq=>
  rw [ht] at h
  simp only [TI.vcells,TI.cells,Option.some.injEq] at h
  subst h
  obtain ⟨fields,h1,_,_,i,hi,h2,h3,h4⟩:=hT.struct ht
  exact ⟨i,hi,h2,⟨_,h1,rfl⟩,fun h=>(by cases h),_,h3,by simp [Value.cells],h4⟩
 | ptr e=>
  rw [ht] at h
  simp only [TI.vcells,Option.some.injEq] at h
  subst h
  obtain ⟨h1,i,hi,h2,h3⟩:=hT.ptr ht
  exact ⟨i,hi,h2,⟨_,h1,rfl⟩,fun _=>⟨_,rfl⟩,_,h3,rfl,by simp [Ty.size]⟩
 | err=>rw [ht] at h; cases h
 | other=>rw [ht] at h; cases h
theorem Kr {t:TypeId} {i:TypeInfo} (h:P.info? t=some i) (w:World):(sizeOf t).run P w=.ok i.size w:=by simp [sizeOf,typeInfo,h]
theorem Wg {t:TypeId} {i:TypeInfo} {z:Value} (h:P.info? t=some i) (hz:i.zero=some z) (w:World):(zeroValue t).run P w=.ok z w:=by simp [zeroValue,typeInfo,h,hz]
theorem Jb {t:TypeId} {d:TypeDesc} (h:P.underlying t=some d) (w:World):(isAgg t).run P w=.ok (GF d) w:=by
 unfold isAgg
 simp only [Sem.run_bind,run_underlying h,Result.andThen_ok]
 cases d <;> rfl
theorem LL {S:St} {c:Cc} {w:World} {K:Nat→Prop}:∀ (ts:List Ty),(∀ u∈ts,u.size=1∧∀ a b,u≠.pair a b)→All2 (LeafOk S c w K) (ts.map Dk) (ts.map Be)
 | [],_=>.nil
 | t::ts,h=>by
  refine .cons ?_ (LL ts fun u hu=>h u (by simp [hu]))
  have:=h t (by simp)
  cases t with
  | pair a b=>exact absurd rfl (this.2 a b)
  | unit=>simp [Ty.size] at this
  | int k=>simp [Dk,Be,LeafOk,Rp,Ty.zero]
  | bool=>simp [Dk,Be,LeafOk,Rp,Ty.zero]
  | er=>simp [Dk,Be,LeafOk,Rp,Ty.zero,ErV]
  | lp=>simp [Ty.size] at this
  | str=>simp [Dk,Be,LeafOk,Rp,Ty.zero]
  | sl o e r=>simp [Dk,Be,LeafOk]
  | pt t=>simp [Dk,Be,LeafOk]
theorem R5 {b:Base} {S:St} {c:Cc} {w:World} (hi:Inv b S w c) (d:Nat) (hdn:d < b.n1) (row:List Leaf) (vs:List Value) (e:TypeId) (hrow:All2 (LeafOk S c w (Kok b S c)) row vs) (hkp:row.map (Leaf.kp [.m d])=row) :
  Did b S c w ⟨.s (.pl d 0),[.m d],[.ms d row]⟩ (.pointer (some ⟨w.heap.size,0,none⟩)) { w with heap:=w.heap.push (.cells vs.toArray e) }:=by
 obtain ⟨c',h1,h2,h3⟩:=hi.newMem d hdn row vs e rfl hrow hkp
 exact ⟨c',h2,h3,row.length,by simp [St.ups,St.up],by rw [h1.1,h1.2]⟩
theorem RD (t:TypeId) (v:Value) (w:World):(newVar t v).run P w=.ok ⟨w.heap.size,0,none⟩ { w with heap:=w.heap.push (.cells v.cells t) }:=by
 simp [newVar,newRow]
theorem Abw {b:Base} {S:St} {c:Cc} {w:World} (hT:TabOk P ti) (hi:Inv b S w c) {t:TypeId} {ts:List Ty} (h:(ti t).vcells=some ts) (d:Nat) (hdn:d < b.n1) :
  ∃ v w',(Instr.alloc t true (.tuple #[])).run P w=.ok v w'∧Did b S c w ⟨.s (.pl d 0),[.m d],[.ms d (ts.map Dk)]⟩ v w':=by
 obtain ⟨i,h1,_,_,_,z,h2,h3,h4⟩:=It hT h
 refine ⟨_,_,?_,R5 hi d hdn _ (ts.map Be) t (LL ts h4) (by rw [List.map_map]; exact List.map_congr_left fun u _=>by cases u <;> rfl)⟩
 simp only [Instr.alloc,Sem.run_bind,Wg h1 h2,Result.andThen_ok,RD,Sem.run_pure]
 rw [← h3]
theorem AcP {S:St} {c:Cc} {w:World} {K:Nat→Prop} (ks:List Kl) {l:Leaf} {v:Value} (h:LeafOk S c w K l v):LeafOk S c w K (l.kp ks) v:=by
 cases l with
 | vw k st win=>
  simp only [Leaf.kp]
  split
  ·exact h
  ·trivial
 | p k off=>
  simp only [Leaf.kp]
  split
  ·exact h
  ·trivial
 | _=>exact h
theorem AbB (ks:List Kl) (l:Leaf):(l.kp ks).kp ks=l.kp ks:=by
 cases l with
 | vw k st win=>
  by_cases h:ks.all (fun x=>x.okV k st)=true
  ·simp only [Leaf.kp,h,if_true]
  ·simp only [Leaf.kp,h]; rfl
 | p k off=>
  by_cases h:ks.all (fun x=>x.okM k)=true
  ·simp only [Leaf.kp,h,if_true]
  ·simp only [Leaf.kp,h]; rfl
 | _=>rfl
theorem Ad6 {b:Base} {S:St} {c:Cc} {w:World} (hi:Inv b S w c) {t:TypeId} {x:SV} {v:Value} {ls:List Leaf} (hx:AI S c w (Kok b S c) x v) (hl:Cs x=some ls) (d:Nat) (hdn:d < b.n1) :
  ∃ u w',(Instr.box t v).run P w=.ok u w'∧Did b S c w ⟨.s (.pl d 0),[.m d],[.ms d (ls.map (Leaf.kp [.m d]))]⟩ u w':=by
 obtain ⟨vs,h1,h2,h3⟩:=HD hi hx hl
 refine ⟨_,_,?_,R5 hi d hdn _ vs t (h2.map fun l v h=>AcP [.m d] h) (by rw [List.map_map]; exact List.map_congr_left fun l _=>AbB _ l)⟩
 simp only [Instr.box,Sem.run_bind,RD,Result.andThen_ok,Sem.run_pure,h1]
theorem LS:∀ (t:Ty) (x:t.D) (j:Nat) {c},As t x j=some c→(∀ a b,c.1≠.pair a b)∧c.1≠.unit
 | .pair a b,(x,y),j,c,h=>by
  simp only [As] at h
  split at h
  ·exact LS a x j h
  ·exact LS b y _ h
 | .unit,_,_,_,h=>by simp [As] at h
 | .int _,_,0,_,h=>by simp only [As,Option.some.injEq] at h; subst h; simp
 | .bool,_,0,_,h=>by simp only [As,Option.some.injEq] at h; subst h; simp
 | .er,_,0,_,h=>by simp only [As,Option.some.injEq] at h; subst h; simp
 | .lp,_,_,_,h=>by simp [As] at h
 | .str,_,0,_,h=>by simp only [As,Option.some.injEq] at h; subst h; simp
 | .pt _,_,0,_,h=>by simp only [As,Option.some.injEq] at h; subst h; simp
 | .sl _ _ _,_,0,_,h=>by simp only [As,Option.some.injEq] at h; subst h; simp
 | .int _,_,_+1,_,h=>by simp [As] at h
 | .bool,_,_+1,_,h=>by simp [As] at h
 | .er,_,_+1,_,h=>by simp [As] at h
 | .str,_,_+1,_,h=>by simp [As] at h
 | .pt _,_,_+1,_,h=>by simp [As] at h
 | .sl _ _ _,_,_+1,_,h=>by simp [As] at h
theorem Un:∀ (st:AH) (t:Ty) (x:t.D) {c:(u:Ty)×u.D},st≠[]→(Al t x st).run=some c→(∀ a b,c.1≠.pair a b)∧c.1≠.unit
 | [],_,_,_,hne,_=>absurd rfl hne
 | (i,j)::ps,t,x,c,_,h=>by
  match t,x,h with
  | .sl true e r,xs,h=>
   obtain ⟨row,d,hrow,hd,hrest⟩:=Dm h
   cases ps with
   | nil=>simp only [Al,Tr.run,Option.some.injEq] at hrest; subst hrest; exact LS r row j hd
   | cons p ps=>exact Un (p::ps) d.1 d.2 (by simp) hrest
  | .sl false _ _,_,hg=>simp [Al,Tr.run] at hg
  | .int _,_,hg=>simp [Al,Tr.run] at hg
  | .bool,_,hg=>simp [Al,Tr.run] at hg
  | .er,_,hg=>simp [Al,Tr.run] at hg
  | .lp,_,hg=>simp [Al,Tr.run] at hg
  | .str,_,hg=>simp [Al,Tr.run] at hg
  | .pt _,_,hg=>simp [Al,Tr.run] at hg
  | .unit,_,hg=>simp [Al,Tr.run] at hg
  | .pair _ _,_,hg=>simp [Al,Tr.run] at hg
theorem Ua {b:Base} {S:St} {c:Cc} {w:World} (hi:Inv b S w c) {a:S1} {v:Value} {n:Nat} {l:Leaf} (ha:S1Ok S c w (Kok b S c) a v) (h:(Fy a n).ev S=some l) :
  ∃ ad u,v=.pointer (some ad)∧w.cell? (ad.add n)=some u∧LeafOk S c w (Kok b S c) l u:=by
 cases a with
 | one l'=>simp [Fy,Tr.ev] at h
 | ag ls=>simp [Fy,Tr.ev] at h
 | fv f cs=>simp [Fy,Tr.ev] at h
 | pl k off=>
  obtain ⟨m,hm,rfl⟩:=ha
  simp only [Fy,Tr.ev,hm] at h
  split at h
  ·rename_i hlt
   simp only [Tr.ev] at h
   obtain ⟨cs,e,fr,h1,h2,h3,h4,_⟩:=hi.ms k m hm
   have hlt':c.mo k+(off+n) < cs.size:=by omega
   have hcell:cs[c.mo k+(off+n)]?=some cs[c.mo k+(off+n)]:=Array.getElem?_eq_getElem hlt'
   refine ⟨_,_,rfl,by rw [AT,AV h1,Nat.add_assoc]; exact hcell,?_⟩
   have:=h4 _ _ hlt hcell
   split at h
   ·simp [Tr.ev] at h
   ·simp only [Tr.ev,Option.some.injEq] at h; subst h; exact this
  ·simp [Tr.ev] at h
 | el k st=>
  obtain ⟨o,ad,ho,had,rfl,pre,⟨i,j⟩,d,rfl,hd⟩:=ha
  simp only [Fy,Tr.ev,ho,Ai,Option.bind_eq_some_iff] at h
  obtain ⟨c0,hc0,h⟩:=h
  rw [Jc] at hc0
  simp only [Option.some.injEq] at h
  subst h
  have hne:BP (pre++[(i,j)]) n≠[]:=by rw [Lm]; simp
  obtain ⟨h',F',h1,h2,h3,_,h4⟩:=Rp.reach _ _ _ (hi.ow k o ho) hc0
  obtain ⟨a',h5,h6,_⟩:=h4 hne
  have:=M8 _ n had
  rw [this] at h5
  injection h5 with h5
  subst h5
  refine ⟨ad,h',rfl,h6,?_⟩
  have hleaf:=Un _ _ _ hne hc0
  obtain ⟨t0,x0⟩:=c0
  cases t0 with
  | pair a b=>exact absurd rfl (hleaf.1 a b)
  | unit=>exact absurd rfl hleaf.2
  | int k=>simp only [KA,LeafOk,Rp] at h2 ⊢; exact ⟨h2.1,trivial⟩
  | bool=>simp only [KA,LeafOk,Rp] at h2 ⊢; exact ⟨h2.1,trivial⟩
  | lp=>simp only [Rp] at h2
  | er=>simp only [KA,LeafOk,Rp] at h2 ⊢; obtain ⟨v,k1,_,k2⟩:=h2; exact ⟨v,k1,trivial,k2⟩
  | str=>simp only [KA,LeafOk,Rp] at h2 ⊢; exact ⟨h2.1,trivial⟩
  | sl o' e r=>
   cases o' with
   | true=>exact ⟨o,e,r,x0,h',ho,hc0,h1,rfl⟩
   | false=>
    simp only [KA,LeafOk]
    have:F'=[]:=by simp only [Rp] at h2; exact h2.1
    subst this; exact h2
  | pt t=>
   simp only [KA,LeafOk]
   have:F'=[]:=by simp only [Rp] at h2; exact h2.1
   subst this; exact h2
 | rp t x off=>
  obtain ⟨ad,vs,rfl,h1,h2,h3,h4⟩:=ha
  simp only [Fy] at h
  split at h
  ·rename_i c0 hc0
   simp only [Tr.ev,Option.some.injEq] at h
   subst h
   obtain ⟨pre,u,post,Fa,G,Fb,rfl,hl,hF,hu,_⟩:=Rp.cell t x _ h1 hc0
   have hG:G=[]:=by
    have:=congrArg List.length hF
    simp only [List.length_nil,List.length_append] at this
    exact List.eq_nil_of_length_eq_zero (by omega)
   subst hG
   refine ⟨_,u,rfl,?_,hu⟩
   rw [add_add,h4 _ (by simp only [List.length_append,List.length_cons]; omega)]
   rw [List.getElem?_append_right (by omega),hl,Nat.sub_self]; rfl
  ·simp [Tr.ev] at h
theorem Sg {b:Base} {S:St} {c:Cc} {w:World} (hi:Inv b S w c) {a:S1} {v:Value} (ha:S1Ok S c w (Kok b S c) a v):∀ (n i:Nat) {ls:List Leaf},(Iu a n i).ev S=some ls→
  (0 < n→∃ ad,v=.pointer (some ad))∧∃ us:List Value,us.length=n∧All2 (LeafOk S c w (Kok b S c)) ls us∧∀ ad,v=.pointer (some ad)→∀ j u,us[j]?=some u→w.cell? (ad.add (i+j))=some u
 | 0,i,ls,h=>by
  simp only [Iu,Tr.ev,Option.some.injEq] at h
  subst h
  exact ⟨by omega,[],rfl,.nil,by simp⟩
 | n+1,i,ls,h=>by
  simp only [Iu,Ai,Option.bind_eq_some_iff,Tr.ev,Option.some.injEq] at h
  obtain ⟨l,hl,ls',hls,rfl⟩:=h
  obtain ⟨ad,u,rfl,h1,h2⟩:=Ua hi ha hl
  obtain ⟨_,us,h3,h4,h5⟩:=Sg hi ha n (i+1) hls
  refine ⟨fun _=>⟨ad,rfl⟩,u::us,by simp [h3],.cons h2 h4,?_⟩
  intro ad' e j x hx
  injection e with e; injection e with e
  subst e
  cases j with
  | zero=>simp only [List.getElem?_cons_zero,Option.some.injEq] at hx; subst hx; exact h1
  | succ j=>
   have:=h5 ad rfl j x (by simpa using hx)
   rwa [show i+(j+1)=i+1+j by omega]
theorem Yh {S:St} {c:Cc} {w:World} {K:Nat→Prop} {l:Leaf} {v:Value} (h:LeafOk S c w K l v):S1Ok S c w K (ST l) v:=by
 cases l with
 | p k off=>exact h
 | _=>exact h
theorem Ab9 {S:St} {c:Cc} {w:World} {K:Nat→Prop} {u:Ty} {y:u.D} {v:Value} (h:LeafOk S c w K (.v (.pt u) (some y)) v):S1Ok S c w K (.rp u y 0) v:=by
 simp only [LeafOk,Rp] at h
 obtain ⟨_,ad,ws,e,k1,k2,k3,k4⟩:=h
 injection e with e
 subst e
 exact ⟨ad,ws,by simp [Addr.add],k1,k2,k3,k4⟩
theorem AbW {S:St} {c:Cc} {w:World} {K:Nat→Prop} {l:Leaf} {v:Value} {x:SV} (h:LeafOk S c w K l v) (hx:(R7 l).ev S=some x):AI S c w K x v:=by
 unfold R7 at hx
 split at hx
 ·rename_i u o
  cases o with
  | none=>simp [Tr.ev] at hx
  | some y=>
   simp only [Tr.ev,Option.bind_some,Option.some.injEq] at hx
   subst hx
   exact Ab9 h
 ·simp only [Tr.ev,Option.some.injEq] at hx
  subst hx
  exact Yh h
theorem Yq {b:Base} {S:St} {c:Cc} {w:World} (hT:TabOk P ti) (hi:Inv b S w c) {t:TypeId} {a:S1} {v:Value} {ts:List Ty} (ha:S1Ok S c w (Kok b S c) a v) (ht:(ti t).vcells=some ts) {x:SV}
  (h:(if (ti t).isAgg then (Iu a ts.length 0).bind fun ls=>Tr.ret (SV.s (.ag ls)) else (Fy a 0).bind R7).ev S=some x) (hpos:0 < ts.length) :
  ∃ u,(Instr.loadAt t v).run P w=.ok u w∧AI S c w (Kok b S c) x u:=by
 obtain ⟨i,h1,h2,⟨d,h3,h4⟩,h5,_⟩:=It hT ht
 split at h
 ·rename_i hag
  simp only [Ai,Option.bind_eq_some_iff,Tr.ev,Option.some.injEq] at h
  obtain ⟨ls,hls,rfl⟩:=h
  obtain ⟨h6,us,h7,h8,h9⟩:=Sg hi ha _ _ hls
  obtain ⟨ad,rfl⟩:=h6 hpos
  refine ⟨.agg us.toArray,?_,us,rfl,h8⟩
  have hl:=run_loadCells_list (P:=P) w ad us (fun j u hu=>by simpa using h9 ad rfl j u hu)
  simp only [Instr.loadAt,Instr.sureAddr,Sem.run_bind,Sem.run_pure,Result.andThen_ok,loadVar,Jb h3,h4,hag,if_true,Kr h1,h2,Sem.run_ite]
  rw [h7] at hl
  rw [hl]; rfl
 ·rename_i hag
  simp only [Ai,Option.bind_eq_some_iff] at h
  obtain ⟨l,hl,h⟩:=h
  obtain ⟨ad,u,rfl,h6,h7⟩:=Ua hi ha hl
  refine ⟨u,?_,AbW h7 h⟩
  have h6':w.cell? ad=some u:=by simpa [Addr.add] using h6
  have hag':(ti t).isAgg=false:=by simpa using hag
  simp only [Instr.loadAt,Instr.sureAddr,Sem.run_bind,Sem.run_pure,Result.andThen_ok,loadVar,Jb h3,h4,hag',Sem.run_ite]
  simp [h6']
theorem W6 {t:TypeId} {d:TypeDesc} (hd:P.underlying t=some d) (hag:GF d=false) (cs:Array Value) (off:Nat) {v:Value} (hv:cs[off]?=some v) (w:World):(part t cs off).run P w=.ok v w:=by
 simp only [part,Sem.run_bind,Jb hd,Result.andThen_ok,hag,Bool.false_eq_true,if_false,hv,Sem.run_pure]
theorem Jl {w : World} {d : TypeDesc} {f : Field} {fs : List Field} {cs ds : Array Value} {u v : Value} {b r : Bool} (hn : (!(f.name == "_")) = true) (hd : P.underlying f.type = some d) (hag : GF d = false) (hu : cs[f.offset]? = some u) (hv : ds[f.offset]? = some v)
  (h1:(Op.equalIn 9999 f.type u v).run P w=.ok b w) (h2:(Op.eqFields 9999 cs ds fs).run P w=.ok r w):(Op.eqFields 9999 cs ds (f::fs)).run P w=.ok (b && r) w:=by
 have hn' : f.name ≠ "_" := by simpa using hn
 simp only [Op.eqFields,hn',ne_eq,not_false_eq_true,if_true,Sem.run_bind,W6 hd hag _ _ hu,W6 hd hag _ _ hv,Result.andThen_ok,h1]
 cases b
 ·simp
 ·simp [h2]
theorem Qv {w:World} {S:St} {c:Cc} {K:Nat→Prop}:∀ (row:List Ty) (fields:List Field) (fs:List (Nat×Nat×Bool)) (i:Nat) (xs ys:List Leaf) (us vs pre pre':List Value) {r:Bool},Ng P row fields=true→Co P fs fields=true→Mc fs i=true→
  pre.length=i→pre'.length=i→All2 (LeafOk S c w K) xs us→All2 (LeafOk S c w K) ys vs→Jx row xs ys=some r→(Op.eqFields 9999 (pre++us).toArray (pre'++vs).toArray fields).run P w=.ok r w
 | [],fields,fs,i,xs,ys,us,vs,pre,pre',r,h1,h2,h3,hp,hp',k1,k2,hr=>by
  cases fields with
  | cons f fields=>simp [Ng] at h1
  | nil=>
   cases k1 <;> cases k2 <;> simp [Jx] at hr
   subst hr; rfl
 | t::row,[],fs,i,xs,ys,us,vs,pre,pre',r,h1,h2,h3,hp,hp',k1,k2,hr=>by simp [Ng] at h1
 | t::row,f::fields,[],i,xs,ys,us,vs,pre,pre',r,h1,h2,h3,hp,hp',k1,k2,hr=>by simp [Co] at h2
 | t::row,f::fields,(o,n,ag)::fs,i,xs,ys,us,vs,pre,pre',r,h1,h2,h3,hp,hp',k1,k2,hr=>by
  simp only [Ng,Bool.and_eq_true] at h1
  obtain ⟨⟨hn,hd⟩,h1⟩:=h1
  split at hd
  ·rename_i d hd'
   simp only [Co,Bool.and_eq_true,beq_iff_eq] at h2
   obtain ⟨⟨⟨⟨ho,_⟩,_⟩,_⟩,h2⟩:=h2
   simp only [Mc,Bool.and_eq_true,beq_iff_eq] at h3
   obtain ⟨⟨⟨hoi,_⟩,_⟩,h3⟩:=h3
   cases k1 with
   | nil=>cases t <;> simp [Jx] at hr
   | cons a1 a2=>
    rename_i x u xs us
    cases k2 with
    | nil=>cases t <;> cases x <;> simp [Jx] at hr
    | cons b1 b2=>
     rename_i y v ys vs
     have rec_:=fun {r'} hr'=>Qv row fields fs (i+1) xs ys us vs (pre++[u]) (pre'++[v]) (r:=r') h1 h2 h3 (by simp [hp]) (by simp [hp']) a2 b2 hr'
     simp only [List.append_assoc,List.singleton_append] at rec_
     have hu:(pre++u::us).toArray[f.offset]?=some u:=by rw [ho,hoi,← hp]; simp
     have hv:(pre'++v::vs).toArray[f.offset]?=some v:=by rw [ho,hoi,← hp']; simp
     unfold Jx at hr
     split at hr
     ·rename_i e _ _; cases e
     ·rename_i e1 e2 e3
      injection e1 with e1 e1'; injection e2 with e2 e2'; injection e3 with e3 e3'
      subst e1 e2 e3 e1' e2' e3'
      split at hr
      ·rename_i hk; subst hk
       rw [Option.map_eq_some_iff] at hr
       obtain ⟨r',hr',rfl⟩:=hr
       obtain rfl:=Cj a1
       obtain rfl:=Cj b1
       cases d <;> simp [BL] at hd
       exact Jl hn hd' rfl hu hv (Xx 9998 f.type _ _ _ _ hd') (rec_ hr')
      ·cases hr
     ·rename_i e1 e2 e3
      injection e1 with e1 e1'; injection e2 with e2 e2'; injection e3 with e3 e3'
      subst e1 e2 e3 e1' e2' e3'
      rw [Option.map_eq_some_iff] at hr
      obtain ⟨r',hr',rfl⟩:=hr
      obtain rfl:=D2 a1
      obtain rfl:=D2 b1
      cases d <;> simp [BL] at hd
      exact Jl hn hd' rfl hu hv (Kq 9998 f.type _ _ hd') (rec_ hr')
     ·rename_i e1 e2 e3
      injection e1 with e1 e1'; injection e2 with e2 e2'; injection e3 with e3 e3'
      subst e1 e2 e3 e1' e2' e3'
      rw [Option.map_eq_some_iff] at hr
      obtain ⟨r',hr',rfl⟩:=hr
      have q1:=DE a1
      have q2:=DE b1
      cases d <;> simp [BL] at hd
      subst q1 q2
      refine Jl hn hd' rfl hu hv ?_ (rec_ hr')
      rw [run_equalIn_string _ _ _ _ _ hd',ByteArray.toList_eq,ByteArray.toList_eq]
     ·cases hr
  ·cases hd
theorem X2 {w:World} (t:TypeId) (us vs:List Value) (fields:Array Field) (ht:P.underlying t=some (.struct fields)) (hp:P.stoodInHeld t=false) {r:Bool} (h:(Op.eqFields 9999 us.toArray vs.toArray fields.toList).run P w=.ok r w) :
  (binOp .eql t (.agg us.toArray) (.agg vs.toArray)).run P w=.ok (.bool r) w∧(binOp .neq t (.agg us.toArray) (.agg vs.toArray)).run P w=.ok (.bool (!r)) w:=by
 have hf:P.fieldsOf t=fields:=by simp [Program.fieldsOf,ht]
 have he:(Op.equalIn 10000 t (.agg us.toArray) (.agg vs.toArray)).run P w=.ok r w:=by
  rw [run_equalIn_agg w 9999 t _ _ (by rw [hf]; exact ht) hp,hf]; exact h
 rw [run_eql_struct,run_neq_struct,he]
 exact ⟨rfl,rfl⟩
end
end Go.V
namespace Go.V
open Go.RowKit
theorem Stay.trans0 {S S1 S2:St} {c c1 c2:Cc} {w w1 w2:World} {K K1 K2:Nat→Prop} {ks:List Kl} (h:Stay S S1 c c1 w w1 K K1 []) (k:Stay S1 S2 c1 c2 w1 w2 K1 K2 ks):Stay S S2 c c2 w w2 K K2 ks:=by
 refine ⟨fun k' st win v hk hl=>k.vw k' st win v hk (h.vw k' st win v rfl hl),fun k' st v hk hl=>k.el k' st v hk (h.el k' st v rfl hl),fun k' off v hk hl=>k.pl k' off v hk (h.pl k' off v rfl hl),?_⟩
 refine ⟨Nat.le_trans h.kk.1 k.kk.1,fun g hg hlt=>?_⟩
 obtain ⟨h1,h2⟩:=h.kk.2 g hg hlt
 obtain ⟨h3,h4⟩:=k.kk.2 g h2 (Nat.lt_of_lt_of_le hlt h.kk.1)
 exact ⟨h3.trans h1,h4⟩
theorem Stay.leaf0 {S S1:St} {c c1:Cc} {w w1:World} {K K1:Nat→Prop} (h:Stay S S1 c c1 w w1 K K1 []) {l:Leaf} {v:Value} (hl:LeafOk S c w K l v):LeafOk S1 c1 w1 K1 l v:=by
 have:=h.leaf hl
 rwa [Leaf.kp_nil] at this
theorem Stay.refl (S:St) (c:Cc) (w:World) (K:Nat→Prop):Stay S S c c w w K K []:=⟨fun _ _ _ _ _ h=>h,fun _ _ _ _ h=>h,fun _ _ _ _ h=>h,KSame.refl _ _⟩
theorem V7 {b:Base} {c:Cc} (k n:Nat):∀ (ls:List Leaf) (vs:List Value) (off:Nat) (S:St) (w:World),Inv b S w c→S.ms k=some n→off+ls.length≤n→All2 (LeafOk S c w (Kok b S c)) ls vs→
  Inv b (S.ups (Gi k ls off)) (w.setCells (c.mb k) (c.mo k+off) vs) c∧Stay S (S.ups (Gi k ls off)) c c w (w.setCells (c.mb k) (c.mo k+off) vs) (Kok b S c) (Kok b (S.ups (Gi k ls off)) c) []
 | [],_,off,S,w,hi,_,_,.nil=>⟨hi,Stay.refl _ _ _ _⟩
 | l::ls,_,off,S,w,hi,hk,hle,.cons (b:=v) (bs:=vs) h1 h2=>by
  simp only [List.length_cons] at hle
  obtain ⟨h3,h4⟩:=hi.setMem k off n l v hk (by omega) h1 rfl rfl
  have ih:=V7 k n ls vs (off+1) (S.up (.mc k off l)) (w.setCell ⟨c.mb k,c.mo k+off,none⟩ v) h3 hk (by omega) (h2.mono fun l v h=>h4.leaf0 h)
  exact ⟨ih.1,h4.trans0 ih.2⟩
theorem Qc {b:Base} {S:St} {c:Cc} {w:World} (hi:Inv b S w c) {k n:Nat} (hk:S.ms k=some n) {j:Nat} (hj:j < n):(w.cell? ⟨c.mb k,c.mo k+j,none⟩).isSome=true∧w.frozen? ⟨c.mb k,c.mo k+j,none⟩=false:=by
 obtain ⟨cs,e,fr,h1,h2,h3,_⟩:=hi.ms k n hk
 refine ⟨?_,C3 h1 h3 (by omega)⟩
 rw [AV h1,Array.getElem?_eq_getElem (by omega)]; rfl
section
variable {P:Program} {ti:TypeId→TI}
theorem LF {t:TypeId} {i:TypeInfo} (hi:P.info? t=some i) {v:Value} {vs:List Value} (hv:v.cells=vs.toArray) (hn:i.size=vs.length) (ad:Addr) (w w':World) (h:(storeCells ad vs).run P w=.ok () w') :
  (Instr.storeAt t (.pointer (some ad)) v).run P w=.ok () w':=by
 simp only [Instr.storeAt,Instr.sureAddr,Sem.run_bind,Sem.run_pure,Result.andThen_ok,storeVar,Kr hi,Sem.run_ite]
 rw [if_neg (by rw [hv,hn]; simp),hv]
 exact h
theorem Adh {b:Base} {S:St} {c:Cc} {w:World} (hT:TabOk P ti) (hi:Inv b S w c) {t:TypeId} {k off:Nat} {v u:Value} {ts:List Ty} {x:SV} {ls:List Leaf} {r:List Kl×List U}
  (ha:S1Ok S c w (Kok b S c) (.pl k off) v) (ht:(ti t).vcells=some ts) (hx:AI S c w (Kok b S c) x u) (hl:Cs x=some ls) (hn:ls.length=ts.length) (h:(Gc (.pl k off) ls).ev S=some r) :
  ∃ w',(Instr.storeAt t v u).run P w=.ok () w'∧Did b S c w ⟨.no,r.1,r.2⟩ undef w':=by
 obtain ⟨n,hk,rfl⟩:=ha
 simp only [Gc,Tr.ev,hk] at h
 split at h
 ·rename_i hle
  simp only [Tr.ev,Option.some.injEq] at h
  subst h
  obtain ⟨i,h1,h2,_⟩:=It hT ht
  obtain ⟨vs,h3,h4,h5⟩:=HD hi hx hl
  obtain ⟨h6,h7⟩:=V7 k n ls vs off S w hi hk hle h4
  have hlen:=h4.len
  have hrun:=run_storeCells_cells (P:=P) (c.mb k) (c.mo k+off) vs 0 w (fun j hj=>by have:=(Qc hi hk (j:=off+j) (by omega)).1; rwa [← Nat.add_assoc] at this) (fun j hj=>by have:=(Qc hi hk (j:=off+j) (by omega)).2; rwa [← Nat.add_assoc] at this) h5
  exact ⟨_,LF h1 h3 (by omega) _ w _ hrun,c,h6,h7,trivial⟩
 ·simp [Tr.ev] at h
end
theorem Uc:∀ (st:AH) (a b:Nat),BP (BP st a) b=BP st (a+b)
 | [],_,_=>rfl
 | [(i,j)],a,b=>by simp only [BP]; congr 2; omega
 | p::q::ps,a,b=>by
  have hb:BP (p::q::ps) a=p::BP (q::ps) a:=rfl
  obtain ⟨q',ps',hq⟩:∃ q' ps',BP (q::ps) a=q'::ps':=by
   cases ps with
   | nil=>obtain ⟨x,y⟩:=q; exact ⟨_,_,rfl⟩
   | cons q2 ps=>exact ⟨_,_,rfl⟩
  rw [hb,hq]
  show p::BP (q'::ps') b=p::BP (q::ps) (a+b)
  rw [← hq,Uc (q::ps) a b]
theorem IZ {b:Base} {S:St} {c:Cc} {w:World} (hi:Inv b S w c) {t:Ty} {l:Leaf} {v:Value} {z:t.D×List Nat} (hl:LeafOk S c w (Kok b S c) l v) (h:(HI t l).ev S=some z) :
  (∀ k,k∈z.2→S.ow k≠none)∧AB z.2=true∧∃ G,Rp w (Kok b S c) t z.1 [v] G∧G.Nodup∧∀ g,g∈G→∃ k,k∈z.2∧g∈c.F k:=by
 unfold HI at h
 split at h
 ·rename_i u x
  split at h
  ·rename_i hu
   subst hu
   simp only [Tr.ev,Option.some.injEq] at h
   subst h
   exact ⟨by simp,rfl,[],hl,by simp,by simp⟩
  ·simp [Tr.ev] at h
 ·split at h
  ·rename_i o e r
   simp only [Tr.ev,Option.some.injEq] at h
   subst h
   obtain rfl:v=.slice none 0 0:=hl
   refine ⟨by simp,rfl,[],?_,by simp,by simp⟩
   cases o with
   | true=>simp only [Rp]; exact .inl ⟨trivial,trivial,trivial⟩
   | false=>simp only [Rp]; exact ⟨trivial,none,0,[],rfl,Nat.le_refl _,⟨rfl,rfl⟩,.inl trivial⟩
  ·simp [Tr.ev] at h
 ·rename_i k win
  simp only [Ai,Option.bind_eq_some_iff] at h
  obtain ⟨o,ho,h⟩:=h
  split at h
  ·rename_i hu
   subst hu
   simp only [Tr.ev,Option.some.injEq] at h
   subst h
   obtain ⟨h1,F',h2,h3,h4⟩:=Hq hi hl ho
   exact ⟨by simpa using h1,by simp [AB],F',h2,h4,fun g hg=>⟨k,by simp,h3 g hg⟩⟩
  ·simp [Tr.ev] at h
 ·simp [Tr.ev] at h
theorem PW {k:Nat} {ks:List Nat} (h:AB (k::ks)=true):k∉ks∧AB ks=true:=by
 simp only [AB,Bool.and_eq_true,Bool.not_eq_true'] at h
 exact ⟨by simpa using h.1,h.2⟩
theorem AJ:∀ {a b:List Nat},AB (a++b)=true→AB a=true∧AB b=true∧∀ k,k∈a→k∉b
 | [],b,h=>⟨rfl,h,by simp⟩
 | k::a,b,h=>by
  obtain ⟨h1,h2⟩:=PW (ks:=a++b) h
  obtain ⟨h3,h4,h5⟩:=AJ h2
  refine ⟨?_,h4,?_⟩
  ·simp only [AB,Bool.and_eq_true,Bool.not_eq_true',h3,and_true]
   simp only [List.mem_append] at h1
   simp; exact fun h=>h1 (.inl h)
  ·intro x hx
   rcases List.mem_cons.1 hx with rfl | hx
   ·exact fun hb=>h1 (by simp [hb])
   ·exact h5 x hx
theorem Step.setCell (w:World) (a:Addr) (v:Value):Step w (w.setCell a v) (fun g=>g=a.block):=
 ⟨rfl,rfl,rfl,by simp [World.setCell],fun g _ hg=>Below.heap_setCell _ _ _ _ hg⟩
section
variable {P:Program} {ti:TypeId→TI}
abbrev Kd (c:Cc) (κ:Nat) (ks:List Nat) (g:Nat):Prop:=g∈c.F κ∨∃ k,k∈ks∧g∈c.F k
theorem X6 {b:Base} {S:St} {c:Cc} {w:World} (hi:Inv b S w c) (κ:Nat) (o0:Own) (hκ:S.ow κ=some o0) (st:AH) (hst:st≠[]) (hst':∀ n,BP st n≠[]) (ad:Addr) :
  ∀ (ls:List Leaf) (vs:List Value) (n:Nat) (xs:List o0.r.D) (done:List Nat) (w1:World) (F1:List Nat) (r:Own×List Nat),
   xs.length=o0.xs.length→Rp w1 (Kok b S c) (.sl true o0.e o0.r) xs [c.hv κ] F1→F1.Nodup→(∀ g,g∈F1→Kd c κ done g)→(∀ k,k∈done→S.ow k≠none)→
   Step w w1 (Kd c κ done)→w1.heap.size=w.heap.size→(∀ m,n≤m→adr w1 (c.hv κ) (.sl true o0.e o0.r) (BP st m)=some (ad.add m))→
   All2 (LeafOk S c w (Kok b S c)) ls vs→(∀ v,v∈vs→v.oneCell'=true)→(QU ⟨o0.e,o0.r,xs⟩ st ls n).ev S=some r→κ∉done++r.2→AB (done++r.2)=true→
   ∃ (xs':List o0.r.D) (w':World) (F':List Nat),(storeCells ad vs n).run P w1=.ok () w'∧r.1=⟨o0.e,o0.r,xs'⟩∧xs'.length=o0.xs.length∧Rp w' (Kok b S c) (.sl true o0.e o0.r) xs' [c.hv κ] F'∧F'.Nodup∧
    (∀ g,g∈F'→Kd c κ (done++r.2) g)∧(∀ k,k∈done++r.2→S.ow k≠none)∧Step w w' (Kd c κ (done++r.2))∧w'.heap.size=w.heap.size
 | [],_,n,xs,done,w1,F1,r,hlen,hp,hnd,hF,hd,hs,hsz,_,.nil,_,h,_,_=>by
  simp only [QU,Tr.ev,Option.some.injEq] at h
  subst h
  simp only [List.append_nil]
  exact ⟨xs,w1,F1,rfl,rfl,hlen,hp,hnd,hF,hd,hs,hsz⟩
 | l::ls,_,n,xs,done,w1,F1,r,hlen,hp,hnd,hF,hd,hs,hsz,hadr,.cons (b:=v) (bs:=vs) h1 h2,hone,h,hκd,hun=>by
  simp only [QU,Ai,Option.bind_eq_some_iff,Tr.ev,Option.some.injEq] at h
  obtain ⟨c0,hc0,z,hz,ys,hys,r2,hr2,rfl⟩:=h
  rw [Jc] at hc0
  rw [RV] at hys
  obtain ⟨k1,k2,G,k3,k4,k5⟩:=IZ hi h1 hz
  simp only [← List.append_assoc] at hun hκd
  obtain ⟨hu1,_,_⟩:=AJ hun
  obtain ⟨_,_,hu2⟩:=AJ hu1
  obtain ⟨a,h',Fa,G0,Fb,p1,p2,p3,rfl,p5,p6,p7,hput⟩:=Rp.put (BP st n) _ _ (hst' n) hp hnd hc0 hys
  rw [hadr n (Nat.le_refl _)] at p1
  injection p1 with p1
  subst p1
  have hblk:(ad.add n).block=ad.block:=C9 _ _
  have hone1:v.oneCell'=true:=hone v (by simp)
  have hrun:(store (ad.add n) v).run P w1=.ok () (w1.setCell (ad.add n) v):=by
   rw [run_store P w1 _ v _ hone1,p2]; simp [p7]
  have hstep:=Step.setCell w1 (ad.add n) v
  have hin:∀ g,g=(ad.add n).block→Kd c κ done g:=fun g hg=>hF g (by rw [hg]; exact List.mem_append_left _ p5)
  have hGapart:∀ g,g∈G→¬ Kd c κ done g:=by
   intro g hg hx
   obtain ⟨k,hk,hgk⟩:=k5 g hg
   have hko:S.ow k≠none:=k1 k hk
   have hkκ:k≠κ:=by rintro rfl; exact hκd (by simp [hk])
   rcases hx with hx | ⟨k',hk',hx⟩
   ·exact hi.oo k κ hkκ hko (by rw [hκ]; simp) g hgk hx
   ·have hkk:k≠k':=by rintro rfl; exact hu2 k hk' hk
    exact hi.oo k k' hkk hko (hd k' hk') g hgk hx
  have hGsame:CV w w1 G:=fun g hg=>by
   obtain ⟨k,hk,hgk⟩:=k5 g hg
   exact hs.same g (hi.fr g (.inr ⟨k,k1 k hk,hgk⟩)).1 (hGapart g hg)
  have hT:∀ g,Kd c κ done g→Ce S c g:=by
   rintro g (hg | ⟨k,hk,hg⟩)
   ·exact .inr ⟨κ,by rw [hκ]; simp,hg⟩
   ·exact .inr ⟨k,hd k hk,hg⟩
  have kk1:KSame w w1 (Kok b S c) (Kok b S c):=RL hs hT (fun g hg=>.inl hg)
  have kk2:KSame w1 (w1.setCell (ad.add n) v) (Kok b S c) (Kok b S c):=⟨hstep.size,fun g hg hlt=>⟨hstep.same g hlt fun e=>hg.2 (hT g (hin g e)),hg⟩⟩
  have hz1:Rp w1 (Kok b S c) c0.1 z.1 [v] G:=Rp.frame kk1 _ _ k3 hGsame
  have hz2:Rp (w1.setCell (ad.add n) v) (Kok b S c) c0.1 z.1 [v] G:=Rp.frame kk2 _ _ hz1 fun g hg=>Below.heap_setCell _ _ _ _ fun e=>hGapart g hg (hin g e)
  obtain ⟨hnew,hadr2⟩:=hput _ _ v G hz2 kk2 rfl (fun g _ hg=>Below.heap_setCell _ _ _ _ hg)
  have hset:ys.length=xs.length:=by
   obtain ⟨⟨i,j⟩,ps,hb⟩:∃ p ps,BP st n=p::ps:=by
    cases hbb:BP st n with
    | nil=>exact absurd hbb (hst' n)
    | cons p ps=>exact ⟨p,ps,rfl⟩
   rw [hb] at hys
   simp only [EL,CY,Option.bind_eq_some_iff] at hys
   obtain ⟨row,_,hys⟩:=hys
   split at hys
   ·simp only [run_bind,Option.bind_eq_some_iff] at hys
    obtain ⟨yy,_,hys⟩:=hys
    split at hys
    ·simp only [Tr.run,Option.some.injEq] at hys; rw [← hys]; simp
    ·simp [Tr.run] at hys
   ·simp [Tr.run] at hys
  have hFnd:(Fa++(G++Fb)).Nodup:=by
   rw [List.nodup_append] at hnd ⊢
   obtain ⟨n1,n2,n3⟩:=hnd
   rw [List.nodup_append] at n2 ⊢
   refine ⟨n1,⟨k4,n2.2.1,?_⟩,?_⟩
   ·rintro x hx y hy rfl
    exact hGapart x hx (hF x (by simp [hy]))
   ·rintro x hx y hy rfl
    rcases List.mem_append.1 hy with hy | hy
    ·exact hGapart x hy (hF x (by simp [hx]))
    ·exact n3 x hx x (by simp [hy]) rfl
  have ih:=X6 hi κ o0 hκ st hst hst' ad ls vs (n+1) ys (done++z.2) (w1.setCell (ad.add n) v) (Fa++(G++Fb)) r2 (hset.trans hlen) hnew hFnd
   (by
    intro g hg
    rcases List.mem_append.1 hg with hg | hg
    ·rcases hF g (by simp [hg]) with h | ⟨k,h,h'⟩
     ·exact .inl h
     ·exact .inr ⟨k,by simp [h],h'⟩
    ·rcases List.mem_append.1 hg with hg | hg
     ·obtain ⟨k,h,h'⟩:=k5 g hg; exact .inr ⟨k,by simp [h],h'⟩
     ·rcases hF g (by simp [hg]) with h | ⟨k,h,h'⟩
      ·exact .inl h
      ·exact .inr ⟨k,by simp [h],h'⟩)
   (by intro k hk; rcases List.mem_append.1 hk with hk | hk; exact hd k hk; exact k1 k hk)
   ((hs.trans (hstep.mono hin)).mono (by rintro g (h | ⟨k,h,h'⟩); exact .inl h; exact .inr ⟨k,by simp [h],h'⟩))
   (by rw [← hsz]; simp [World.setCell])
   (by
    intro m hm
    have:=hadr2 (m - n)
    rw [Uc,show n+(m - n)=m by omega] at this
    rw [this]; exact hadr m (by omega))
   h2 (fun v hv=>hone v (by simp [hv])) hr2 hκd hun
  obtain ⟨xs',w',F',q1,q2,q3,q4,q5,q6,q7,q8,q9⟩:=ih
  refine ⟨xs',w',F',?_,q2,q3,q4,q5,by simpa [List.append_assoc] using q6,by simpa [List.append_assoc] using q7,by simpa [List.append_assoc] using q8,q9⟩
  simp only [storeCells,Sem.run_bind,hrun,Result.andThen_ok]
  exact q1
theorem MD (ks:List Nat):∀ (S:St),(S.ups (BJ ks)).ms=S.ms∧(S.ups (BJ ks)).mc=S.mc∧∀ k,(S.ups (BJ ks)).ow k=if k∈ks then none else S.ow k:=by
 induction ks with
 | nil=>intro S; exact ⟨rfl,rfl,fun k=>by simp [BJ,St.ups]⟩
 | cons k0 ks ih=>
  intro S
  obtain ⟨h1,h2,h3⟩:=ih (S.up (.ow k0 none))
  refine ⟨h1,h2,fun k=>?_⟩
  show ((S.up (.ow k0 none)).ups (BJ ks)).ow k=_
  rw [h3]
  by_cases hk:k∈ks
  ·simp [hk]
  ·rw [if_neg hk]
   show (if k=k0 then none else S.ow k)=_
   by_cases hk0:k=k0
   ·simp [hk0]
   ·simp [hk0,hk]
theorem D4 (us vs:List U):∀ S:St,S.ups (us++vs)=(S.ups us).ups vs:=by
 induction us with
 | nil=>intro S; rfl
 | cons u us ih=>intro S; exact ih _
theorem PN {k:Nat} {st:AH} {ls:List Leaf} {w:Nat×Nat} (h:VU k st ls=some w):ls=[.vw k st (some (w.1,w.2))]:=by
 unfold VU at h
 split at h
 ·split at h
  ·rename_i hk
   obtain ⟨rfl,rfl⟩:=hk
   injection h with h; subst h; rfl
  ·cases h
 ·cases h
theorem Aar {b:Base} {S:St} {c:Cc} {w:World} (hT:TabOk P ti) (hi:Inv b S w c) {t:TypeId} {κ:Nat} {st:AH} {v u:Value} {ts:List Ty} {x:SV} {lo n:Nat} {r:List Kl×List U}
  (ha:S1Ok S c w (Kok b S c) (.el κ st) v) (ht:(ti t).vcells=some ts) (hx:AI S c w (Kok b S c) x u) (hl:Cs x=some [.vw κ st (some (lo,n))]) (hn:ts.length=1) (h:(Wh κ st lo n).ev S=some r) :
  ∃ w',(Instr.storeAt t v u).run P w=.ok () w'∧Did b S c w ⟨.no,r.1,r.2⟩ undef w':=by
 obtain ⟨o0,ad,hκ,had,rfl,pre,⟨i,j⟩,d,rfl,hd⟩:=ha
 generalize hst:pre++[(i,j)]=st at *
 have hne:st≠[]:=by rw [← hst]; simp
 simp only [Wh,Tr.ev,hκ,Ai,Option.bind_eq_some_iff] at h
 obtain ⟨c0,hc0,h⟩:=h
 split at h
 ·rename_i e r' ys
  simp only [Ai,Option.bind_eq_some_iff,Tr.ev,Option.some.injEq] at h
  obtain ⟨zs,hzs,h⟩:=h
  subst h
  rw [Jc] at hc0
  rw [RV] at hzs
  obtain ⟨ie,i1,i2,_⟩:=It hT ht
  obtain ⟨vs,h3,h4,h5⟩:=HD hi hx hl
  match vs,h4 with
  | [v1],.cons h4 .nil=>
   obtain ⟨o1,e1,r1,ys1,hd1,ho1,hg1,hh1,hw1⟩:=h4
   obtain rfl:o0=o1:=by rw [hκ] at ho1; injection ho1
   rw [hc0] at hg1
   injection hg1 with hg1
   injection hg1 with ha1 hb1
   injection ha1 with _ he1 hr1
   subst he1 hr1
   obtain rfl:=eq_of_heq hb1
   have hown:=hi.ow κ o0 hκ
   have hnd:=hi.nd κ (by rw [hκ]; simp)
   obtain ⟨a,h',Fa,G0,Fb,p1,p2,p3,p4,p5,p6,p7,hput⟩:=Rp.put st _ _ hne hown hnd hc0 hzs
   rw [had] at p1
   injection p1 with p1
   subst p1
   have hhd:hd1=h':=by
    obtain ⟨p,ps,rfl⟩:=List.exists_cons_of_ne_nil hne
    simp only [hdr,had] at hh1
    rw [p2] at hh1
    injection hh1 with hh1
    exact hh1.symm
   subst hhd
   rw [p4] at hnd
   have hndG:G0.Nodup:=(List.nodup_append.1 (List.nodup_append.1 hnd).2.1).1
   obtain ⟨F2,q1,q2,q3⟩:=S6 p6 hndG hw1
   have hone1:v1.oneCell'=true:=h5 v1 (by simp)
   have hrun:(storeCells ad [v1] 0).run P w=.ok () (w.setCell ad v1):=by
    have h0:ad.add 0=ad:=rfl
    simp only [storeCells,Sem.run_bind,h0]
    rw [run_store P w _ v1 _ hone1,p2]; simp [p7]
   have hstep:=Step.setCell w ad v1
   have hin:∀ g,g=ad.block→g∈c.F κ:=fun g hg=>by rw [p4,hg]; exact List.mem_append_left _ p5
   have kk:KSame w (w.setCell ad v1) (Kok b S c) (Kok b S c):=⟨hstep.size,fun g hg hlt=>⟨hstep.same g hlt fun e=>hg.2 (.inr ⟨κ,by rw [hκ]; simp,hin g e⟩),hg⟩⟩
   have hG2:∀ g,g∈F2→g≠ad.block:=by
    rintro g hg rfl
    exact (List.nodup_append.1 hnd).2.2 ad.block p5 ad.block (List.mem_append_left _ (q2 _ hg)) rfl
   have hz:Rp (w.setCell ad v1) (Kok b S c) (.sl true e r') ((List.drop lo ys).take n) [v1] F2:=Rp.frame kk _ _ q1 fun g hg=>Below.heap_setCell _ _ _ _ (hG2 g hg)
   obtain ⟨hnew,_⟩:=hput _ _ v1 F2 hz kk rfl (fun g _ hg=>Below.heap_setCell _ _ _ _ hg)
   have hlen:zs.length=o0.xs.length:=by
    obtain ⟨⟨i',j'⟩,ps,rfl⟩:=List.exists_cons_of_ne_nil hne
    simp only [EL,CY,Option.bind_eq_some_iff] at hzs
    obtain ⟨row,_,hzs⟩:=hzs
    split at hzs
    ·simp only [run_bind,Option.bind_eq_some_iff] at hzs
     obtain ⟨yy,_,hzs⟩:=hzs
     split at hzs
     ·simp only [Tr.run,Option.some.injEq] at hzs; rw [← hzs]; simp
     ·simp [Tr.run] at hzs
    ·simp [Tr.run] at hzs
   have hsub:∀ g,g∈Fa++(F2++Fb)→g∈c.F κ:=by
    intro g hg
    rw [p4]
    simp only [List.mem_append] at hg ⊢
    rcases hg with hg | hg | hg
    ·exact .inl hg
    ·exact .inr (.inl (q2 g hg))
    ·exact .inr (.inr hg)
   have hFnd:(Fa++(F2++Fb)).Nodup:=by
    rw [List.nodup_append] at hnd ⊢
    obtain ⟨n1,n2,n3⟩:=hnd
    rw [List.nodup_append] at n2 ⊢
    refine ⟨n1,⟨q3,n2.2.1,fun x hx y hy=>n2.2.2 x (q2 x hx) y hy⟩,fun x hx y hy=>n3 x hx y ?_⟩
    rcases List.mem_append.1 hy with hy | hy
    ·exact List.mem_append_left _ (q2 y hy)
    ·exact List.mem_append_right _ hy
   refine ⟨_,LF i1 h3 (by rw [i2,hn]; rfl) ad w _ hrun,?_⟩
   generalize hS:(S.kp [.deep κ]).ups [.ow κ (some ⟨o0.e,o0.r,zs⟩)]=S'
   obtain ⟨c',_,_,_,e4,e5,_⟩:=hi.setOwn (S':=S') (w':=w.setCell ad v1) κ ⟨o0.e,o0.r,zs⟩ [] [.deep κ] (c.hv κ) (Fa++(F2++Fb))
    (by intro k; rw [← hS]; show (if k=κ then _ else (S.kp _).ow k)=_; rw [DM]; simp)
    (by rw [← hS]; exact Dd S _) (by intro k i; rw [← hS]; exact Dh S [.deep κ] k i) (fun k hk=>by cases hk)
    (fun o ho=>by
     obtain rfl:o0=o:=by rw [hκ] at ho; injection ho
     exact .inr ⟨by simp,rfl,zs,rfl,hlen⟩)
    (hstep.mono fun g hg=>⟨κ,.inl rfl,by rw [hκ]; simp,hin g hg⟩)
    (fun g hg=>⟨by
     have:=(hi.fr g (.inr ⟨κ,by rw [hκ]; simp,hsub g hg⟩)).1
     simpa [World.setCell] using this,.inl ⟨κ,.inl rfl,by rw [hκ]; simp,hsub g hg⟩⟩) hFnd
    (fun K' hK _=>Rp.frame ⟨Nat.le_refl _,fun g hg hlt=>⟨rfl,(hK.2 g hg (by simpa [World.setCell] using hlt)).2⟩⟩ _ _ hnew fun g _=>rfl)
   subst hS
   exact ⟨c',e4,e5,trivial⟩
 ·simp [Tr.ev] at h
theorem Adg {b:Base} {S:St} {c:Cc} {w:World} (hT:TabOk P ti) (hi:Inv b S w c) {t:TypeId} {κ:Nat} {st:AH} {v u:Value} {ts:List Ty} {x:SV} {ls:List Leaf} {r:List Kl×List U}
  (ha:S1Ok S c w (Kok b S c) (.el κ st) v) (ht:(ti t).vcells=some ts) (hx:AI S c w (Kok b S c) x u) (hl:Cs x=some ls) (hn:ls.length=ts.length) (h:(Gc (.el κ st) ls).ev S=some r) :
  ∃ w',(Instr.storeAt t v u).run P w=.ok () w'∧Did b S c w ⟨.no,r.1,r.2⟩ undef w':=by
 simp only [Gc] at h
 split at h
 ·rename_i ww hself
  obtain ⟨lo,n⟩:=ww
  exact Aar hT hi ha ht hx (PN hself ▸ hl) (by rw [PN hself] at hn; exact hn.symm) h
 obtain ⟨o0,ad,hκ,had,rfl,pre,⟨i,j⟩,d,rfl,hd⟩:=ha
 simp only [Tr.ev,hκ,Ai,Option.bind_eq_some_iff] at h
 obtain ⟨r0,hr0,h⟩:=h
 split at h
 ·simp [Tr.ev] at h
 ·rename_i hc
  simp only [Bool.or_eq_true,Bool.not_eq_true',not_or,Bool.not_eq_false] at hc
  obtain ⟨hc1,hc2⟩:=hc
  have hκr:κ∉r0.2:=by simpa using hc1
  simp only [Tr.ev,Option.some.injEq] at h
  subst h
  obtain ⟨ie,i1,i2,_⟩:=It hT ht
  obtain ⟨vs,h3,h4,h5⟩:=HD hi hx hl
  have hbump:∀ n,BP (pre++[(i,j)]) n≠[]:=fun n=>by rw [Lm]; simp
  obtain ⟨xs',w',F',q1,q2,q3,q4,q5,q6,q7,q8,q9⟩:=X6 (P:=P) hi κ o0 hκ (pre++[(i,j)]) (by simp) hbump ad ls vs 0 o0.xs [] w (c.F κ) r0 rfl (hi.ow κ o0 hκ) (hi.nd κ (by rw [hκ]; simp))
   (fun g hg=>.inl hg) (by simp) (Step.refl _ _) rfl (fun m _=>M8 _ m had) h4 h5 hr0 (by simpa using hκr) (by simpa using hc2)
  simp only [List.nil_append] at q6 q7 q8
  refine ⟨w',LF i1 h3 (by rw [i2,← hn,h4.len]) ad w w' q1,?_⟩
  generalize hS:(S.kp (.deep κ::BN r0.2)).ups (.ow κ (some r0.1)::BJ r0.2)=S'
  have hg:=MD r0.2 ((S.kp (.deep κ::BN r0.2)).up (.ow κ (some r0.1)))
  have how:∀ k,S'.ow k=if k=κ then some r0.1 else if k∈r0.2 then none else S.ow k:=by
   intro k
   rw [← hS]
   show (((S.kp (.deep κ::BN r0.2)).up (.ow κ (some r0.1))).ups (BJ r0.2)).ow k=_
   rw [hg.2.2]
   by_cases hk:k=κ
   ·subst hk; rw [if_neg hκr,if_pos rfl]; show (if k=k then some r0.1 else _)=_; rw [if_pos rfl]
   ·rw [if_neg hk]
    by_cases hk2:k∈r0.2
    ·rw [if_pos hk2,if_pos hk2]
    ·rw [if_neg hk2,if_neg hk2]; show (if k=κ then some r0.1 else (S.kp _).ow k)=_; rw [if_neg hk,DM]
  have hms:S'.ms=S.ms:=by
   rw [← hS]; exact hg.1.trans (Dd S _)
  have hmc:∀ k i,S'.mc k i=(S.mc k i).kp (.deep κ::BN r0.2):=by
   intro k i; rw [← hS]
   have:((S.kp (.deep κ::BN r0.2)).ups (.ow κ (some r0.1)::BJ r0.2)).mc=(S.kp (.deep κ::BN r0.2)).mc:=hg.2.1
   rw [this,Dh]
  obtain ⟨c',_,_,_,e4,e5,_⟩:=hi.setOwn (S':=S') (w':=w') κ r0.1 r0.2 (.deep κ::BN r0.2) (c.hv κ) F' how hms hmc (fun k hk=>by simp [BN,hk])
   (fun o ho=>by
    obtain rfl:o0=o:=by rw [hκ] at ho; injection ho
    exact .inr ⟨by simp,rfl,xs',q2,q3⟩)
   (q8.mono (by rintro g (h | ⟨k,h,h'⟩); exact ⟨κ,.inl rfl,by rw [hκ]; simp,h⟩; exact ⟨k,.inr h,q7 k h,h'⟩))
   (fun g hg=>by
    have:∃ k,(k=κ∨k∈r0.2)∧S.ow k≠none∧g∈c.F k:=by
     rcases q6 g hg with h | ⟨k,h,h'⟩
     ·exact ⟨κ,.inl rfl,by rw [hκ]; simp,h⟩
     ·exact ⟨k,.inr h,q7 k h,h'⟩
    obtain ⟨k,k1,k2,k3⟩:=this
    exact ⟨by rw [q9]; exact (hi.fr g (.inr ⟨k,k2,k3⟩)).1,.inl ⟨k,k1,k2,k3⟩⟩) q5
   (fun K' hK _=>by
    rw [q2]
    have hKin:∀ g,Kok b S c g→g < w'.heap.size→K' g:=fun g hg hlt=>(hK.2 g hg (by rw [← q9]; exact hlt)).2
    exact Rp.frame ⟨Nat.le_refl _,fun g hg hlt=>⟨rfl,hKin g hg hlt⟩⟩ _ _ q4 fun g _=>rfl)
  subst hS
  exact ⟨c',e4,e5,trivial⟩
end
end Go.V