import Derived.Test.YtofhefmbioblbaaGreatQMsD
import Derived.Great.BuildSlice
import Derived.Laws.MakeOwn
import Derived.Laws.AppendOwn
import Derived.Deep.Upon
import Derived.Laws.IdiomCopy
import Derived.Lib.AppendZerosOnto
import Derived.Laws.IdiomStrings
import Derived.Laws.BytesArg
import Derived.Laws.Tables
import Derived.Laws.Small
import Derived.Laws.Strings
import Derived.Lib.SliceRun
import Derived.Calls
set_option linter.unusedVariables false
set_option linter.unusedSimpArgs false
namespace Go.V
open Go.RowKit
def B7 (c:Cc) (ks:List Nat) (G:List Nat):Prop:=∀ g,g∈G→∃ k,k∈ks∧g∈c.F k
def Ows (S:St) (ks:List Nat):Prop:=∀ k,k∈ks→S.ow k≠none
section
variable {b:Base} {S:St} {c:Cc} {w:World}
theorem CC {ks ls:List Nat} {G H:List Nat} (hi:Inv b S w c) (hg:B7 c ks G) (hh:B7 c ls H) (ho:Ows S ks) (ho':Ows S ls) (hu:AB (ks++ls)=true) (n1:G.Nodup) (n2:H.Nodup) :
  B7 c (ks++ls) (G++H)∧(G++H).Nodup:=by
 obtain ⟨_,_,h3⟩:=AJ hu
 refine ⟨?_,List.nodup_append.2 ⟨n1,n2,?_⟩⟩
 ·intro g hx
  rcases List.mem_append.1 hx with hx | hx
  ·obtain ⟨k,h,h'⟩:=hg g hx; exact ⟨k,by simp [h],h'⟩
  ·obtain ⟨k,h,h'⟩:=hh g hx; exact ⟨k,by simp [h],h'⟩
 ·rintro g hx g' hx' rfl
  obtain ⟨k,h,h'⟩:=hg g hx
  obtain ⟨l,q,q'⟩:=hh g hx'
  have hne:k≠l:=by rintro rfl; exact h3 k h q
  exact hi.oo k l hne (ho k h) (ho' l q) g h' q'
theorem CE {ks ls:List Nat} (h:Ows S ks) (h':Ows S ls):Ows S (ks++ls):=fun k hk=>(List.mem_append.1 hk).elim (h k) (h' k)
theorem Dq (hi:Inv b S w c) (key:Nat) (o:Own) (gs:List Nat) (hgs:Ows S gs) {w':World} {h':Value} {F':List Nat} (hst:Step w w' (fun g=>∃ k,k∈gs∧g∈c.F k))
  (hF:∀ g,g∈F'→g < w'.heap.size∧((∃ k,k∈gs∧g∈c.F k)∨w.heap.size≤g)) (hnd:F'.Nodup)
  (hR:∀ K',KSame w w' (Kok b S c) K'→(∀ g,w.heap.size≤g→g∉F'→K' g)→Rp w' K' (.sl true o.e o.r) o.xs [h'] F'):Did b S c w (Bz key o gs) h' w':=by
 unfold Did
 show ∃ c',Inv b ((S.kp (.all key::BN gs)).ups (BJ gs++[.ow key (some o)])) w' c'∧Stay S ((S.kp (.all key::BN gs)).ups (BJ gs++[.ow key (some o)])) c c' w w' (Kok b S c) (Kok b ((S.kp (.all key::BN gs)).ups (BJ gs++[.ow key (some o)])) c') (.all key::BN gs)∧
  AI ((S.kp (.all key::BN gs)).ups (BJ gs++[.ow key (some o)])) c' w' (Kok b ((S.kp (.all key::BN gs)).ups (BJ gs++[.ow key (some o)])) c') (.s (.one (.vw key [] none))) h'
 generalize hS:(S.kp (.all key::BN gs)).ups (BJ gs++[.ow key (some o)])=S'
 have hg:=MD gs (S.kp (.all key::BN gs))
 rw [D4] at hS
 have how:∀ k,S'.ow k=if k=key then some o else if k∈gs then none else S.ow k:=by
  intro k; rw [← hS]
  show (if k=key then some o else ((S.kp (.all key::BN gs)).ups (BJ gs)).ow k)=_
  rw [hg.2.2,DM]
 have hms:S'.ms=S.ms:=by
  rw [← hS]; show ((S.kp (.all key::BN gs)).ups (BJ gs)).ms=_; rw [hg.1,Dd]
 have hmc:∀ k i,S'.mc k i=(S.mc k i).kp (.all key::BN gs):=by
  intro k i; rw [← hS]; show ((S.kp (.all key::BN gs)).ups (BJ gs)).mc k i=_; rw [hg.2.1,Dh]
 obtain ⟨c',_,e2,_,e4,e5,_⟩:=hi.setOwn (S':=S') (w':=w') key o gs (.all key::BN gs) h' F' how hms hmc (fun k hk=>by simp [BN,hk]) (fun _ _=>.inl (by simp))
  (hst.mono (by rintro g ⟨k,h,h'⟩; exact ⟨k,.inr h,hgs k h,h'⟩))
  (fun g hg=>⟨(hF g hg).1,(hF g hg).2.imp (by rintro ⟨k,h,h'⟩; exact ⟨k,.inr h,hgs k h,h'⟩) id⟩) hnd hR
 refine ⟨c',e4,e5,o,o.e,o.r,o.xs,h',by rw [how,if_pos rfl],rfl,by rw [e2]; rfl,rfl⟩
theorem LP (ls:List Leaf):Dy [] ls=match ls with | []=>.ret ((),[]) | _::_=>.fail:=by cases ls <;> rfl
theorem XH (t:Ty) (l:Leaf):Dy [t] [l]=HI t l:=rfl
theorem PP (t u:Ty) (ts:List Ty) (l:Leaf) (ls:List Leaf):Dy (t::u::ts) (l::ls)=(HI t l).bind fun x=>(Dy (u::ts) ls).bind fun y=>.ret ((x.1,y.1),x.2++y.2):=rfl
theorem IN (t:Ty) (ts:List Ty):Dy (t::ts) []=.fail:=by cases ts <;> rfl
theorem P2 (t:Ty) (l u:Leaf) (ls:List Leaf):Dy [t] (l::u::ls)=.fail:=rfl
theorem W0 (hi:Inv b S w c):∀ (ts:List Ty) (ls:List Leaf) (vs:List Value) (z:(AM ts).D×List Nat),All2 (LeafOk S c w (Kok b S c)) ls vs→(Dy ts ls).ev S=some z→AB z.2=true→
  Ows S z.2∧∃ G,Rp w (Kok b S c) (AM ts) z.1 vs G∧G.Nodup∧B7 c z.2 G:=by
 intro ts
 induction ts with
 | nil=>
  intro ls vs z ha h _
  cases ls with
  | nil=>
   cases ha
   rw [LP] at h
   replace h:some (((),[]):Unit×List Nat)=some z:=h
   injection h with h
   subst h
   exact ⟨fun k hk=>(by cases hk),[],by simp [AM,Rp],by simp,fun g hg=>(by cases hg)⟩
  | cons l ls=>rw [LP] at h; cases h
 | cons t ts ih=>
  intro ls vs z ha h hu
  cases ts with
  | nil=>
   cases ls with
   | nil=>rw [IN] at h; cases h
   | cons l ls=>
    cases ls with
    | cons l2 ls=>rw [P2] at h; cases h
    | nil=>
     cases ha with
     | cons h1 h2=>
      cases h2
      rw [XH] at h
      obtain ⟨k1,_,G,k3,k4,k5⟩:=IZ (t:=t) (z:=z) hi h1 h
      exact ⟨k1,G,k3,k4,k5⟩
  | cons u ts=>
   cases ls with
   | nil=>rw [IN] at h; cases h
   | cons l ls=>
    cases ha with
    | cons h1 h2=>
     rw [PP] at h
     obtain ⟨z1,hz1,h⟩:=Option.bind_eq_some_iff.1 ((Ai S _ _).symm.trans h)
     obtain ⟨z2,hz2,h⟩:=Option.bind_eq_some_iff.1 ((Ai S _ _).symm.trans h)
     injection h with h
     subst h
     simp only at hu
     obtain ⟨u1,u2,_⟩:=AJ hu
     obtain ⟨k1,_,G,k3,k4,k5⟩:=IZ hi h1 hz1
     obtain ⟨m1,H,m3,m4,m5⟩:=ih ls _ z2 h2 hz2 u2
     obtain ⟨q1,q2⟩:=CC hi k5 m5 k1 m1 hu k4 m4
     refine ⟨CE k1 m1,G++H,?_,q2,q1⟩
     show Rp w (Kok b S c) (.pair t (AM (u::ts))) (z1.1,z2.1) _ _
     rw [Rp]
     exact ⟨[_],_,G,H,rfl,rfl,k3,m3⟩
theorem UQ {S:St}:∀ (ts:List Ty) (ls:List Leaf) (z:(AM ts).D×List Nat),(Dy ts ls).ev S=some z→ls.length=ts.length:=by
 intro ts
 induction ts with
 | nil=>
  intro ls z h
  cases ls with
  | nil=>rfl
  | cons l ls=>rw [LP] at h; cases h
 | cons t ts ih=>
  intro ls z h
  cases ts with
  | nil=>
   cases ls with
   | nil=>rw [IN] at h; cases h
   | cons l ls=>
    cases ls with
    | cons l2 ls=>rw [P2] at h; cases h
    | nil=>rfl
  | cons u ts=>
   cases ls with
   | nil=>rw [IN] at h; cases h
   | cons l ls=>
    rw [PP] at h
    obtain ⟨z1,hz1,h⟩:=Option.bind_eq_some_iff.1 ((Ai S _ _).symm.trans h)
    obtain ⟨z2,hz2,h⟩:=Option.bind_eq_some_iff.1 ((Ai S _ _).symm.trans h)
    have:=ih ls z2 hz2
    simp only [List.length_cons] at this ⊢; omega
theorem Wz (hi:Inv b S w c) (ts:List Ty):∀ (ps:List (Nat×SV)) (us:List Value) (n:Nat) {z:List (AM ts).D×List Nat},All2 (fun p u=>AI S c w (Kok b S c) p.2 u) ps us→(Sl ts ps n).ev S=some z→AB z.2=true→
  Ows S z.2∧z.1.length=ps.length∧ps.map (·.1)=List.range' n ps.length∧(∀ u,u∈us→u.cells.size=ts.length)∧∃ G,RpL (Rp w (Kok b S c) (AM ts)) z.1 (us.flatMap fun u=>u.cells.toList) G∧G.Nodup∧B7 c z.2 G
 | [],_,n,z,.nil,h,_=>by
  simp only [Sl,Tr.ev,Option.some.injEq] at h
  subst h
  refine ⟨fun k hk=>(by cases hk),rfl,rfl,by simp,[],?_,by simp,fun g hg=>(by cases hg)⟩
  exact ⟨rfl,rfl⟩
 | (i,x)::ps,_,n,z,.cons (b:=v) (bs:=vs) h1 h2,h,hu=>by
  simp only [Sl] at h
  split at h
  ·rename_i hin
   subst hin
   split at h
   ·rename_i ls hls
    simp only [Ai,Option.bind_eq_some_iff,Tr.ev,Option.some.injEq] at h
    obtain ⟨z1,hz1,z2,hz2,rfl⟩:=h
    simp only at hu
    obtain ⟨u1,u2,_⟩:=AJ hu
    obtain ⟨cs,e1,e2,_⟩:=HD hi h1 hls
    obtain ⟨k1,G,k3,k4,k5⟩:=W0 hi ts ls cs z1 e2 hz1 u1
    obtain ⟨m1,m2,m3,m4,H,m5,m6,m7⟩:=Wz hi ts ps vs (i+1) h2 hz2 u2
    obtain ⟨q1,q2⟩:=CC hi k5 m7 k1 m1 hu k4 m6
    have hlen:=UQ ts ls z1 hz1
    refine ⟨CE k1 m1,by simp [m2],?_,?_,G++H,?_,q2,q1⟩
    ·simp only [List.map_cons,List.length_cons,List.range'_succ,m3]
    ·intro u hu
     rcases List.mem_cons.1 hu with rfl | hu
     ·rw [e1,List.size_toArray,← e2.len,hlen]
     ·exact m4 u hu
    ·refine ⟨cs,_,G,H,?_,rfl,k3,m5⟩
     simp [e1]
   ·simp [Tr.ev] at h
  ·simp [Tr.ev] at h
theorem W8 {K:Nat→Prop}:∀ (ts:List Ty),(∀ t∈ts,t.size=1∧∀ a b,t≠.pair a b)→Rp w K (AM ts) (AM ts).zero (ts.map Be) []
 | [],_=>by simp [AM,Rp]
 | [t],h=>zero1 t (h t (by simp))
 | t::u::ts,h=>by
  simp only [AM,Rp,Ty.zero]
  exact ⟨[Be t],(u::ts).map Be,[],[],rfl,rfl,zero1 t (h t (by simp)),W8 (u::ts) fun x hx=>h x (by simp [hx])⟩
where
 zero1 (t:Ty) (h:t.size=1∧∀ a b,t≠.pair a b):Rp w K t t.zero [Be t] []:=by
  cases t with
  | pair a b=>exact absurd rfl (h.2 a b)
  | unit=>simp [Ty.size] at h
  | int k=>simp [Be,Rp,Ty.zero]
  | bool=>simp [Be,Rp,Ty.zero]
  | er=>simp [Be,Rp,Ty.zero,ErV]
  | lp=>simp [Ty.size] at h
  | str=>simp [Be,Rp,Ty.zero]
  | pt t=>simp [Be,Rp,Ty.zero]
  | sl o e r=>
   cases o with
   | true=>simp only [Rp,Ty.zero,Be]; exact .inl ⟨trivial,trivial,trivial⟩
   | false=>simp only [Rp,Ty.zero,Be]; exact ⟨trivial,none,0,[],rfl,Nat.le_refl _,⟨rfl,rfl⟩,.inl trivial⟩
theorem O5 (z:Array Value) (hz:0 < z.size):∀ m,(List.range (m * z.size)).map (fun i=>z[i % z.size]!)=(List.replicate m z.toList).flatten
 | 0=>by simp
 | m+1=>by
  have h1:(m+1) * z.size=z.size+m * z.size:=by rw [Nat.succ_mul]; omega
  rw [h1,List.range_add,List.map_append,List.map_map,List.replicate_succ,List.flatten_cons,← O5 z hz m]
  congr 1
  ·apply List.ext_getElem?
   intro j
   by_cases hj:j < z.size
   ·simp [hj,Nat.mod_eq_of_lt hj]
   ·simp [hj]
  ·apply List.map_congr_left
   intro j _
   simp
theorem AaJ (z:Array Value) (hz:0 < z.size) (m n:Nat) (h:m≤n):(madeCells z (n * z.size)).toList.take (m * z.size)=(List.replicate m z.toList).flatten:=by
 have hmn:m * z.size≤n * z.size:=Nat.mul_le_mul_right _ h
 rw [← O5 z hz m,madeCells,Array.toList_map,Array.toList_range,← List.map_take,List.take_range,Nat.min_eq_left hmn]
theorem Ot {K:Nat→Prop} {ts:List Ty} (h:∀ t∈ts,t.size=1∧∀ a b,t≠.pair a b):∀ m,RpL (Rp w K (AM ts)) (List.replicate m (AM ts).zero) (List.replicate m (ts.map Be)).flatten []
 | 0=>⟨rfl,rfl⟩
 | m+1=>⟨ts.map Be,_,[],[],by simp [List.replicate_succ],rfl,W8 ts h,Ot h m⟩
end
section
variable {P:Program} {ti:TypeId→TI} {b:Base} {S:St} {c:Cc} {w:World}
theorem Step.push (w:World) (o:Obj):Step w { w with heap:=w.heap.push o } (fun _=>False):=
 ⟨rfl,rfl,rfl,by simp,fun g hg _=>by simp [Array.getElem?_push,show ¬ (g=w.heap.size) by omega]⟩
theorem EQ (w:World) (o:Obj):(w.heap.push o)[w.heap.size]?=some o:=by simp
theorem TD:∀ (us:List Value) (n:Nat),(List.range' n us.length).zip us=(us.zipIdx n).map fun x=>(x.2,x.1)
 | [],_=>rfl
 | u::us,n=>by simp [List.range'_succ,TD us (n+1)]
theorem UI (hT:TabOk P ti) (hi:Inv b S w c) {hn:List (Nat×List Ty)} {t:TypeId} {d len:Nat} {ps:List (Nat×SV)} {us:List Value} {is:List (Nat×Value)} {out:Out} (hps:All2 (fun p u=>AI S c w (Kok b S c) p.2 u) ps us)
  (his:is=(ps.map (·.1)).zip us) (h:(LQ (ti t) hn d len ps).ev S=some out):∃ v w',(Instr.buildSlice t len is.toArray).run P w=.ok v w'∧Did b S c w out v w':=by
 unfold LQ at h
 split at h
 ·rename_i e ts0 bytes ht
  split at h
  rotate_left
  ·simp [Tr.ev] at h
  rename_i hc0
  generalize Rw ts0 (HR hn d ts0) ps=ts at hc0 h
  simp only [Bool.and_eq_true,List.all_eq_true,beq_iff_eq] at hc0
  obtain ⟨hall1,hl0⟩:=hc0
  unfold RX at h
  simp only [Ai,Option.bind_eq_some_iff] at h
  obtain ⟨r,hr,h⟩:=h
  split at h
  ·rename_i hc
   simp only [Bool.and_eq_true,decide_eq_true_eq] at hc
   obtain ⟨⟨hu,hl⟩,hsmall⟩:=hc
   simp only [Tr.ev,Option.some.injEq] at h
   subst h
   obtain ⟨h1,_,_,hpos,i,z,h2,h3,h4,h5,h6,h7⟩:=hT.slice ht
   rw [← hl0] at hpos h3
   obtain ⟨k1,k2,k3,k4,G,k5,k6,k7⟩:=Wz hi ts ps us 0 hps hr hu
   have hsz:(AM ts).size=ts.length:=MF ts hall1
   have hzs:z.cells.size=ts.length:=by
    have:=congrArg List.length h6
    simpa [hl0] using this
   have hlus:us.length=len:=by rw [← hps.len,hl]
   have hflat:(us.flatMap fun u=>u.cells.toList).length=len * ts.length:=by
    have:=RpL.len (fun x vs F h=>Rp.len (AM ts) x h) k5
    rw [this,k2,hl,hsz]
   rcases Nat.eq_zero_or_pos len with hz | hp
   ·-- nothing in it
    have hus:us=[]:=List.eq_nil_of_length_eq_zero (by omega)
    have hps0:ps=[]:=List.eq_nil_of_length_eq_zero (by omega)
    subst hus hps0 hz
    simp only [List.map_nil,List.zip_nil_left] at his
    subst his
    have hr1:r.1=[]:=List.eq_nil_of_length_eq_zero (by rw [k2]; rfl)
    refine ⟨.slice (some ⟨w.heap.size,0,none⟩) 0 0,{ w with heap:=w.heap.push (.cells #[] e) },?_,?_⟩
    ·simp [Instr.buildSlice,run_underlying h1,sizeOf,typeInfo,h2,Instr.fill,newRow,Array.range_zero']
    ·refine Dq hi (kd d 0) ⟨e,AM ts,r.1⟩ r.2 k1 (F':=[w.heap.size]) ((Step.push w _).mono fun _ h=>h.elim) ?_ (by simp) ?_
     ·intro g hg
      simp only [List.mem_singleton] at hg
      subst hg
      exact ⟨by simp,.inr (Nat.le_refl _)⟩
     ·intro K' hK _
      simp only [Rp,hr1]
      exact .inr ⟨w.heap.size,0,0,#[],(0,0),[],rfl,rfl,EQ w _,NFt.zero _ (fun _=>by simp),by simp,Nat.le_refl _,by simp [RpL]⟩
   ·have hfill:=Great.fill_whole (s:=ts.length) hpos us ((Array.range (len * i.size)).map (z.cells[· % z.cells.size]!)) k4 (by simp [h3,hlus])
    have his':is.toArray.toList=(us.zipIdx 0).map fun x=>(x.2,x.1):=by
     rw [his,k3,← TD us 0,hps.len]
    have hrun:=run_buildSlice (P:=P) w t e len is.toArray (us.flatMap fun u=>u.cells.toList).toArray i z h1 h2 h5 (by rw [h3,← hsz]; omega) (by rw [h3]; have:=Nat.mul_pos hp hpos; omega)
     (by rw [his',h3]; rw [h3] at hfill; exact hfill)
    refine ⟨_,_,hrun,?_⟩
    refine Dq hi (kd d 0) ⟨e,AM ts,r.1⟩ r.2 k1 (F':=w.heap.size::G) ((Step.push w _).mono fun _ h=>h.elim) ?_ ?_ ?_
    ·intro g hg
     rcases List.mem_cons.1 hg with rfl | hg
     ·exact ⟨by simp,.inr (Nat.le_refl _)⟩
     ·obtain ⟨k,q,q'⟩:=k7 g hg
      have:=(hi.fr g (.inr ⟨k,k1 k q,q'⟩)).1
      exact ⟨by simp; omega,.inl ⟨k,q,q'⟩⟩
    ·rw [List.nodup_cons]
     refine ⟨fun hg=>?_,k6⟩
     obtain ⟨k,q,q'⟩:=k7 _ hg
     have:=(hi.fr _ (.inr ⟨k,k1 k q,q'⟩)).1
     omega
    ·intro K' hK _
     simp only [Rp]
     refine .inr ⟨w.heap.size,0,len,_,(0,0),G,by rw [k2,hl],rfl,EQ w _,NFt.zero _ (fun _=>by rw [List.size_toArray,hflat,← hsz]; omega),?_,by rw [k2,hl]; exact Nat.le_refl _,?_⟩
     ·rw [hsz,List.size_toArray,hflat]; simp
     ·rw [List.drop_zero,k2,hl,hsz,← hflat,List.take_length]
      exact RpL.frame hK _ _ _ _ (fun g hg=>by
       obtain ⟨k,q,q'⟩:=k7 g hg
       exact (Step.push w _).same g (hi.fr g (.inr ⟨k,k1 k q,q'⟩)).1 (fun h=>h)) k5
  ·simp [Tr.ev] at h
 ·simp [Tr.ev] at h
theorem Z9 (t:Ty):Be t.frz=Be t:=by cases t <;> rfl
theorem AaW (t:Ty) (h:t.frz.size=1∧∀ a b,t.frz≠.pair a b):t.size=1∧∀ a b,t≠.pair a b:=by
 cases t with
 | pair a b=>exact absurd rfl (h.2 a.frz b.frz)
 | unit=>simp [Ty.frz,Ty.size] at h
 | lp=>simp [Ty.frz,Ty.size] at h
 | _=>simp [Ty.size]
theorem Abd (t:Ty) (h:t.size=1∧∀ a b,t≠.pair a b):t.frz.size=1∧∀ a b,t.frz≠.pair a b:=by
 cases t with
 | pair a b=>exact absurd rfl (h.2 a b)
 | unit=>simp [Ty.size] at h
 | lp=>simp [Ty.size] at h
 | _=>simp [Ty.frz,Ty.size]
theorem Zr {ts hs:List Ty} (h:∀ t∈ts,t.size=1∧∀ a b,t≠.pair a b):(JP ts hs).map Be=ts.map Be∧(∀ t∈JP ts hs,t.size=1∧∀ a b,t≠.pair a b)∧(JP ts hs).length=ts.length:=by
 unfold JP
 split
 ·rename_i he
  refine ⟨?_,?_,by have:=congrArg List.length he; simpa using this.symm⟩
  ·have:=congrArg (List.map Be) he
   simp only [List.map_map] at this
   have hz:(Be ∘ Ty.frz)=Be:=funext Z9
   rw [hz] at this
   exact this.symm
  ·intro t ht
   have hm:t.frz∈ts.map Ty.frz:=by rw [he]; exact List.mem_map_of_mem ht
   obtain ⟨u,hu,hut⟩:=List.mem_map.1 hm
   exact AaW t (hut ▸ Abd u (h u hu))
 ·exact ⟨rfl,h,rfl⟩
theorem Xb (hT:TabOk P ti) (hi:Inv b S w c) {hn:List (Nat×List Ty)} {t:TypeId} {d:Nat} {l m:SV} {u v:Value} {out:Out} (hl:AI S c w (Kok b S c) l u) (hm:AI S c w (Kok b S c) m v)
  (h:(MR (ti t) hn d l m).ev S=some out):∃ r w',(Instr.makeSlice t u v).run P w=.ok r w'∧Did b S c w out r w':=by
 unfold MR at h
 split at h
 ·rename_i e ts0 bytes l m ht
  generalize hts:JP ts0 (HR hn d ts0)=ts at h
  simp only at h
  obtain rfl:=Cj (AY hl)
  obtain rfl:=Cj (AY hm)
  replace h:=Bv h
  obtain ⟨c1,h⟩:=h
  replace h:=Bv h
  obtain ⟨c2,h⟩:=h
  replace h:=Bv h
  obtain ⟨c3,h⟩:=h
  simp only [decide_eq_true_eq,Aa] at c1 c2 c3
  simp only [Tr.ev,Option.some.injEq] at h
  subst h
  obtain ⟨h1,_,hb,hpos,i,z,h2,h3,h4,h5,h60,h70⟩:=hT.slice ht
  obtain ⟨hl1,hl2,hl3⟩:=Zr (hs:=HR hn d ts0) h70
  rw [hts] at hl1 hl2 hl3
  have h6:z.cells.toList=ts.map Be:=h60.trans hl1.symm
  have h7:=hl2
  rw [← hl3] at h3 hpos
  have hsz:(AM ts).size=ts.length:=MF ts fun t ht=>(h7 t ht).1
  have hzs:z.cells.size=ts.length:=by
   have:=congrArg List.length h6
   simpa using this
  obtain ⟨l',rfl⟩:=Int.eq_ofNat_of_zero_le c1
  obtain ⟨m',rfl⟩:=Int.eq_ofNat_of_zero_le (Int.le_trans c1 c2)
  simp only [Int.toNat_natCast] at c3 ⊢
  have c2':l'≤m':=Int.ofNat_le.1 c2
  have hm':m'≤140737488355328:=Nat.le_trans (Nat.le_mul_of_pos_right _ hb) c3
  have hrun:=run_make (P:=P) w t e i z h1 h2 h5 .i64 .i64 l' m' c1 c2 (by rw [h4,← Int.natCast_mul,Nat.mul_comm]; omega) (by omega)
  refine ⟨_,_,hrun,?_⟩
  refine Dq hi (kd d 0) ⟨e,AM ts,List.replicate l' (AM ts).zero⟩ [] (fun k hk=>by cases hk) (F':=[w.heap.size]) ((Step.push w _).mono fun _ h=>h.elim) ?_ (by simp) ?_
  ·intro g hg
   simp only [List.mem_singleton] at hg
   subst hg
   exact ⟨by simp,.inr (Nat.le_refl _)⟩
  ·intro K' hK _
   simp only [Rp]
   refine .inr ⟨w.heap.size,0,m',madeCells z.cells (m' * i.size),(0,0),[],by simp,rfl,EQ w _,NFt.zero _ (fun hr1=>by have hs1:=congrArg Ty.size hr1; rw [hsz] at hs1; rw [size_madeCells,h3,hs1]; simp only [Ty.size]; omega),?_,by simp; omega,?_⟩
   ·rw [hsz,size_madeCells,h3]; omega
   ·rw [List.drop_zero,List.length_replicate,hsz,h3,← hzs,AaJ z.cells (by omega) l' m' (by omega),h6]
    exact Ot h7 l'
 ·simp [Tr.ev] at h
end
end Go.V
namespace Go.V
open Go.RowKit
theorem Rp.ro {w:World} {K:Nat→Prop}:∀ (t:Ty) (x:t.D) {vs F},t.ro=true→Rp w K t x vs F→F=[]
 | .int _,_,_,_,_,h=>by simp only [Rp] at h; exact h.2
 | .bool,_,_,_,_,h=>by simp only [Rp] at h; exact h.2
 | .er,_,_,_,_,h=>by simp only [Rp] at h; obtain ⟨_,_,h,_⟩:=h; exact h
 | .lp,_,_,_,_,h=>by simp only [Rp] at h
 | .str,_,_,_,_,h=>by simp only [Rp] at h; exact h.2
 | .pt _,_,_,_,_,h=>by simp only [Rp] at h; exact h.1
 | .unit,_,_,_,_,h=>by simp only [Rp] at h; exact h.2
 | .pair a b,x,_,_,hr,h=>by
  simp only [Rp] at h
  simp only [Ty.ro,Bool.and_eq_true] at hr
  obtain ⟨v1,v2,F1,F2,_,rfl,h1,h2⟩:=h
  rw [Rp.ro a _ hr.1 h1,Rp.ro b _ hr.2 h2]; rfl
 | .sl true _ _,_,_,_,hr,_=>by simp [Ty.ro] at hr
 | .sl false _ r,_,_,_,_,h=>by simp only [Rp] at h; exact h.1
theorem RpL.ro {w:World} {K:Nat→Prop} {r:Ty} (hr:r.ro=true):∀ (xs:List r.D) {vs F},RpL (Rp w K r) xs vs F→F=[]
 | [],_,_,h=>h.2
 | x::xs,_,_,h=>by
  obtain ⟨v1,v2,F1,F2,_,rfl,h1,h2⟩:=h
  rw [Rp.ro r x hr h1,RpL.ro hr xs h2]; rfl
theorem RpL.one {w:World} {K:Nat→Prop} {r:Ty}:∀ (xs:List r.D) {vs F},RpL (Rp w K r) xs vs F→∀ u∈vs,u.oneCell'=true
 | [],_,_,h=>by rw [h.1]; simp
 | x::xs,_,_,h=>by
  obtain ⟨v1,v2,F1,F2,rfl,_,h1,h2⟩:=h
  intro u hu
  rcases List.mem_append.1 hu with hu | hu
  ·exact Rp.one r x h1 u hu
  ·exact RpL.one xs h2 u hu
theorem Oj {w:World} {K:Nat→Prop}:∀ (s:List UInt8),RpL (Rp w K (.int .u8)) (AR s) (byteCells ⟨s.toArray⟩) []
 | []=>⟨rfl,rfl⟩
 | x::s=>by
  have ih:=Oj (w:=w) (K:=K) s
  simp only [byteCells,AR,List.map_cons] at ih ⊢
  exact ⟨[_],_,[],[],rfl,rfl,by simp [Rp],ih⟩
section
variable {P:Program} {ti:TypeId→TI} {b:Base} {S:St} {c:Cc} {w:World}
theorem I1 {size:Nat} {t2 e':TypeId} {A:Option Addr} {n cap:Nat} {ws:List Value} (hk:P.underlying t2=some (.slice e')) (hl:ws.length=n * size) (h1:∀ u∈ws,u.oneCell'=true)
  (hA:n=0∨∃ ad,A=some ad∧∀ j,j < ws.length→w.cell? (ad.add j)=ws[j]?):Src P size t2 (.slice A n cap) n ws w:=by
 cases A with
 | none=>
  rcases hA with rfl | ⟨ad,h,_⟩
  ·obtain rfl:ws=[]:=List.eq_nil_of_length_eq_zero (by omega)
   exact Src.ofNil w hk cap
  ·cases h
 | some a=>
  refine Src.ofSlice w hk a n cap ws hl (fun j u hu=>?_) h1
  have hj:=(List.getElem?_eq_some_iff.1 hu).1
  rcases hA with rfl | ⟨ad,h,h2⟩
  ·omega
  ·injection h with h; subst h; rw [h2 j hj]; exact hu
theorem AcJ (hT:TabOk P ti) (hi:Inv b S w c) {t2 e:TypeId} {r:Ty} {y:Leaf} {v:Value} {m:List r.D×List Nat} (hy:LeafOk S c w (Kok b S c) y v) (h:(Y6 (ti t2) e r y).ev S=some m) :
  Ows S m.2∧AB m.2=true∧∃ news F,Src P r.size t2 v m.1.length news w∧RpL (Rp w (Kok b S c) r) m.1 news F∧F.Nodup∧B7 c m.2 F:=by
 have hn:Ows S []∧AB []=true:=⟨fun k hk=>(by cases hk),rfl⟩
 have hh:B7 c [] []:=fun g hg=>(by cases hg)
 unfold Y6 at h
 split at h
 ·rename_i s
  split at h
  ·rename_i hc
   split at h
   ·simp only [Tr.ev,Option.some.injEq] at h
    subst h
    obtain rfl:=DE hy
    refine ⟨hn.1,hn.2,byteCells ⟨s.toArray⟩,[],?_,Oj s,by simp,hh⟩
    have:=Src.ofString (P:=P) w (K7 hT hc) ⟨s.toArray⟩
    have hs:(ByteArray.mk s.toArray).size=(AR s).length:=by simp [ByteArray.size,AR]
    rw [hs] at this
    exact this
   ·simp [Tr.ev] at h
  ·simp [Tr.ev] at h
 ·split at h
  ·rename_i hc
   obtain ⟨e',ie,hu,hie⟩:=I9 hT hc
   split at h
   ·rename_i hro
    split at h
    ·simp only [Tr.ev,Option.some.injEq] at h
     subst h
     obtain rfl:v=.slice none 0 0:=hy
     exact ⟨hn.1,hn.2,[],[],I1 hu (by simp) (by simp) (.inl rfl),⟨rfl,rfl⟩,by simp,hh⟩
    ·simp only [Ai,Option.bind_eq_some_iff] at h
     obtain ⟨o,ho,h⟩:=h
     split at h
     ·rename_i he
      obtain ⟨oe,or,oxs⟩:=o
      simp only [Ty.sl.injEq,true_and] at he
      obtain ⟨rfl,rfl⟩:=he
      simp only [Tr.ev,Option.some.injEq] at h
      subst h
      obtain ⟨A,cap,ws,F',rfl,hr,hx⟩:=Fw hi hy ho
      have hF:=RpL.ro hro _ hr
      subst hF
      refine ⟨hn.1,hn.2,ws,[],I1 hu (RpL.len (fun x vs F h=>Rp.len or x h) hr) (RpL.one _ hr) ?_,hr,by simp,hh⟩
      rcases hx with hx | ⟨ad,h1,_,h2⟩
      ·left; simp only at hx; rw [hx]; rfl
      ·exact .inr ⟨ad,h1,h2⟩
     ·simp [Tr.ev] at h
   ·obtain ⟨k1,k2,G,k3,k4,k5⟩:=IZ (t:=.sl true e r) hi hy h
    refine ⟨k1,k2,?_⟩
    simp only [Rp] at k3
    rcases k3 with ⟨h1,rfl,h2⟩ | ⟨g,off,cap,cs,fr,F0,h1,rfl,hg,hnf,hoff,hcp,hr⟩
    ·injection h2 with h2
     subst h2
     rw [h1]
     exact ⟨[],[],I1 hu (by simp) (by simp) (.inl rfl),⟨rfl,rfl⟩,by simp,fun g hg=>(by cases hg)⟩
    ·injection h1 with h1
     subst h1
     refine ⟨_,F0,I1 hu (RpL.len (fun x vs F h=>Rp.len r x h) hr) (RpL.one _ hr) (.inr ⟨_,rfl,fun j hj=>?_⟩),hr,(List.nodup_cons.1 k4).2,fun g hg=>k5 g (by simp [hg])⟩
     rw [AT,AV hg]
     rw [List.length_take,List.length_drop,Array.length_toList] at hj
     rw [List.getElem?_take_of_lt (by omega),List.getElem?_drop,Array.getElem?_toList]
  ·simp [Tr.ev] at h
theorem CG {g:Nat} {e:TypeId} {fr:Nat×Nat}:∀ (vs:List Value) (o:Nat) (w:World) (cs:Array Value),w.heap[g]?=some (.cells cs e fr)→o+vs.length≤cs.size→
  ∃ cs',(w.setCells g o vs).heap[g]?=some (.cells cs' e fr)∧cs'.size=cs.size∧∀ i,cs'[i]?=if o≤i∧i < o+vs.length then vs[i - o]? else cs[i]?
 | [],o,w,cs,h,_=>⟨cs,h,rfl,fun i=>by rw [if_neg (by simp only [List.length_nil]; omega)]⟩
 | v::vs,o,w,cs,h,hle=>by
  simp only [List.length_cons] at hle
  obtain ⟨cs',h1,h2,h3⟩:=CG vs (o+1) (w.setCell ⟨g,o,none⟩ v) _ (LG h o v) (by simp; omega)
  refine ⟨cs',h1,by rw [h2]; simp,fun i=>?_⟩
  rw [h3,List.length_cons]
  by_cases hi:o+1≤i∧i < o+1+vs.length
  ·rw [if_pos hi,if_pos (by omega),show i - o=(i - (o+1))+1 by omega,List.getElem?_cons_succ]
  ·rw [if_neg hi]
   by_cases hio:i=o
   ·subst hio
    rw [if_pos (by omega),Array.getElem?_setIfInBounds_self_of_lt (by omega)]; simp
   ·rw [if_neg (by omega),Array.getElem?_setIfInBounds_ne (Ne.symm hio)]
theorem Cf {g:Nat}:∀ (vs:List Value) (o:Nat) (w:World),Step w (w.setCells g o vs) (fun x=>x=g)∧(w.setCells g o vs).heap.size=w.heap.size
 | [],_,w=>⟨Step.refl _ _,rfl⟩
 | v::vs,o,w=>by
  obtain ⟨h1,h2⟩:=Cf (g:=g) vs (o+1) (w.setCell ⟨g,o,none⟩ v)
  have h3:(w.setCell ⟨g,o,none⟩ v).heap.size=w.heap.size:=by simp [World.setCell]
  have h4:Step w (w.setCell ⟨g,o,none⟩ v) (fun x=>x=g):=⟨rfl,rfl,rfl,by omega,fun x _ hx=>Below.heap_setCell _ _ _ _ hx⟩
  exact ⟨h4.trans h1,by rw [← h3]; exact h2⟩
theorem AbZ (hi:Inv b S w c) {ks ls:List Nat} {g:Nat} {G:List Nat} (ho:Ows S ks) (ho':Ows S ls) (hu:AB (ks++ls)=true) (hg:B7 c ks [g]) (hG:B7 c ls G):g∉G:=by
 intro hx
 obtain ⟨k,h1,h2⟩:=hg g (by simp)
 obtain ⟨l,h3,h4⟩:=hG g hx
 obtain ⟨_,_,h5⟩:=AJ hu
 have hne:k≠l:=by rintro rfl; exact h5 k h1 h3
 exact hi.oo k l hne (ho k h1) (ho' l h3) g h2 h4
theorem Ht (hi:Inv b S w c) {ks:List Nat} {G:List Nat} (ho:Ows S ks) (hG:B7 c ks G) {g:Nat} (hg:g∈G):g < w.heap.size:=by
 obtain ⟨k,h1,h2⟩:=hG g hg
 exact (hi.fr g (.inr ⟨k,ho k h1,h2⟩)).1
theorem Ho (hT:TabOk P ti) {t:TypeId} {k:IntKind} (h:ti t=.cell (.int k)):P.underlying t=some (.int k):=by
 obtain ⟨⟨d,hd,he⟩,_⟩:=hT.cell h
 rw [hd]
 cases d <;> simp [BL] at he
 rw [he]
structure Src2 (P:Program) (i:TypeInfo) (z:Value) (t t2 ty e:TypeId) (v:Value) (n:Nat) (news:List Value) (w:World):Prop where
 newsLen:news.length=n * i.size
 grow:∀ (A:Option Addr) (sLen cap:Nat) (olds:List Value),sLen≤cap→(Builtin.firstCells i.size sLen (.slice A sLen cap)).run P w.drew=.ok olds.toArray w.drew→cap < sLen+n→sLen+n≤140737488355328→(sLen+n) * i.bytes≤140737488355328→
  (Builtin.append_ #[t,t2] ty #[.slice A sLen cap,v]).run P w=.ok (.slice (some ⟨w.heap.size,0,none⟩) (sLen+n) (grownCap w (sLen+n) cap e)) (w.drew.alloc (.cells ((olds++news).toArray++Builtin.zeroCells z.cells (grownCap w (sLen+n) cap e - (sLen+n))) e))
 room:∀ (g off sLen cap:Nat),sLen+n≤cap→sLen+n≤140737488355328→(sLen+n) * i.bytes≤140737488355328→(∀ j,j < news.length→(w.cell? ⟨g,off+sLen * i.size+j,none⟩).isSome=true)→(∀ j,j < news.length→w.frozen? ⟨g,off+sLen * i.size+j,none⟩=false)→
  (Builtin.append_ #[t,t2] ty #[.slice (some ⟨g,off,none⟩) sLen cap,v]).run P w=.ok (.slice (some ⟨g,off,none⟩) (sLen+n) cap) (w.setCells g (off+sLen * i.size) news)
 nothing:n=0→(Builtin.append_ #[t,t2] ty #[.slice none 0 0,v]).run P w=.ok (.slice none 0 0) w
theorem Src2.of {i:TypeInfo} {z:Value} {t t2 ty e:TypeId} {v:Value} {n:Nat} {news:List Value} (h1:P.underlying t=some (.slice e)) (h2:P.info? e=some i) (h5:i.zero=some z) (h:Src P i.size t2 v n news w):Src2 P i z t t2 ty e v n news w where
 newsLen:=h.newsLen
 grow A sLen cap olds _ hold hcap hb hby:=run_append_grow_src (P:=P) w t t2 ty e i z h1 h2 h5 A sLen cap olds hold v n news h hcap (by omega) (growslice_fits hcap hby)
 room g off sLen cap hr _ _ hc hf:=run_append_room_src (P:=P) w t t2 ty e i h1 h2 g off sLen cap v n news h hr hc hf
 nothing hn:=by
  subst hn
  have:news=[]:=List.eq_nil_of_length_eq_zero (by rw [h.newsLen]; simp)
  subst this
  exact run_append_nothing w t t2 ty e i h1 h2 none 0 0 (Nat.le_refl _) v h
theorem Src2.zeros {i:TypeInfo} {z:Value} {t t2 ty e:TypeId} {n:Nat} (h1:P.underlying t=some (.slice e)) (ht2:P.underlying t2=some (.int .i64)) (h2:P.info? e=some i) (h5:i.zero=some z) (hs:0 < i.size) (hz:z.cells.size=i.size)
  (h1z:∀ u∈z.cells.toList,u.oneCell'=true):Src2 P i z t t2 ty e (.int .i64 ((n:Nat):Int)) n (Builtin.zeroCells z.cells n).toList w where
 newsLen:=by rw [Array.length_toList,size_zeroCells,hz]
 grow A sLen cap olds hle hold hcap hb hby:=by
  have hn:0 < n:=by omega
  have:=Lib.run_append_grow_zeros w t t2 ty e i z .i64 .i64 h1 ht2 h2 h5 A sLen cap olds hold n hn hs hcap (by omega) (by have:=Nat.mul_le_mul_right i.bytes (show n≤sLen+n by omega); omega) (growslice_fits hcap hby)
  rw [this]
  congr 3
  apply Array.ext'
  simp
 room g off sLen cap hr hb hby hc hf:=by
  have hone:∀ u∈(Builtin.zeroCells z.cells n).toList,u.oneCell'=true:=by
   intro u hu
   simp only [Builtin.zeroCells,Array.toList_map,List.mem_map] at hu
   obtain ⟨j,hj,rfl⟩:=hu
   have hjl:j % z.cells.size < z.cells.size:=Nat.mod_lt _ (by omega)
   rw [getElem!_pos z.cells (j % z.cells.size) hjl]
   exact h1z _ (by simp)
  have hst:=run_storeCells_cells (P:=P) g (off+sLen * i.size) (Builtin.zeroCells z.cells n).toList 0 w (by simpa using hc) (by simpa using hf) hone
  simp only [Nat.add_zero] at hst
  have hw:IntKind.i64.wrap ((n:Nat):Int)=n:=by rw [IntKind.wrap_i64]; omega
  have hneg:¬ (((n:Nat):Int) < 0):=by omega
  have hnb:n * i.bytes≤140737488355328:=by have:=Nat.mul_le_mul_right i.bytes (show n≤sLen+n by omega); omega
  have h48i:¬ (281474976710656 < ((n:Nat):Int) * (i.bytes:Int)):=by rw [← Int.natCast_mul]; omega
  by_cases h0:n=0
  ·subst h0
   have e0:(Builtin.zeroCells z.cells 0) = #[]:=by simp [Builtin.zeroCells]
   rw [e0] at hst ⊢
   simp [Builtin.append_,run_underlying h1,run_underlying ht2,sizeOf,typeInfo,h2,asInt,asIntOf,Addr.add_lit,storeCells,World.setCells,show IntKind.i64.wrap (0:Int)=0 from rfl,Nat.le_of_add_right_le hr]
  ·have hns:¬ (n * i.size=0):=Nat.mul_ne_zero h0 (by omega)
   simp [Builtin.append_,run_underlying h1,run_underlying ht2,sizeOf,typeInfo,zeroValue,h2,h5,asInt,asIntOf,hw,hneg,hns,h48i,hr,Addr.add_lit,hst]
 nothing hn:=by
  subst hn
  simp [Builtin.append_,run_underlying h1,run_underlying ht2,sizeOf,typeInfo,h2,asInt,asIntOf,show IntKind.i64.wrap (0:Int)=0 from rfl]
theorem Aa0 (hT:TabOk P ti) (hi:Inv b S w c) {t t2 ty e:TypeId} {ts:List Ty} {bytes:Nat} (ht:ti t=.slice e ts bytes) {r:Ty} (hsz:r.size=ts.length) {y:Leaf} {v:Value} {m:List r.D×List Nat} (hy:LeafOk S c w (Kok b S c) y v) (h:(Zv (ti t2) e (AM ts) r y).ev S=some m) :
  Ows S m.2∧AB m.2=true∧∃ news F,(∀ i z,P.info? e=some i→i.zero=some z→Src2 P i z t t2 ty e v m.1.length news w)∧RpL (Rp w (Kok b S c) r) m.1 news F∧F.Nodup∧B7 c m.2 F:=by
 obtain ⟨h1,_,hb,hpos,i,z,h2,h3,h4,h5,h6,h7⟩:=hT.slice ht
 unfold Zv at h
 split at h
 ·rename_i hti
  split at h
  ·rename_i n
   split at h
   ·rename_i hr
    subst hr
    replace h:=Bv h
    obtain ⟨c1,h⟩:=h
    simp only [Tr.ev,Option.some.injEq] at h
    subst h
    simp only [decide_eq_true_eq] at c1
    obtain ⟨k,rfl⟩:=Int.eq_ofNat_of_zero_le c1
    obtain rfl:=Cj hy
    have ht2:P.underlying t2=some (.int .i64):=Ho hT hti
    have hzs:z.cells.size=i.size:=by
     have:=congrArg List.length h6
     rw [h3]; simpa using this
    have hzl:(Builtin.zeroCells z.cells k).toList=(List.replicate k (ts.map Be)).flatten:=by
     have hmade:=O5 z.cells (by omega) k
     rw [h6] at hmade
     rw [← hmade]
     simp [Builtin.zeroCells]
    refine ⟨fun k hk=>(by cases hk),rfl,(Builtin.zeroCells z.cells k).toList,[],?_,?_,by simp,fun g hg=>(by cases hg)⟩
    ·intro i' z' hi' hz'
     obtain rfl:i=i':=by rw [h2] at hi'; injection hi'
     obtain rfl:z=z':=by rw [h5] at hz'; injection hz'
     simp only [Int.toNat_natCast,List.length_replicate]
     refine Src2.zeros h1 ht2 h2 h5 (by omega) hzs (fun u hu=>?_)
     rw [h6] at hu
     obtain ⟨t,_,rfl⟩:=List.mem_map.1 hu
     cases t <;> rfl
    ·rw [hzl,Int.toNat_natCast]
     exact Ot h7 k
   ·simp [Tr.ev] at h
  ·simp [Tr.ev] at h
 ·obtain ⟨q1,q2,news,F,q3,q4,q5,q6⟩:=AcJ hT hi hy h
  refine ⟨q1,q2,news,F,fun i' z' hi' hz'=>?_,q4,q5,q6⟩
  obtain rfl:i=i':=by rw [h2] at hi'; injection hi'
  exact Src2.of h1 hi' hz' (by rw [h3,← hsz]; exact q3)
theorem Uf (hT:TabOk P ti) (hi:Inv b S w c) {t t2 ty:TypeId} {d:Nat} {x y:Leaf} {u v:Value} {out:Out} (hx:LeafOk S c w (Kok b S c) x u) (hy:LeafOk S c w (Kok b S c) y v)
  (h:(JM (ti t) (ti t2) d x y).ev S=some out):∃ r w',(Builtin.append_ #[t,t2] ty #[u,v]).run P w=.ok r w'∧Did b S c w out r w':=by
 unfold JM at h
 split at h
 ·rename_i e ts bytes ht
  simp only [Ai,Option.bind_eq_some_iff] at h
  obtain ⟨r,_,h⟩:=h
  split at h
  rotate_left
  ·simp [Tr.ev] at h
  rename_i hsz
  simp only [Ai,Option.bind_eq_some_iff] at h
  obtain ⟨⟨xs,ks⟩,hb0,⟨ys,ls⟩,hm0,h⟩:=h
  replace h:=Bv h
  obtain ⟨c1,h⟩:=h
  split at h
  ·rename_i hun
   simp only [Tr.ev,Option.some.injEq] at h
   subst h
   simp only [Aa,decide_eq_true_eq] at c1 hun
   obtain ⟨h1,_,hb,hpos,i,z,h2,h3,h4,h5,h6,h7⟩:=hT.slice ht
   have hzs:z.cells.size=ts.length:=by
    have:=congrArg List.length h6
    simpa using this
   obtain ⟨k1,_,G,k3,k4,k5⟩:=IZ hi hx hb0
   obtain ⟨m1,_,news,F2,m3',m4,m5,m6⟩:=Aa0 (t:=t) (ty:=ty) hT hi ht hsz hy hm0
   have m3:=m3' i z h2 h5
   simp only at k1 k3 k5 m1 m3 m4 m6
   have hnl:=m3.newsLen
   rw [← h4] at c1
   have h63:xs.length+ys.length≤140737488355328:=Nat.le_trans (Nat.le_mul_of_pos_right _ (by omega)) c1
   have same2:∀ {w':World} {T:Nat→Prop},Step w w' T→∀ {F:List Nat},(∀ g,g∈F→g < w.heap.size)→(∀ g,g∈F→¬ T g)→CV w w' F:=fun hs F h1 h2 g hg=>hs.same g (h1 g hg) (h2 g hg)
   have ho:Ows S (ks++ls):=CE k1 m1
   have grow:∀ (A:Option Addr) (cap:Nat) (olds:List Value) (F1:List Nat),u=.slice A xs.length cap→xs.length≤cap→cap < xs.length+ys.length→(Builtin.firstCells i.size xs.length (.slice A xs.length cap)).run P w.drew=.ok olds.toArray w.drew→
     RpL (Rp w (Kok b S c) r) xs olds F1→F1.Nodup→B7 c ks F1→∃ r' w',(Builtin.append_ #[t,t2] ty #[u,v]).run P w=.ok r' w'∧Did b S c w (Bz (kd d 0) ⟨e,r,xs++ys⟩ (ks++ls)) r' w':=by
    rintro A cap olds F1 rfl hle hcap hold hro hnd hhe
    have hrun:=m3.grow A xs.length cap olds hle hold hcap h63 c1
    have hge:=grownCap_ge w (xs.length+ys.length) cap e
    obtain ⟨q1,q2⟩:=CC hi hhe m6 k1 m1 hun hnd m5
    have hol:olds.length=xs.length * r.size:=RpL.len (fun x vs F h=>Rp.len r x h) hro
    have hgm:=grownCap_le_maxLen w (xs.length+ys.length) cap e (by unfold maxLen; omega)
    generalize grownCap w (xs.length+ys.length) cap e=gc at hrun hge hgm
    generalize hcs:(olds++news).toArray++Builtin.zeroCells z.cells (gc - (xs.length+ys.length))=cs at hrun
    generalize hw:w.drew.alloc (.cells cs e)=w' at hrun
    have hst:Step w w' (fun _=>False):=by
     subst hw
     exact ⟨rfl,rfl,rfl,(by show w.heap.size≤(w.heap.push _).size; simp),fun g hg _=>(by show (w.heap.push _)[g]?=_; simp [Array.getElem?_push,show ¬ (g=w.heap.size) by omega])⟩
    have hnew:w'.heap[w.heap.size]?=some (.cells cs e):=by subst hw; exact EQ w _
    have hws:w.heap.size < w'.heap.size:=by subst hw; show w.heap.size < (w.heap.push _).size; simp
    refine ⟨_,_,hrun,?_⟩
    refine Dq hi (kd d 0) ⟨e,r,xs++ys⟩ (ks++ls) ho (F':=w.heap.size::(F1++F2)) (hst.mono fun _ h=>h.elim) ?_ ?_ ?_
    ·intro g hg
     rcases List.mem_cons.1 hg with rfl | hg
     ·exact ⟨hws,.inr (Nat.le_refl _)⟩
     ·exact ⟨Nat.lt_trans (Ht hi ho q1 hg) hws,.inl (q1 g hg)⟩
    ·rw [List.nodup_cons]
     exact ⟨fun hg=>by have:=Ht hi ho q1 hg; omega,q2⟩
    ·intro K' hK _
     simp only [Rp]
     refine .inr ⟨w.heap.size,0,gc,cs,(0,0),F1++F2,by rw [List.length_append],rfl,hnew,NFt.zero _ (fun hr1=>by have hs1:r.size=1:=(by rw [hr1]; rfl); rw [← hcs,Array.size_append,List.size_toArray,List.length_append,size_zeroCells,hol,hnl,hzs,h3,← hsz,hs1]; unfold maxLen at hgm; omega),?_,by rw [List.length_append]; exact hge,?_⟩
     ·rw [← hcs,Array.size_append,List.size_toArray,List.length_append,size_zeroCells,hol,hnl,hzs,h3,← hsz,← Nat.add_mul,← Nat.add_mul,Nat.zero_add]
      exact Nat.mul_le_mul_right _ (by omega)
     ·have htake:(cs.toList.drop 0).take ((xs++ys).length * r.size)=olds++news:=by
       rw [← hcs,List.drop_zero,Array.toList_append,List.take_append_of_le_length (by simp [hol,hnl,h3,hsz,Nat.add_mul])]
       apply List.take_of_length_le
       simp [hol,hnl,h3,hsz,Nat.add_mul]
      rw [htake]
      exact RpL.append (RpL.frame hK _ _ _ _ (same2 hst (fun g hg=>Ht hi k1 hhe hg) (fun _ _ h=>h)) hro) (RpL.frame hK _ _ _ _ (same2 hst (fun g hg=>Ht hi m1 m6 hg) (fun _ _ h=>h)) m4)
   simp only [Rp] at k3
   rcases k3 with ⟨rfl,rfl,hu⟩ | ⟨g,off,cap,cs,fr,F0,hu,rfl,hg,hnf,hoff,hcp,hro⟩
   ·injection hu with hu
    subst hu
    by_cases hk:ys.length=0
    ·obtain rfl:ys=[]:=List.eq_nil_of_length_eq_zero hk
     obtain rfl:news=[]:=List.eq_nil_of_length_eq_zero (by rw [hnl]; simp)
     refine ⟨_,_,m3.nothing rfl,?_⟩
     refine Dq hi (kd d 0) ⟨e,r,[]++[]⟩ (ks++ls) ho (F':=[]) (Step.refl _ _) (by simp) (by simp) ?_
     intro K' _ _
     simp only [Rp]
     exact .inl ⟨rfl,trivial,trivial⟩
    ·exact grow none 0 [] [] rfl (Nat.le_refl _) (by simp; omega) (run_firstCells_none w.drew i.size 0 0 0) ⟨rfl,rfl⟩ (by simp) (fun g hg=>(by cases hg))
   ·injection hu with hu
    subst hu
    obtain ⟨n1,n2⟩:=List.nodup_cons.1 k4
    have hh0:B7 c ks F0:=fun x hx=>k5 x (by simp [hx])
    have hhg:B7 c ks [g]:=fun x hx=>k5 x (by simp only [List.mem_singleton] at hx; simp [hx])
    have hol:((cs.toList.drop off).take (xs.length * r.size)).length=xs.length * r.size:=RpL.len (fun x vs F h=>Rp.len r x h) hro
    by_cases hcap:xs.length+ys.length≤cap
    ·have hfit:off+xs.length * r.size+news.length≤cs.size:=by
      rw [hnl,h3,← hsz,Nat.add_assoc,← Nat.add_mul]
      exact Nat.le_trans (Nat.add_le_add_left (Nat.mul_le_mul_right _ hcap) _) hoff
     have hrun:=m3.room g off xs.length cap hcap h63 c1
      (fun j hj=>by rw [h3,← hsz,AV hg,Array.getElem?_eq_getElem (by omega)]; rfl)
      (fun j hj=>by rw [h3,← hsz]; exact C3 hg hnf.nf (by omega))
     rw [h3,← hsz] at hrun
     obtain ⟨cs',s1,s2,s3⟩:=CG news (off+xs.length * r.size) w cs hg hfit
     obtain ⟨s4,s5⟩:=Cf (g:=g) news (off+xs.length * r.size) w
     generalize w.setCells g (off+xs.length * r.size) news=w' at hrun s1 s4 s5
     obtain ⟨q1,q2⟩:=CC hi k5 m6 k1 m1 hun k4 m5
     refine ⟨_,_,hrun,?_⟩
     refine Dq hi (kd d 0) ⟨e,r,xs++ys⟩ (ks++ls) ho (F':=g::F0++F2) (s4.mono ?_) ?_ q2 ?_
     ·rintro x rfl
      exact q1 x (by simp)
     ·intro x hx
      exact ⟨by rw [s5]; exact Ht hi ho q1 hx,.inl (q1 x hx)⟩
     ·intro K' hK _
      simp only [Rp]
      refine .inr ⟨g,off,cap,cs',fr,F0++F2,by rw [List.length_append],rfl,s1,by rw [s2]; exact hnf,by rw [s2]; exact hoff,by rw [List.length_append]; exact hcap,?_⟩
      have htake:(cs'.toList.drop off).take ((xs++ys).length * r.size)=(cs.toList.drop off).take (xs.length * r.size)++news:=by
       have hn2:news.length=ys.length * r.size:=by rw [hnl,h3,hsz]
       apply List.ext_getElem?
       intro j
       rw [List.length_append,Nat.add_mul]
       by_cases hj:j < xs.length * r.size
       ·rw [List.getElem?_append_left (by omega),List.getElem?_take_of_lt (by omega),List.getElem?_take_of_lt hj,List.getElem?_drop,List.getElem?_drop,Array.getElem?_toList,Array.getElem?_toList,s3,if_neg (by omega)]
       ·rw [List.getElem?_append_right (by omega),hol]
        by_cases hj2:j < xs.length * r.size+ys.length * r.size
        ·rw [List.getElem?_take_of_lt hj2,List.getElem?_drop,Array.getElem?_toList,s3,if_pos (by omega)]
         congr 1; omega
        ·rw [List.getElem?_eq_none (by rw [List.length_take]; omega),List.getElem?_eq_none (by omega)]
      rw [htake]
      exact RpL.append (RpL.frame hK _ _ _ _ (same2 s4 (fun x hx=>Ht hi k1 hh0 hx) (fun x hx h=>n1 (h ▸ hx))) hro)
       (RpL.frame hK _ _ _ _ (same2 s4 (fun x hx=>Ht hi m1 m6 hx) (fun x hx h=>AbZ hi k1 m1 hun hhg m6 (h ▸ hx))) m4)
    ·refine grow (some ⟨g,off,none⟩) cap _ F0 rfl hcp (by omega) (run_firstCells_some w.drew i.size xs.length ⟨g,off,none⟩ _ cap ((cs.toList.drop off).take (xs.length * r.size)) (by rw [hol,h3,hsz]) (fun j u hu=>?_)) hro n2 hh0
     have hj:=(List.getElem?_eq_some_iff.1 hu).1
     rw [hol] at hj
     rw [List.getElem?_take_of_lt hj,List.getElem?_drop,Array.getElem?_toList] at hu
     have hg':w.drew.heap[g]?=some (.cells cs e fr):=hg
     rw [AT,AV hg']; exact hu
  ·simp [Tr.ev] at h
 ·simp [Tr.ev] at h
theorem Ku {t t2 ty e:TypeId} {i:TypeInfo} (w w':World) (hu:P.underlying t=some (.slice e)) (hinfo:P.info? e=some i) (base:Option Addr) (dLen dCap:Nat) (v:Value) (m:Nat)
  (hlen:(Builtin.lenOf v).run P w=.ok m w) (cs:List Value) (hcells:(Builtin.firstCells i.size (Nat.min m dLen) v).run P w=.ok cs.toArray w)
  (hst:(base=none∧w'=w)∨∃ a,base=some a∧(storeCells a cs).run P w=.ok () w') :
  (Builtin.copy_ #[t,t2] ty #[.slice base dLen dCap,v]).run P w=.ok (goInt (Nat.min m dLen)) w':=by
 rcases hst with ⟨rfl,rfl⟩ | ⟨a,rfl,hst⟩
 ·simp [Builtin.copy_,run_underlying hu,hlen,sizeOf,typeInfo,hinfo,hcells]
 ·simp [Builtin.copy_,run_underlying hu,hlen,sizeOf,typeInfo,hinfo,hcells,hst]
theorem Acp (hT:TabOk P ti) (hi:Inv b S w c) {t t2 ty:TypeId} {x y:Leaf} {u v:Value} {out:Out} (hx:LeafOk S c w (Kok b S c) x u) (hy:LeafOk S c w (Kok b S c) y v)
  (h:(Zc (ti t) (ti t2) x y).ev S=some out):∃ r w',(Builtin.copy_ #[t,t2] ty #[u,v]).run P w=.ok r w'∧Did b S c w out r w':=by
 unfold Zc at h
 split at h
 ·rename_i k
  obtain ⟨o,e0,r0,ys0,h0,hk,hg0,hh0,hw0⟩:=hx
  obtain rfl:u=h0:=hw0
  obtain rfl:c.hv k=u:=by simp only [hdr] at hh0; injection hh0
  simp only [Tr.ev,hk] at h
  split at h
  ·rename_i hc
   simp only [Bool.and_eq_true] at hc
   obtain ⟨⟨hc1,hc2⟩,hro⟩:=hc
   obtain ⟨e,i,hu,hinf,hsz⟩:=Kt hT hc1
   have hown:=hi.ow k o hk
   have hnd:=hi.nd k (by rw [hk]; simp)
   obtain ⟨A0,cap0,hA0⟩:∃ A0 cap0,c.hv k=.slice A0 o.xs.length cap0:=by
    obtain ⟨A,cap,ws,F',h1,_⟩:=MV hown
    exact ⟨A,cap,h1⟩
   have fin:∀ (ps:List o.r.D) (ws:List Value) (A:Option Addr) (cap:Nat),v=.slice A ps.length cap→RpL (Rp w (Kok b S c) o.r) ps ws []→(ps=[]∨∃ ad,A=some ad∧∀ j,j < ws.length→w.cell? (ad.add j)=ws[j]?)→
     ∃ r w',(Builtin.copy_ #[t,t2] ty #[c.hv k,v]).run P w=.ok r w'∧
      Did b S c w ⟨.s (.one (.v (.int .i64) ((Nat.min ps.length o.xs.length:Nat):Int))),[.deep k],[.ow k (some ⟨o.e,o.r,ps.take o.xs.length++o.xs.drop ps.length⟩)]⟩ r w':=by
    rintro ps ws A cap rfl hps hx
    have hwl:ws.length=ps.length * o.r.size:=RpL.len (fun x vs F h=>Rp.len o.r x h) hps
    have hcl:((ws.take (Nat.min ps.length o.xs.length * o.r.size))).length=Nat.min ps.length o.xs.length * o.r.size:=by
     rw [List.length_take,hwl]
     exact Nat.min_eq_left (Nat.mul_le_mul_right _ (Nat.min_le_left _ _))
    have hcells:(Builtin.firstCells i.size (Nat.min ps.length o.xs.length) (.slice A ps.length cap)).run P w=.ok (ws.take (Nat.min ps.length o.xs.length * o.r.size)).toArray w:=by
     rw [hsz]
     cases A with
     | none=>
      rcases hx with rfl | ⟨ad,h1,_⟩
      ·have:ws=[]:=List.eq_nil_of_length_eq_zero (by rw [hwl]; simp)
       subst this
       simp [Builtin.firstCells]
      ·cases h1
     | some a=>
      refine run_firstCells_some w o.r.size _ a _ _ _ hcl (fun j u hu=>?_)
      have hj:=(List.getElem?_eq_some_iff.1 hu).1
      rw [hcl] at hj
      rcases hx with rfl | ⟨ad,h1,h2⟩
      ·simp at hj
      ·injection h1 with h1; subst h1
       have hjw:j < ws.length:=by rw [hwl]; exact Nat.lt_of_lt_of_le hj (Nat.mul_le_mul_right _ (Nat.min_le_left _ _))
       rw [h2 j hjw]
       rw [List.getElem?_take_of_lt hj] at hu
       exact hu
    have hlenS:∀ (xs':List o.r.D),xs'=ps.take o.xs.length++o.xs.drop ps.length→xs'.length=o.xs.length:=by
     rintro _ rfl; simp; omega
    generalize hnew:ps.take o.xs.length++o.xs.drop ps.length=new at *
    have hnl:=hlenS new rfl
    have turn:∀ (w':World) (F':List Nat),(Builtin.copy_ #[t,t2] ty #[c.hv k,.slice A ps.length cap]).run P w=.ok (goInt (Nat.min ps.length o.xs.length)) w'→Step w w' (fun g=>g∈c.F k)→w'.heap.size=w.heap.size→
      (∀ g,g∈F'→g∈c.F k)→F'.Nodup→(∀ K',KSame w w' (Kok b S c) K'→Rp w' K' (.sl true o.e o.r) new [c.hv k] F')→
      ∃ r w',(Builtin.copy_ #[t,t2] ty #[c.hv k,.slice A ps.length cap]).run P w=.ok r w'∧Did b S c w ⟨.s (.one (.v (.int .i64) ((Nat.min ps.length o.xs.length:Nat):Int))),[.deep k],[.ow k (some ⟨o.e,o.r,new⟩)]⟩ r w':=by
     intro w' F' hrun hst hws hF hFn hR
     refine ⟨_,_,hrun,?_⟩
     generalize hS:(S.kp [.deep k]).ups [.ow k (some ⟨o.e,o.r,new⟩)]=S'
     obtain ⟨c',_,_,_,e4,e5,_⟩:=hi.setOwn (S':=S') (w':=w') k ⟨o.e,o.r,new⟩ [] [.deep k] (c.hv k) F'
      (by intro k'; rw [← hS]; show (if k'=k then _ else (S.kp _).ow k')=_; rw [DM]; simp)
      (by rw [← hS]; exact Dd S _) (by intro k' i; rw [← hS]; exact Dh S [.deep k] k' i) (fun k hk=>by cases hk)
      (fun o' ho=>by
       obtain rfl:o=o':=by rw [hk] at ho; injection ho
       exact .inr ⟨by simp,rfl,new,rfl,hnl⟩)
      (hst.mono fun g hg=>⟨k,.inl rfl,by rw [hk]; simp,hg⟩)
      (fun g hg=>⟨by rw [hws]; exact (hi.fr g (.inr ⟨k,by rw [hk]; simp,hF g hg⟩)).1,.inl ⟨k,.inl rfl,by rw [hk]; simp,hF g hg⟩⟩) hFn
      (fun K' hK _=>hR K' hK)
     subst hS
     exact ⟨c',e4,e5,Cm CH⟩
    simp only [Rp] at hown
    rcases hown with ⟨hx0,hF0,hv0⟩ | ⟨g,off,capo,cs,fr,F1,hv0,hF0,hg,hnf,hoff,hcp,hr⟩
    ·injection hv0 with hv0
     have hnil:new=[]:=List.eq_nil_of_length_eq_zero (by rw [hnl,hx0]; rfl)
     refine turn w [] ?_ (Step.refl _ _) rfl (by simp) (by simp) (fun K' _=>by rw [hnil]; simp only [Rp]; exact .inl ⟨trivial,trivial,by rw [hv0]⟩)
     rw [hv0]
     have e0:o.xs.length=0:=by rw [hx0]; rfl
     have:=Ku (P:=P) (t2:=t2) (ty:=ty) w w hu hinf none 0 0 (.slice A ps.length cap) ps.length rfl _ (by rw [← e0]; exact hcells) (.inl ⟨rfl,rfl⟩)
     rw [e0]; exact this
    ·injection hv0 with hv0
     have hF1:F1=[]:=RpL.ro hro _ hr
     subst hF1
     have hol:((cs.toList.drop off).take (o.xs.length * o.r.size)).length=o.xs.length * o.r.size:=RpL.len (fun x vs F h=>Rp.len o.r x h) hr
     have hmo:Nat.min ps.length o.xs.length * o.r.size≤o.xs.length * o.r.size:=Nat.mul_le_mul_right _ (Nat.min_le_right _ _)
     have hoc:o.xs.length * o.r.size≤capo * o.r.size:=Nat.mul_le_mul_right _ hcp
     generalize hmv:Nat.min ps.length o.xs.length=m at *
     have hcs1:∀ v∈ws.take (m * o.r.size),v.oneCell'=true:=fun v hv=>RpL.one _ hps v (List.mem_of_mem_take hv)
     have hst:(storeCells ⟨g,off,none⟩ (ws.take (m * o.r.size))).run P w=.ok () (w.setCells g off (ws.take (m * o.r.size))):=by
      have:=run_storeCells_cells (P:=P) g off (ws.take (m * o.r.size)) 0 w (fun j hj=>by rw [AV hg,Array.getElem?_eq_getElem (by rw [hcl] at hj; omega)]; rfl)
       (fun j hj=>C3 hg hnf.nf (by rw [hcl] at hj; omega)) hcs1
      exact this
     have hrun:=Ku (P:=P) (t2:=t2) (ty:=ty) w (w.setCells g off (ws.take (m * o.r.size))) hu hinf (some ⟨g,off,none⟩) o.xs.length capo (.slice A ps.length cap) ps.length rfl _ (by rw [show Nat.min ps.length o.xs.length=m from hmv]; exact hcells) (.inr ⟨_,rfl,hst⟩)
     rw [show Nat.min ps.length o.xs.length=m from hmv,← hv0] at hrun
     obtain ⟨cs',s1,s2,s3⟩:=CG (ws.take (m * o.r.size)) off w cs hg (by rw [hcl]; omega)
     obtain ⟨s4,s5⟩:=Cf (g:=g) (ws.take (m * o.r.size)) off w
     generalize w.setCells g off (ws.take (m * o.r.size))=w' at hrun s1 s4 s5
     refine turn w' [g] hrun (s4.mono fun x hx=>by rw [hF0,hx]; simp) s5 (fun x hx=>by rw [hF0]; exact hx) (by simp) (fun K' hK=>?_)
     simp only [Rp]
     refine .inr ⟨g,off,capo,cs',fr,[],by rw [hnl,hv0],rfl,s1,by rw [s2]; exact hnf,by rw [s2]; exact hoff,by rw [hnl]; exact hcp,?_⟩
     have htk:(cs'.toList.drop off).take (new.length * o.r.size)=ws.take (m * o.r.size)++((cs.toList.drop off).take (o.xs.length * o.r.size)).drop (m * o.r.size):=by
      rw [hnl]
      apply List.ext_getElem?
      intro j
      by_cases hj:j < m * o.r.size
      ·rw [List.getElem?_append_left (by rw [hcl]; exact hj),List.getElem?_take_of_lt (by omega),List.getElem?_drop,Array.getElem?_toList,s3,if_pos (by rw [hcl]; omega)]
       congr 1; omega
      ·rw [List.getElem?_append_right (by rw [hcl]; omega),hcl,List.getElem?_drop,show m * o.r.size+(j - m * o.r.size)=j by omega]
       by_cases hj2:j < o.xs.length * o.r.size
       ·rw [List.getElem?_take_of_lt hj2,List.getElem?_take_of_lt hj2,List.getElem?_drop,List.getElem?_drop,Array.getElem?_toList,Array.getElem?_toList,s3,if_neg (by rw [hcl]; omega)]
       ·rw [List.getElem?_eq_none (by rw [List.length_take]; omega),List.getElem?_eq_none (by rw [List.length_take]; omega)]
     rw [htk,← hnew]
     have hA:RpL (Rp w (Kok b S c) o.r) (ps.take o.xs.length) (ws.take (m * o.r.size)) []:=by
      have hsp:ps=ps.take o.xs.length++ps.drop o.xs.length:=(List.take_append_drop _ _).symm
      rw [hsp] at hps
      obtain ⟨v1,v2,G1,G2,e1,e2,q1,q2⟩:=RpL.split hps
      have l1:v1.length=(ps.take o.xs.length).length * o.r.size:=RpL.len (fun x vs F h=>Rp.len o.r x h) q1
      have l2:(ps.take o.xs.length).length=m:=by rw [List.length_take,← hmv]; exact Nat.min_comm _ _
      rw [l2] at l1
      have:ws.take (m * o.r.size)=v1:=by rw [e1,← l1]; exact List.take_left' rfl
      rw [this]
      obtain ⟨rfl,rfl⟩:=List.append_eq_nil_iff.1 e2.symm
      exact q1
     have hB:RpL (Rp w (Kok b S c) o.r) (o.xs.drop ps.length) (((cs.toList.drop off).take (o.xs.length * o.r.size)).drop (m * o.r.size)) []:=by
      have hsp:o.xs=o.xs.take ps.length++o.xs.drop ps.length:=(List.take_append_drop _ _).symm
      generalize (cs.toList.drop off).take (o.xs.length * o.r.size)=ows at hr
      rw [hsp] at hr
      obtain ⟨v1,v2,G1,G2,e1,e2,q1,q2⟩:=RpL.split hr
      have l1:v1.length=(o.xs.take ps.length).length * o.r.size:=RpL.len (fun x vs F h=>Rp.len o.r x h) q1
      have l2:(o.xs.take ps.length).length=m:=by rw [List.length_take,← hmv]
      rw [l2] at l1
      have:ows.drop (m * o.r.size)=v2:=by rw [e1,← l1]; exact List.drop_left' rfl
      rw [this]
      obtain ⟨rfl,rfl⟩:=List.append_eq_nil_iff.1 e2.symm
      exact q2
     exact (RpL.append (RpL.frame hK _ _ _ _ (fun g hg=>by cases hg) hA) (RpL.frame hK _ _ _ _ (fun g hg=>by cases hg) hB))
   split at h
   ·simp only [Tr.ev,Option.some.injEq] at h
    subst h
    obtain rfl:v=.slice none 0 0:=hy
    refine ⟨goInt 0,w,?_,Did.same hi (Cm CH)⟩
    obtain hrun:=Ku (P:=P) (t2:=t2) (ty:=ty) w w hu hinf A0 o.xs.length cap0 (.slice none 0 0) 0 rfl [] (by simp [Builtin.firstCells]) (by
     cases A0 with
     | none=>exact .inl ⟨rfl,rfl⟩
     | some a=>exact .inr ⟨a,rfl,rfl⟩)
    rw [hA0]
    simpa using hrun
   ·simp only [Ai,Option.bind_eq_some_iff] at h
    obtain ⟨p,hp,h⟩:=h
    split at h
    ·rename_i he
     obtain ⟨pe,pr,pxs⟩:=p
     simp only [Ty.sl.injEq,true_and] at he
     obtain ⟨rfl,rfl⟩:=he
     simp only [Tr.ev,Option.some.injEq] at h
     subst h
     obtain ⟨A,cap,ws,F',rfl,hr,hx⟩:=Fw hi hy hp
     have hF:=RpL.ro hro _ hr
     subst hF
     exact fin pxs ws A cap rfl hr (hx.imp id fun ⟨ad,h1,_,h2⟩=>⟨ad,h1,h2⟩)
    ·simp [Tr.ev] at h
  ·simp [Tr.ev] at h
 ·simp [Tr.ev] at h
theorem RpL.window {w:World} {K:Nat→Prop} {r:Ty} {xs:List r.D} {W:List Value} {F:List Nat} (h:RpL (Rp w K r) xs W F) (hF:F.Nodup) {p a m:Nat} (hpa:p≤a) (ha:a≤xs.length) :
  ∃ F1 F2,RpL (Rp w K r) (xs.take p) (W.take (p * r.size)) F1∧RpL (Rp w K r) ((xs.drop a).take m) ((W.drop (a * r.size)).take (((xs.drop a).take m).length * r.size)) F2∧(F1++F2).Nodup∧∀ g,g∈F1++F2→g∈F:=by
 have e1:xs=xs.take p++((xs.drop p).take (a - p)++((xs.drop a).take m++(xs.drop a).drop m)):=by
  conv=>lhs; rw [← List.take_append_drop p xs]
  congr 1
  conv=>lhs; rw [← List.take_append_drop (a - p) (xs.drop p)]
  congr 1
  rw [List.drop_drop,show p+(a - p)=a by omega,List.take_append_drop]
 have h0:=h
 rw [e1] at h
 obtain ⟨v1,v2,FA,FB,rfl,rfl,r1,h⟩:=RpL.split h
 obtain ⟨v3,v4,FC,FD,rfl,rfl,r2,h⟩:=RpL.split h
 obtain ⟨v5,v6,FE,FG,rfl,rfl,r3,r4⟩:=RpL.split h
 have l1:=RpL.len (fun x vs F h=>Rp.len r x h) r1
 have l2:=RpL.len (fun x vs F h=>Rp.len r x h) r2
 have l3:=RpL.len (fun x vs F h=>Rp.len r x h) r3
 have q1:(xs.take p).length=p:=by rw [List.length_take]; omega
 have q2:((xs.drop p).take (a - p)).length=a - p:=by rw [List.length_take,List.length_drop]; omega
 rw [q1] at l1
 rw [q2] at l2
 refine ⟨FA,FE,?_,?_,?_,?_⟩
 ·rw [← l1,List.take_left']
  ·exact r1
  ·rfl
 ·have hlen:a * r.size=v1.length+v3.length:=by rw [l1,l2,← Nat.add_mul]; congr 1; omega
  rw [hlen,← List.drop_drop,List.drop_left' rfl,List.drop_left' rfl,← l3,List.take_left' rfl]
  exact r3
 ·simp only [List.nodup_append,List.mem_append] at hF ⊢
  exact ⟨hF.1,hF.2.1.2.1.1,fun x hx y hy=>hF.2.2 x hx y (.inr (.inl hy))⟩
 ·intro g hg
  rcases List.mem_append.1 hg with hg | hg <;> simp [hg]
theorem AdZ (hT:TabOk P ti) (hi:Inv b S w c) {t t2 ty:TypeId} {d k lo hh a m:Nat} {u v:Value} {out:Out} (hx:LeafOk S c w (Kok b S c) (.vw k [] (some (lo,hh))) u) (hy:LeafOk S c w (Kok b S c) (.vw k [] (some (a,m))) v)
  (h:(YD (ti t) (ti t2) d k lo hh a m).ev S=some out):∃ r w',(Builtin.append_ #[t,t2] ty #[u,v]).run P w=.ok r w'∧Did b S c w out r w':=by
 unfold YD at h
 split at h
 rotate_left
 ·simp [Tr.ev] at h
 rename_i e ts bytes ht
 simp only [Tr.ev] at h
 split at h
 rotate_left
 ·simp [Tr.ev] at h
 rename_i o hk
 split at h
 rotate_left
 ·simp [Tr.ev] at h
 rename_i hc
 obtain ⟨rfl,hsz,hsl⟩:=hc
 replace h:=Bv h
 obtain ⟨c1,h⟩:=h
 replace h:=Bv h
 obtain ⟨c2,h⟩:=h
 replace h:=Bv h
 obtain ⟨c3,h⟩:=h
 replace h:=Bv h
 obtain ⟨c4,h⟩:=h
 simp only [Tr.ev,Option.some.injEq] at h
 subst h
 simp only [decide_eq_true_eq,Aa] at c1 c2 c3 c4
 subst c1
 obtain ⟨h1,_,hb,hpos,i,z,h2,h3,h4,h5,h6,h7⟩:=hT.slice ht
 obtain ⟨e2,ie,hu2,hie⟩:=I9 hT hsl
 have hzs:z.cells.size=ts.length:=by
  have:=congrArg List.length h6
  simpa using this
 have hown:=hi.ow k o hk
 have hnd:=hi.nd k (by rw [hk]; simp)
 have hOw:Ows S [k]:=fun k' hk'=>by rw [List.mem_singleton.1 hk',hk]; simp
 obtain ⟨ox,ex,rx,yx,hvx,ek,eg,eh,ew⟩:=hx
 obtain rfl:o=ox:=by rw [hk] at ek; injection ek
 simp only [Al,Tr.run] at eg
 cases eg
 obtain rfl:c.hv k=hvx:=by simp only [hdr] at eh; injection eh
 obtain ⟨oy,ey,ry,yy,hvy,ek2,eg2,eh2,ew2⟩:=hy
 obtain rfl:o=oy:=by rw [hk] at ek2; injection ek2
 simp only [Al,Tr.run] at eg2
 cases eg2
 obtain rfl:c.hv k=hvy:=by simp only [hdr] at eh2; injection eh2
 obtain ⟨oe,or,oxs⟩:=o
 simp only at hsz c3 c4 ew ew2 hown h1 h2 ht
 rw [Rp] at hown
 rcases hown with ⟨rfl,_,_⟩ | ⟨g,off,cap,cs,fr,F0,hv,hF,hg,hnf,hoff,hcp,hro⟩
 ·simp at c3
 obtain ⟨A,n,cap0,A',cap1,q,w1,rfl,w3,w4,w5,w6,w7⟩:=ew
 obtain ⟨B,n2,cap2,B',cap3,q',y1,rfl,y3,y4,y5,y6,y7⟩:=ew2
 injection hv with hv
 rw [hv] at w1 y1
 injection w1 with w1 w1n w1c
 injection y1 with y1 y1n y1c
 subst w1 w1c y1 y1c
 rw [w7 _ rfl,y7 _ rfl]
 have n1:min hh (oxs.length - 0)=hh:=by omega
 rw [n1] at w3 w5 ⊢
 rw [hF] at hnd
 obtain ⟨n3,n4⟩:=List.nodup_cons.1 hnd
 obtain ⟨F1,F2,r1,r2,r3,r4⟩:=RpL.window hro n4 (p:=hh) (a:=a) (m:=m) c2 (by omega)
 have hlen2:((oxs.drop a).take m).length=min m (oxs.length - a):=by rw [List.length_take,List.length_drop]
 have hl1:(oxs.take hh).length=hh:=by rw [List.length_take]; omega
 rw [hlen2] at r2
 generalize hnm:min m (oxs.length - a)=nm at y3 y5 r2 hlen2
 generalize holds:((cs.toList.drop off).take (oxs.length * or.size)).take (hh * or.size)=olds at r1
 generalize hnews:(((cs.toList.drop off).take (oxs.length * or.size)).drop (a * or.size)).take (nm * or.size)=news at r2
 have hol:olds.length=hh * or.size:=by have:=RpL.len (fun x vs F h=>Rp.len or x h) r1; rw [hl1] at this; exact this
 have hnl:news.length=nm * or.size:=by have:=RpL.len (fun x vs F h=>Rp.len or x h) r2; rw [hlen2] at this; exact this
 have hco:cs.toList.length=cs.size:=Array.length_toList
 have hmul:oxs.length * or.size≤cap * or.size:=Nat.mul_le_mul_right _ hcp
 have olds_at:∀ j,j < hh * or.size→olds[j]?=cs[off+j]?:=by
  intro j hj
  have hj2:j < oxs.length * or.size:=Nat.lt_of_lt_of_le hj (Nat.mul_le_mul_right _ (by omega))
  rw [← holds,List.getElem?_take_of_lt hj,List.getElem?_take_of_lt hj2,List.getElem?_drop,Array.getElem?_toList]
 have news_at:∀ j,j < nm * or.size→news[j]?=cs[off+(a * or.size+j)]?:=by
  intro j hj
  have hj2:a * or.size+j < oxs.length * or.size:=by
   have:(a+nm) * or.size≤oxs.length * or.size:=Nat.mul_le_mul_right _ (by omega)
   rw [Nat.add_mul] at this; omega
  rw [← hnews,List.getElem?_take_of_lt hj,List.getElem?_drop,List.getElem?_take_of_lt hj2,List.getElem?_drop,Array.getElem?_toList]
 have m3:Src2 P i z t t2 ty oe (.slice (some (Addr.add ⟨g,off,none⟩ (q' * or.size))) nm cap3) nm news w:=by
  refine Src2.of h1 h2 h5 ?_
  refine I1 hu2 (by rw [hnl,h3,hsz]) (RpL.one _ r2) ?_
  by_cases h0:nm=0
  ·exact .inl h0
  ·right
   refine ⟨_,rfl,fun j hj=>?_⟩
   rw [hnl] at hj
   rw [y5 (by omega),AT,AT,AV hg,news_at j hj,Nat.add_assoc]
 have hcap63:hh+nm≤oxs.length:=by omega
 have c4':(hh+nm) * i.bytes≤140737488355328:=by rw [h4]; exact Nat.le_trans (Nat.mul_le_mul_right _ hcap63) c4
 have h63:hh+nm≤140737488355328:=by
  have:hh+nm≤(hh+nm) * i.bytes:=Nat.le_mul_of_pos_right _ (by omega)
  omega
 have held:∀ x,x∈g::(F1++F2)→∃ k',k'∈[k]∧x∈c.F k':=by
  intro x hx
  refine ⟨k,by simp,?_⟩
  rw [hF]
  rcases List.mem_cons.1 hx with rfl | hx
  ·simp
  ·exact List.mem_cons_of_mem _ (r4 x hx)
 have hlt:∀ x,x∈g::(F1++F2)→x < w.heap.size:=fun x hx=>Ht hi hOw (G:=g::(F1++F2)) held hx
 have ndn:(g::(F1++F2)).Nodup:=List.nodup_cons.2 ⟨fun hx=>n3 (r4 g hx),r3⟩
 have hrow:(List.take hh oxs++List.take m (List.drop a oxs)).length=hh+nm:=by rw [List.length_append,hl1,hlen2]
 rw [AT]
 by_cases hroom:hh+nm≤cap1
 ·have hq:(q+(hh+nm)) * or.size≤cap * or.size:=Nat.mul_le_mul_right _ (by omega)
  rw [Nat.add_mul,Nat.add_mul] at hq
  have hfit:off+q * or.size+hh * or.size+news.length≤cs.size:=by rw [hnl]; omega
  have hrun:=m3.room g (off+q * or.size) hh cap1 hroom h63 c4'
   (fun j hj=>by rw [h3,← hsz,AV hg,Array.getElem?_eq_getElem (by omega)]; rfl)
   (fun j hj=>by rw [h3,← hsz]; exact C3 hg hnf.nf (by omega))
  rw [h3,← hsz] at hrun
  obtain ⟨cs',s1,s2,s3⟩:=CG news (off+q * or.size+hh * or.size) w cs hg hfit
  obtain ⟨s4,s5⟩:=Cf (g:=g) news (off+q * or.size+hh * or.size) w
  generalize w.setCells g (off+q * or.size+hh * or.size) news=w' at hrun s1 s4 s5
  refine ⟨_,_,hrun,?_⟩
  refine Dq hi (kd d 0) ⟨oe,or,List.take hh oxs++List.take m (List.drop a oxs)⟩ [k] hOw (F':=g::(F1++F2)) (s4.mono ?_) ?_ ndn ?_
  ·rintro x rfl
   exact held x (by simp)
  ·intro x hx
   exact ⟨by rw [s5]; exact hlt x hx,.inl (held x hx)⟩
  ·intro K' hK _
   simp only [Rp]
   have hq2:(q+cap1) * or.size≤cap * or.size:=Nat.mul_le_mul_right _ (by omega)
   rw [Nat.add_mul] at hq2
   refine .inr ⟨g,off+q * or.size,cap1,cs',fr,F1++F2,by rw [hrow],rfl,s1,by rw [s2]; exact hnf,by rw [s2]; omega,by rw [hrow]; exact hroom,?_⟩
   have htake:(cs'.toList.drop (off+q * or.size)).take ((List.take hh oxs++List.take m (List.drop a oxs)).length * or.size)=olds++news:=by
    rw [hrow]
    apply List.ext_getElem?
    intro j
    rw [Nat.add_mul]
    by_cases hj:j < hh * or.size
    ·have hhp:0 < hh:=by
      rcases Nat.eq_zero_or_pos hh with h0 | h0
      ·rw [h0,Nat.zero_mul] at hj; omega
      ·exact h0
     rw [w5 hhp,Nat.zero_mul,Nat.add_zero] at s3 ⊢
     rw [List.getElem?_append_left (by omega),List.getElem?_take_of_lt (by omega),List.getElem?_drop,Array.getElem?_toList,s3,if_neg (by omega),olds_at j hj]
    ·rw [List.getElem?_append_right (by omega),hol]
     by_cases hj2:j < hh * or.size+nm * or.size
     ·rw [List.getElem?_take_of_lt hj2,List.getElem?_drop,Array.getElem?_toList,s3,if_pos (by omega)]
      congr 1; omega
     ·rw [List.getElem?_eq_none (by rw [List.length_take]; omega),List.getElem?_eq_none (by omega)]
   rw [htake]
   have hsame:∀ {F:List Nat},(∀ x,x∈F→x∈F1++F2)→CV w w' F:=fun hs x hx=>s4.same x (hlt x (List.mem_cons_of_mem _ (hs x hx))) (fun e=>n3 (r4 g (by have:=hs x hx; rw [e] at this; exact this)))
   exact RpL.append (RpL.frame hK _ _ _ _ (hsame fun x hx=>by simp [hx]) r1) (RpL.frame hK _ _ _ _ (hsame fun x hx=>by simp [hx]) r2)
 ·have hfc:(Builtin.firstCells i.size hh (.slice (some ⟨g,off+q * or.size,none⟩) hh cap1)).run P w.drew=.ok olds.toArray w.drew:=by
   refine run_firstCells_some w.drew i.size hh ⟨g,off+q * or.size,none⟩ _ cap1 olds (by rw [hol,h3,hsz]) (fun j u hu=>?_)
   have hj:=(List.getElem?_eq_some_iff.1 hu).1
   rw [hol] at hj
   have hhp:0 < hh:=by
    rcases Nat.eq_zero_or_pos hh with h0 | h0
    ·rw [h0,Nat.zero_mul] at hj; omega
    ·exact h0
   rw [olds_at j hj] at hu
   have hg':w.drew.heap[g]?=some (.cells cs oe fr):=hg
   rw [AT,AV hg',w5 hhp,Nat.zero_mul,Nat.add_zero]; exact hu
  have hrun:=m3.grow (some ⟨g,off+q * or.size,none⟩) hh cap1 olds w3 hfc (by omega) h63 c4'
  have hge:=grownCap_ge w (hh+nm) cap1 oe
  have hgm:=grownCap_le_maxLen w (hh+nm) cap1 oe (by unfold maxLen; omega)
  generalize grownCap w (hh+nm) cap1 oe=gc at hrun hge hgm
  generalize hcs:(olds++news).toArray++Builtin.zeroCells z.cells (gc - (hh+nm))=cs2 at hrun
  generalize hw:w.drew.alloc (.cells cs2 oe)=w' at hrun
  have hst:Step w w' (fun _=>False):=by
   subst hw
   exact ⟨rfl,rfl,rfl,(by show w.heap.size≤(w.heap.push _).size; simp),fun g hg _=>(by show (w.heap.push _)[g]?=_; simp [Array.getElem?_push,show ¬ (g=w.heap.size) by omega])⟩
  have hnew:w'.heap[w.heap.size]?=some (.cells cs2 oe):=by subst hw; exact EQ w _
  have hws:w.heap.size < w'.heap.size:=by subst hw; show w.heap.size < (w.heap.push _).size; simp
  have hlt2:∀ x,x∈F1++F2→x < w.heap.size:=fun x hx=>hlt x (List.mem_cons_of_mem _ hx)
  refine ⟨_,_,hrun,?_⟩
  refine Dq hi (kd d 0) ⟨oe,or,List.take hh oxs++List.take m (List.drop a oxs)⟩ [k] hOw (F':=w.heap.size::(F1++F2)) (hst.mono fun _ h=>h.elim) ?_ ?_ ?_
  ·intro x hx
   rcases List.mem_cons.1 hx with rfl | hx
   ·exact ⟨hws,.inr (Nat.le_refl _)⟩
   ·exact ⟨Nat.lt_trans (hlt2 x hx) hws,.inl (held x (List.mem_cons_of_mem _ hx))⟩
  ·rw [List.nodup_cons]
   exact ⟨fun hx=>by have:=hlt2 _ hx; omega,r3⟩
  ·intro K' hK _
   simp only [Rp]
   have hsz2:cs2.size=gc * or.size:=by
    rw [← hcs,Array.size_append,List.size_toArray,List.length_append,size_zeroCells,hol,hnl,hzs,← hsz,← Nat.add_mul,← Nat.add_mul]
    congr 1; omega
   refine .inr ⟨w.heap.size,0,gc,cs2,(0,0),F1++F2,by rw [hrow],rfl,hnew,NFt.zero _ (fun hr1=>by have hs1:or.size=1:=(by rw [hr1]; rfl); rw [hsz2,hs1]; unfold maxLen at hgm; omega),by rw [hsz2]; omega,by rw [hrow]; exact hge,?_⟩
   have htake:(cs2.toList.drop 0).take ((List.take hh oxs++List.take m (List.drop a oxs)).length * or.size)=olds++news:=by
    rw [hrow,← hcs,List.drop_zero,Array.toList_append,List.take_append_of_le_length (by simp [hol,hnl,Nat.add_mul])]
    apply List.take_of_length_le
    simp [hol,hnl,Nat.add_mul]
   rw [htake]
   have hsame:∀ {F:List Nat},(∀ x,x∈F→x∈F1++F2)→CV w w' F:=fun hs x hx=>hst.same x (hlt2 x (hs x hx)) (fun e=>e)
   exact RpL.append (RpL.frame hK _ _ _ _ (hsame fun x hx=>by simp [hx]) r1) (RpL.frame hK _ _ _ _ (hsame fun x hx=>by simp [hx]) r2)
theorem AdM (hT:TabOk P ti) (hi:Inv b S w c) {t t2 ty:TypeId} {d:Nat} {x y:Leaf} {u v:Value} {out:Out} (hx:LeafOk S c w (Kok b S c) x u) (hy:LeafOk S c w (Kok b S c) y v)
  (h:(Wi (ti t) (ti t2) d x y).ev S=some out):∃ r w',(Builtin.append_ #[t,t2] ty #[u,v]).run P w=.ok r w'∧Did b S c w out r w':=by
 unfold Wi at h
 split at h
 ·split at h
  ·rename_i hkk
   subst hkk
   exact AdZ hT hi hx hy h
  ·exact Uf hT hi hx hy h
 ·exact Uf hT hi hx hy h
end
end Go.V
namespace Go.V
open Go.RowKit
section
variable {P:Program} {ti:TypeId→TI} {b:Base} {S:St} {c:Cc} {w:World}
theorem O3:∀ {fs:List (Nat×Nat×Bool)} {gs:List Field} {f:Nat} {o n:Nat} {ag:Bool},Co P fs gs=true→fs[f]?=some (o,n,ag)→
  ∃ g,gs[f]?=some g∧g.offset=o∧n≠0∧(∃ i,P.info? g.type=some i∧i.size=n)∧∃ d,P.underlying g.type=some d∧GF d=ag
 | [],_,_,_,_,_,_,h=>by simp at h
 | _::_,[],_,_,_,_,h,_=>by simp [Co] at h
 | (o',n',ag')::fs,g::gs,f,o,n,ag,h,hf=>by
  simp only [Co,Bool.and_eq_true,beq_iff_eq,Bool.not_eq_true',beq_eq_false_iff_ne] at h
  obtain ⟨⟨⟨⟨h1,h2⟩,h3⟩,h4⟩,h5⟩:=h
  cases f with
  | zero=>
   simp only [List.getElem?_cons_zero,Option.some.injEq,Prod.mk.injEq] at hf
   obtain ⟨rfl,rfl,rfl⟩:=hf
   refine ⟨g,rfl,h1,h2,?_,?_⟩
   ·split at h3
    ·rename_i i hi; exact ⟨i,hi,by simpa using h3⟩
    ·cases h3
   ·split at h4
    ·rename_i d hd; exact ⟨d,hd,by simpa using h4⟩
    ·cases h4
  | succ f=>
   have:=O3 (f:=f) h5 (by simpa using hf)
   simpa using this
theorem NC:∀ {fs:List (Nat×Nat×Bool)} {gs:List Field},Co P fs gs=true→gs.mapM (fun f=>(P.info? f.type).map fun i=>(f.offset,i.size))=some (fs.map fun x=>(x.1,x.2.1))
 | [],[],_=>rfl
 | [],_::_,h=>by simp [Co] at h
 | _::_,[],h=>by simp [Co] at h
 | (o',n',ag')::fs,g::gs,h=>by
  simp only [Co,Bool.and_eq_true,beq_iff_eq,Bool.not_eq_true',beq_eq_false_iff_ne] at h
  obtain ⟨⟨⟨⟨h1,h2⟩,h3⟩,h4⟩,h5⟩:=h
  split at h3
  ·rename_i i hi
   rw [beq_iff_eq] at h3
   simp [List.mapM_cons,hi,NC h5,h1,h3]
  ·cases h3
theorem Rg {t:TypeId} {fields:Array Field} {f:Nat} {g:Field} {d:TypeDesc} {i:TypeInfo} (h1:P.underlying t=some (.struct fields)) (h2:fields[f]?=some g) (h3:P.underlying g.type=some d)
  (h4:P.info? g.type=some i) (cs:Array Value) (v:Value) (hv:if GF d then v=.agg (cs.extract g.offset (g.offset+i.size)) else cs[g.offset]?=some v) :
  (Instr.field t (.agg cs) f).run P w=.ok v w:=by
 simp only [Instr.field,Sem.run_bind,run_underlying h1,Result.andThen_ok,h2,asAgg,Sem.run_pure,part,Jb h3]
 split at hv
 ·rename_i ha
  subst hv
  simp [ha,Kr h4]
 ·rename_i ha
  simp [ha,hv]
theorem Vp (hT:TabOk P ti) {K:Nat→Prop} {t:TypeId} {fs:List (Nat×Nat×Bool)} {row:List Ty} {eq:Bool} {ls:List Leaf} {v:Value} {f o n:Nat} {ag:Bool} {r:SV}
  (ht:ti t=.struct fs row eq) (hf:fs[f]?=some (o,n,ag)) (hx:AI S c w K (.s (.ag ls)) v)
  (hr:if ag then r=.s (.ag ((ls.drop o).take n)) else ∃ l,ls[o]?=some l∧r=.s (ST l)):∃ u,(Instr.field t v f).run P w=.ok u w∧AI S c w K r u:=by
 obtain ⟨fields,h1,h2,_⟩:=hT.struct ht
 obtain ⟨g,h3,h4,h5,⟨i,h6,h7⟩,d,h8,h9⟩:=O3 h2 hf
 obtain ⟨vs,rfl,hall⟩:=hx
 rw [Array.getElem?_toList] at h3
 cases ag with
 | true=>
  simp only [if_true] at hr
  subst hr
  refine ⟨_,Rg h1 h3 h8 h6 _ (.agg (vs.toArray.extract o (o+n))) (by rw [h9,h4,h7]; simp),(vs.drop o).take n,?_,(hall.drop o).take n⟩
  congr 1
  apply Array.ext'
  simp [List.extract_eq_take_drop]
 | false=>
  obtain ⟨l,hl,rfl⟩:=hr
  obtain ⟨u,hu,hlu⟩:=hall.get hl
  exact ⟨u,Rg h1 h3 h8 h6 _ u (by rw [h9,h4]; simpa using hu),Yh hlu⟩
theorem MK (hT:TabOk P ti) {t:TypeId} {fs:List (Nat×Nat×Bool)} {row:List Ty} {eq:Bool} {f o n:Nat} {ag:Bool} (ht:ti t=.struct fs row eq) (hf:fs[f]?=some (o,n,ag)) (ad:Addr) :
  (Instr.fieldAt t (.pointer (some ad)) f).run P w=.ok (.pointer (some (ad.add o))) w:=by
 obtain ⟨fields,h1,h2,_⟩:=hT.struct ht
 obtain ⟨g,h3,h4,h5,⟨i,h6,h7⟩,d,h8,h9⟩:=O3 h2 hf
 rw [Array.getElem?_toList] at h3
 simp only [Instr.fieldAt,Sem.run_bind,run_underlying h1,Result.andThen_ok,h3,Instr.sureAddr,Sem.run_pure,fieldPlace,Kr h6,h7,if_neg h5,h4]
theorem J6 (hT:TabOk P ti) {K:Nat→Prop} {t:TypeId} {fs:List (Nat×Nat×Bool)} {row:List Ty} {eq:Bool} {f o n:Nat} {ag:Bool} {a:S1} {v:Value} {r:SV} (ht:ti t=.struct fs row eq) (hf:fs[f]?=some (o,n,ag)) (ha:AI S c w K (.s a) v)
  (hr:(∃ k off,a=.pl k off∧r=.s (.pl k (off+o)))∨(∃ k st,a=.el k st∧r=.s (.el k (BP st o)))∨(∃ u x off,a=.rp u x off∧r=.s (.rp u x (off+o)))) :
  ∃ u,(Instr.fieldAt t v f).run P w=.ok u w∧AI S c w K r u:=by
 rcases hr with ⟨k,off,rfl,rfl⟩ | ⟨k,st,rfl,rfl⟩ | ⟨u,x,off,rfl,rfl⟩
 ·obtain ⟨m,hm,rfl⟩:=ha
  refine ⟨_,MK hT ht hf _,m,hm,by rw [AT,Nat.add_assoc]⟩
 ·obtain ⟨o0,ad,ho,had,rfl,pre,p,d,rfl,hd⟩:=ha
  refine ⟨_,MK hT ht hf _,o0,_,ho,M8 _ o had,rfl,pre,(p.1,p.2+o),d,?_,hd⟩
  obtain ⟨i,j⟩:=p
  exact Lm _ _ _ _
 ·obtain ⟨ad,vs,rfl,h1,h2,h3,h4⟩:=ha
  refine ⟨_,MK hT ht hf _,ad,vs,?_,h1,h2,h3,h4⟩
  rw [add_add]
theorem P0 {p:Leaf→Value→Prop}:∀ (ls:List Leaf) (vs:List Value) (off k:Nat) (row:List Leaf) (cs:Array Value),All2 p ls vs→All2 p row cs.toList→
  All2 p (Pe row (off+k) ls) ((vs.zipIdx k).foldl (fun cs q=>cs.setIfInBounds (off+q.2) q.1) cs).toList
 | [],_,_,_,_,_,.nil,h=>h
 | l::ls,_,off,k,row,cs,.cons (b:=v) (bs:=vs) h1 h2,h=>by
  simp only [Pe,List.zipIdx_cons,List.foldl_cons]
  exact P0 ls vs off (k+1) _ _ h2 (by rw [Array.toList_setIfInBounds]; exact h.set _ h1)
theorem TB (hi:Inv b S w c) (fs:List (Nat×Nat×Bool)) (Pj:Nat→Option (Nat×Nat)) (hp:∀ f o n ag,fs[f]?=some (o,n,ag)→Pj f=some (o,n)) :
  ∀ (ps:List (Nat×SV)) (us:List Value) (row:List Leaf) (cs:Array Value) {ls:List Leaf},All2 (fun p u=>AI S c w (Kok b S c) p.2 u) ps us→All2 (LeafOk S c w (Kok b S c)) row cs.toList→Mq fs ps row=some ls→
   ∃ cs',Instr.fill Pj cs ((ps.map (·.1)).zip us)=some cs'∧All2 (LeafOk S c w (Kok b S c)) ls cs'.toList
 | [],_,row,cs,ls,.nil,h,hb=>by
  simp only [Mq,Option.some.injEq] at hb
  subst hb
  exact ⟨cs,rfl,h⟩
 | (f,x)::ps,_,row,cs,ls,.cons (b:=u) (bs:=us) h1 h2,h,hb=>by
  simp only [Mq] at hb
  split at hb
  ·rename_i off n ag lsx hf hlx
   split at hb
   ·rename_i hn
    split at hb
    ·rename_i hle
     obtain ⟨vs,e1,e2,_⟩:=HD hi h1 hlx
     have hvl:vs.length=n:=by rw [← e2.len,hn]
     have hcl:row.length=cs.size:=by rw [h.len]; simp
     have hall:=P0 lsx vs off 0 row cs e2 h
     rw [Nat.add_zero] at hall
     obtain ⟨cs',q1,q2⟩:=TB hi fs Pj hp ps us _ _ h2 hall hb
     refine ⟨cs',?_,q2⟩
     simp only [List.map_cons,List.zip_cons_cons,Instr.fill,hp f off n ag hf,e1,List.size_toArray]
     rw [if_neg (by simp; omega)]
     rw [← q1]
     congr 1
     rw [← Array.foldl_toList,Array.toList_zipIdx]
    ·cases hb
   ·cases hb
  ·cases hb
theorem Ab6 (hT:TabOk P ti) (hi:Inv b S w c) {t:TypeId} {fs:List (Nat×Nat×Bool)} {row:List Ty} {eq:Bool} {ps:List (Nat×SV)} {us:List Value} {is:List (Nat×Value)} {ls:List Leaf} (ht:ti t=.struct fs row eq)
  (hps:All2 (fun p u=>AI S c w (Kok b S c) p.2 u) ps us) (his:is=(ps.map (·.1)).zip us) (h:Mq fs ps (row.map Dk)=some ls) :
  ∃ u,(Instr.build t is.toArray).run P w=.ok u w∧AI S c w (Kok b S c) (.s (.ag ls)) u:=by
 obtain ⟨fields,h1,h2,_,i,h3,h4,h5,h6⟩:=hT.struct ht
 obtain ⟨cs',q1,q2⟩:=TB hi fs ((fs.map fun x=>(x.1,x.2.1)).toArray[·]?) (fun f o n ag hf=>by simp [hf]) ps us (row.map Dk) (row.map Be).toArray hps (by simpa using LL row h6) h
 refine ⟨.agg cs',run_build w t _ cs' ?_,cs'.toList,rfl,q2⟩
 simp only [Program.built,h3,h1,h5,NC h2,Value.cells]
 rw [his]
 exact q1
theorem ZS (xs:List Int):xs.foldl (fun r n=>r.push (UInt8.ofNat n.toNat)) ByteArray.empty=⟨(Bu xs).toArray⟩:=by
 have h:∀ (xs:List Int) (r:ByteArray),xs.foldl (fun r n=>r.push (UInt8.ofNat n.toNat)) r=⟨r.data++(Bu xs).toArray⟩:=by
  intro xs
  induction xs with
  | nil=>intro r; simp [Bu]
  | cons x xs ih=>
   intro r
   rw [List.foldl_cons,ih]
   simp [Bu,ByteArray.push]
 rw [h]; simp
theorem Vy {K:Nat→Prop}:∀ (xs:List Int) {ws F},RpL (Rp w K (.int .u8)) xs ws F→ws=xs.map (Value.int .u8)
 | [],_,_,h=>h.1
 | x::xs,_,_,⟨v1,v2,F1,F2,e1,_,h1,h2⟩=>by
  simp only [Rp] at h1
  subst e1
  rw [h1.1,Vy xs h2]; rfl
theorem Is (hT:TabOk P ti) {t:TypeId} (h:ti t=.cell .str):P.underlying t=some .string:=by
 obtain ⟨⟨d,hd,he⟩,_⟩:=hT.cell h
 rw [hd]; cases d <;> first | rfl | (simp [BL] at he; done)
theorem ZF (hT:TabOk P ti) {t:TypeId} (h:ti t=.cell .bool):P.underlying t=some .bool:=by
 obtain ⟨⟨d,hd,he⟩,_⟩:=hT.cell h
 rw [hd]; cases d <;> first | rfl | (simp [BL] at he; done)
theorem Ade (hT:TabOk P ti) (hi:Inv b S w c) {s t:TypeId} {d:Nat} {x:Leaf} {v:Value} {out:Out} (hx:LeafOk S c w (Kok b S c) x v) (h:(YV ti (ti s) (ti t) d x).ev S=some out) :
  ∃ r w',(convert s t v).run P w=.ok r w'∧Did b S c w out r w':=by
 unfold YV at h
 split at h
 ·rename_i k0 k k' n hs ht
  simp only [Tr.ev,Option.some.injEq] at h
  subst h
  obtain rfl:=Cj hx
  refine ⟨.int k (k.wrap n),w,?_,Did.same hi (Cm CH)⟩
  simp [convert,run_underlying (Ho hT hs),run_underlying (Ho hT ht),Conv.intToInt]
 ·rename_i s' hs ht
  simp only [Tr.ev,Option.some.injEq] at h
  subst h
  obtain rfl:=DE hx
  refine ⟨_,w,?_,Did.same hi (Cm OI)⟩
  simp [convert,run_underlying (Is hT hs),run_underlying (Is hT ht)]
 ·rename_i e ts bytes s' hs ht
  split at h
  ·rename_i he
   simp only [Tr.ev,Option.some.injEq] at h
   subst h
   obtain rfl:=DE hx
   obtain ⟨h1,_⟩:=hT.slice ht
   have hrun:=run_bytes_of_string (P:=P) w s t e ⟨s'.toArray⟩ (Is hT hs) h1 (Ho hT he)
   have hge:=grownCap_ge w (ByteArray.mk s'.toArray).size 0 e
   generalize grownCap w (ByteArray.mk s'.toArray).size 0 e=gc at hrun hge
   have hsz:(ByteArray.mk s'.toArray).size=s'.length:=by simp [ByteArray.size]
   have hrow:bytesRow ⟨s'.toArray⟩ gc=(byteCells ⟨s'.toArray⟩).toArray++Array.replicate (gc - s'.length) (.int .u8 0):=by
    simp only [bytesRow,hsz,byteCells]
    congr 1
    apply Array.ext'
    simp
   have hbl:(byteCells ⟨s'.toArray⟩).length=s'.length:=by rw [byteCells_length,hsz]
   rw [hrow,hsz] at hrun
   rw [hsz] at hge
   generalize hcs:(byteCells ⟨s'.toArray⟩).toArray++Array.replicate (gc - s'.length) (Value.int .u8 0)=cs at hrun
   have hcz:cs.size=gc:=by rw [← hcs]; simp [hbl]; omega
   have hst:Step w (w.drew.alloc (.cells cs e (cs.size,cs.size+1))) (fun _=>False):=by
    exact ⟨rfl,rfl,rfl,(by show w.heap.size≤(w.heap.push _).size; simp),fun g hg _=>(by show (w.heap.push _)[g]?=_; simp [Array.getElem?_push,show ¬ (g=w.heap.size) by omega])⟩
   refine ⟨_,_,hrun,?_⟩
   refine Dq hi (kd d 0) ⟨e,.int .u8,AR s'⟩ [] (fun k hk=>(by cases hk)) (F':=[w.heap.size]) (hst.mono fun _ h=>h.elim) ?_ (by simp) ?_
   ·intro g hg
    simp only [List.mem_singleton] at hg
    subst hg
    exact ⟨by show w.heap.size < (w.heap.push _).size; simp,.inr (Nat.le_refl _)⟩
   ·intro K' _ _
    have hlen:(AR s').length=s'.length:=by simp [AR]
    rw [Rp]
    refine .inr ⟨w.heap.size,0,gc,cs,(cs.size,cs.size+1),[],by rw [hlen],rfl,EQ w _,⟨by intro i hi hx; omega,fun h=>absurd rfl h,fun h=>(by cases h)⟩,by simp [Ty.size,hcz],by rw [hlen]; exact hge,?_⟩
    have:(cs.toList.drop 0).take ((AR s').length * Ty.size (.int .u8))=byteCells ⟨s'.toArray⟩:=by
     rw [← hcs,List.drop_zero,Array.toList_append,List.take_append_of_le_length (by simp [hbl,hlen,Ty.size])]
     apply List.take_of_length_le
     simp [hbl,hlen,Ty.size]
    rw [this]
    exact Oj s'
  ·simp [Tr.ev] at h
 ·rename_i e ts bytes hs ht
  split at h
  ·rename_i he
   simp only [Tr.ev,Option.some.injEq] at h
   subst h
   obtain rfl:v=.slice none 0 0:=hx
   obtain ⟨h1,_⟩:=hT.slice hs
   exact ⟨_,w,run_convert_bytes_nil w s e h1 (Ho hT he) 0 0 t (Is hT ht),Did.same hi (Cm (OI (n:=[])))⟩
  ·simp [Tr.ev] at h
 ·rename_i hs ht _
  split at h
  ·rename_i he
   simp only [Ai,Option.bind_eq_some_iff] at h
   obtain ⟨o,ho,h⟩:=h
   split at h
   ·rename_i oe xs
    simp only [Tr.ev,Option.some.injEq] at h
    subst h
    obtain ⟨A,cap,ws,F',rfl,hr,hxs⟩:=Fw hi hx ho
    obtain ⟨h1,_⟩:=hT.slice hs
    have hws:=Vy _ hr
    refine ⟨.string ⟨(Bu xs).toArray⟩,w,?_,Did.same hi (Cm OI)⟩
    cases A with
    | none=>
     rcases hxs with hxs | ⟨ad,h,_⟩
     ·simp only at hxs
      subst hxs
      exact run_convert_bytes_nil w s _ h1 (Ho hT he) _ cap t (Is hT ht)
     ·cases h
    | some a=>
     rw [run_convert_bytes_string w s t _ (some a) _ cap h1 (Ho hT he) (Is hT ht)]
     have hl:(loadCells a (List.length xs)).run P w=.ok (xs.map (Value.int .u8)).toArray w:=by
      have:=run_loadCells_list (P:=P) w a (xs.map (Value.int .u8)) (fun j u hu=>by
       have hj:=(List.getElem?_eq_some_iff.1 hu).1
       rcases hxs with hxs | ⟨ad,h,_,h2⟩
       ·simp only at hxs; subst hxs; simp at hj
       ·injection h with h; subst h
        rw [h2 j (by rw [hws]; exact hj),hws]; exact hu)
      simpa using this
     rw [run_bytesToString w a _ cap xs hl,ZS]
   ·simp [Tr.ev] at h
  ·simp [Tr.ev] at h
 ·simp [Tr.ev] at h
theorem TH {K:Nat→Prop} {f:Builtin} {xs:List SV} {us:List Value} {r:SV} (ts:Array TypeId) (t:TypeId) (hx:All2 (AI S c w K) xs us) (h:(Q5 f xs).ev S=some r) :
  (f=.min∧∃ u,(Builtin.min_ ts t us.toArray).run P w=.ok u w∧AI S c w K r u)∨(f=.max∧∃ u,(Builtin.max_ ts t us.toArray).run P w=.ok u w∧AI S c w K r u):=by
 unfold Q5 at h
 split at h
 ·rename_i k x k' y
  cases hx with
  | cons h1 h2=>
   cases h2 with
   | cons h2 h3=>
    cases h3
    obtain rfl:=Cj (AY h1)
    obtain rfl:=Cj (AY h2)
    split at h
    ·rename_i hk
     subst hk
     split at h
     ·simp only [Tr.ev,Option.some.injEq] at h
      subst h
      refine .inl ⟨rfl,.int k (if (y:Int) < x then y else x),?_,Cm CH⟩
      simp [Builtin.min_,Builtin.min2]
     ·simp only [Tr.ev,Option.some.injEq] at h
      subst h
      refine .inr ⟨rfl,.int k (if (x:Int) < y then y else x),?_,Cm CH⟩
      simp [Builtin.max_,Builtin.max2]
     ·simp [Tr.ev] at h
    ·simp [Tr.ev] at h
 ·simp [Tr.ev] at h
theorem ZA {K:Nat→Prop} {t:TypeId} {s:List UInt8} {k:IntKind} {i:Int} {u:UInt8} (ht:P.underlying t=some .string) (h0:0≤i) (hu:s[i.toNat]?=some u) :
  (Instr.index t (.string ⟨s.toArray⟩) (.int k i)).run P w=.ok (.int .u8 (u.toNat:Nat)) w∧AI S c w K (.s (.one (.v (.int .u8) ((UInt8.toNat u:Nat):Int)))) (.int .u8 (u.toNat:Nat)):=by
 refine ⟨?_,Cm CH⟩
 have hlt:i.toNat < s.length:=(List.getElem?_eq_some_iff.1 hu).1
 rw [run_index_string w t _ k i ht,dif_pos ⟨h0,by simp only [ByteArray.size,List.size_toArray]; omega⟩]
 have hs:s[i.toNat]=u:=by
  have:=List.getElem?_eq_getElem hlt
  rw [hu] at this
  injection this with this
  exact this.symm
 congr 2
 rw [← hs]
 rfl
end
end Go.V
namespace Go.V
open Go.RowKit
structure New where
 o:Own
 h:Value
 F:List Nat
theorem Inv.many {b:Base} {S S':St} {c:Cc} {w w':World} (hi:Inv b S w c) (news:Nat→Option New) (gs rws:List Nat) (ks:List Kl)
  (how:∀ k,S'.ow k=match news k with | some n=>some n.o | none=>if k∈gs then none else S.ow k) (hms:S'.ms=S.ms) (hmc:∀ k i,k∉rws→S'.mc k i=(S.mc k i).kp ks)
  (hgs:∀ k o,S.ow k=some o→(k∈gs∨news k≠none)→.all k∈ks∨(.deep k∈ks∧∃ n xs',news k=some n∧n.h=c.hv k∧n.o=⟨o.e,o.r,xs'⟩∧xs'.length=o.xs.length))
  (hst:Step w w' fun g=>(∃ k,k∈gs∧S.ow k≠none∧g∈c.F k)∨∃ k,k∈rws∧S.ms k≠none∧c.mb k=g)
  (hF:∀ k n,news k=some n→∀ g,g∈n.F→g < w'.heap.size∧((∃ k,k∈gs∧S.ow k≠none∧g∈c.F k)∨w.heap.size≤g))
  (hnd:∀ k n,news k=some n→n.F.Nodup) (hdis:∀ k n k' n',k≠k'→news k=some n→news k'=some n'→∀ g,g∈n.F→g∉n'.F)
  (hR:∀ K',KSame w w' (Kok b S c) K'→(∀ g,(w.heap.size≤g∨∃ k,k∈gs∧S.ow k≠none∧g∈c.F k)→(∀ k n,news k=some n→g∉n.F)→K' g)→∀ k n,news k=some n→Rp w' K' (.sl true n.o.e n.o.r) n.o.xs [n.h] n.F)
  (hrow:∀ K' c',c'.mb=c.mb∧c'.mo=c.mo→(∀ l v,LeafOk S c w (Kok b S c) l v→LeafOk S' c' w' K' (l.kp ks) v)→KSame w w' (Kok b S c) K'→(∀ g,(w.heap.size≤g∨∃ k,k∈gs∧S.ow k≠none∧g∈c.F k)→(∀ k n,news k=some n→g∉n.F)→K' g)→(∀ k n,news k=some n→c'.hv k=n.h)→∀ k n,k∈rws→S.ms k=some n→
   ∃ cs e fr,w'.heap[c.mb k]?=some (.cells cs e fr)∧c.mo k+n≤cs.size∧NF fr cs.size∧(∀ i v,i < n→cs[c.mo k+i]?=some v→LeafOk S' c' w' K' (S'.mc k i) v)∧AdL b.w0 (c.mb k) (c.mo k) n cs e fr) :
  ∃ c',(c'.mb=c.mb∧c'.mo=c.mo)∧(∀ k n,news k=some n→c'.hv k=n.h∧c'.F k=n.F)∧Inv b S' w' c'∧Stay S S' c c' w w' (Kok b S c) (Kok b S' c') ks∧
   ∀ g,(w.heap.size≤g∨∃ k,k∈gs∧S.ow k≠none∧g∈c.F k)→(∀ k n,news k=some n→g∉n.F)→Kok b S' c' g:=by
 let c':Cc:=⟨c.mb,c.mo,fun k=>match news k with | some n=>n.h | none=>c.hv k,fun k=>match news k with | some n=>n.F | none=>c.F k⟩
 have hcF:∀ k,news k=none→c'.F k=c.F k:=fun k hk=>by simp [c',hk]
 have hch:∀ k,news k=none→c'.hv k=c.hv k:=fun k hk=>by simp [c',hk]
 have hcN:∀ k n,news k=some n→c'.hv k=n.h∧c'.F k=n.F:=fun k n hk=>by simp [c',hk]
 have hT:∀ g,((∃ k,k∈gs∧S.ow k≠none∧g∈c.F k)∨∃ k,k∈rws∧S.ms k≠none∧c.mb k=g)→Ce S c g:=by
  rintro g (⟨k,_,h1,h2⟩ | ⟨k,_,h1,h2⟩)
  ·exact .inr ⟨k,h1,h2⟩
  ·exact .inl ⟨k,h1,h2⟩
 have hkept:∀ k,news k=none→S'.ow k≠none→k∉gs∧S.ow k≠none:=by
  intro k hk h
  rw [how,hk] at h
  by_cases hg:k∈gs
  ·simp [hg] at h
  ·exact ⟨hg,by simpa [hg] using h⟩
 have hown:∀ g,Ce S' c' g→Ce S c g∨w.heap.size≤g:=by
  rintro g (⟨k,hk,rfl⟩ | ⟨k,hk,hg⟩)
  ·exact .inl (.inl ⟨k,by rw [hms] at hk; exact hk,rfl⟩)
  ·cases hn:news k with
   | some n=>
    rw [(hcN k n hn).2] at hg
    rcases (hF k n hn g hg).2 with ⟨k2,h1,h2,h3⟩ | h
    ·exact .inl (.inr ⟨k2,h2,h3⟩)
    ·exact .inr h
   | none=>
    rw [hcF k hn] at hg
    exact .inl (.inr ⟨k,(hkept k hn hk).2,hg⟩)
 have kk:KSame w w' (Kok b S c) (Kok b S' c'):=RL hst hT hown
 have hsame:∀ k,k∉gs→S.ow k≠none→CV w w' (c.F k):=fun k hg ho g hgF=>hst.same g (hi.fr g (.inr ⟨k,ho,hgF⟩)).1 (by
  rintro (⟨k2,h1,h2,h3⟩ | ⟨k2,h1,h2,h3⟩)
  ·have hne:k≠k2:=by rintro rfl; exact hg h1
   exact hi.oo k k2 hne ho h2 g hgF h3
  ·subst h3; exact hi.mo k2 k h2 ho hgF)
 have stay:Stay S S' c c' w w' (Kok b S c) (Kok b S' c') ks:=by
  refine Stay.of hi ?_ ?_ kk
  ·intro k o ho
   have hcase:(k∈gs∨news k≠none)→_:=hgs k o ho
   cases hn:news k with
   | some n=>
    rcases hcase (.inr (by rw [hn]; simp)) with h | ⟨h1,n',xs',h2,h3,h4,h5⟩
    ·exact .inl h
    ·refine .inr (.inr ⟨h1,?_,xs',?_,h5⟩)
     ·rw [(hcN k n' h2).1,h3]
     ·rw [how,h2]; simp [h4]
   | none=>
    by_cases hg:k∈gs
    ·rcases hcase (.inl hg) with h | ⟨_,n',_,h2,_⟩
     ·exact .inl h
     ·rw [hn] at h2; cases h2
    ·exact .inr (.inl ⟨by rw [how,hn]; simp [hg,ho],hch k hn,hsame k hg (by rw [ho]; simp)⟩)
  ·intro k n hn
   exact .inr ⟨by rw [hms]; exact hn,rfl,rfl⟩
 have hfree:∀ g,(w.heap.size≤g∨∃ k,k∈gs∧S.ow k≠none∧g∈c.F k)→(∀ k n,news k=some n→g∉n.F)→Kok b S' c' g:=by
  rintro g (hg | ⟨k,hk,hko,hkg⟩) hgF
  ·refine ⟨.inr (.inl (Nat.le_trans hi.size hg)),?_⟩
   rintro (⟨k2,h1,h9⟩ | ⟨k2,h1,h2⟩)
   ·rw [hms] at h1
    have:=(hi.fr (c.mb k2) (.inl ⟨k2,h1,rfl⟩)).1
    have h8:c'.mb k2=c.mb k2:=rfl
    omega
   ·cases hn:news k2 with
    | some n=>rw [(hcN k2 n hn).2] at h2; exact hgF k2 n hn h2
    | none=>
     rw [hcF k2 hn] at h2
     have:=(hi.fr g (.inr ⟨k2,(hkept k2 hn h1).2,h2⟩)).1
     omega
  ·refine ⟨.inr (hi.fr g (.inr ⟨k,hko,hkg⟩)).2,?_⟩
   rintro (⟨k2,h1,h9⟩ | ⟨k2,h1,h2⟩)
   ·rw [hms] at h1
    exact hi.mo k2 k h1 hko (by rw [show c.mb k2=g from h9]; exact hkg)
   ·cases hn:news k2 with
    | some n=>rw [(hcN k2 n hn).2] at h2; exact hgF k2 n hn h2
    | none=>
     rw [hcF k2 hn] at h2
     have h5:=hkept k2 hn h1
     exact hi.oo k k2 (by rintro rfl; exact h5.1 hk) hko h5.2 g hkg h2
 refine ⟨c',⟨rfl,rfl⟩,hcN,?_,stay,hfree⟩
 refine ⟨?_,?_,?_,?_,?_,?_,?_,hi.fix' hst hT,hst.os.trans hi.os,hst.tape.trans hi.tape,hst.output.trans hi.output,Nat.le_trans hi.size hst.size,hi.an⟩
 ·intro k n hn
  rw [hms] at hn
  by_cases hk:k∈rws
  ·exact hrow _ c' ⟨rfl,rfl⟩ (fun _ _ h=>stay.leaf h) kk hfree (fun k n h=>(hcN k n h).1) k n hk hn
  ·obtain ⟨cs,e,fr,h1,h2,h3,h4,h5⟩:=hi.ms k n hn
   refine ⟨cs,e,fr,?_,h2,h3,fun i u hlt hu=>by rw [hmc k i hk]; exact stay.leaf (h4 i u hlt hu),h5⟩
   show w'.heap[c.mb k]?=_
   rw [hst.same _ (DB h1) (by
    rintro (⟨k2,_,h5,h6⟩ | ⟨k2,h4,h5,h6⟩)
    ·exact hi.mo k k2 (by rw [hn]; simp) h5 h6
    ·have hne:k≠k2:=by rintro rfl; exact hk h4
     exact hi.mm k k2 hne (by rw [hn]; simp) h5 h6.symm)]
   exact h1
 ·intro k o ho
  cases hn:news k with
  | some n=>
   rw [how,hn] at ho
   injection ho with ho
   subst ho
   rw [(hcN k n hn).1,(hcN k n hn).2]
   exact hR _ kk hfree k n hn
  | none=>
   have h1:=hkept k hn (by rw [ho]; simp)
   rw [how,hn] at ho
   simp only [h1.1,if_false] at ho
   rw [hch k hn,hcF k hn]
   exact Rp.frame kk _ _ (hi.ow k o ho) (hsame k h1.1 h1.2)
 ·intro k hk
  cases hn:news k with
  | some n=>rw [(hcN k n hn).2]; exact hnd k n hn
  | none=>rw [hcF k hn]; exact hi.nd k (hkept k hn hk).2
 ·intro k1 k2 hne h1 h2 g hg
  cases hn1:news k1 with
  | some n1=>
   rw [(hcN k1 n1 hn1).2] at hg
   cases hn2:news k2 with
   | some n2=>rw [(hcN k2 n2 hn2).2]; exact hdis k1 n1 k2 n2 hne hn1 hn2 g hg
   | none=>
    have h4:=hkept k2 hn2 h2
    rw [hcF k2 hn2]
    rcases (hF k1 n1 hn1 g hg).2 with ⟨k3,h5,h6,h7⟩ | h5
    ·have hne3:k3≠k2:=by rintro rfl; exact h4.1 h5
     exact hi.oo k3 k2 hne3 h6 h4.2 g h7
    ·intro hx
     have:=(hi.fr g (.inr ⟨k2,h4.2,hx⟩)).1
     omega
  | none=>
   have h3:=hkept k1 hn1 h1
   rw [hcF k1 hn1] at hg
   cases hn2:news k2 with
   | some n2=>
    rw [(hcN k2 n2 hn2).2]
    intro hx
    rcases (hF k2 n2 hn2 g hx).2 with ⟨k3,h5,h6,h7⟩ | h5
    ·have hne3:k1≠k3:=by rintro rfl; exact h3.1 h5
     exact hi.oo k1 k3 hne3 h3.2 h6 g hg h7
    ·have:=(hi.fr g (.inr ⟨k1,h3.2,hg⟩)).1
     omega
   | none=>
    rw [hcF k2 hn2]
    exact hi.oo k1 k2 hne h3.2 (hkept k2 hn2 h2).2 g hg
 ·intro k1 k2 hne h1 h2; rw [hms] at h1 h2; exact hi.mm k1 k2 hne h1 h2
 ·intro k1 k2 h1 h2
  rw [hms] at h1
  cases hn2:news k2 with
  | some n2=>
   rw [(hcN k2 n2 hn2).2]
   intro hx
   rcases (hF k2 n2 hn2 _ hx).2 with ⟨k3,_,h6,h7⟩ | h5
   ·exact hi.mo k1 k3 h1 h6 h7
   ·have:=(hi.fr (c.mb k1) (.inl ⟨k1,h1,rfl⟩)).1
    have h9:c'.mb k1=c.mb k1:=rfl
    omega
  | none=>rw [hcF k2 hn2]; exact hi.mo k1 k2 h1 (hkept k2 hn2 h2).2
 ·intro g hg
  refine ⟨?_,?_⟩
  ·rcases hg with ⟨k,hk,rfl⟩ | ⟨k,hk,hg⟩
   ·rw [hms] at hk
    exact Nat.lt_of_lt_of_le (hi.fr (c.mb k) (.inl ⟨k,hk,rfl⟩)).1 hst.size
   ·cases hn:news k with
    | some n=>rw [(hcN k n hn).2] at hg; exact (hF k n hn g hg).1
    | none=>
     rw [hcF k hn] at hg
     exact Nat.lt_of_lt_of_le (hi.fr g (.inr ⟨k,(hkept k hn hk).2,hg⟩)).1 hst.size
  ·rcases hown g hg with h | h
   ·exact (hi.fr g h).2
   ·exact .inl (Nat.le_trans hi.size h)
theorem AaG {A A' B B':Type} (h1:A=A') (h2:B=B') (h:(A×B)=(A'×B')) (x:A×B):cast h x=(cast h1 x.1,cast h2 x.2):=by subst h1 h2; rfl
theorem ZJ {A A':Type} (h1:A=A') (h:List A=List A') (xs:List A):cast h xs=xs.map (cast h1):=by
 subst h1
 have:(cast rfl:A→A)=id:=rfl
 rw [this,List.map_id]; rfl
theorem Rp.frz {w:World} {K K':Nat→Prop} (hK:∀ g,g < w.heap.size→K g→K' g):∀ (t:Ty) (x:t.D) {vs F},Rp w K t x vs F→(∀ g,g∈F→K' g)→Rp w K' t.frz (HO t x) vs []
 | .int _,_,_,_,h,_=>by simp only [Rp] at h; simp only [Ty.frz,Rp]; exact ⟨h.1,trivial⟩
 | .bool,_,_,_,h,_=>by simp only [Rp] at h; simp only [Ty.frz,Rp]; exact ⟨h.1,trivial⟩
 | .lp,_,_,_,h,_=>by simp only [Rp] at h
 | .er,_,_,_,h,_=>by simp only [Rp] at h; obtain ⟨v,h1,_,h2⟩:=h; simp only [Ty.frz,Rp]; exact ⟨v,h1,trivial,h2⟩
 | .str,_,_,_,h,_=>by simp only [Rp] at h; simp only [Ty.frz,Rp]; exact ⟨h.1,trivial⟩
 | .unit,_,_,_,h,_=>by simp only [Rp] at h; simp only [Ty.frz,Rp]; exact ⟨h.1,trivial⟩
 | .pair a b,x,_,_,h,hF=>by
  simp only [Rp] at h
  obtain ⟨v1,v2,F1,F2,rfl,rfl,h1,h2⟩:=h
  have e:HO (.pair a b) x=(HO a x.1,HO b x.2):=AaG (Ty.frz_D a).symm (Ty.frz_D b).symm _ x
  rw [e]
  simp only [Ty.frz,Rp]
  exact ⟨v1,v2,[],[],rfl,rfl,Rp.frz hK a _ h1 fun g hg=>hF g (by simp [hg]),Rp.frz hK b _ h2 fun g hg=>hF g (by simp [hg])⟩
 | .sl o e r,xs,_,_,h,hF=>by
  have e0:HO (.sl o e r) xs=(List.map (HO r) xs:List r.frz.D):=ZJ (Ty.frz_D r).symm _ xs
  have key:∀ (ys:List r.D) (us:List Value) (G:List Nat),(∀ g,g∈G→K' g)→RpL (Rp w K r) ys us G→RpL (Rp w K' r.frz) (ys.map (HO r)) us []:=by
   intro ys
   induction ys with
   | nil=>intro us G _ h; exact ⟨h.1,rfl⟩
   | cons y ys ih=>
    rintro us G hG ⟨v1,v2,F1,F2,rfl,rfl,h1,h2⟩
    exact ⟨v1,v2,[],[],rfl,rfl,Rp.frz hK r y h1 fun g hg=>hG g (by simp [hg]),ih _ _ (fun g hg=>hG g (by simp [hg])) h2⟩
  rw [e0]
  cases o with
  | true=>
   simp only [Rp] at h
   show Rp w K' (.sl false e r.frz) _ _ _
   rw [Rp]
   rcases h with ⟨rfl,rfl,rfl⟩ | ⟨g,off,c,cs,fr,F',rfl,rfl,hh,hn,hc,hl,hr⟩
   ·exact ⟨rfl,none,0,[],rfl,Nat.le_refl _,⟨rfl,rfl⟩,.inl rfl⟩
   ·refine ⟨rfl,some ⟨g,off,none⟩,c,_,by rw [List.length_map],by rw [List.length_map]; exact hl,key _ _ _ (fun g hg=>hF g (by simp [hg])) hr,.inr ⟨_,rfl,hF g (by simp),DB hh,fun j hj=>?_⟩⟩
    rw [List.length_take,List.length_drop,Array.length_toList (xs:=cs)] at hj
    rw [AT,AV hh,List.getElem?_take_of_lt (by omega),List.getElem?_drop,Array.getElem?_toList]
  | false=>
   simp only [Rp] at h
   show Rp w K' (.sl false e r.frz) _ _ _
   rw [Rp]
   obtain ⟨rfl,A,c,ws,rfl,hle,hr,hx⟩:=h
   refine ⟨rfl,A,c,ws,by rw [List.length_map],by rw [List.length_map]; exact hle,key _ _ _ (fun g hg=>(by cases hg)) hr,?_⟩
   rcases hx with rfl | ⟨ad,e1,h1,h2,h3⟩
   ·exact .inl rfl
   ·exact .inr ⟨ad,e1,hK _ h2 h1,h2,h3⟩
 | .pt t,none,_,_,h,_=>by
  simp only [Rp] at h
  show Rp w K' (.pt t) none _ _
  simp only [Rp]
  exact ⟨trivial,h.2⟩
 | .pt t,some x,_,_,h,_=>by
  simp only [Rp] at h
  show Rp w K' (.pt t) (some x) _ _
  simp only [Rp]
  obtain ⟨_,ad,ws,e,h0,h1,h2,h3⟩:=h
  exact ⟨trivial,ad,ws,e,Rp.frame ⟨Nat.le_refl _,fun g hg hlt=>⟨rfl,hK g hlt hg⟩⟩ t x h0 (fun g hg=>by cases hg),hK _ h2 h1,h2,h3⟩
theorem AbT (l:Leaf) (k:Nat) (ks:List Kl):(l.kp (.all k::ks)).kp [.all k]=l.kp (.all k::ks):=by
 cases l with
 | vw k' st win=>
  by_cases h:((Kl.all k::ks).all fun x=>x.okV k' st)=true
  ·have h1:(Kl.all k).okV k' st=true:=by simp only [List.all_cons,Bool.and_eq_true] at h; exact h.1
   have e1:Leaf.kp (.all k::ks) (.vw k' st win)=.vw k' st win:=if_pos h
   have e2:Leaf.kp [.all k] (.vw k' st win)=.vw k' st win:=if_pos (by simp [h1])
   rw [e1,e2]
  ·have e1:Leaf.kp (.all k::ks) (.vw k' st win)=.no:=if_neg h
   rw [e1]
   rfl
 | p k' off=>
  by_cases h:((Kl.all k::ks).all fun x=>x.okM k')=true
  ·have e1:Leaf.kp (.all k::ks) (.p k' off)=.p k' off:=if_pos h
   have e2:Leaf.kp [.all k] (.p k' off)=.p k' off:=by simp [Leaf.kp,Kl.okM]
   rw [e1,e2]
  ·have e1:Leaf.kp (.all k::ks) (.p k' off)=.no:=if_neg h
   rw [e1]
   rfl
 | _=>rfl
theorem Ac9 {b:Base} {S:St} {c:Cc} {w w':World} {key:Nat} {o:Own} {gs:List Nat} {v:Value} (hd:Did b S c w (Bz key o gs) v w') :
  Did b S c w ⟨.s (.one (.v (Ty.frz (.sl true o.e o.r)) (HO (.sl true o.e o.r) o.xs))),(Bz key o gs).ks,(Bz key o gs).us++[.ow key none]⟩ v w':=by
 obtain ⟨c1,hi1,st1,hv1⟩:=hd
 have hgu:=MD gs (S.kp (.all key::BN gs))
 have hS1:(S.kp (Bz key o gs).ks).ups (Bz key o gs).us=((S.kp (.all key::BN gs)).ups (BJ gs)).up (.ow key (some o)):=D4 _ _ _
 have ho:((S.kp (Bz key o gs).ks).ups (Bz key o gs).us).ow key=some o:=by rw [hS1]; show (if key=key then _ else _)=_; rw [if_pos rfl]
 have hmc:∀ k i,((S.kp (Bz key o gs).ks).ups (Bz key o gs).us).mc k i=(S.mc k i).kp (.all key::BN gs):=by
  intro k i
  rw [hS1]
  show ((S.kp (.all key::BN gs)).ups (BJ gs)).mc k i=_
  rw [hgu.2.1]
  exact Dh S (.all key::BN gs) k i
 generalize hS:(S.kp (Bz key o gs).ks).ups (Bz key o gs).us=S1 at hi1 st1 hv1 ho hmc
 have hS2:(S.kp (Bz key o gs).ks).ups ((Bz key o gs).us++[.ow key none])=S1.up (.ow key none):=by rw [D4,hS]; rfl
 obtain ⟨o0,e,r,ys,hh,q1,q2,q3,q4⟩:=hv1
 simp only [hdr,Option.some.injEq] at q3
 obtain rfl:v=hh:=q4
 subst q3
 obtain ⟨c2,_,_,e4,e5,hfree⟩:=hi1.many (S':=S1.up (.ow key none)) (w':=w') (fun _=>none) [key] [] [.all key]
  (by intro k'; show (if k'=key then _ else S1.ow k')=_; simp)
  rfl (by
   intro k' i _
   show S1.mc k' i=_
   rw [hmc,AbT]) (fun k' o _ hk'=>.inl (hk'.elim (fun h=>by rw [List.mem_singleton.1 h]; simp) fun h=>absurd rfl h))
  (Step.refl _ _) (fun _ _ h=>by cases h) (fun _ _ h=>by cases h) (fun _ _ _ _ _ h=>by cases h) (fun _ _ _ _ _ h=>by cases h) (fun _ _ _ _ _ _ _ _ _ h=>by cases h)
 unfold Did
 dsimp only
 rw [hS2]
 refine ⟨c2,e4,⟨fun k st win v hk hl=>?_,fun k st v hk hl=>?_,fun k off v hk hl=>?_,?_⟩,?_⟩
 ·refine e5.vw k st win v ?_ (st1.vw k st win v hk hl)
  simp only [Bz,List.all_cons,Bool.and_eq_true] at hk
  simp [hk.1]
 ·refine e5.el k st v ?_ (st1.el k st v hk hl)
  simp only [Bz,List.all_cons,Bool.and_eq_true] at hk
  simp [hk.1]
 ·refine e5.pl k off v ?_ (st1.pl k off v hk hl)
  simp only [Bz,List.all_cons,Bool.and_eq_true] at hk
  simp [hk.1]
 ·exact ⟨Nat.le_trans st1.kk.1 e5.kk.1,fun g hg hlt=>by
   obtain ⟨h1,h2⟩:=st1.kk.2 g hg hlt
   obtain ⟨h3,h4⟩:=e5.kk.2 g h2 (Nat.lt_of_lt_of_le hlt st1.kk.1)
   exact ⟨h3.trans h1,h4⟩⟩
 ·exact Rp.frz (fun g hlt hg=>(e5.kk.2 g hg hlt).2) _ _ (hi1.ow key o ho) fun g hg=>hfree g (.inr ⟨key,by simp,by rw [ho]; simp,hg⟩) (fun _ _ h=>by cases h)
theorem Aax {ti ti2:TI} {d:Nat} {x y:Leaf} {S:St} {out:Out} (h:(Wi ti ti2 d x y).ev S=some out):∃ o gs,out=Bz (kd d 0) o gs:=by
 have key:∀ {out:Out},(JM ti ti2 d x y).ev S=some out→∃ o gs,out=Bz (kd d 0) o gs:=by
  intro out h
  unfold JM at h
  split at h
  ·simp only [Ai,Option.bind_eq_some_iff] at h
   obtain ⟨r,_,h⟩:=h
   split at h
   ·simp only [Ai,Option.bind_eq_some_iff] at h
    obtain ⟨p1,_,p2,_,h⟩:=h
    replace h:=Bv h
    obtain ⟨_,h⟩:=h
    split at h
    ·simp only [Tr.ev,Option.some.injEq] at h
     exact ⟨_,_,h.symm⟩
    ·simp [Tr.ev] at h
   ·simp [Tr.ev] at h
  ·simp [Tr.ev] at h
 unfold Wi at h
 split at h
 ·split at h
  ·unfold YD at h
   split at h
   ·simp only [Tr.ev] at h
    split at h
    ·split at h
     ·replace h:=Bv h
      obtain ⟨_,h⟩:=h
      replace h:=Bv h
      obtain ⟨_,h⟩:=h
      replace h:=Bv h
      obtain ⟨_,h⟩:=h
      replace h:=Bv h
      obtain ⟨_,h⟩:=h
      simp only [Tr.ev,Option.some.injEq] at h
      exact ⟨_,_,h.symm⟩
     ·simp [Tr.ev] at h
    ·simp [Tr.ev] at h
   ·simp [Tr.ev] at h
  ·exact key h
 ·exact key h
theorem Adc {P:Program} {ti:TypeId→TI} {b:Base} {S:St} {c:Cc} {w:World} (hT:TabOk P ti) (hi:Inv b S w c) {t t2 ty:TypeId} {hn:List (Nat×List Ty)} {d:Nat} {x y:Leaf} {u v:Value} {out:Out} (hx:LeafOk S c w (Kok b S c) x u) (hy:LeafOk S c w (Kok b S c) y v)
  (h:(Ab5 hn (ti t) (ti t2) d x y).ev S=some out):∃ r w',(Builtin.append_ #[t,t2] ty #[u,v]).run P w=.ok r w'∧Did b S c w out r w':=by
 unfold Ab5 at h
 simp only [Ai,Option.bind_eq_some_iff] at h
 obtain ⟨out0,h0,h⟩:=h
 obtain ⟨r,w',h1,h2⟩:=AdM (ty:=ty) hT hi hx hy h0
 obtain ⟨o,gs,rfl⟩:=Aax h0
 split at h
 ·unfold Aao at h
  have e:(Bz (kd d 0) o gs).us.getLast?=some (.ow (kd d 0) (some o)):=by
   show (BJ gs++[U.ow (kd d 0) (some o)]).getLast?=_
   simp
  rw [e] at h
  simp only [Tr.ev,Option.some.injEq] at h
  subst h
  exact ⟨r,w',h1,Ac9 h2⟩
 ·simp only [Tr.ev,Option.some.injEq] at h
  subst h
  exact ⟨r,w',h1,h2⟩
end Go.V
namespace Go.V
open Go.RowKit
def Oo (P:Program) (o:Oper) (a:Act) (w:World) (post:Value→World→Prop):Prop:=
 ∀ (next:Act→World→Prop) (Q:Exit→Act→World→Prop),(∀ v w',post v w'→next (a.put o.dst v) w')→o.wp P a w next Q
section
variable {P:Program} {E:Env} {b:Base} {S:St} {c:Cc} {w:World} {a:Act} {o:Oper} {post:Value→World→Prop}
theorem AK {s:Sem Value} (he:execOp a.eval o=(do pure (.value (← s)))) (hr:∃ v w',s.run P w=.ok v w'∧post v w'):Oo P o a w post:=by
 intro next Q h
 obtain ⟨v,w',h1,h2⟩:=hr
 unfold Oper.wp
 rw [he]
 simp only [Sem.run_bind,h1,Result.andThen_ok,Sem.run_pure]
 exact h v w' h2
theorem Ue {s:Sem Unit} (he:execOp a.eval o=(do s; pure .skip)) (hr:∃ w',s.run P w=.ok () w'∧post undef w'):Oo P o a w post:=by
 intro next Q h
 obtain ⟨w',h1,h2⟩:=hr
 unfold Oper.wp
 rw [he]
 simp only [Sem.run_bind,h1,Result.andThen_ok,Sem.run_pure]
 exact h undef w' h2
theorem In {v:Value} (he:execOp a.eval o=pure (.value v)) (hr:post v w):Oo P o a w post:=by
 intro next Q h
 unfold Oper.wp
 rw [he,Sem.run_pure]
 exact h v w hr
theorem ZD (hr:∃ v w',(execOp a.eval o).run P w=.ok (.value v) w'∧post v w'):Oo P o a w post:=by
 intro next Q h
 obtain ⟨v,w',h1,h2⟩:=hr
 unfold Oper.wp
 rw [h1]
 exact h v w' h2
theorem Abz {K:Nat→Prop} {op:BinOp} {x y l:Leaf} {u:Value} (hx:LeafOk S c w K x u) (h:(VW op x y).ev S=some l):u.oneCell'=true∧u≠.nilIface:=by
 unfold VW at h
 split at h
 ·obtain rfl:=Cj hx; exact ⟨rfl,by simp⟩
 ·obtain rfl:=D2 hx; exact ⟨rfl,by simp⟩
 ·obtain rfl:=DE hx; exact ⟨rfl,by simp⟩
 ·simp [Tr.ev] at h
theorem Oe {N:Nat} {K:Nat→Prop} (hs:Slots N S c w K a):∀ (ps:List (Nat×Operand)),All2 (fun (p:Nat×SV) u=>AI S c w K p.2 u) (ps.map fun p=>(p.1,Cw S p.2)) (ps.map fun p=>a.eval p.2)
 | []=>.nil
 | p::ps=>.cons (AF hs p.2) (Oe hs ps)
theorem OY {S:St} {a:Act}:∀ (ps:List (Nat×Operand)),ps.map (fun (p:Nat×Operand)=>(p.1,a.eval p.2))=((ps.map fun p=>(p.1,Cw S p.2)).map (·.1)).zip (ps.map fun p=>a.eval p.2)
 | []=>rfl
 | p::ps=>by simp [OY (S:=S) (a:=a) ps]
theorem Ux {a:Act} (ps:Array (Nat×Operand)):(ps.map fun (i,x)=>(i,a.eval x))=(ps.toList.map fun p=>(p.1,a.eval p.2)).toArray:=by
 apply Array.ext'
 simp
theorem FV {N:Nat} {K:Nat→Prop} (hs:Slots N S c w K a):∀ (ps:List Operand),All2 (AI S c w K) (ps.map (Cw S)) (ps.map a.eval)
 | []=>.nil
 | p::ps=>.cons (AF hs p) (FV hs ps)
theorem FM {N:Nat} {f:Builtin} {args:Array Operand} {ts:Array TypeId} {dst:Option Tmp} {ty:TypeId} {pos:String} {aft:Array Edge} {gd:Option (Nat×Bool)} {s:Sem Value} (_:Slots N S c w (Kok b S c) a)
  (he:∀ consts,builtin f ts ty consts (args.map a.eval)=(do pure (.value (← s)))) (hr:∃ v w',s.run P w=.ok v w'∧post v w'):Oo P ⟨dst,.call ⟨.builtin f,args,ts⟩,ty,pos,aft,gd⟩ a w post:=by
 intro next Q h
 obtain ⟨v,w',h1,h2⟩:=hr
 unfold Oper.wp
 simp only [execOp,resolve,Sem.run_bind,Sem.run_pure,Result.andThen_ok,invoke,he,h1]
 exact h v w' h2
theorem X0 {K:Nat→Prop}:∀ {xs:List SV} {vs:List Value} {l:List (Nat×Nat)},All2 (AI S c w K) xs vs→R8 xs=some l→All2 (SC S c) l vs
 | [],_,l,.nil,h=>by
  simp only [R8,Option.some.injEq] at h
  subst h; exact .nil
 | x::xs,_,l,.cons (b:=v) (bs:=vs) h1 h2,h=>by
  unfold R8 at h
  split at h
  ·rename_i e; cases e
  ·rename_i k off xs' e
   injection e with e1 e2
   subst e1 e2
   split at h
   ·rename_i l' hl'
    simp only [Option.some.injEq] at h
    subst h
    exact .cons h1 (X0 h2 hl')
   ·cases h
  ·cases h
theorem AdI (hi:Inv b S w c) {x l:Leaf} {v:Value} (hx:LeafOk S c w (Kok b S c) x v) (h:(AbR x).ev S=some l) :
  ∃ A n cap,v=.slice A n cap∧LeafOk S c w (Kok b S c) l (.bool A.isNone):=by
 unfold AbR at h
 split at h
 ·simp only [Tr.ev,Option.some.injEq] at h
  subst h
  exact ⟨none,0,0,hx,BV⟩
 ·rename_i o e r xs
  simp only [Tr.ev,Option.some.injEq] at h
  subst h
  have hd:(JF (.v (.sl o e r) xs)).ev S=some ⟨e,r,xs⟩:=by cases o <;> rfl
  obtain ⟨A,cap,ws,F',rfl,hr,hz⟩:=Fw hi hx hd
  refine ⟨A,_,cap,rfl,_,rfl,fun hA=>?_⟩
  rcases hz with hz | ⟨ad,h1,_⟩
  ·simp only at hz; rw [hz]; rfl
  ·rw [h1] at hA; cases hA
 ·rename_i k st win
  simp only [Ai,Option.bind_eq_some_iff,Tr.ev,Option.some.injEq] at h
  obtain ⟨o,ho,rfl⟩:=h
  obtain ⟨A,cap,ws,F',rfl,hr,hz⟩:=Fw hi hx (show (JF (.vw k st win)).ev S=some o from ho)
  refine ⟨A,_,cap,rfl,_,rfl,fun hA=>?_⟩
  rcases hz with hz | ⟨ad,h1,_⟩
  ·rw [hz]; rfl
  ·rw [h1] at hA; cases hA
 ·simp [Tr.ev] at h
theorem Acw (hT:TabOk P E.ti) {N:Nat} (hi:Inv b S w c) (hs:Slots N S c w (Kok b S c) a) (o:Oper) {d:Nat} (hdn:d < b.n1) {out:Out}
  (hcall:∀ fo f cs args ts out,o.op=.call ⟨.value fo,args,ts⟩→Cw S fo=.s (.fv f cs)→args.size=ts.size→(U9 E d f cs ((args.toList.map (Cw S)).zip ts.toList)).ev S=some out→Oo P o a w fun v w'=>Did b S c w out v w')
  (h:(Ji E (Cw S) d o.op).ev S=some out):Oo P o a w fun v w'=>Did b S c w out v w':=by
 obtain ⟨dst,op,ty,pos,aft,gd⟩:=o
 simp only at h hcall
 unfold Ji at h
 split at h
 ·rename_i x
  split at h
  ·simp [Tr.ev] at h
  ·simp [Tr.ev] at h
  ·simp only [Tr.ev,Option.some.injEq] at h
   subst h
   exact In rfl (Did.same hi (AF hs x))
 ·rename_i x
  split at h
  ·simp [Tr.ev] at h
  ·simp [Tr.ev] at h
  ·simp only [Tr.ev,Option.some.injEq] at h
   subst h
   exact In rfl (Did.same hi (AF hs x))
 ·rename_i cc x y
  split at h
  ·rename_i cb hc
   have hb:a.eval cc=.bool cb:=by
    have:=AF hs cc
    rw [hc] at this
    exact D2 (AY this)
   simp only [Tr.ev] at h
   refine ZD ⟨if cb then a.eval x else a.eval y,w,?_,?_⟩
   ·simp [execOp,hb,asBool]
   ·split at h
    ·rename_i hcb
     rw [if_pos hcb]
     split at h
     ·simp [Tr.ev] at h
     ·simp [Tr.ev] at h
     ·simp only [Tr.ev,Option.some.injEq] at h
      subst h
      exact Did.same hi (AF hs x)
    ·rename_i hcb
     rw [if_neg hcb]
     split at h
     ·simp [Tr.ev] at h
     ·simp [Tr.ev] at h
     ·simp only [Tr.ev,Option.some.injEq] at h
      subst h
      exact Did.same hi (AF hs y)
  ·simp [Tr.ev] at h
 ·rename_i t
  split at h
  ·rename_i ts ht
   simp only [Tr.ev,Option.some.injEq] at h
   subst h
   exact AK rfl (Abw hT hi ht d hdn)
  ·simp [Tr.ev] at h
 ·rename_i t x
  split at h
  ·rename_i ts ls ht hl
   split at h
   ·simp only [Tr.ev,Option.some.injEq] at h
    subst h
    exact AK rfl (Ad6 hi (AF hs x) hl d hdn)
   ·simp [Tr.ev] at h
  ·simp [Tr.ev] at h
 ·rename_i t ps
  split at h
  ·rename_i fs row eq ht
   split at h
   ·rename_i ls hl
    simp only [Tr.ev,Option.some.injEq] at h
    subst h
    obtain ⟨u,h1,h2⟩:=Ab6 (P:=P) hT hi ht (Oe hs ps.toList) (OY ps.toList) hl
    rw [← Ux] at h1
    exact AK rfl ⟨u,w,h1,Did.same hi h2⟩
   ·simp [Tr.ev] at h
  ·simp [Tr.ev] at h
 ·rename_i t len ps
  obtain ⟨u,w',h1,h2⟩:=UI (P:=P) hT hi (Oe hs ps.toList) (OY ps.toList) h
  rw [← Ux] at h1
  exact AK rfl ⟨u,w',h1,h2⟩
 ·rename_i t x
  split at h
  ·rename_i a1 ts hx ht
   split at h
   ·simp [Tr.ev] at h
   ·rename_i hne
    simp only [Ai,Option.bind_eq_some_iff] at h
    obtain ⟨r,hr,h⟩:=h
    simp only [Tr.ev,Option.some.injEq] at h
    subst h
    have hv:=AF hs x
    rw [hx] at hv
    have hpos:0 < ts.length:=by
     cases ts with
     | nil=>simp at hne
     | cons _ _=>simp
    obtain ⟨u,h1,h2⟩:=Yq (P:=P) hT hi hv ht hr hpos
    exact AK rfl ⟨u,w,h1,Did.same hi h2⟩
  ·simp [Tr.ev] at h
 ·rename_i t p x
  split at h
  ·rename_i a1 ts ls hx ht hl
   split at h
   ·rename_i hn
    simp only [Ai,Option.bind_eq_some_iff,Tr.ev,Option.some.injEq] at h
    obtain ⟨r,hr,h⟩:=h
    subst h
    have hv:=AF hs p
    rw [hx] at hv
    match a1,hv,hr with
    | .pl k off,hv,hr=>exact Ue rfl (Adh hT hi hv ht (AF hs x) hl hn hr)
    | .el k st,hv,hr=>exact Ue rfl (Adg hT hi hv ht (AF hs x) hl hn hr)
    | .one _,_,hr=>simp [Gc,Tr.ev] at hr
    | .ag _,_,hr=>simp [Gc,Tr.ev] at hr
    | .rp _ _ _,_,hr=>simp [Gc,Tr.ev] at hr
    | .fv _ _,_,hr=>simp [Gc,Tr.ev] at hr
   ·simp [Tr.ev] at h
  ·simp [Tr.ev] at h
 ·rename_i x
  have hx:=AF hs x
  split at h
  all_goals first
   | (simp [Tr.ev] at h; done)
   | skip
  ·rename_i k off he
   simp only [Tr.ev,Option.some.injEq] at h
   subst h
   rw [he] at hx
   have hx':=hx
   obtain ⟨m,hm,hv⟩:=hx'
   refine In (v:=a.eval x) ?_ (Did.same hi hx)
   simp only [execOp,hv]
  ·rename_i k st he
   simp only [Tr.ev,Option.some.injEq] at h
   subst h
   rw [he] at hx
   have hx':=hx
   obtain ⟨o0,ad,ho,had,hv,_⟩:=hx'
   refine In (v:=a.eval x) ?_ (Did.same hi hx)
   simp only [execOp,hv]
  ·rename_i u y off he
   simp only [Tr.ev,Option.some.injEq] at h
   subst h
   rw [he] at hx
   have hx':=hx
   obtain ⟨ad,vs,hv,_⟩:=hx'
   refine In (v:=a.eval x) ?_ (Did.same hi hx)
   simp only [execOp,hv]
  ·rename_i u o' he
   cases o' with
   | none=>simp [Tr.ev] at h
   | some y=>
    simp only [Tr.ev,Option.bind_some,Option.some.injEq] at h
    subst h
    rw [he] at hx
    have hp:=Ab9 (AY hx)
    have hp':=hp
    obtain ⟨ad,vs,hv,_⟩:=hp'
    refine In (v:=a.eval x) ?_ (Did.same hi (x:=.s (.rp u y 0)) hp)
    simp only [execOp,hv]
 ·rename_i op t x y z
  split at h
  ·rename_i l1 hx hy
   split at h
   ·split at h
    ·rename_i hsl
     simp only [Ai,Option.bind_eq_some_iff,Tr.ev,Option.some.injEq] at h
     obtain ⟨l,hl,h⟩:=h
     subst h
     have h1:=AF hs x
     have h2:=AF hs y
     rw [hx] at h1
     rw [hy] at h2
     obtain ⟨A,n,cap,hv,hlf⟩:=AdI hi (AY h1) hl
     have hy0:a.eval y=.slice none 0 0:=h2
     obtain ⟨e,_,hu,_⟩:=I9 hT hsl
     refine AK rfl ⟨.bool A.isNone,w,?_,Did.same hi (Cm hlf)⟩
     rw [hv,hy0,TP .eql t x y rfl (by simp)]
     simp only [Sem.run_bind,Sem.run_pure,Result.andThen_ok]
     exact Lib.run_eql_slice_nil w t e A n cap 0 0 hu
    ·simp [Tr.ev] at h
   ·simp [Tr.ev] at h
  ·rename_i e e2 hx hy
   have h1:=AF hs x
   rw [hx] at h1
   have hE:=AcZ (AY h1)
   split at h
   ·rename_i ht
    simp only [Tr.ev,Option.some.injEq] at h
    subst h
    refine AK rfl ⟨.bool e,w,?_,Did.same hi (Cm BV)⟩
    obtain ⟨ms,hu⟩:=AaF hT ht
    exact AdQ t x hE hu
   ·simp [Tr.ev] at h
  ·rename_i l1 l2 _ _ hx hy
   split at h
   ·rename_i hb
    simp only [Ai,Option.bind_eq_some_iff,Tr.ev,Option.some.injEq] at h
    obtain ⟨l,hl,h⟩:=h
    subst h
    have h1:=AF hs x
    have h2:=AF hs y
    rw [hx] at h1
    rw [hy] at h2
    obtain ⟨r,h3,h4⟩:=AcV (P:=P) op t l1 l2 _ _ l (AY h1) (AY h2) hl (fun q hq=>by
     subst hq
     cases ht:E.ti t with
     | cell u=>
      cases u with
      | bool=>exact ZF hT ht
      | _=>rw [ht] at hb; simp [WC] at hb
     | _=>rw [ht] at hb; simp [WC] at hb)
    obtain ⟨g1,g2⟩:=Abz (AY h1) hl
    refine AK rfl ⟨r,w,?_,Did.same hi (Cm h4)⟩
    rw [TP op t x y g1 g2]
    simpa using h3
   ·simp [Tr.ev] at h
  ·rename_i xs ys hx hy
   have h1:=AF hs x
   have h2:=AF hs y
   rw [hx] at h1
   rw [hy] at h2
   obtain ⟨us,e1,k1⟩:=h1
   obtain ⟨vs,e2,k2⟩:=h2
   split at h
   ·rename_i fs row ht
    obtain ⟨fields,f1,f2,f3,_⟩:=hT.struct ht
    obtain ⟨f4,f5,f6,f7⟩:=f3 rfl
    have hfo:P.fieldsOf t=fields:=by simp [Program.fieldsOf,f1]
    split at h
    ·rename_i r hr
     simp only [Tr.ev,Option.some.injEq] at h
     subst h
     have:=X2 (w:=w) t us vs fields f1 f6 (Qv (w:=w) row fields.toList fs 0 xs ys us vs [] [] f4 f2 f5 rfl rfl k1 k2 hr)
     refine AK rfl ⟨.bool r,w,?_,Did.same hi (Cm BV)⟩
     rw [e1,e2]
     simp only [Sem.run_bind,run_eqGuard_agg w _ _ _ _ _ _ f7,Result.andThen_ok,this.1]
    ·rename_i r hr
     simp only [Tr.ev,Option.some.injEq] at h
     subst h
     have:=X2 (w:=w) t us vs fields f1 f6 (Qv (w:=w) row fields.toList fs 0 xs ys us vs [] [] f4 f2 f5 rfl rfl k1 k2 hr)
     refine AK rfl ⟨.bool (!r),w,?_,Did.same hi (Cm BV)⟩
     rw [e1,e2]
     simp only [Sem.run_bind,run_eqGuard_agg w _ _ _ _ _ _ f7,Result.andThen_ok,this.2]
    ·simp [Tr.ev] at h
   ·simp [Tr.ev] at h
  ·simp [Tr.ev] at h
 ·rename_i op t x
  split at h
  ·rename_i l1 hx
   simp only [Ai,Option.bind_eq_some_iff,Tr.ev,Option.some.injEq] at h
   obtain ⟨l,hl,h⟩:=h
   subst h
   have h1:=AF hs x
   rw [hx] at h1
   obtain ⟨r,h3,h4⟩:=AdG (P:=P) op l1 _ l (AY h1) hl
   exact AK rfl ⟨r,w,h3,Did.same hi (Cm h4)⟩
  ·simp [Tr.ev] at h
 ·rename_i s t x
  split at h
  ·rename_i l1 hx
   have h1:=AF hs x
   rw [hx] at h1
   exact AK rfl (Ade hT hi (AY h1) h)
  ·simp [Tr.ev] at h
 ·rename_i t l m
  exact AK rfl (Xb hT hi (AF hs l) (AF hs m) h)
 ·rename_i t x lo hi' mx
  split at h
  ·rename_i l1 hx
   simp only [Ai,Option.bind_eq_some_iff,Tr.ev,Option.some.injEq] at h
   obtain ⟨r,hr,h⟩:=h
   subst h
   have h1:=AF hs x
   rw [hx] at h1
   obtain ⟨u,h2,h3⟩:=Ab2 (P:=P) hT hi hs (AY h1) hr
   exact AK rfl ⟨u,w,h2,Did.same hi h3⟩
  ·simp [Tr.ev] at h
 ·rename_i t x f
  split at h
  ·rename_i fs row eq ht
   have h1:=AF hs x
   split at h
   all_goals first
    | (simp [Tr.ev] at h; done)
    | skip
   ·rename_i hf hx
    simp only [Tr.ev,Option.some.injEq] at h
    subst h
    rw [hx] at h1
    obtain ⟨u,h2,h3⟩:=J6 (P:=P) hT ht hf h1 (.inl ⟨_,_,rfl,rfl⟩)
    exact AK rfl ⟨u,w,h2,Did.same hi h3⟩
   ·rename_i hf hx
    simp only [Tr.ev,Option.some.injEq] at h
    subst h
    rw [hx] at h1
    obtain ⟨u,h2,h3⟩:=J6 (P:=P) hT ht hf h1 (.inr (.inl ⟨_,_,rfl,rfl⟩))
    exact AK rfl ⟨u,w,h2,Did.same hi h3⟩
   ·rename_i hf hx
    simp only [Tr.ev,Option.some.injEq] at h
    subst h
    rw [hx] at h1
    obtain ⟨u,h2,h3⟩:=J6 (P:=P) hT ht hf h1 (.inr (.inr ⟨_,_,_,rfl,rfl⟩))
    exact AK rfl ⟨u,w,h2,Did.same hi h3⟩
  ·simp [Tr.ev] at h
 ·rename_i t x f
  split at h
  ·rename_i fs row eq ls ht hx
   have h1:=AF hs x
   rw [hx] at h1
   split at h
   ·rename_i o n hf
    simp only [Tr.ev,Option.some.injEq] at h
    subst h
    obtain ⟨u,h2,h3⟩:=Vp (P:=P) (w:=w) hT ht hf h1 (r:=.s (.ag ((ls.drop o).take n))) (by simp)
    exact AK rfl ⟨u,w,h2,Did.same hi h3⟩
   ·rename_i o n hf
    split at h
    ·rename_i l hl
     simp only [Tr.ev,Option.some.injEq] at h
     subst h
     obtain ⟨u,h2,h3⟩:=Vp (P:=P) (w:=w) hT ht hf h1 (r:=.s (ST l)) (by simp [hl])
     exact AK rfl ⟨u,w,h2,Did.same hi h3⟩
    ·simp [Tr.ev] at h
   ·simp [Tr.ev] at h
  ·simp [Tr.ev] at h
 ·rename_i t x i
  split at h
  ·rename_i l1 k n hx hn
   simp only [Ai,Option.bind_eq_some_iff,Tr.ev,Option.some.injEq] at h
   obtain ⟨r,hr,h⟩:=h
   subst h
   have h1:=AF hs x
   have h2:=AF hs i
   rw [hx] at h1
   rw [hn] at h2
   obtain ⟨u,h3,h4⟩:=Qq (P:=P) (k:=k) hT hi (AY h1) hr
   refine AK (s:=Instr.indexAt t (a.eval x) (a.eval i)) rfl ⟨u,w,?_,Did.same hi h4⟩
   rw [Cj (AY h2)]; exact h3
  ·simp [Tr.ev] at h
 ·rename_i t x i
  split at h
  ·rename_i s k n hx hn
   replace h:=Bv h
   obtain ⟨c1,h⟩:=h
   replace h:=Bv h
   obtain ⟨c2,h⟩:=h
   simp only [decide_eq_true_eq] at c2
   simp only [Tr.ev,Option.bind_eq_some_iff,Option.some.injEq] at h
   obtain ⟨u,hu,h⟩:=h
   subst h
   have h1:=AF hs x
   have h2:=AF hs i
   rw [hx] at h1
   rw [hn] at h2
   obtain ⟨h3,h4⟩:=ZA (P:=P) (S:=S) (c:=c) (w:=w) (K:=Kok b S c) (k:=k) (K7 hT c1) c2 hu
   refine AK (s:=Instr.index t (a.eval x) (a.eval i)) rfl ⟨_,w,?_,Did.same hi h4⟩
   rw [Cj (AY h2),DE (AY h1)]; exact h3
  ·simp [Tr.ev] at h
 ·rename_i x i
  split at h
  ·rename_i xs hx
   split at h
   ·rename_i y hy
    simp only [Tr.ev,Option.some.injEq] at h
    subst h
    have h1:=AF hs x
    rw [hx] at h1
    obtain ⟨vs,hv,hall⟩:=h1
    obtain ⟨u,hu,h2⟩:=hall.get hy
    refine AK (s:=Instr.extract (a.eval x) i) rfl ⟨u,w,?_,Did.same hi h2⟩
    rw [hv]
    simp [Instr.extract,hu]
   ·simp [Tr.ev] at h
  ·simp [Tr.ev] at h
 ·rename_i as ts
  split at h
  ·rename_i x t has hts
   simp only [Ai,Option.bind_eq_some_iff,Tr.ev,Option.some.injEq] at h
   obtain ⟨n,hn,h⟩:=h
   subst h
   have hall:=FV hs as.toList
   rw [has] at hall
   generalize hus:as.toList.map a.eval=us at hall
   cases hall with
   | cons h1 h2=>
    cases h2
    rename_i u
    have ha:as.map a.eval = #[u]:=by apply Array.ext'; simp [hus]
    have ht:ts = #[t]:=by apply Array.ext'; simp [hts]
    subst ht
    refine FM hs (s:=Builtin.len_ #[t] ty (as.map a.eval)) (fun _=>rfl) ⟨goInt n,w,?_,Did.same hi (Cm CH)⟩
    rw [ha]
    rcases Ad3 hi (AY h1) hn with ⟨s,rfl,hsz,hst⟩ | ⟨hsl,A,cap,rfl⟩
    ·rw [run_len_string w t ty s (K7 hT hst),hsz]
    ·obtain ⟨e,ie,hu,_⟩:=I9 hT hsl
     simp [Builtin.len_,run_underlying hu]
  ·simp [Tr.ev] at h
 ·rename_i as ts
  split at h
  ·rename_i x y t t2 has hts
   have hall:=FV hs as.toList
   rw [has] at hall
   generalize hus:as.toList.map a.eval=us at hall
   cases hall with
   | cons h1 h2=>
    cases h2 with
    | cons h2 h3=>
     cases h3
     rename_i u v
     have ha:as.map a.eval = #[u,v]:=by apply Array.ext'; simp [hus]
     have ht:ts = #[t,t2]:=by apply Array.ext'; simp [hts]
     subst ht
     refine FM hs (s:=Builtin.append_ #[t,t2] ty (as.map a.eval)) (fun _=>rfl) ?_
     rw [ha]
     exact Adc hT hi (AY h1) (AY h2) h
  ·simp [Tr.ev] at h
 ·rename_i as ts
  split at h
  ·rename_i x y t t2 has hts
   have hall:=FV hs as.toList
   rw [has] at hall
   generalize hus:as.toList.map a.eval=us at hall
   cases hall with
   | cons h1 h2=>
    cases h2 with
    | cons h2 h3=>
     cases h3
     rename_i u v
     have ha:as.map a.eval = #[u,v]:=by apply Array.ext'; simp [hus]
     have ht:ts = #[t,t2]:=by apply Array.ext'; simp [hts]
     subst ht
     refine FM hs (s:=Builtin.copy_ #[t,t2] ty (as.map a.eval)) (fun _=>rfl) ?_
     rw [ha]
     exact Acp hT hi (AY h1) (AY h2) h
  ·simp [Tr.ev] at h
 ·rename_i as ts
  simp only [Ai,Option.bind_eq_some_iff,Tr.ev,Option.some.injEq] at h
  obtain ⟨r,hr,h⟩:=h
  subst h
  have ha:as.map a.eval=(as.toList.map a.eval).toArray:=by apply Array.ext'; simp
  rcases TH (P:=P) (w:=w) ts ty (FV hs as.toList) hr with ⟨_,u,h1,h2⟩ | ⟨h0,_⟩
  ·refine FM hs (s:=Builtin.min_ ts ty (as.map a.eval)) (fun _=>rfl) ⟨u,w,?_,Did.same hi h2⟩
   rw [ha]; exact h1
  ·cases h0
 ·rename_i as ts
  simp only [Ai,Option.bind_eq_some_iff,Tr.ev,Option.some.injEq] at h
  obtain ⟨r,hr,h⟩:=h
  subst h
  have ha:as.map a.eval=(as.toList.map a.eval).toArray:=by apply Array.ext'; simp
  rcases TH (P:=P) (w:=w) ts ty (FV hs as.toList) hr with ⟨h0,_⟩ | ⟨_,u,h1,h2⟩
  ·cases h0
  ·refine FM hs (s:=Builtin.max_ ts ty (as.map a.eval)) (fun _=>rfl) ⟨u,w,?_,Did.same hi h2⟩
   rw [ha]; exact h1
 ·rename_i fo as ts
  split at h
  ·rename_i f cs hfo
   split at h
   ·rename_i hsz
    exact hcall fo f cs as ts out rfl hfo hsz h
   ·simp [Tr.ev] at h
  ·simp [Tr.ev] at h
 ·rename_i f first cs
  split at h
  ·rename_i hf
   split at h
   ·rename_i l hl
    simp only [Tr.ev,Option.some.injEq] at h
    subst h
    have hfirst:first = #[]:=by simpa [Array.isEmpty_iff] using hf
    subst hfirst
    refine AK rfl ⟨_,w,rfl,Did.same hi ?_⟩
    refine ⟨cs.toList.map a.eval,by congr 1 <;> (apply Array.ext'; simp),?_⟩
    have hall:=FV hs cs.toList
    revert hl hall
    generalize cs.toList.map (Cw S)=xs
    generalize cs.toList.map a.eval=vs
    intro hl hall
    exact X0 hall hl
   ·simp [Tr.ev] at h
  ·simp [Tr.ev] at h
 ·simp [Tr.ev] at h
end
end Go.V
namespace Go.V
open Go.RowKit
def FL {α β:Type} (p:α→β→List Nat→Prop):List α→List β→List Nat→Prop
 | [],vs,F=>vs=[]∧F=[]
 | x::xs,vs,F=>∃ v vs' F1 F2,vs=v::vs'∧F=F1++F2∧p x v F1∧FL p xs vs' F2
section
variable {α β:Type} {p q:α→β→List Nat→Prop}
theorem FL.mono (h:∀ x v F,p x v F→q x v F):∀ {xs:List α} {vs:List β} {F},FL p xs vs F→FL q xs vs F
 | [],_,_,hx=>hx
 | _::_,_,_,⟨v,vs',F1,F2,e1,e2,h1,h2⟩=>⟨v,vs',F1,F2,e1,e2,h _ _ _ h1,FL.mono h h2⟩
theorem FL.mono':∀ {xs:List α} {vs:List β} {F},(∀ x∈xs,∀ v F',(∀ g,g∈F'→g∈F)→p x v F'→q x v F')→FL p xs vs F→FL q xs vs F
 | [],_,_,_,hx=>hx
 | _::_,_,_,h,⟨v,vs',F1,F2,e1,e2,h1,h2⟩=>by
  subst e2
  exact ⟨v,vs',F1,F2,e1,rfl,h _ (by simp) _ _ (fun g hg=>by simp [hg]) h1,FL.mono' (fun x hx v F hF=>h x (by simp [hx]) v F fun g hg=>by simp [hF g hg]) h2⟩
theorem FL.len:∀ {xs:List α} {vs:List β} {F},FL p xs vs F→vs.length=xs.length
 | [],_,_,⟨e,_⟩=>by subst e; rfl
 | _::_,_,_,⟨v,vs',F1,F2,e1,_,_,h2⟩=>by subst e1; simp [FL.len h2]
theorem FL.append:∀ {xs ys:List α} {vs ws:List β} {F G},FL p xs vs F→FL p ys ws G→FL p (xs++ys) (vs++ws) (F++G)
 | [],_,_,_,_,_,⟨e1,e2⟩,h=>by subst e1 e2; exact h
 | _::_,_,_,_,_,_,⟨v,vs',F1,F2,e1,e2,h1,h2⟩,h=>by
  subst e1 e2
  exact ⟨v,_,F1,_,rfl,List.append_assoc ..,h1,FL.append h2 h⟩
theorem FL.snoc {xs:List α} {vs:List β} {F G:List Nat} {x:α} {v:β} (h:FL p xs vs F) (hx:p x v G):FL p (xs++[x]) (vs++[v]) (F++G):=
 h.append ⟨v,[],G,[],rfl,by simp,hx,rfl,rfl⟩
end
def Ty.own:Ty→Bool
 | .sl true _ _=>true
 | _=>false
def ALOk (w:World) (K:Nat→Prop) (l:Ae) (v:Value) (F:List Nat):Prop:=Rp w K l.1 l.2 [v] F∧(l.1.own=false→F=[])
def A1Ok (w:World) (K:Nat→Prop) (ms:List (Nat×Nat)):A1→Value→List Nat→Prop
 | .one l,v,F=>ALOk w K l v F
 | .ag ls,v,F=>∃ vs:List Value,v=.agg vs.toArray∧FL (ALOk w K) ls vs F
 | .pl m off,v,F=>F=[]∧∃ g,ms[m]?=some g∧v=.pointer (some ⟨g.1,g.2+off,none⟩)
 | .rp t x off,v,F=>F=[]∧∃ (a:Addr) (vs:List Value),v=.pointer (some (a.add off))∧Rp w K t x vs []∧K a.block∧a.block < w.heap.size∧∀ j,j < vs.length→w.cell? (a.add j)=vs[j]?
 | .fv f cs,v,F=>F=[]∧∃ vs:List Value,v=.func (.func f) #[] vs.toArray∧All2 (fun p v=>∃ g,ms[p.1]?=some g∧v=.pointer (some ⟨g.1,g.2+p.2,none⟩)) cs vs
def ROk (w:World) (K:Nat→Prop) (ms:List (Nat×Nat)) (l:Ae) (v:Value) (F:List Nat):Prop:=
 ALOk w K l v F∨(F=[]∧∃ (p g:Nat×Nat),l=⟨.lp,p⟩∧ms[p.1]?=some g∧v=.pointer (some ⟨g.1,g.2+p.2,none⟩))
def RowsOk (w:World) (K:Nat→Prop) (ms:List (Nat×Nat)):List (Nat×Nat)→List (List Ae)→List Nat→Prop
 | [],rs,F=>rs=[]∧F=[]
 | g::gs,rs,F=>∃ r rs' cs e fr F1 F2,rs=r::rs'∧F=F1++F2∧w.heap[g.1]?=some (.cells cs e fr)∧NF fr cs.size∧(g.2+r.length≤cs.size∧FL (ROk w K ms) r ((cs.toList.drop g.2).take r.length) F1)∧RowsOk w K ms gs rs' F2
def RestOk (w w':World) (ms:List (Nat×Nat)) (rows:List (List Ae)):Prop:=
 ∀ (m:Nat) (g:Nat×Nat) (row:List Ae) (cs:Array Value) (e:TypeId) (fr:Nat×Nat),ms[m]?=some g→rows[m]?=some row→w.heap[g.1]?=some (.cells cs e fr)→∃ cs',w'.heap[g.1]?=some (.cells cs' e fr)∧cs'.size=cs.size∧∀ i,(i < g.2∨g.2+row.length≤i)→cs'[i]?=cs[i]?
def Sz:List Value→Value
 | [v]=>v
 | vs=>.tuple vs.toArray
def Es (vals:List Value) (p:Nat×Nat):Option Value:=match vals[p.1]? with
 | some (.agg vs)=>vs[p.2]?
 | some v=>if p.2=0 then some v else none
 | none=>none
def LentOk (w:World) (K:Nat→Prop) (vals:List Value):List ((Nat×Nat)×Ae)→List Nat→Prop
 | [],F=>F=[]
 | p::l,F=>∃ v F1 F2,F=F1++F2∧Es vals p.1=some v∧ALOk w K p.2 v F1∧LentOk w K vals l F2
def Im (w:World) (Ro:Nat→Prop) (ms:List (Nat×Nat)) (F:List Nat) (vals:List Value) (r:Res) (v:Value) (w':World):Prop:=
 ∃ (vs:List Value) (F1 F2 F3:List Nat),v=Sz vs∧FL (A1Ok w' (fun g=>(Ro g∨w.heap.size≤g∨g∈F)∧g∉ms.map (·.1)++(F1++(F2++F3))) ms) r.val vs F1∧RowsOk w' (fun g=>(Ro g∨w.heap.size≤g∨g∈F)∧g∉ms.map (·.1)++(F1++(F2++F3))) ms ms r.rows F2∧
  LentOk w' (fun g=>(Ro g∨w.heap.size≤g∨g∈F)∧g∉ms.map (·.1)++(F1++(F2++F3))) vals r.lent F3∧
  (ms.map (·.1)++(F1++(F2++F3))).Nodup∧(∀ g,g∈F1++(F2++F3)→g < w'.heap.size∧(g∈F∨w.heap.size≤g))∧Step w w' (fun g=>g∈ms.map (·.1)++F)∧RestOk w w' ms r.rows
theorem RestOk.nil {w w':World} {rows:List (List Ae)}:RestOk w w' [] rows:=fun _ _ _ _ _ _ h=>by simp at h
def CN (P:Program) (f:FuncId) (as:List A1) (rows:List (List Ae)) (r:Res):Prop:=
 (∃ fn, P.funcs[f]? = some fn ∧ (fn.name == "runtime.NumGoroutine") = false ∧ fn.body.isNone = false) ∧
 ∀ (w:World) (vals:List Value) (Ro:Nat→Prop) (ms:List (Nat×Nat)) (F1 F2:List Nat),FL (A1Ok w Ro ms) as vals F1→RowsOk w Ro ms ms rows F2→(ms.map (·.1)++(F1++F2)).Nodup→(∀ g,g∈ms.map (·.1)++(F1++F2)→g < w.heap.size∧¬ Ro g)→(GlF w∧∀ g,glo g→Ro g)→
  Calls P f vals.toArray w fun out w'=>∃ v,out=.returned v∧Im w Ro ms (F1++F2) vals r v w'
structure EnvOk (P:Program) (E:Env):Prop where
 ti:TabOk P E.ti
 mix:P.follows .mixedOrders=true
 ca:∀ f as rows S r,(E.ca f as rows).ev S=some r→CN P f as rows r
theorem Rp.mono {w:World} {K K':Nat→Prop} (hK:∀ g,g < w.heap.size→K g→K' g) (t:Ty) (x:t.D) {vs F} (h:Rp w K t x vs F):Rp w K' t x vs F:=
 Rp.frame ⟨Nat.le_refl _,fun g hg hlt=>⟨rfl,hK g hlt hg⟩⟩ t x h fun _ _=>rfl
theorem Rp.noRo {w:World} {K K':Nat→Prop}:∀ (t:Ty) (x:t.D) {vs F},t.hasRo=false→Rp w K t x vs F→Rp w K' t x vs F
 | .int _,_,_,_,_,h=>by simp only [Rp] at h ⊢; exact h
 | .bool,_,_,_,_,h=>by simp only [Rp] at h ⊢; exact h
 | .er,_,_,_,_,h=>by simp only [Rp] at h ⊢; exact h
 | .lp,_,_,_,_,h=>by simp only [Rp] at h
 | .str,_,_,_,_,h=>by simp only [Rp] at h ⊢; exact h
 | .unit,_,_,_,_,h=>by simp only [Rp] at h ⊢; exact h
 | .pair a b,x,_,_,hr,h=>by
  simp only [Ty.hasRo,Bool.or_eq_false_iff] at hr
  simp only [Rp] at h ⊢
  obtain ⟨v1,v2,F1,F2,rfl,rfl,h1,h2⟩:=h
  exact ⟨v1,v2,F1,F2,rfl,rfl,Rp.noRo a _ hr.1 h1,Rp.noRo b _ hr.2 h2⟩
 | .sl true _ r,xs,_,_,hr,h=>by
  simp only [Ty.hasRo,Bool.not_true,Bool.false_or] at hr
  simp only [Rp] at h ⊢
  rcases h with h | ⟨g,off,c,cs,fr,F',rfl,rfl,hh,hn,hc,hl,hx⟩
  ·exact .inl h
  ·exact .inr ⟨g,off,c,cs,fr,F',rfl,rfl,hh,hn,hc,hl,RpL.mono (fun x vs F h=>Rp.noRo r x hr h) hx⟩
 | .sl false _ _,_,_,_,hr,_=>by simp [Ty.hasRo] at hr
 | .pt _,_,_,_,hr,_=>by simp [Ty.hasRo] at hr
theorem ALOk.mono {w:World} {K K':Nat→Prop} (hK:∀ g,g < w.heap.size→K g→K' g) {l:Ae} {v F} (h:ALOk w K l v F):ALOk w K' l v F:=⟨Rp.mono hK _ _ h.1,h.2⟩
theorem A1Ok.mono {w:World} {K K':Nat→Prop} (hK:∀ g,g < w.heap.size→K g→K' g) {ms:List (Nat×Nat)} {a:A1} {v F} (h:A1Ok w K ms a v F):A1Ok w K' ms a v F:=by
 cases a with
 | one l=>exact ALOk.mono hK h
 | ag ls=>obtain ⟨vs,e,h⟩:=h; exact ⟨vs,e,h.mono fun x v F h=>ALOk.mono hK h⟩
 | pl m off=>exact h
 | rp t x off=>
  obtain ⟨e,a,vs,h1,h2,h3,h4,h5⟩:=h
  exact ⟨e,a,vs,h1,Rp.mono hK _ _ h2,hK _ h4 h3,h4,h5⟩
 | fv f cs=>exact h
theorem ROk.mono {w:World} {K K':Nat→Prop} (hK:∀ g,g < w.heap.size→K g→K' g) {ms:List (Nat×Nat)} {l:Ae} {v F} (h:ROk w K ms l v F):ROk w K' ms l v F:=h.imp (ALOk.mono hK) id
theorem RowsOk.mono {w:World} {K K':Nat→Prop} (hK:∀ g,g < w.heap.size→K g→K' g) {mk:List (Nat×Nat)}:∀ {ms:List (Nat×Nat)} {rs F},RowsOk w K mk ms rs F→RowsOk w K' mk ms rs F
 | [],_,_,h=>h
 | _::_,_,_,⟨r,rs',cs,e,fr,F1,F2,e1,e2,h1,h2,h3,h4⟩=>⟨r,rs',cs,e,fr,F1,F2,e1,e2,h1,h2,⟨h3.1,h3.2.mono fun _ _ _ h=>ROk.mono hK h⟩,RowsOk.mono hK h4⟩
theorem ALOk.noRo {w:World} {K K':Nat→Prop} {l:Ae} {v F} (hr:l.1.hasRo=false) (h:ALOk w K l v F):ALOk w K' l v F:=⟨Rp.noRo _ _ hr h.1,h.2⟩
theorem ALs.noRo {w:World} {K K':Nat→Prop} {ls:List Ae} {vs F} (hr:(ls.any fun l=>l.1.hasRo)=false) (h:FL (ALOk w K) ls vs F):FL (ALOk w K') ls vs F:=by
 rw [List.any_eq_false] at hr
 exact FL.mono' (fun x hx v F _ h=>ALOk.noRo (by simpa using hr x hx) h) h
theorem RLs.noRo {w:World} {K K':Nat→Prop} {ms:List (Nat×Nat)} {ls:List Ae} {vs F} (hr:(ls.any fun l=>l.1.hasRo)=false) (h:FL (ROk w K ms) ls vs F):FL (ROk w K' ms) ls vs F:=by
 rw [List.any_eq_false] at hr
 exact FL.mono' (fun x hx v F _ h=>h.imp (ALOk.noRo (by simpa using hr x hx)) id) h
theorem A1Ok.noRo {w:World} {K K':Nat→Prop} {ms:List (Nat×Nat)} {a:A1} {v F} (hr:a.hasRo=false) (h:A1Ok w K ms a v F):A1Ok w K' ms a v F:=by
 cases a with
 | one l=>exact ALOk.noRo hr h
 | ag ls=>obtain ⟨vs,e,h⟩:=h; exact ⟨vs,e,ALs.noRo hr h⟩
 | pl m off=>exact h
 | rp t x off=>cases hr
 | fv f cs=>exact h
theorem RowsOk.noRo {w:World} {K K':Nat→Prop} {mk:List (Nat×Nat)}:∀ {ms:List (Nat×Nat)} {rs:List (List Ae)} {F},(rs.any fun l=>l.any fun x=>x.1.hasRo)=false→RowsOk w K mk ms rs F→RowsOk w K' mk ms rs F
 | [],_,_,_,h=>h
 | _::_,_,_,hr,⟨r,rs',cs,e,fr,F1,F2,e1,e2,h1,h2,h3,h4⟩=>by
  subst e1
  simp only [List.any_cons,Bool.or_eq_false_iff] at hr
  exact ⟨r,rs',cs,e,fr,F1,F2,rfl,e2,h1,h2,⟨h3.1,RLs.noRo hr.1 h3.2⟩,RowsOk.noRo hr.2 h4⟩
section
variable {b:Base} {S:St} {c:Cc} {w:World}
def KB (b:Base) (S:St) (c:Cc) (B:List Nat) (g:Nat):Prop:=Kok b S c g∨(∃ k,k∈B∧S.ow k≠none∧g∈c.F k)∨∃ k,k∈B∧S.ms k≠none∧g=c.mb k
theorem JA (hi:Inv b S w c) {mv:Bool} {t:Ty} {l:Leaf} {v:Value} {y:Ae×List Nat×List Nat} (hl:LeafOk S c w (Kok b S c) l v) (h:(Hy mv t l).ev S=some y) :
  Ows S y.2.1∧Ows S y.2.2∧(mv=true→y.2.1=[])∧∃ G,(∀ B,(∀ k,k∈y.2.1→k∈B)→ALOk w (KB b S c B) y.1 v G)∧G.Nodup∧B7 c y.2.2 G:=by
 have hn:Ows S []:=fun k hk=>(by cases hk)
 have hh:B7 c [] []:=fun g hg=>(by cases hg)
 unfold Hy at h
 split at h
 ·simp only [Tr.ev,Option.some.injEq] at h
  subst h
  exact ⟨hn,hn,fun _=>rfl,[],fun B _=>⟨Rp.mono (fun g _ h=>.inl h) _ _ hl,fun _=>rfl⟩,by simp,hh⟩
 ·obtain rfl:v=.slice none 0 0:=hl
  split at h
  ·split at h
   ·simp only [Tr.ev,Option.some.injEq] at h
    subst h
    refine ⟨hn,hn,fun _=>rfl,[],fun B _=>⟨?_,fun _=>rfl⟩,by simp,hh⟩
    simp only [Rp]; exact .inl ⟨trivial,trivial,trivial⟩
   ·simp only [Tr.ev,Option.some.injEq] at h
    subst h
    refine ⟨hn,hn,fun _=>rfl,[],fun B _=>⟨?_,fun _=>rfl⟩,by simp,hh⟩
    rw [Rp]; exact ⟨rfl,none,0,[],rfl,Nat.le_refl _,⟨rfl,rfl⟩,.inl rfl⟩
  ·simp [Tr.ev] at h
 ·rename_i k st win
  split at h
  ·rename_i hmv
   split at h
   ·simp only [Ai,Option.bind_eq_some_iff,Tr.ev,Option.some.injEq] at h
    obtain ⟨o,ho,h⟩:=h
    subst h
    obtain ⟨h1,F',h2,h3,h4⟩:=Hq hi hl ho
    exact ⟨hn,fun k' hk'=>(by simp only [List.mem_singleton] at hk'; subst hk'; exact h1),fun _=>rfl,F',fun B _=>⟨Rp.mono (fun g _ h=>.inl h) _ _ h2,fun h=>(by simp [Ty.own] at h)⟩,h4,fun g hg=>⟨k,by simp,h3 g hg⟩⟩
   ·simp [Tr.ev] at h
  ·rename_i hmv
   simp only [Ai,Option.bind_eq_some_iff,Tr.ev,Option.some.injEq] at h
   obtain ⟨o,ho,h⟩:=h
   subst h
   obtain ⟨h1,F',h2,h3,h4⟩:=Hq hi hl ho
   exact ⟨fun k' hk'=>(by simp only [List.mem_singleton] at hk'; subst hk'; exact h1),hn,fun h=>absurd h hmv,[],fun B hB=>⟨Rp.frz (fun g _ h=>.inl h) _ _ h2 fun g hg=>.inr (.inl ⟨k,hB k (by simp),h1,h3 g hg⟩),fun _=>rfl⟩,by simp,hh⟩
 ·simp [Tr.ev] at h
def Aex (S:St) (c:Cc) (w:World) (K:Nat→Prop) (k:Nat) (st:AH) (v:Value) (Fa Fb:List Nat):Prop:=
 ∃ o0,S.ow k=some o0∧(∃ G,c.F k=Fa++(G++Fb))∧
  ∀ (d:(u:Ty)×u.D) (z:d.1.D) (zs:(Ty.sl true o0.e o0.r).D),(Al (.sl true o0.e o0.r) o0.xs st).run=some d→(EL (.sl true o0.e o0.r) o0.xs st d.1 z).run=some zs→
   ∀ (w':World) (K':Nat→Prop) (G':List Nat),Rp w' K' d.1 z [v] G'→KSame w w' K K'→CV w w' Fa→CV w w' Fb→Rp w' K' (.sl true o0.e o0.r) zs [c.hv k] (Fa++(G'++Fb))
def LnOk (S:St) (c:Cc) (w:World) (K:Nat→Prop) (q:Option (Nat×AH)) (v:Value) (gv G:List Nat):Prop:=match q with
 | none=>v=.slice none 0 0
 | some (k,st)=>k∈gv∧∃ Fa Fb,Aex S c w K k st v Fa Fb∧∀ g,g∈G→g∉Fa∧g∉Fb
theorem Rp.back {w:World} {K:Nat→Prop}:∀ (st:AH) (t:Ty) (x:t.D) {h:Value} {F:List Nat} {c:(u:Ty)×u.D},Rp w K t x [h] F→(Al t x st).run=some c→
  ∃ h' Fa G Fb,hdr w h t st=some h'∧F=Fa++(G++Fb)∧Rp w K c.1 c.2 [h'] G∧∀ (z:c.1.D) (y:t.D),(EL t x st c.1 z).run=some y→
   ∀ (w':World) (K':Nat→Prop) (G':List Nat),Rp w' K' c.1 z [h'] G'→KSame w w' K K'→CV w w' Fa→CV w w' Fb→Rp w' K' t y [h] (Fa++(G'++Fb))
 | [],t,x,h,F,c,hp,hg=>by
  simp only [Al,Tr.run,Option.some.injEq] at hg
  subst hg
  refine ⟨h,[],F,[],rfl,by simp,hp,fun z y hs w' K' G' hz _ _ _=>?_⟩
  simp only [EL] at hs
  split at hs
  ·simp only [Tr.run,Option.some.injEq] at hs
   subst hs
   simpa using hz
  ·simp [Tr.run] at hs
 | (i,j)::ps,t,x,h,F,c,hp,hg=>by
  match t,x,hp,hg with
  | .sl true e r,xs,hp,hg=>
   obtain ⟨row,d,hrow,hd,hrest⟩:=Dm hg
   obtain ⟨g,off,cap,cs,fr,v,F1,Fa0,G0,Fb0,F2,rfl,rfl,hh,hn,_,_,hcell,hlt,hv,hput⟩:=Rp.elem hp hrow hd
   have hc?:w.cell? ⟨g,off+(i * r.size+j),none⟩=some v:=by rw [AV hh]; exact hcell
   obtain ⟨h',Ga,G,Gb,hhd,rfl,hp',hset2⟩:=Rp.back ps d.1 d.2 hv hrest
   refine ⟨h',g::(F1++(Fa0++Ga)),G,Gb++(Fb0++F2),?_,by simp,hp',?_⟩
   ·cases ps with
    | nil=>
     simp only [hdr,Option.some.injEq] at hhd
     subst hhd
     simp only [hdr,adr,AT]; exact hc?
    | cons p ps=>
     simp only [hdr,adr,AT,hc?,CU r row j hd]
     simpa only [hdr] using hhd
   ·intro z y hs w' K' G' hz hK sa sb
    have hs':∃ yy row',(EL d.1 d.2 ps c.1 z).run=some yy∧setCell r row j d.1 yy=some row'∧y=(xs:List r.D).set i row':=by
     simp only [EL,CY,Option.bind_eq_some_iff] at hs
     obtain ⟨row2,hrow2,hs⟩:=hs
     obtain rfl:row=row2:=by rw [hrow] at hrow2; injection hrow2
     rw [hd] at hs
     simp only [run_bind,Option.bind_eq_some_iff] at hs
     obtain ⟨yy,h1,hs⟩:=hs
     split at hs
     ·rename_i row' hr; simp only [Tr.run,Option.some.injEq] at hs; exact ⟨yy,row',h1,hr,hs.symm⟩
     ·simp [Tr.run] at hs
    obtain ⟨yy,row',hsy,hset,rfl⟩:=hs'
    have hinner:=hset2 z yy hsy w' K' G' hz hK (fun b hb=>sa b (by simp [hb])) (fun b hb=>sb b (by simp [hb]))
    have hgs:w'.heap[g]?=some (.cells cs e fr):=by rw [sa g (by simp)]; exact hh
    have hsame:cs=cs.setIfInBounds (off+(i * r.size+j)) v:=by
     apply Array.ext_getElem?
     intro m
     rw [Array.getElem?_setIfInBounds]
     split
     ·subst_vars; first | exact hcell | (rw [if_pos hlt]; exact hcell)
     ·rfl
    have:=hput w' K' yy v (Ga++(G'++Gb)) row' cs hset hinner hK hgs hsame (fun b hb=>sa b (by simp [hb])) (fun b hb=>sa b (by simp [hb])) (fun b hb=>sb b (by simp [hb])) (fun b hb=>sb b (by simp [hb]))
    simpa using this
  | .sl false _ _,_,_,hg=>simp [Al,Tr.run] at hg
  | .int _,_,_,hg=>simp [Al,Tr.run] at hg
  | .bool,_,_,hg=>simp [Al,Tr.run] at hg
  | .er,_,_,hg=>simp [Al,Tr.run] at hg
  | .lp,_,_,hg=>simp [Al,Tr.run] at hg
  | .str,_,_,hg=>simp [Al,Tr.run] at hg
  | .pt _,_,_,hg=>simp [Al,Tr.run] at hg
  | .unit,_,_,hg=>simp [Al,Tr.run] at hg
  | .pair _ _,_,_,hg=>simp [Al,Tr.run] at hg
theorem Xv (hi:Inv b S w c) {t:Ty} {l:Leaf} {v:Value} {y:Ae×List Nat×List Nat} (hl:LeafOk S c w (Kok b S c) l v) (h:(Qn t l).ev S=some y) :
  Ows S y.2.1∧Ows S y.2.2∧∃ G,(∀ B,(∀ k,k∈y.2.1→k∈B)→ALOk w (KB b S c B) y.1 v G)∧G.Nodup∧B7 c y.2.2 G∧∀ p e,e∈Kp p l→e.1=p∧LnOk S c w (Kok b S c) e.2 v y.2.2 G:=by
 unfold Qn at h
 split at h
 ·rename_i k st
  simp only [Ai,Option.bind_eq_some_iff,Tr.ev,Option.some.injEq] at h
  obtain ⟨o,ho,h⟩:=h
  subst h
  obtain ⟨o0,e,r,ys,hd,ho0,hg,hh,hw⟩:=hl
  have hw':v=hd:=hw
  subst hw'
  obtain ⟨h',Fa,G,Fb,k1,k2,k3,k4⟩:=Rp.back st _ _ (hi.ow k o0 ho0) hg
  rw [hh] at k1
  injection k1 with k1
  subst k1
  have hnd:=hi.nd k (by rw [ho0]; simp)
  rw [k2] at hnd
  obtain ⟨n1,n2,n3⟩:=List.nodup_append.1 hnd
  obtain ⟨m1,m2,m3⟩:=List.nodup_append.1 n2
  have hoo:o=⟨e,r,ys⟩:=by
   simp only [Er,Tr.ev,ho0,Ai,Option.bind_eq_some_iff] at ho
   obtain ⟨c0,hc0,ho⟩:=ho
   rw [Jc,hg] at hc0
   injection hc0 with hc0
   subst hc0
   simp only [Tr.ev,Option.some.injEq] at ho
   exact ho.symm
  subst hoo
  refine ⟨fun k hk=>(by cases hk),fun k' hk'=>(by simp only [List.mem_singleton] at hk'; subst hk'; rw [ho0]; simp),G,fun B _=>⟨Rp.mono (fun g _ h=>.inl h) _ _ k3,fun h=>(by simp [Ty.own] at h)⟩,m1,fun g hg=>⟨k,by simp,by rw [k2]; simp [hg]⟩,?_⟩
  intro p e' he'
  simp only [Kp,List.mem_singleton] at he'
  subst he'
  refine ⟨rfl,by simp,Fa,Fb,⟨o0,ho0,⟨G,k2⟩,?_⟩,fun g hg=>⟨fun hx=>n3 g hx g (by simp [hg]) rfl,fun hx=>m3 g hg g hx rfl⟩⟩
  intro d z zs hd' hs'
  rw [hg] at hd'
  injection hd' with hd'
  subst hd'
  exact k4 z zs hs'
 ·simp [Tr.ev] at h
 ·rename_i hn1 hn2
  obtain ⟨k1,k2,_,G,k4,k5,k6⟩:=JA hi hl h
  refine ⟨k1,k2,G,k4,k5,k6,fun p e he=>?_⟩
  cases l with
  | vw k st win=>
   cases win with
   | none=>exact absurd rfl (hn1 k st)
   | some w=>exact absurd rfl (hn2 k st w)
  | nil=>
   simp only [Kp,List.mem_singleton] at he
   subst he
   exact ⟨rfl,hl⟩
  | v t x=>cases he
  | qn q=>cases he
  | p k off=>cases he
  | np=>cases he
  | no=>cases he
theorem PQ (hi:Inv b S w c) {m:Nat} {t:Ty} {l:Leaf} {v:Value} {y:Ae×List Nat×List Nat} (hl:LeafOk S c w (Kok b S c) l v) (h:(M2 m t l).ev S=some y) :
  Ows S y.2.1∧Ows S y.2.2∧∃ G,(∀ B,(∀ k,k∈y.2.1→k∈B)→ALOk w (KB b S c B) y.1 v G)∧G.Nodup∧B7 c y.2.2 G∧(m=2→∀ p e,e∈Kp p l→e.1=p∧LnOk S c w (Kok b S c) e.2 v y.2.2 G):=by
 unfold M2 at h
 split at h
 ·obtain ⟨k1,k2,G,k3,k4,k5,k6⟩:=Xv hi hl h
  exact ⟨k1,k2,G,k3,k4,k5,fun _=>k6⟩
 ·rename_i hm
  obtain ⟨k1,k2,_,G,k4,k5,k6⟩:=JA hi hl h
  exact ⟨k1,k2,G,k4,k5,k6,fun h=>absurd h hm⟩
theorem LnOk.left (hi:Inv b S w c) {q:Option (Nat×AH)} {v:Value} {g1 g2 G1 G2:List Nat} (h:LnOk S c w (Kok b S c) q v g1 G1) (hh:B7 c g2 G2) (ho:Ows S g1) (ho2:Ows S g2) (hu:AB (g1++g2)=true):LnOk S c w (Kok b S c) q v (g1++g2) (G1++G2):=by
 cases q with
 | none=>exact h
 | some q=>
  obtain ⟨k,st⟩:=q
  obtain ⟨hk,Fa,Fb,hB,hd⟩:=h
  refine ⟨by simp [hk],Fa,Fb,hB,fun g hg=>?_⟩
  rcases List.mem_append.1 hg with hg | hg
  ·exact hd g hg
  ·obtain ⟨k2,q1,q2⟩:=hh g hg
   obtain ⟨_,_,u⟩:=AJ hu
   have hne:k2≠k:=by rintro rfl; exact u k2 hk q1
   have hno:=hi.oo k2 k hne (ho2 k2 q1) (ho k hk) g q2
   obtain ⟨_,_,⟨G0,hF⟩,_⟩:=hB
   rw [hF] at hno
   simp only [List.mem_append,not_or] at hno
   exact ⟨hno.1,hno.2.2⟩
theorem LnOk.right (hi:Inv b S w c) {q:Option (Nat×AH)} {v:Value} {g1 g2 G1 G2:List Nat} (h:LnOk S c w (Kok b S c) q v g2 G2) (hh:B7 c g1 G1) (ho:Ows S g1) (ho2:Ows S g2) (hu:AB (g1++g2)=true):LnOk S c w (Kok b S c) q v (g1++g2) (G1++G2):=by
 cases q with
 | none=>exact h
 | some q=>
  obtain ⟨k,st⟩:=q
  obtain ⟨hk,Fa,Fb,hB,hd⟩:=h
  refine ⟨by simp [hk],Fa,Fb,hB,fun g hg=>?_⟩
  rcases List.mem_append.1 hg with hg | hg
  ·obtain ⟨k2,q1,q2⟩:=hh g hg
   obtain ⟨_,_,u⟩:=AJ hu
   have hne:k2≠k:=by rintro rfl; exact u k2 q1 hk
   have hno:=hi.oo k2 k hne (ho k2 q1) (ho2 k hk) g q2
   obtain ⟨_,_,⟨G0,hF⟩,_⟩:=hB
   rw [hF] at hno
   simp only [List.mem_append,not_or] at hno
   exact ⟨hno.1,hno.2.2⟩
  ·exact hd g hg
theorem OP (hi:Inv b S w c) {m:Nat}:∀ {ls:List Leaf} {ts:List Ty} {vs:List Value} {y:List Ae×List Nat×List Nat},All2 (LeafOk S c w (Kok b S c)) ls vs→(I8 m ts ls).ev S=some y→
  Ows S y.2.1∧Ows S y.2.2∧∃ G,(∀ B,(∀ k,k∈y.2.1→k∈B)→FL (ALOk w (KB b S c B)) y.1 vs G)∧(AB y.2.2=true→G.Nodup)∧B7 c y.2.2 G∧
   (m=2→AB y.2.2=true→∀ i j e,e∈Ps i j ls→∃ n u,e.1=(i,j+n)∧vs[n]?=some u∧LnOk S c w (Kok b S c) e.2 u y.2.2 G)
 | [],ts,_,y,.nil,h=>by
  rw [I8] at h
  simp only [Tr.ev,Option.some.injEq] at h
  subst h
  exact ⟨fun k hk=>(by cases hk),fun k hk=>(by cases hk),[],fun B _=>⟨rfl,rfl⟩,fun _=>by simp,fun g hg=>(by cases hg),fun _ _ i j e he=>by cases he⟩
 | l::ls,ts,_,y,.cons (b:=v) (bs:=vs) h1 h2,h=>by
  rw [I8] at h
  simp only [Ai,Option.bind_eq_some_iff,Tr.ev,Option.some.injEq] at h
  obtain ⟨y1,hy1,y2,hy2,rfl⟩:=h
  obtain ⟨k1,k2,G,k4,k5,k6,k7⟩:=PQ hi h1 hy1
  obtain ⟨m1,m2,H,m4,m5,m6,m7⟩:=OP hi h2 hy2
  refine ⟨CE k1 m1,CE k2 m2,G++H,fun B hB=>⟨v,vs,G,H,rfl,rfl,k4 B fun k hk=>hB k (by simp [hk]),m4 B fun k hk=>hB k (by simp [hk])⟩,?_,?_,?_⟩
  rotate_left 2
  ·intro hm hu i j e he
   obtain ⟨u1,u2,_⟩:=AJ hu
   simp only [Ps] at he
   rcases List.mem_append.1 he with he | he
   ·obtain ⟨q1,q2⟩:=k7 hm _ e he
    exact ⟨0,v,q1,rfl,q2.left hi m6 k2 m2 hu⟩
   ·obtain ⟨n,u,q1,q2,q3⟩:=m7 hm u2 i (j+1) e he
    exact ⟨n+1,u,by rw [q1]; congr 1; omega,by simpa using q2,q3.right hi k6 k2 m2 hu⟩
  ·intro hu
   obtain ⟨u1,u2,_⟩:=AJ hu
   exact (CC hi k6 m6 k2 m2 hu k5 (m5 u2)).2
  ·intro g hg
   rcases List.mem_append.1 hg with hg | hg
   ·obtain ⟨k,h,h'⟩:=k6 g hg; exact ⟨k,by simp [h],h'⟩
   ·obtain ⟨k,h,h'⟩:=m6 g hg; exact ⟨k,by simp [h],h'⟩
abbrev plc (c:Cc) (p:(Nat×Nat)×List Ty):Nat×Nat:=(c.mb p.1.1,c.mo p.1.1+p.1.2)
structure AInv (b:Base) (S:St) (c:Cc) (w:World) (C:AC) (vals:List Value) (F:List Nat):Prop where
 fl:∀ eb em,FL (A1Ok w (KB b S c (C.bw++eb)) ((C.ms++em).map (plc c))) C.as vals F
 held:B7 c C.gv F
 gv:Ows S C.gv
 bw:True
 nd:AB C.gv=true→F.Nodup
 ms:∀ p,p∈C.ms→∃ n,S.ms p.1.1=some n∧p.1.2+p.2.length≤n
 un:(C.ms.map (·.1.1)).Nodup
 ln:AB C.gv=true→∀ e,e∈C.ln→∃ v,Es vals e.1=some v∧LnOk S c w (Kok b S c) e.2 v C.gv F
theorem EO {vals more:List Value} {p:Nat×Nat} {v:Value} (h:Es vals p=some v):Es (vals++more) p=some v:=by
 unfold Es at h ⊢
 cases hv:vals[p.1]? with
 | none=>rw [hv] at h; cases h
 | some u=>
  have:(vals++more)[p.1]?=some u:=by rw [List.getElem?_append_left (List.getElem?_eq_some_iff.1 hv).1]; exact hv
  rw [this]
  rw [hv] at h
  exact h
theorem AaN {vals:List Value} {v:Value} (hv:∀ vs,v≠.agg vs):Es (vals++[v]) (vals.length,0)=some v:=by
 unfold Es
 rw [List.getElem?_append_right (Nat.le_refl _),Nat.sub_self]
 cases v <;> first | rfl | (exact absurd rfl (hv _))
theorem Aa9 {vals:List Value} {vs:List Value} {n:Nat} {u:Value} (hu:vs[n]?=some u):Es (vals++[.agg vs.toArray]) (vals.length,n)=some u:=by
 unfold Es
 rw [List.getElem?_append_right (Nat.le_refl _),Nat.sub_self]
 simpa using hu
theorem AInv.step (hi:Inv b S w c) {C:AC} {vals:List Value} {F:List Nat} (h:AInv b S c w C vals F) {a:A1} {v:Value} {bw gv:List Nat} {G:List Nat}
  (_h1:Ows S bw) (h2:Ows S gv) (h3:∀ B ms,(∀ k,k∈bw→k∈B)→A1Ok w (KB b S c B) ms a v G) (h4:AB gv=true→G.Nodup) (h5:B7 c gv G)
  {L:List ((Nat×Nat)×Option (Nat×AH))} (h6:AB gv=true→∀ e,e∈L→∃ u,Es (vals++[v]) e.1=some u∧LnOk S c w (Kok b S c) e.2 u gv G) :
  AInv b S c w { C with as:=C.as++[a],bw:=C.bw++bw,gv:=C.gv++gv,ln:=C.ln++L } (vals++[v]) (F++G):=by
 refine ⟨?_,?_,CE h.gv h2,trivial,?_,h.ms,h.un,?_⟩
 rotate_left 3
 ·intro hu e he
  obtain ⟨u1,u2,_⟩:=AJ hu
  rcases List.mem_append.1 he with he | he
  ·obtain ⟨u,q1,q2⟩:=h.ln u1 e he
   exact ⟨u,EO q1,q2.left hi h5 h.gv h2 hu⟩
  ·obtain ⟨u,q1,q2⟩:=h6 u2 e he
   exact ⟨u,q1,q2.right hi h.held h.gv h2 hu⟩
 ·intro eb em
  have:=h.fl (bw++eb) em
  rw [← List.append_assoc] at this
  exact this.snoc (h3 _ _ fun k hk=>by simp [hk])
 ·intro g hg
  rcases List.mem_append.1 hg with hg | hg
  ·obtain ⟨k,q,q'⟩:=h.held g hg; exact ⟨k,by simp [q],q'⟩
  ·obtain ⟨k,q,q'⟩:=h5 g hg; exact ⟨k,by simp [q],q'⟩
 ·intro hu
  obtain ⟨u1,u2,_⟩:=AJ hu
  exact (CC hi h.held h5 h.gv h2 hu (h.nd u1) (h4 u2)).2
theorem R3:∀ (l:List Nat) (k:Nat),l.contains k=true→l[l.findIdx (· == k)]?=some k
 | [],_,h=>by simp at h
 | x::l,k,h=>by
  rw [List.findIdx_cons]
  by_cases hx:x=k
  ·subst hx; simp
  ·have:(x == k)=false:=by simp [hx]
   rw [this]
   simp only [cond_false,List.getElem?_cons_succ]
   refine R3 l k ?_
   simp only [List.contains_cons,Bool.or_eq_true,beq_iff_eq] at h
   exact h.resolve_left fun h=>hx h.symm
theorem O2 {C:AC} {vals:List Value} {F:List Nat} (hA:AInv b S c w C vals F) {k off n:Nat} {ts:Option (List Ty)} {y:(Nat×Nat)×AC} (hn:S.ms k=some n) (h:(J1 k off ts C).ev S=some y) :
  AInv b S c w y.2 vals F∧(∃ more,y.2.ms=C.ms++more)∧(y.2.as=C.as∧y.2.bw=C.bw∧y.2.gv=C.gv)∧∀ em,∃ q,((y.2.ms++em).map (plc c))[y.1.1]?=some q∧q.1=c.mb k∧q.2+y.1.2=c.mo k+off:=by
 unfold J1 at h
 split at h
 ·rename_i ts
  split at h
  ·rename_i hc
   have hf:=R3 (C.ms.map (·.1.1)) k hc
   split at h
   ·rename_i m hm
    split at h
    ·rename_i hle
     simp only [Tr.ev,Option.some.injEq] at h
     subst h
     have hmk:m.1.1=k:=by
      rw [List.getElem?_map,show C.ms[List.findIdx (· == k) (C.ms.map (·.1.1))]?=some m from hm] at hf
      injection hf
     refine ⟨hA,⟨[],by simp⟩,⟨rfl,rfl,rfl⟩,fun em=>⟨plc c m,?_,by rw [← hmk],?_⟩⟩
     ·have hlt:=(List.getElem?_eq_some_iff.1 hm).1
      rw [List.map_append,List.getElem?_append_left (by simpa using hlt),List.getElem?_map,hm]; rfl
     ·show c.mo m.1.1+m.1.2+(off - m.1.2)=_
      rw [hmk]; omega
    ·simp [Tr.ev] at h
   ·simp [Tr.ev] at h
  ·rename_i hc
   simp only [Tr.ev,hn] at h
   split at h
   ·rename_i hle
    simp only [Tr.ev,Option.some.injEq] at h
    subst h
    refine ⟨⟨fun eb em=>?_,hA.held,hA.gv,hA.bw,hA.nd,?_,?_,hA.ln⟩,⟨_,rfl⟩,⟨rfl,rfl,rfl⟩,fun em=>⟨(c.mb k,c.mo k+off),?_,rfl,rfl⟩⟩
    ·have:=hA.fl eb (((k,off),ts)::em)
     simpa using this
    ·intro p hp
     rcases List.mem_append.1 hp with hp | hp
     ·exact hA.ms p hp
     ·simp only [List.mem_singleton] at hp
      subst hp
      exact ⟨n,hn,hle⟩
    ·rw [List.map_append,List.nodup_append]
     refine ⟨hA.un,by simp,?_⟩
     rintro q hq q' hq' rfl
     simp only [List.map_cons,List.map_nil,List.mem_singleton] at hq'
     subst hq'
     exact hc (by simpa using hq)
    ·rw [List.append_assoc,List.map_append,List.getElem?_append_right (by simp)]; simp
   ·simp [Tr.ev] at h
 ·simp [Tr.ev] at h
theorem AaM {C:AC} {k off n:Nat} {ts:Option (List Ty)} {y:(Nat×Nat)×AC} (hn:S.ms k=some n) (h:(J1 k off ts C).ev S=some y):y.2.ln=C.ln:=by
 unfold J1 at h
 split at h
 ·split at h
  ·split at h
   ·split at h
    ·simp only [Tr.ev,Option.some.injEq] at h
     subst h; rfl
    ·simp [Tr.ev] at h
   ·simp [Tr.ev] at h
  ·simp only [Tr.ev,hn] at h
   split at h
   ·simp only [Tr.ev,Option.some.injEq] at h
    subst h; rfl
   ·simp [Tr.ev] at h
 ·simp [Tr.ev] at h
def Aa8 (c:Cc) (C:AC) (p:Nat×Nat) (v:Value):Prop:=∀ em,∃ g,((C.ms++em).map (plc c))[p.1]?=some g∧v=.pointer (some ⟨g.1,g.2+p.2,none⟩)
theorem Qh:∀ (cs:List (Nat×Nat)) (tss:List (List Ty)) {vs:List Value} {C:AC} {vals:List Value} {F:List Nat} {y:List (Nat×Nat)×AC},All2 (SC S c) cs vs→AInv b S c w C vals F→(Pg cs tss C).ev S=some y→
  AInv b S c w y.2 vals F∧((∃ more,y.2.ms=C.ms++more)∧y.2.as=C.as∧y.2.bw=C.bw∧y.2.gv=C.gv)∧All2 (Aa8 c y.2) y.1 vs
 | [],tss,_,C,vals,F,y,.nil,hA,h=>by
  rw [Pg] at h
  simp only [Tr.ev,Option.some.injEq] at h
  subst h
  exact ⟨hA,⟨⟨[],by simp⟩,rfl,rfl,rfl⟩,.nil⟩
 | p::cs,tss,_,C,vals,F,y,.cons (b:=v) (bs:=vs) h1 h2,hA,h=>by
  rw [Pg] at h
  simp only [Ai,Option.bind_eq_some_iff,Tr.ev,Option.some.injEq] at h
  obtain ⟨y1,hy1,y2,hy2,rfl⟩:=h
  obtain ⟨n,hn,rfl⟩:=h1
  obtain ⟨q1,⟨m1,e1⟩,⟨a1,a2,a3⟩,q4⟩:=O2 hA hn hy1
  obtain ⟨r1,⟨⟨m2,e2⟩,b1,b2,b3⟩,r3⟩:=Qh cs _ h2 q1 hy2
  refine ⟨r1,⟨⟨m1++m2,by rw [e2,e1,List.append_assoc]⟩,b1.trans a1,b2.trans a2,b3.trans a3⟩,.cons (fun em=>?_) r3⟩
  obtain ⟨q,g1,g2,g3⟩:=q4 (m2++em)
  exact ⟨q,by rw [e2,List.append_assoc]; exact g1,by rw [g2,g3]⟩
theorem YO (hi:Inv b S w c) {l:Leaf} {v:Value} (hl:LeafOk S c w (Kok b S c) l v) {p:Nat×Nat} {e:(Nat×Nat)×Option (Nat×AH)} (he:e∈Kp p l):∀ vs,v≠.agg vs:=by
 intro vs
 cases l with
 | vw k st win=>obtain ⟨A,n,cap,rfl⟩:=QR hi hl; simp
 | nil=>rw [show v=.slice none 0 0 from hl]; simp
 | v t x=>cases he
 | qn q=>cases he
 | p k off=>cases he
 | np=>cases he
 | no=>cases he
theorem YR {t:Ty} {l:Leaf} {y:Ae×List Nat×List Nat} (h:(Hy false t l).ev S=some y):y.2.2=[]:=by
 unfold Hy at h
 split at h
 ·simp only [Tr.ev,Option.some.injEq] at h
  subst h; rfl
 ·split at h
  ·simp only [Bool.false_eq_true,if_false,Tr.ev,Option.some.injEq] at h
   subst h; rfl
  ·simp [Tr.ev] at h
 ·simp only [Bool.false_eq_true,if_false,Ai,Option.bind_eq_some_iff,Tr.ev,Option.some.injEq] at h
  obtain ⟨o,_,h⟩:=h
  subst h; rfl
 ·simp [Tr.ev] at h
theorem PV (hi:Inv b S w c) (k:Nat):∀ (ts:List Ty) (i:Nat) (vs:List Value) {y:List Ae×List Nat},vs.length=ts.length→(∀ j v,vs[j]?=some v→LeafOk S c w (Kok b S c) (S.mc k (i+j)) v)→(Ki k ts i).ev S=some y→
  ∀ B,(∀ k',k'∈y.2→k'∈B)→FL (ALOk w (KB b S c B)) y.1 vs []
 | [],i,vs,y,hl,_,h=>by
  rw [Ki] at h
  simp only [Tr.ev,Option.some.injEq] at h
  subst h
  obtain rfl:vs=[]:=List.eq_nil_of_length_eq_zero hl
  exact fun B _=>⟨rfl,rfl⟩
 | t::ts,i,[],y,hl,_,_=>by simp at hl
 | t::ts,i,v::vs,y,hl,hc,h=>by
  rw [Ki] at h
  simp only [Tr.ev,Ai,Option.bind_eq_some_iff,Option.some.injEq] at h
  obtain ⟨y1,hy1,y2,hy2,rfl⟩:=h
  obtain ⟨k1,k2,k3,G,k4,k5,k6⟩:=JA hi (hc 0 v rfl) hy1
  have hG:G=[]:=by
   rw [YR hy1] at k6
   cases G with
   | nil=>rfl
   | cons g G=>obtain ⟨k,hk,_⟩:=k6 g (by simp); cases hk
  subst hG
  have m:=PV hi k ts (i+1) vs (by simpa using hl) (fun j v hv=>by
   have:=hc (j+1) v (by simpa using hv)
   rwa [show i+(j+1)=i+1+j by omega] at this) hy2
  exact fun B hB=>⟨v,vs,[],[],rfl,rfl,k4 B fun k hk=>hB k (by simp [hk]),m B fun k hk=>hB k (by simp [hk])⟩
theorem Lh {K:Nat→Prop}:∀ (ls:List Ae) {vs:List Value},FL (ALOk w K) ls vs []→Rp w K (BF ls).1 (BF ls).2 vs []
 | [],vs,h=>by
  obtain ⟨rfl,_⟩:=h
  rw [BF,Rp]; exact ⟨rfl,rfl⟩
 | [l],vs,h=>by
  obtain ⟨v,vs',F1,F2,rfl,hF,h1,rfl,rfl⟩:=h
  obtain ⟨rfl,_⟩:=List.append_eq_nil_iff.1 hF.symm
  exact h1.1
 | l::m::ls,vs,h=>by
  obtain ⟨v,vs',F1,F2,rfl,hF,h1,h2⟩:=h
  obtain ⟨rfl,rfl⟩:=List.append_eq_nil_iff.1 hF.symm
  have:=Lh (m::ls) h2
  rw [BF,Rp]
  exact ⟨[v],vs',[],[],rfl,rfl,h1.1,this⟩
theorem RB {K:Nat→Prop} {t:Ty} {x:t.D} {vs:List Value} (h:Rp w K t x vs []):∀ (n i:Nat) {ls:List Ae},Ma t x i n=some ls→
  ∃ ws,FL (ALOk w K) ls ws []∧(∀ j,j < ws.length→vs[i+j]?=ws[j]?)∧∀ j,j < ws.length→i+j < vs.length
 | 0,i,ls,hl=>by
  simp only [Ma,Option.some.injEq] at hl
  subst hl
  exact ⟨[],⟨rfl,rfl⟩,fun j hj=>by simp at hj,fun j hj=>by simp at hj⟩
 | n+1,i,ls,hl=>by
  simp only [Ma] at hl
  split at hl
  ·rename_i c0 ls' hc hl'
   injection hl with hl
   subst hl
   obtain ⟨ws,k1,k2,k3⟩:=RB h n (i+1) hl'
   obtain ⟨pre,u,post,Fa,G,Fb,rfl,hpl,hF,hu,_⟩:=Rp.cell t x i h hc
   obtain ⟨rfl,h4⟩:=List.append_eq_nil_iff.1 hF.symm
   obtain ⟨rfl,rfl⟩:=List.append_eq_nil_iff.1 h4
   refine ⟨u::ws,⟨u,ws,[],[],rfl,rfl,⟨hu,fun _=>rfl⟩,k1⟩,fun j hj=>?_,fun j hj=>?_⟩
   ·cases j with
    | zero=>rw [Nat.add_zero,List.getElem?_append_right (by omega),hpl,Nat.sub_self]; rfl
    | succ j=>
     have:=k2 j (by simpa using hj)
     rw [show i+(j+1)=i+1+j by omega,this]; rfl
   ·cases j with
    | zero=>simp only [List.length_append,List.length_cons]; omega
    | succ j=>
     have:=k3 j (by simpa using hj)
     omega
  ·cases hl
theorem EM (hi:Inv b S w c) {E:Env} {d:Nat}:∀ (xs:List (SV×TypeId)) (mvs:List Nat) (us:List Value) (C:AC) (vals:List Value) (F:List Nat) {C':AC},All2 (fun x u=>AI S c w (Kok b S c) x.1 u) xs us→AInv b S c w C vals F→
  (G5 E d mvs xs C).ev S=some C'→∃ F',AInv b S c w C' (vals++us) F'
 | [],mvs,_,C,vals,F,C',.nil,hA,h=>by
  rw [G5] at h
  simp only [Tr.ev,Option.some.injEq] at h
  subst h
  exact ⟨F,by rw [List.append_nil]; exact hA⟩
 | (x,t)::xs,mvs,_,C,vals,F,C',.cons (b:=u) (bs:=us) h1 h2,hA,h=>by
  unfold G5 at h
  rw [show vals++u::us=(vals++[u])++us by simp]
  simp only at h h1
  split at h
  ·simp only [Ai,Option.bind_eq_some_iff] at h
   obtain ⟨y,hy,h⟩:=h
   rename_i l
   obtain ⟨k1,k2,G,k4,k5,k6,k7⟩:=PQ hi (AY h1) hy
   refine EM hi xs _ us _ _ _ h2 (hA.step hi (a:=.one y.1) k1 k2 (fun B ms hB=>k4 B hB) (fun _=>k5) k6 ?_) h
   intro _ e he
   split at he
   ·rename_i hm
    obtain ⟨q1,q2⟩:=k7 hm _ e he
    have hlen:C.as.length=vals.length:=(hA.fl [] []).len.symm
    refine ⟨u,?_,q2⟩
    rw [q1,hlen]
    exact AaN (YO hi (AY h1) he)
   ·cases he
  ·simp only [Ai,Option.bind_eq_some_iff] at h
   obtain ⟨y,hy,h⟩:=h
   obtain ⟨vs,rfl,hall⟩:=h1
   obtain ⟨k1,k2,G,k4,k5,k6,k7⟩:=OP hi hall hy
   refine EM hi xs _ us _ _ _ h2 (hA.step hi (a:=.ag y.1) k1 k2 (fun B ms hB=>⟨vs,rfl,k4 B hB⟩) k5 k6 ?_) h
   intro hu e he
   split at he
   ·rename_i hm
    obtain ⟨n,u,q1,q2,q3⟩:=k7 hm hu _ _ e he
    have hlen:C.as.length=vals.length:=(hA.fl [] []).len.symm
    refine ⟨u,?_,q3⟩
    rw [q1,hlen,Nat.zero_add]
    exact Aa9 q2
   ·cases he
  ·rename_i u' x' off
   have hx:AInv b S c w { C with as:=C.as++[A1.rp u' x' off] } (vals++[u]) F:=by
    refine ⟨fun eb em=>?_,hA.held,hA.gv,hA.bw,hA.nd,hA.ms,hA.un,fun hu e he=>(hA.ln hu e he).imp fun _ h=>⟨EO h.1,h.2⟩⟩
    obtain ⟨a,vs,e,q1,q2,q3,q4⟩:=h1
    have:=(hA.fl eb em).snoc (x:=A1.rp u' x' off) (v:=u) (G:=[]) ⟨rfl,a,vs,e,Rp.mono (fun g _ h=>.inl h) _ _ q1,.inl q2,q3,q4⟩
    rwa [List.append_nil] at this
   split at h
   ·split at h
    ·split at h
     ·exact EM hi xs _ us _ _ _ h2 hx h
     ·split at h
      ·rename_i ls hls
       obtain ⟨a,vs,e,q1,q2,q3,q4⟩:=h1
       obtain ⟨ws,k1,k2,k3⟩:=RB q1 _ _ hls
       have hx2:AInv b S c w { C with as:=C.as++[A1.rp (BF ls).1 (BF ls).2 0] } (vals++[u]) F:=by
        refine ⟨fun eb em=>?_,hA.held,hA.gv,hA.bw,hA.nd,hA.ms,hA.un,fun hu e he=>(hA.ln hu e he).imp fun _ h=>⟨EO h.1,h.2⟩⟩
        have:=(hA.fl eb em).snoc (x:=A1.rp (BF ls).1 (BF ls).2 0) (v:=u) (G:=[]) ⟨rfl,a.add off,ws,by rw [e,add_add,Nat.add_zero],Lh _ (k1.mono fun _ _ _ h=>ALOk.mono (fun g _ h=>.inl h) h),by rw [C9]; exact .inl q2,by rw [C9]; exact q3,fun j hj=>by
         rw [add_add,q4 _ (k3 j hj)]; exact k2 j hj⟩
        rwa [List.append_nil] at this
       exact EM hi xs _ us _ _ _ h2 hx2 h
      ·simp [Tr.ev] at h
    ·simp [Tr.ev] at h
   ·exact EM hi xs _ us _ _ _ h2 hx h
  ·rename_i k off
   split at h
   ·split at h
    ·rename_i ts _
     simp only [Tr.ev] at h
     obtain ⟨n,hn,rfl⟩:=h1
     simp only [hn] at h
     split at h
     ·rename_i hle
      simp only [Ai,Option.bind_eq_some_iff] at h
      obtain ⟨y,hy,h⟩:=h
      obtain ⟨cs,e,fr,g1,g2,g3,g4,_⟩:=hi.ms k _ hn
      have hwl:((cs.toList.drop (c.mo k+off)).take ts.length).length=ts.length:=by
       rw [List.length_take,List.length_drop,Array.length_toList (xs:=cs)]; omega
      have hwg:∀ j,j < ts.length→((cs.toList.drop (c.mo k+off)).take ts.length)[j]?=cs[c.mo k+(off+j)]?:=by
       intro j hj
       rw [List.getElem?_take_of_lt hj,List.getElem?_drop,Array.getElem?_toList,Nat.add_assoc]
      have hfl:=PV hi k ts off _ hwl (fun j v hv=>by
       have hj:j < ts.length:=by rw [← hwl]; exact (List.getElem?_eq_some_iff.1 hv).1
       rw [hwg j hj] at hv
       exact g4 (off+j) v (by omega) hv) hy
      have hlt:c.mb k < w.heap.size:=(hi.fr _ (.inl ⟨k,by rw [hn]; simp,rfl⟩)).1
      have hx:AInv b S c w { C with as:=C.as++[A1.rp (BF y.1).1 (BF y.1).2 0],bw:=C.bw++k::y.2 } (vals++[.pointer (some ⟨c.mb k,c.mo k+off,none⟩)]) F:=by
       refine ⟨fun eb em=>?_,hA.held,hA.gv,trivial,hA.nd,hA.ms,hA.un,fun hu e he=>(hA.ln hu e he).imp fun _ h=>⟨EO h.1,h.2⟩⟩
       have h0:=hA.fl ((k::y.2)++eb) em
       rw [← List.append_assoc] at h0
       have:=h0.snoc (x:=A1.rp (BF y.1).1 (BF y.1).2 0) (v:=.pointer (some ⟨c.mb k,c.mo k+off,none⟩)) (G:=[]) ⟨rfl,⟨c.mb k,c.mo k+off,none⟩,_,by simp [Addr.add],Lh _ (hfl _ fun k' hk'=>by simp [hk']),
        .inr (.inr ⟨k,by simp,by rw [hn]; simp,rfl⟩),hlt,fun j hj=>by
         rw [AT,AV g1,Nat.add_assoc]
         exact (hwg j (by omega)).symm⟩
       rwa [List.append_nil] at this
      exact EM hi xs _ us _ _ _ h2 hx h
     ·simp [Tr.ev] at h
    ·simp [Tr.ev] at h
   simp only [Ai,Option.bind_eq_some_iff] at h
   obtain ⟨y,hy,h⟩:=h
   obtain ⟨n,hn,rfl⟩:=h1
   obtain ⟨q1,q2,_,q4⟩:=O2 hA hn hy
   have hx:AInv b S c w { y.2 with as:=y.2.as++[A1.pl y.1.1 y.1.2] } (vals++[.pointer (some ⟨c.mb k,c.mo k+off,none⟩)]) F:=by
    refine ⟨fun eb em=>?_,q1.held,q1.gv,q1.bw,q1.nd,q1.ms,q1.un,fun hu e he=>(q1.ln hu e he).imp fun _ h=>⟨EO h.1,h.2⟩⟩
    obtain ⟨q,g1,g2,g3⟩:=q4 em
    have:=(q1.fl eb em).snoc (x:=A1.pl y.1.1 y.1.2) (v:=.pointer (some ⟨c.mb k,c.mo k+off,none⟩)) (G:=[]) ⟨rfl,q,g1,by rw [g2,g3]⟩
    rwa [List.append_nil] at this
   exact EM hi xs _ us _ _ _ h2 hx h
  ·rename_i f cs
   simp only [Ai,Option.bind_eq_some_iff] at h
   obtain ⟨y,hy,h⟩:=h
   obtain ⟨vs,rfl,hvs⟩:=h1
   obtain ⟨q1,_,q2⟩:=Qh cs _ hvs hA hy
   have hx:AInv b S c w { y.2 with as:=y.2.as++[A1.fv f y.1] } (vals++[.func (.func f) #[] vs.toArray]) F:=by
    refine ⟨fun eb em=>?_,q1.held,q1.gv,q1.bw,q1.nd,q1.ms,q1.un,fun hu e he=>(q1.ln hu e he).imp fun _ h=>⟨EO h.1,h.2⟩⟩
    have:=(q1.fl eb em).snoc (x:=A1.fv f y.1) (v:=.func (.func f) #[] vs.toArray) (G:=[]) ⟨rfl,vs,rfl,q2.mono fun p v h=>⟨_,(h em).choose_spec⟩⟩
    rwa [List.append_nil] at this
   exact EM hi xs _ us _ _ _ h2 hx h
  ·simp [Tr.ev] at h
abbrev loc (mb mo:Nat→Nat) (p:Nat×Nat):Nat×Nat:=(mb p.1,mo p.1+p.2)
theorem Y0 (hi:Inv b S w c) {mk:List (Nat×Nat)} {t:Ty} {l:Leaf} {v:Value} {y:Ae×List Nat×List Nat} (hl:LeafOk S c w (Kok b S c) l v) (h:(So mk t l).ev S=some y) :
  Ows S y.2.2∧∃ G,(∀ B,ROk w (KB b S c B) (mk.map (loc c.mb c.mo)) y.1 v G)∧G.Nodup∧B7 c y.2.2 G:=by
 unfold So at h
 split at h
 ·rename_i k off
  split at h
  ·rename_i a ha
   simp only [Tr.ev,Option.some.injEq] at h
   subst h
   obtain ⟨n,_,rfl⟩:=hl
   unfold XY at ha
   split at ha
   ·rename_i m hm
    split at ha
    ·rename_i hmk
     injection ha with ha
     subst ha
     refine ⟨fun k hk=>(by cases hk),[],fun B=>.inr ⟨rfl,_,_,rfl,by rw [List.getElem?_map,hm]; rfl,?_⟩,by simp,fun g hg=>(by cases hg)⟩
     simp only [loc,hmk.1]
     congr 3
     omega
    ·cases ha
   ·cases ha
  ·simp [Tr.ev] at h
 ·obtain ⟨k1,k2,k3,G,k4,k5,k6⟩:=JA hi hl h
  exact ⟨k2,G,fun B=>.inl (k4 B fun k hk=>by rw [k3 rfl] at hk; cases hk),k5,k6⟩
theorem OK (hi:Inv b S w c) (mk:List (Nat×Nat)) (k:Nat):∀ (ts:List Ty) (i:Nat) (vs:List Value) {y:List Ae×List Nat},vs.length=ts.length→(∀ j v,vs[j]?=some v→LeafOk S c w (Kok b S c) (S.mc k (i+j)) v)→(I5 mk k ts i).ev S=some y→
  Ows S y.2∧∃ G,(∀ B,FL (ROk w (KB b S c B) (mk.map (loc c.mb c.mo))) y.1 vs G)∧(AB y.2=true→G.Nodup)∧B7 c y.2 G
 | [],i,vs,y,hl,_,h=>by
  rw [I5] at h
  simp only [Tr.ev,Option.some.injEq] at h
  subst h
  obtain rfl:vs=[]:=List.eq_nil_of_length_eq_zero hl
  exact ⟨fun k hk=>(by cases hk),[],fun B=>⟨rfl,rfl⟩,fun _=>by simp,fun g hg=>(by cases hg)⟩
 | t::ts,i,[],y,hl,_,_=>by simp at hl
 | t::ts,i,v::vs,y,hl,hc,h=>by
  rw [I5] at h
  simp only [Tr.ev,Ai,Option.bind_eq_some_iff,Option.some.injEq] at h
  obtain ⟨y1,hy1,y2,hy2,rfl⟩:=h
  obtain ⟨k2,G,k4,k5,k6⟩:=Y0 hi (hc 0 v rfl) hy1
  obtain ⟨m2,H,m4,m5,m6⟩:=OK hi mk k ts (i+1) vs (by simpa using hl) (fun j v hv=>by
   have:=hc (j+1) v (by simpa using hv)
   rwa [show i+(j+1)=i+1+j by omega] at this) hy2
  refine ⟨CE k2 m2,G++H,fun B=>⟨v,vs,G,H,rfl,rfl,k4 B,m4 B⟩,?_,?_⟩
  ·intro hu
   obtain ⟨u1,u2,_⟩:=AJ hu
   exact (CC hi k6 m6 k2 m2 hu k5 (m5 u2)).2
  ·intro g hg
   rcases List.mem_append.1 hg with hg | hg
   ·obtain ⟨k,h,h'⟩:=k6 g hg; exact ⟨k,by simp [h],h'⟩
   ·obtain ⟨k,h,h'⟩:=m6 g hg; exact ⟨k,by simp [h],h'⟩
theorem Uw (hi:Inv b S w c) (mk:List (Nat×Nat)):∀ (ms:List ((Nat×Nat)×List Ty)) {y:List (List Ae)×List Nat},(∀ p,p∈ms→∃ n,S.ms p.1.1=some n∧p.1.2+p.2.length≤n)→(N0 mk ms).ev S=some y→
  Ows S y.2∧∃ G,(∀ B,RowsOk w (KB b S c B) (mk.map (loc c.mb c.mo)) (ms.map (plc c)) y.1 G)∧(AB y.2=true→G.Nodup)∧B7 c y.2 G
 | [],y,_,h=>by
  rw [N0] at h
  simp only [Tr.ev,Option.some.injEq] at h
  subst h
  exact ⟨fun k hk=>(by cases hk),[],fun B=>⟨rfl,rfl⟩,fun _=>by simp,fun g hg=>(by cases hg)⟩
 | ((k,o),ts)::ms,y,hm,h=>by
  rw [N0] at h
  simp only [Tr.ev,Ai,Option.bind_eq_some_iff,Option.some.injEq] at h
  obtain ⟨y1,hy1,y2,hy2,rfl⟩:=h
  obtain ⟨n,hk,hle⟩:=hm ((k,o),ts) (by simp)
  simp only at hk hle hy1
  obtain ⟨cs,e,fr,h1,h2,h3,h4,_⟩:=hi.ms k _ hk
  have hwl:((cs.toList.drop (c.mo k+o)).take ts.length).length=ts.length:=by
   rw [List.length_take,List.length_drop,Array.length_toList (xs:=cs)]; omega
  obtain ⟨k2,G,k4,k5,k6⟩:=OK hi mk k ts o _ hwl (fun j v hv=>by
   have hj:j < ts.length:=by rw [← hwl]; exact (List.getElem?_eq_some_iff.1 hv).1
   rw [List.getElem?_take_of_lt hj,List.getElem?_drop,Array.getElem?_toList,Nat.add_assoc] at hv
   exact h4 (o+j) v (by omega) hv) hy1
  obtain ⟨m2,H,m4,m5,m6⟩:=Uw hi mk ms (fun p hp=>hm p (by simp [hp])) hy2
  have hl1:y1.1.length=ts.length:=by rw [← hwl]; exact (k4 []).len.symm
  refine ⟨CE k2 m2,G++H,fun B=>⟨y1.1,y2.1,cs,e,fr,G,H,rfl,rfl,h1,h3,⟨by rw [hl1]; show c.mo k+o+ts.length≤_; omega,by rw [hl1]; exact k4 B⟩,m4 B⟩,?_,?_⟩
  ·intro hu
   obtain ⟨u1,u2,_⟩:=AJ hu
   exact (CC hi k6 m6 k2 m2 hu (k5 u1) (m5 u2)).2
  ·intro g hg
   rcases List.mem_append.1 hg with hg | hg
   ·obtain ⟨k,h,h'⟩:=k6 g hg; exact ⟨k,by simp [h],h'⟩
   ·obtain ⟨k,h,h'⟩:=m6 g hg; exact ⟨k,by simp [h],h'⟩
theorem IC (k:Nat):∀ (n j:Nat) (ts:List (List Ty)) {C:AC} {vals:List Value} {F:List Nat} {y:List (List Ty)×AC},AInv b S c w C vals F→(Hk k n j ts C).ev S=some y→
  AInv b S c w y.2 vals F∧(∃ more,y.2.ms=C.ms++more)∧y.2.as=C.as∧y.2.bw=C.bw∧y.2.gv=C.gv∧y.2.ln=C.ln
 | 0,j,ts,C,vals,F,y,hA,h=>by
  simp only [Hk,Tr.ev,Option.some.injEq] at h
  subst h
  exact ⟨hA,⟨[],by simp⟩,rfl,rfl,rfl,rfl⟩
 | n+1,j,ts,C,vals,F,y,hA,h=>by
  simp only [Hk,Tr.ev] at h
  split at h
  ·rename_i k' _ _
   split at h
   ·exact IC k n (j+1) ts hA h
   ·simp only [Tr.ev] at h
    split at h
    ·rename_i hm
     obtain ⟨m,hm⟩:=Option.isSome_iff_exists.1 hm
     simp only [Ai,Option.bind_eq_some_iff] at h
     obtain ⟨y1,hy1,h⟩:=h
     obtain ⟨q1,⟨m1,e1⟩,⟨a1,a2,a3⟩,_⟩:=O2 hA hm hy1
     obtain ⟨r1,⟨m2,e2⟩,b1,b2,b3,b4⟩:=IC k n (j+1) ts.tail q1 h
     exact ⟨r1,⟨m1++m2,by rw [e2,e1,List.append_assoc]⟩,b1.trans a1,b2.trans a2,b3.trans a3,b4.trans (AaM hm hy1)⟩
    ·simp [Tr.ev] at h
  ·exact IC k n (j+1) ts hA h
theorem TT:∀ (n i:Nat) (ts:List (List Ty)) {C C':AC} {vals:List Value} {F:List Nat},AInv b S c w C vals F→(N3 n i ts C).ev S=some C'→
  AInv b S c w C' vals F∧(∃ more,C'.ms=C.ms++more)∧C'.as=C.as∧C'.bw=C.bw∧C'.gv=C.gv∧C'.ln=C.ln
 | 0,i,ts,C,C',vals,F,hA,h=>by
  simp only [N3,Tr.ev,Option.some.injEq] at h
  subst h
  exact ⟨hA,⟨[],by simp⟩,rfl,rfl,rfl,rfl⟩
 | n+1,i,ts,C,C',vals,F,hA,h=>by
  simp only [N3] at h
  split at h
  ·simp only [Ai,Option.bind_eq_some_iff] at h
   obtain ⟨y,hy,h⟩:=h
   obtain ⟨q1,⟨m1,e1⟩,a1,a2,a3,a4⟩:=IC _ _ _ _ hA hy
   obtain ⟨r1,⟨m2,e2⟩,b1,b2,b3,b4⟩:=TT n (i+1) y.1 q1 h
   exact ⟨r1,⟨m1++m2,by rw [e2,e1,List.append_assoc]⟩,b1.trans a1,b2.trans a2,b3.trans a3,b4.trans a4⟩
  ·simp only [Tr.ev,Option.some.injEq] at h
   subst h
   exact ⟨hA,⟨[],by simp⟩,rfl,rfl,rfl,rfl⟩
end
end Go.V
namespace Go.V
open Go.RowKit
theorem AG {β:Type}:∀ {l:List (Nat×β)} {k:Nat} {x:β},find l k=some x→(k,x)∈l
 | [],_,_,h=>by simp [find] at h
 | (i,y)::l,k,x,h=>by
  simp only [find] at h
  split at h
  ·rename_i hk; subst hk; injection h with h; subst h; simp
  ·exact List.mem_cons_of_mem _ (AG h)
theorem Dj {β:Type}:∀ {l:List (Nat×β)} {k:Nat} {x:β},(l.map (·.1)).Nodup→(k,x)∈l→find l k=some x
 | [],_,_,_,h=>by cases h
 | (i,y)::l,k,x,hn,h=>by
  rw [List.map_cons,List.nodup_cons] at hn
  simp only [find]
  rcases List.mem_cons.1 h with h' | h'
  ·injection h' with h1 h2; subst h1 h2; simp
  ·have hne:¬ k=i:=by
    rintro rfl
    exact hn.1 (List.mem_map.2 ⟨(k,x),h',rfl⟩)
   rw [if_neg hne]; exact Dj hn.2 h'
theorem HE {β:Type}:∀ {l:List (Nat×β)} {k:Nat},k∉l.map (·.1)→find l k=none
 | [],_,_=>rfl
 | (i,y)::l,k,h=>by
  simp only [List.map_cons,List.mem_cons,not_or] at h
  simp only [find,if_neg h.1]; exact HE h.2
theorem BD:∀ {l:List Nat},AB l=true→l.Nodup
 | [],_=>by simp
 | k::l,h=>by
  obtain ⟨h1,h2⟩:=PW h
  exact List.nodup_cons.2 ⟨h1,BD h2⟩
theorem QM:∀ (l:List (Nat×Own)) (S:St),(l.map (·.1)).Nodup→(S.ups (Gr l)).ms=S.ms∧(S.ups (Gr l)).mc=S.mc∧(S.ups (Gr l)).sl=S.sl∧∀ k,(S.ups (Gr l)).ow k=match find l k with | some o=>some o | none=>S.ow k
 | [],S,_=>⟨rfl,rfl,rfl,fun _=>rfl⟩
 | p::l,S,h=>by
  rw [List.map_cons,List.nodup_cons] at h
  obtain ⟨h1,h2,h3,h4⟩:=QM l (S.up (.ow p.1 (some p.2))) h.2
  refine ⟨h1,h2,h3,fun k=>?_⟩
  show ((S.up (.ow p.1 (some p.2))).ups (Gr l)).ow k=_
  rw [h4]
  obtain ⟨i,o⟩:=p
  simp only [find]
  by_cases hk:k=i
  ·subst hk
   rw [HE h.1]; simp [St.up]
  ·simp only [if_neg hk]
   have:(S.up (.ow i (some o))).ow k=S.ow k:=by show (if k=i then some o else S.ow k)=_; rw [if_neg hk]
   rw [this]
theorem Vz (k:Nat):∀ (ls:List Leaf) (off:Nat) (S:St),(S.ups (Gi k ls off)).ms=S.ms∧(S.ups (Gi k ls off)).ow=S.ow∧(S.ups (Gi k ls off)).sl=S.sl∧
  ∀ k' i,(S.ups (Gi k ls off)).mc k' i=if k'=k∧off≤i∧i < off+ls.length then ls.getD (i - off) .no else S.mc k' i
 | [],off,S=>⟨rfl,rfl,rfl,fun k' i=>by rw [if_neg (by simp only [List.length_nil]; omega)]; rfl⟩
 | l::ls,off,S=>by
  obtain ⟨h1,h2,h3,h4⟩:=Vz k ls (off+1) (S.up (.mc k off l))
  refine ⟨h1,h2,h3,fun k' i=>?_⟩
  show ((S.up (.mc k off l)).ups (Gi k ls (off+1))).mc k' i=_
  rw [h4]
  by_cases hk:k'=k
  ·subst hk
   by_cases h5:off+1≤i∧i < off+1+ls.length
   ·rw [if_pos ⟨rfl,h5⟩,if_pos ⟨rfl,by simp only [List.length_cons]; omega⟩,show i - off=(i - (off+1))+1 by omega,List.getD_cons_succ]
   ·rw [if_neg (by rintro ⟨_,h⟩; exact h5 h)]
    show (if k'=k' then (if i=off then l else S.mc k' i) else S.mc k' i)=_
    rw [if_pos rfl]
    by_cases hio:i=off
    ·subst hio
     rw [if_pos rfl,if_pos ⟨rfl,by simp only [List.length_cons]; omega⟩,Nat.sub_self]; rfl
    ·rw [if_neg hio,if_neg (by simp only [List.length_cons]; omega)]
  ·rw [if_neg (by rintro ⟨h,_⟩; exact hk h),if_neg (by rintro ⟨h,_⟩; exact hk h)]
   show (if k'=k then _ else S.mc k' i)=_
   rw [if_neg hk]
theorem VD:∀ (l:List ((Nat×Nat)×List Leaf)) (S:St),(l.map (·.1.1)).Nodup→(S.ups (Hd l)).ms=S.ms∧(S.ups (Hd l)).ow=S.ow∧(S.ups (Hd l)).sl=S.sl∧
  (∀ k i,k∉l.map (·.1.1)→(S.ups (Hd l)).mc k i=S.mc k i)∧∀ p,p∈l→∀ i,(S.ups (Hd l)).mc p.1.1 i=if p.1.2≤i∧i < p.1.2+p.2.length then p.2.getD (i - p.1.2) .no else S.mc p.1.1 i
 | [],S,_=>⟨rfl,rfl,rfl,fun _ _ _=>rfl,fun _ h=>by cases h⟩
 | p::l,S,h=>by
  rw [List.map_cons,List.nodup_cons] at h
  obtain ⟨a1,a2,a3,a4⟩:=Vz p.1.1 p.2 p.1.2 S
  obtain ⟨h1,h2,h3,h4,h5⟩:=VD l (S.ups (Gi p.1.1 p.2 p.1.2)) h.2
  have e:S.ups (Hd (p::l))=(S.ups (Gi p.1.1 p.2 p.1.2)).ups (Hd l):=D4 _ _ _
  rw [e]
  refine ⟨h1.trans a1,h2.trans a2,h3.trans a3,fun k i hk=>?_,fun q hq i=>?_⟩
  ·simp only [List.map_cons,List.mem_cons,not_or] at hk
   rw [h4 k i hk.2,a4,if_neg (by rintro ⟨h,_⟩; exact hk.1 h)]
  ·rcases List.mem_cons.1 hq with rfl | hq
   ·rw [h4 _ i h.1,a4]
    by_cases hc:q.1.2≤i∧i < q.1.2+q.2.length
    ·rw [if_pos ⟨rfl,hc⟩,if_pos hc]
    ·rw [if_neg (fun h=>hc h.2),if_neg hc]
   ·rw [h5 q hq i,a4]
    have hne:¬ q.1.1=p.1.1:=fun hx=>h.1 (hx ▸ List.mem_map.2 ⟨q,hq,rfl⟩)
    rw [if_neg (fun h:q.1.1=p.1.1∧p.1.2≤i∧i < p.1.2+p.2.length=>hne h.1)]
def Io (w:World) (K:Nat→Prop) (p:Nat×Own) (n:New) (F:List Nat):Prop:=n.o=p.2∧F=n.F∧Rp w K (.sl true n.o.e n.o.r) n.o.xs [n.h] n.F
def Hv (S:St) (c:Cc) (l:List (Nat×Own)) (ns:List New):Prop:=∀ k n,(k,n)∈(l.map (·.1)).zip ns→S.ow k=some n.o∧c.hv k=n.h
section
variable {w:World} {K:Nat→Prop}
theorem Hv.left {S:St} {c:Cc} {l l':List (Nat×Own)} {ns ns':List New} (hl:ns.length=l.length) (h:Hv S c (l++l') (ns++ns')):Hv S c l ns:=fun k n hk=>h k n (by
 rw [List.map_append,List.zip_append (by simp [hl])]; exact List.mem_append.2 (.inl hk))
theorem Hv.right {S:St} {c:Cc} {l l':List (Nat×Own)} {ns ns':List New} (hl:ns.length=l.length) (h:Hv S c (l++l') (ns++ns')):Hv S c l' ns':=fun k n hk=>h k n (by
 rw [List.map_append,List.zip_append (by simp [hl])]; exact List.mem_append.2 (.inr hk))
theorem LE (key:Nat) {l:Ae} {v:Value} {F:List Nat} (h:ALOk w K l v F):∃ ns,FL (Io w K) (CK key l).2 ns F∧∀ S c,Hv S c (CK key l).2 ns→LeafOk S c w K (CK key l).1 v:=by
 obtain ⟨t,x⟩:=l
 have other:CK key ⟨t,x⟩=(.v t x,[])→t.own=false→∃ ns,FL (Io w K) (CK key ⟨t,x⟩).2 ns F∧∀ S c,Hv S c (CK key ⟨t,x⟩).2 ns→LeafOk S c w K (CK key ⟨t,x⟩).1 v:=by
  intro e ho
  have hF:=h.2 ho
  subst hF
  rw [e]
  exact ⟨[],⟨rfl,rfl⟩,fun _ _ _=>h.1⟩
 cases t with
 | sl o e r=>
  cases o with
  | true=>
   refine ⟨[⟨⟨e,r,x⟩,v,F⟩],⟨_,[],F,[],rfl,by simp,⟨rfl,rfl,h.1⟩,rfl,rfl⟩,fun S c hv=>?_⟩
   obtain ⟨h1,h2⟩:=hv key ⟨⟨e,r,x⟩,v,F⟩ (by simp [CK])
   exact ⟨_,e,r,x,v,h1,rfl,by rw [h2]; rfl,rfl⟩
  | false=>exact other rfl rfl
 | _=>exact other rfl rfl
theorem Nv:∀ (ls:List Ae) (key:Nat) {vs:List Value} {F:List Nat},FL (ALOk w K) ls vs F→
  ∃ ns,FL (Io w K) (E3 key ls).2 ns F∧∀ S c,Hv S c (E3 key ls).2 ns→All2 (LeafOk S c w K) (E3 key ls).1 vs
 | [],key,_,_,h=>by
  obtain ⟨rfl,rfl⟩:=h
  exact ⟨[],⟨rfl,rfl⟩,fun _ _ _=>.nil⟩
 | l::ls,key,_,_,h=>by
  obtain ⟨v,vs,F1,F2,rfl,rfl,h1,h2⟩:=h
  obtain ⟨n1,k1,k2⟩:=LE key h1
  obtain ⟨n2,k3,k4⟩:=Nv ls (key+1) h2
  exact ⟨n1++n2,k1.append k3,fun S c hv=>.cons (k2 S c (Hv.left k1.len hv)) (k4 S c (Hv.right k1.len hv))⟩
theorem AbA (msK:List (Nat×Nat)) (mb mo:Nat→Nat) (key:Nat) {a:A1} {v:Value} {F:List Nat} {x:S1×List (Nat×Own)} (h:A1Ok w K (msK.map (loc mb mo)) a v F) (hb:Na msK key a=some x) :
  ∃ ns,FL (Io w K) x.2 ns F∧∀ S c,Hv S c x.2 ns→(∀ k,k∈msK→S.ms k.1≠none)→(∀ k,k∈msK→c.mb k.1=mb k.1∧c.mo k.1=mo k.1)→S1Ok S c w K x.1 v:=by
 cases a with
 | one l=>
  simp only [Na,Option.some.injEq] at hb
  subst hb
  obtain ⟨ns,h1,h2⟩:=LE key h
  exact ⟨ns,h1,fun S c hv _ _=>h2 S c hv⟩
 | ag ls=>
  simp only [Na,Option.some.injEq] at hb
  subst hb
  obtain ⟨vs,rfl,h⟩:=h
  obtain ⟨ns,h1,h2⟩:=Nv ls key h
  exact ⟨ns,h1,fun S c hv _ _=>⟨vs,rfl,h2 S c hv⟩⟩
 | pl m off=>
  simp only [Na] at hb
  split at hb
  ·rename_i k hk
   simp only [Option.some.injEq] at hb
   subst hb
   obtain ⟨rfl,g,hg,rfl⟩:=h
   rw [List.getElem?_map,hk] at hg
   simp only [Option.map_some,Option.some.injEq] at hg
   subst hg
   refine ⟨[],⟨rfl,rfl⟩,fun S c _ h1 h2=>?_⟩
   have hm:=List.mem_of_getElem? hk
   obtain ⟨n,hn⟩:=Option.ne_none_iff_exists'.1 (h1 k hm)
   exact ⟨n,hn,by rw [(h2 k hm).1,(h2 k hm).2,Nat.add_assoc]⟩
  ·cases hb
 | rp t y off=>
  simp only [Na,Option.some.injEq] at hb
  subst hb
  obtain ⟨rfl,h⟩:=h
  exact ⟨[],⟨rfl,rfl⟩,fun S c _ _ _=>h⟩
 | fv f cs=>
  simp only [Na] at hb
  split at hb
  ·rename_i l hl
   simp only [Option.some.injEq] at hb
   subst hb
   obtain ⟨rfl,vs,rfl,h⟩:=h
   refine ⟨[],⟨rfl,rfl⟩,fun S c _ h1 h2=>⟨vs,rfl,?_⟩⟩
   have key:∀ (cs l:List (Nat×Nat)) (vs:List Value),All2 (fun p v=>∃ g,(msK.map (loc mb mo))[p.1]?=some g∧v=.pointer (some ⟨g.1,g.2+p.2,none⟩)) cs vs→Me msK cs=some l→All2 (SC S c) l vs:=by
    intro cs l vs h
    induction h generalizing l with
    | nil=>intro hl; simp only [Me,Option.some.injEq] at hl; subst hl; exact .nil
    | @cons p v cs vs q1 _ ih=>
     intro hl
     simp only [Me] at hl
     split at hl
     ·rename_i k l' e1 e2
      simp only [Option.some.injEq] at hl
      subst hl
      obtain ⟨g,hg,rfl⟩:=q1
      rw [List.getElem?_map,e1] at hg
      simp only [Option.map_some,Option.some.injEq] at hg
      subst hg
      have hm:=List.mem_of_getElem? e1
      obtain ⟨n,hn⟩:=Option.ne_none_iff_exists'.1 (h1 k hm)
      exact .cons ⟨n,hn,by rw [(h2 k hm).1,(h2 k hm).2,Nat.add_assoc]⟩ (ih l' e2)
     ·cases hl
   exact key cs l vs h hl
  ·cases hb
theorem LN (msK:List (Nat×Nat)) (mb mo:Nat→Nat):∀ (as:List A1) (key:Nat) {vs:List Value} {F:List Nat} {x:List S1×List (Nat×Own)},FL (A1Ok w K (msK.map (loc mb mo))) as vs F→Hs msK key as=some x→
  ∃ ns,FL (Io w K) x.2 ns F∧∀ S c,Hv S c x.2 ns→(∀ k,k∈msK→S.ms k.1≠none)→(∀ k,k∈msK→c.mb k.1=mb k.1∧c.mo k.1=mo k.1)→All2 (S1Ok S c w K) x.1 vs
 | [],key,_,_,x,h,hb=>by
  obtain ⟨rfl,rfl⟩:=h
  simp only [Hs,Option.some.injEq] at hb
  subst hb
  exact ⟨[],⟨rfl,rfl⟩,fun _ _ _ _ _=>.nil⟩
 | a::as,key,_,_,x,h,hb=>by
  obtain ⟨v,vs,F1,F2,rfl,rfl,h1,h2⟩:=h
  simp only [Hs] at hb
  split at hb
  ·rename_i x1 x2 e1 e2
   simp only [Option.some.injEq] at hb
   subst hb
   obtain ⟨n1,k1,k2⟩:=AbA msK mb mo key h1 e1
   obtain ⟨n2,k3,k4⟩:=LN msK mb mo as (key+64) h2 e2
   exact ⟨n1++n2,k1.append k3,fun S c hv g1 g2=>.cons (k2 S c (Hv.left k1.len hv) g1 g2) (k4 S c (Hv.right k1.len hv) g1 g2)⟩
  ·cases hb
theorem Xz (mk:List (Nat×Nat)) (mb mo:Nat→Nat) (key:Nat) {l:Ae} {v:Value} {F:List Nat} (h:ROk w K (mk.map (loc mb mo)) l v F) :
  ∃ ns,FL (Io w K) (FR mk key l).2 ns F∧∀ S c,Hv S c (FR mk key l).2 ns→(∀ k,k∈mk→S.ms k.1≠none)→(∀ k,k∈mk→c.mb k.1=mb k.1∧c.mo k.1=mo k.1)→LeafOk S c w K (FR mk key l).1 v:=by
 rcases h with h | ⟨rfl,p,g,rfl,hg,rfl⟩
 ·have e:FR mk key l=CK key l:=by
   unfold FR
   split
   ·exact absurd h.1 (by simp only [Rp]; exact fun h=>h)
   ·rfl
  rw [e]
  obtain ⟨ns,h1,h2⟩:=LE key h
  exact ⟨ns,h1,fun S c hv _ _=>h2 S c hv⟩
 ·rw [List.getElem?_map,Option.map_eq_some_iff] at hg
  obtain ⟨k,hk,rfl⟩:=hg
  refine ⟨[],⟨rfl,rfl⟩,fun S c _ h1 h2=>?_⟩
  have hm:=List.mem_of_getElem? hk
  obtain ⟨n,hn⟩:=Option.ne_none_iff_exists'.1 (h1 k hm)
  simp only [FR,hk]
  exact ⟨n,hn,by rw [(h2 k hm).1,(h2 k hm).2,Nat.add_assoc]⟩
theorem N1 (mk:List (Nat×Nat)) (mb mo:Nat→Nat):∀ (ls:List Ae) (key:Nat) {vs:List Value} {F:List Nat},FL (ROk w K (mk.map (loc mb mo))) ls vs F→
  ∃ ns,FL (Io w K) (D5 mk key ls).2 ns F∧∀ S c,Hv S c (D5 mk key ls).2 ns→(∀ k,k∈mk→S.ms k.1≠none)→(∀ k,k∈mk→c.mb k.1=mb k.1∧c.mo k.1=mo k.1)→All2 (LeafOk S c w K) (D5 mk key ls).1 vs
 | [],key,_,_,h=>by
  obtain ⟨rfl,rfl⟩:=h
  exact ⟨[],⟨rfl,rfl⟩,fun _ _ _ _ _=>.nil⟩
 | l::ls,key,_,_,h=>by
  obtain ⟨v,vs,F1,F2,rfl,rfl,h1,h2⟩:=h
  obtain ⟨n1,k1,k2⟩:=Xz mk mb mo key h1
  obtain ⟨n2,k3,k4⟩:=N1 mk mb mo ls (key+1) h2
  exact ⟨n1++n2,k1.append k3,fun S c hv g1 g2=>.cons (k2 S c (Hv.left k1.len hv) g1 g2) (k4 S c (Hv.right k1.len hv) g1 g2)⟩
theorem Hc (mk:List (Nat×Nat)):∀ (ls:List Ae) (key:Nat),(D5 mk key ls).1.length=ls.length
 | [],_=>rfl
 | l::ls,key=>by simp [D5,Hc mk ls (key+1)]
theorem LO (mk:List (Nat×Nat)) (mb mo:Nat→Nat):∀ (msK:List (Nat×Nat)) (rs:List (List Ae)) (key:Nat) {F:List Nat} {x:List ((Nat×Nat)×List Leaf)×List (Nat×Own)},RowsOk w K (mk.map (loc mb mo)) (msK.map (loc mb mo)) rs F→EU mk key msK rs=some x→
  x.1.map (·.1)=msK∧x.1.map (·.2.length)=rs.map List.length∧
  ∃ ns,FL (Io w K) x.2 ns F∧∀ S c,Hv S c x.2 ns→(∀ k,k∈mk→S.ms k.1≠none)→(∀ k,k∈mk→c.mb k.1=mb k.1∧c.mo k.1=mo k.1)→∀ p,p∈x.1→∃ cs e fr,w.heap[mb p.1.1]?=some (.cells cs e fr)∧NF fr cs.size∧mo p.1.1+p.1.2+p.2.length≤cs.size∧All2 (LeafOk S c w K) p.2 ((cs.toList.drop (mo p.1.1+p.1.2)).take p.2.length)
 | [],[],key,F,x,h,hb=>by
  simp only [EU,Option.some.injEq] at hb
  subst hb
  exact ⟨rfl,rfl,[],⟨rfl,h.2⟩,fun _ _ _ _ _ p hp=>by cases hp⟩
 | k::ms,r::rs,key,F,x,h,hb=>by
  obtain ⟨r',rs',cs,e,fr,F1,F2,e1,rfl,h1,h2,h3,h4⟩:=h
  injection e1 with e1 e2
  subst e1 e2
  simp only [EU] at hb
  split at hb
  ·rename_i y hy
   simp only [Option.some.injEq] at hb
   subst hb
   obtain ⟨n1,k1,k2⟩:=N1 mk mb mo r key h3.2
   obtain ⟨g1,g2,n2,k3,k4⟩:=LO mk mb mo ms rs (key+64) h4 hy
   refine ⟨by simp [g1],by simp [g2,Hc],n1++n2,k1.append k3,fun S c hv c1 c2 p hp=>?_⟩
   rcases List.mem_cons.1 hp with rfl | hp
   ·exact ⟨cs,e,fr,h1,h2,by simp only [Hc]; exact h3.1,by simp only [Hc]; exact k2 S c (Hv.left k1.len hv) c1 c2⟩
   ·exact k4 S c (Hv.right k1.len hv) c1 c2 p hp
  ·cases hb
 | [],r::rs,key,F,x,h,hb=>by simp [EU] at hb
 | k::ms,[],key,F,x,h,hb=>by simp [EU] at hb
theorem ZL {S:St} {c:Cc}:∀ {xs:List S1} {vs:List Value},All2 (S1Ok S c w K) xs vs→AI S c w K (Vr xs) (Sz vs)
 | [],_,.nil=>⟨[],rfl,.nil⟩
 | [_],_,.cons h .nil=>h
 | _::_::_,_,.cons (b:=v) h (.cons (b:=u) (bs:=vs) h1 h2)=>⟨v::u::vs,rfl,.cons h (.cons h1 h2)⟩
theorem OW:∀ {l:List (Nat×Own)} {ns:List New} {F:List Nat},FL (Io w K) l ns F→∀ k,(match find ((l.map (·.1)).zip ns) k with | some n=>some n.o | none=>none)=find l k
 | [],_,_,h,k=>by rw [h.1]; rfl
 | (i,o)::l,_,_,⟨n,ns,F1,F2,e1,_,h1,h2⟩,k=>by
  subst e1
  simp only [List.map_cons,List.zip_cons_cons,find]
  by_cases hk:k=i
  ·rw [if_pos hk,if_pos hk]; simp [h1.1]
  ·rw [if_neg hk,if_neg hk]; exact OW h2 k
theorem DS:∀ {l:List (Nat×Own)} {ns:List New} {F:List Nat},FL (Io w K) l ns F→∀ k n,find ((l.map (·.1)).zip ns) k=some n→k∈l.map (·.1)∧(∀ g,g∈n.F→g∈F)∧(F.Nodup→n.F.Nodup)∧Rp w K (.sl true n.o.e n.o.r) n.o.xs [n.h] n.F
 | [],_,_,h,k,n,hf=>by simp [find] at hf
 | (i,o)::l,_,_,⟨n',ns,F1,F2,e1,e2,⟨h1,h1',h1''⟩,h2⟩,k,n,hf=>by
  subst e1 e2
  simp only [List.map_cons,List.zip_cons_cons,find] at hf
  split at hf
  ·rename_i hk
   injection hf with hf
   subst hf h1'
   exact ⟨by simp [hk],fun g hg=>by simp [hg],fun hn=>(List.nodup_append.1 hn).1,h1''⟩
  ·obtain ⟨a1,a2,a3,a4⟩:=DS h2 k n hf
   exact ⟨List.mem_cons_of_mem _ a1,fun g hg=>by simp [a2 g hg],fun hn=>a3 (List.nodup_append.1 hn).2.1,a4⟩
theorem QS:∀ {l:List (Nat×Own)} {ns:List New} {F:List Nat},FL (Io w K) l ns F→F.Nodup→∀ k n k' n',k≠k'→find ((l.map (·.1)).zip ns) k=some n→find ((l.map (·.1)).zip ns) k'=some n'→∀ g,g∈n.F→g∉n'.F
 | [],_,_,h,_,k,n,_,_,_,hf,_=>by simp [find] at hf
 | (i,o)::l,_,_,⟨m,ns,F1,F2,e1,e2,⟨h1,h1',h1''⟩,h2⟩,hn,k,n,k',n',hne,hf,hf'=>by
  subst e1 e2
  obtain ⟨d1,d2,d3⟩:=List.nodup_append.1 hn
  simp only [List.map_cons,List.zip_cons_cons,find] at hf hf'
  intro g hg hg'
  split at hf
  ·rename_i hk
   injection hf with hf
   subst hf h1'
   rw [if_neg (fun h=>hne (hk.trans h.symm))] at hf'
   exact d3 g hg g ((DS h2 k' n' hf').2.1 g hg') rfl
  ·split at hf'
   ·injection hf' with hf'
    subst hf' h1'
    exact d3 g hg' g ((DS h2 k n hf).2.1 g hg) rfl
   ·exact QS h2 d2 k n k' n' hne hf hf' g hg hg'
end
theorem LeafOk.mono {S:St} {c:Cc} {w:World} {K K':Nat→Prop} (hK:∀ g,g < w.heap.size→K g→K' g) {l:Leaf} {v:Value} (h:LeafOk S c w K l v):LeafOk S c w K' l v:=by
 cases l with
 | v t x=>exact Rp.mono hK _ _ h
 | _=>exact h
theorem S1Ok.mono {S:St} {c:Cc} {w:World} {K K':Nat→Prop} (hK:∀ g,g < w.heap.size→K g→K' g) {x:S1} {v:Value} (h:S1Ok S c w K x v):S1Ok S c w K' x v:=by
 cases x with
 | one l=>exact LeafOk.mono hK h
 | ag ls=>obtain ⟨vs,e,h⟩:=h; exact ⟨vs,e,h.mono fun _ _ h=>LeafOk.mono hK h⟩
 | rp t x off=>obtain ⟨a,vs,h1,h2,h3,h4,h5⟩:=h; exact ⟨a,vs,h1,Rp.mono hK _ _ h2,hK _ h4 h3,h4,h5⟩
 | _=>exact h
section
variable {P:Program} {E:Env} {b:Base} {S:St} {c:Cc} {w:World}
theorem Abj (S:St) (ks:List Kl):(S.kp ks).ms=S.ms∧(S.kp ks).ow=S.ow∧∀ k i,(S.kp ks).mc k i=(S.mc k i).kp ks:=
 ⟨Dd S ks,DM S ks,fun k i=>Dh S ks k i⟩
theorem LentOk.mono {w:World} {K K':Nat→Prop} {vals:List Value} (hK:∀ g,g < w.heap.size→K g→K' g):∀ {l:List ((Nat×Nat)×Ae)} {F},LentOk w K vals l F→LentOk w K' vals l F
 | [],_,h=>h
 | _::_,_,⟨v,F1,F2,e,h1,h2,h3⟩=>⟨v,F1,F2,e,h1,ALOk.mono hK h2,LentOk.mono hK h3⟩
theorem LentOk.noRo {w:World} {K K':Nat→Prop} {vals:List Value}:∀ {l:List ((Nat×Nat)×Ae)} {F},(l.any fun x=>x.2.1.hasRo)=false→LentOk w K vals l F→LentOk w K' vals l F
 | [],_,_,h=>h
 | _::_,_,hr,⟨v,F1,F2,e,h1,h2,h3⟩=>by
  simp only [List.any_cons,Bool.or_eq_false_iff] at hr
  exact ⟨v,F1,F2,e,h1,ALOk.noRo hr.1 h2,LentOk.noRo hr.2 h3⟩
theorem My (hi:Inv b S w c) {w':World} {K2:Nat→Prop} {vals:List Value} {gv F:List Nat} (hgv:Ows S gv) (hKS:KSame w w' (Kok b S c) K2) (hsame:∀ k,S.ow k≠none→∀ g,g∈c.F k→g∉F→w'.heap[g]?=w.heap[g]?) :
  ∀ (L:List ((Nat×Nat)×Option (Nat×AH))) (rl:List ((Nat×Nat)×Ae)) {lts:List (Nat×Own)} {F3:List Nat},(∀ e,e∈L→∃ v,Es vals e.1=some v∧LnOk S c w (Kok b S c) e.2 v gv F)→(Ew L rl).ev S=some lts→
   LentOk w' K2 vals rl F3→F3.Nodup→(∀ g,g∈F3→g∈F∨w.heap.size≤g)→(lts.map (·.1)).Nodup→
   lts.map (·.1)=Du L∧(∀ k,k∈Du L→k∈gv)∧∃ ns FL3,FL (Io w' K2) lts ns FL3∧FL3.Nodup∧(∀ g,g∈FL3→g∈F3∨∃ k,k∈Du L∧g∈c.F k∧g∉F)∧
    ∀ k n,(k,n)∈(lts.map (·.1)).zip ns→n.h=c.hv k∧∃ o xs',S.ow k=some o∧n.o=⟨o.e,o.r,xs'⟩∧xs'.length=o.xs.length
 | [],[],lts,F3,_,h,hl,_,_,_=>by
  simp only [Ew,Tr.ev,Option.some.injEq] at h
  subst h
  exact ⟨rfl,fun k hk=>(by cases hk),[],[],⟨rfl,rfl⟩,by simp,fun g hg=>(by cases hg),fun k n hk=>(by cases hk)⟩
 | [],_::_,_,_,_,h,_,_,_,_=>by simp [Ew,Tr.ev] at h
 | (p,none)::L,[],_,_,_,h,_,_,_,_=>by simp [Ew,Tr.ev] at h
 | (p,some (k,st))::L,[],_,_,_,h,_,_,_,_=>by simp [Ew,Tr.ev] at h
 | (p,none)::L,(p',a)::rl,lts,F3,hL,h,hl,hnd,hF3,hk=>by
  simp only [Ew] at h
  split at h
  ·rename_i hp
   subst hp
   obtain ⟨v,F1,F2,rfl,h1,h2,h3⟩:=hl
   obtain ⟨n1,n2,n3⟩:=List.nodup_append.1 hnd
   obtain ⟨q1,q2,ns,FL3,q3,q4,q5,q6⟩:=My hi hgv hKS hsame L rl (fun e he=>hL e (by simp [he])) h h3 n2 (fun g hg=>hF3 g (by simp [hg])) hk
   exact ⟨q1,q2,ns,FL3,q3,q4,fun g hg=>(q5 g hg).imp (fun h=>by simp [h]) id,q6⟩
  ·simp [Tr.ev] at h
 | (p,some (k,st))::L,(p',⟨at',ax⟩)::rl,lts,F3,hL,h,hl,hnd,hF3,hk=>by
  simp only [Ew] at h
  split at h
  ·rename_i hp
   subst hp
   obtain ⟨v,F1,F2,rfl,h1,h2,h3⟩:=hl
   obtain ⟨v',hv',hkg,Fa,Fb,⟨o0,ho0,⟨G0,hF0⟩,hback⟩,hdis⟩:=hL (p,some (k,st)) (by simp)
   obtain rfl:v=v':=by rw [h1] at hv'; injection hv'
   simp only [Tr.ev,ho0,Ai,Option.bind_eq_some_iff] at h
   obtain ⟨⟨dt,dx⟩,hd,h⟩:=h
   split at h
   ·rename_i hty
    simp only at hty
    subst hty
    simp only [Ai,Option.bind_eq_some_iff,Tr.ev,Option.some.injEq] at h
    obtain ⟨zs,hzs,y,hy,rfl⟩:=h
    rw [Jc] at hd
    rw [RV] at hzs
    obtain ⟨n1,n2,n3⟩:=List.nodup_append.1 hnd
    simp only [List.map_cons,List.nodup_cons] at hk
    obtain ⟨q1,q2,ns,FL3,q3,q4,q5,q6⟩:=My hi hgv hKS hsame L rl (fun e he=>hL e (by simp [he])) hy h3 n2 (fun g hg=>hF3 g (by simp [hg])) hk.2
    have hko:S.ow k≠none:=by rw [ho0]; simp
    have hnk:=hi.nd k hko
    have hlt:∀ g,g∈c.F k→g < w.heap.size:=fun g hg=>(hi.fr g (.inr ⟨k,hko,hg⟩)).1
    have hin:∀ g,g∈Fa∨g∈Fb→g∈c.F k:=fun g hg=>by rw [hF0]; rcases hg with hg | hg <;> simp [hg]
    have hnF:∀ g,g∈Fa∨g∈Fb→g∉F:=fun g hg hx=>hg.elim (hdis g hx).1 (hdis g hx).2
    have hFF:∀ g,g∈F1++F2→¬ (g∈Fa∨g∈Fb):=by
     intro g hg hx
     rcases hF3 g hg with h | h
     ·exact hnF g hx h
     ·have:=hlt g (hin g hx)
      omega
    have hkr:k∉Du L:=by rw [← q1]; exact hk.1
    have hR:=hback ⟨at',dx⟩ ax zs hd hzs w' K2 F1 h2.1 hKS (fun g hg=>hsame k hko g (hin g (.inl hg)) (hnF g (.inl hg))) (fun g hg=>hsame k hko g (hin g (.inr hg)) (hnF g (.inr hg)))
    have hlen:zs.length=o0.xs.length:=by
     obtain ⟨A,cp,e1,_⟩:=Lj hR
     obtain ⟨A',cp',e2,_⟩:=Lj (hi.ow k o0 ho0)
     rw [e1] at e2
     injection e2
    rw [hF0] at hnk
    obtain ⟨a1,a2,a3⟩:=List.nodup_append.1 hnk
    obtain ⟨b1,b2,b3⟩:=List.nodup_append.1 a2
    have hX:∀ g,g∈FL3→¬ (g∈Fa∨g∈Fb)∧g∉F1:=by
     intro g hg
     rcases q5 g hg with h | ⟨k',hk',hg',hgF⟩
     ·exact ⟨hFF g (by simp [h]),fun hx=>n3 g hx g h rfl⟩
     ·have hne:k≠k':=by rintro rfl; exact hkr hk'
      have hko':S.ow k'≠none:=hgv k' (q2 k' hk')
      refine ⟨fun hx=>hi.oo k k' hne hko hko' g (hin g hx) hg',fun hx=>?_⟩
      rcases hF3 g (by simp [hx]) with h | h
      ·exact hgF h
      ·have:=(hi.fr g (.inr ⟨k',hko',hg'⟩)).1
       omega
    refine ⟨by simp [Du,q1],?_,⟨⟨o0.e,o0.r,zs⟩,c.hv k,Fa++(F1++Fb)⟩::ns,(Fa++(F1++Fb))++FL3,⟨_,ns,_,FL3,rfl,rfl,⟨rfl,rfl,hR⟩,q3⟩,?_,?_,?_⟩
    ·intro k' hk'
     simp only [Du,List.mem_cons] at hk'
     rcases hk' with rfl | hk'
     ·exact hkg
     ·exact q2 k' hk'
    ·refine List.nodup_append.2 ⟨List.nodup_append.2 ⟨a1,List.nodup_append.2 ⟨n1,b2,?_⟩,?_⟩,q4,?_⟩
     ·rintro x hx x' hx' rfl; exact hFF x (by simp [hx]) (.inr hx')
     ·rintro x hx x' hx' rfl
      rcases List.mem_append.1 hx' with h | h
      ·exact hFF x (by simp [h]) (.inl hx)
      ·exact a3 x hx x (by simp [h]) rfl
     ·rintro x hx x' hx' rfl
      have:=hX x hx'
      simp only [List.mem_append] at hx
      rcases hx with hx | hx | hx
      ·exact this.1 (.inl hx)
      ·exact this.2 hx
      ·exact this.1 (.inr hx)
    ·intro g hg
     simp only [List.mem_append] at hg
     rcases hg with (hg | hg | hg) | hg
     ·exact .inr ⟨k,by simp [Du],hin g (.inl hg),hnF g (.inl hg)⟩
     ·exact .inl (by simp [hg])
     ·exact .inr ⟨k,by simp [Du],hin g (.inr hg),hnF g (.inr hg)⟩
     ·rcases q5 g hg with h | ⟨k',h1,h2⟩
      ·exact .inl (by simp [h])
      ·exact .inr ⟨k',by simp [Du,h1],h2⟩
    ·intro k' n hm
     simp only [List.map_cons,List.zip_cons_cons,List.mem_cons,Prod.mk.injEq] at hm
     rcases hm with ⟨rfl,rfl⟩ | hm
     ·exact ⟨rfl,o0,zs,ho0,rfl,hlen⟩
     ·exact q6 k' n hm
   ·simp [Tr.ev] at h
  ·simp [Tr.ev] at h
theorem Aa6 (hi:Inv b S w c) {C:AC} {us:List Value} {F1:List Nat} (hA:AInv b S c w C us F1) {rows:List (List Ae)×List Nat} {r:Res}
  (hro:C.bw=[]∨((r.val.any A1.hasRo=false∧(r.rows.any fun l=>l.any fun x=>x.1.hasRo)=false)∧(r.lent.any fun x=>x.2.1.hasRo)=false)) {d:Nat} {vs:List S1×List (Nat×Own)} {rs:List ((Nat×Nat)×List Leaf)×List (Nat×Own)} {lts:List (Nat×Own)}
  (hlt:(Ew C.ln r.lent).ev S=some lts)
  (hv:Hs (C.ms.map (·.1)) (kd d 0) r.val=some vs) (hr:EU (C.ms.map (·.1)) (kd d 512) (C.ms.map (·.1)) r.rows=some rs) (hu2:AB ((vs.2++(rs.2++lts)).map (·.1))=true) (hlen:r.rows.map List.length=C.ms.map fun m=>m.2.length)
  {F2:List Nat} (hF2:B7 c rows.2 F2) (hgv2:Ows S rows.2) (hun:AB (C.gv++rows.2)=true) {more:List Value} {v:Value} {w':World} (hp:Im w (KB b S c C.bw) (C.ms.map (plc c)) (F1++F2) (us++more) r v w') :
  Did b S c w ⟨Vr vs.1,BN (U3 (Du C.ln) C.gv++rows.2)++((Du C.ln).map Kl.deep++BN ((vs.2++rs.2).map (·.1))),BJ (C.gv++rows.2)++(Gr (vs.2++(rs.2++lts))++Hd rs.1)⟩ v w':=by
 obtain ⟨vals,G1,G2,G3,rfl,p1,p2,p2',p3,p4,p5,p6⟩:=hp
 have hmap:C.ms.map (plc c)=(C.ms.map (·.1)).map (loc c.mb c.mo):=by rw [List.map_map]; rfl
 rw [hmap] at p1 p2 p2' p3 p5 p6
 have hmap1:((C.ms.map (·.1)).map (loc c.mb c.mo)).map (·.1)=(C.ms.map (·.1.1)).map c.mb:=by rw [List.map_map,List.map_map,List.map_map]; rfl
 rw [hmap1] at p1 p2 p2' p3 p5
 have hms1:(C.ms.map (·.1)).map (·.1)=C.ms.map (·.1.1):=by rw [List.map_map]; rfl
 have hun1:=hA.un
 have hmsA:=hA.ms
 generalize hmsQ:C.ms.map (·.1.1)=msQ at *
 generalize hms:C.ms.map (·.1)=msK at *
 let K2:Nat→Prop:=fun g=>(Kok b S c g∧g < w.heap.size)∨((w.heap.size≤g∨g∈F1++F2)∧g∉G1++(G2++G3))
 have q12:FL (A1Ok w' K2 (msK.map (loc c.mb c.mo))) r.val vals G1∧RowsOk w' K2 (msK.map (loc c.mb c.mo)) (msK.map (loc c.mb c.mo)) r.rows G2∧LentOk w' K2 (us++more) r.lent G3:=by
  rcases hro with hb | ⟨⟨h1,h2⟩,h3⟩
  ·have hK:∀ g,g < w'.heap.size→((KB b S c C.bw g∨w.heap.size≤g∨g∈F1++F2)∧g∉msQ.map c.mb++(G1++(G2++G3)))→K2 g:=by
    rintro g _ ⟨h1,h2⟩
    have h3:g∉G1++(G2++G3):=fun h=>h2 (by simp only [List.mem_append] at h ⊢; exact .inr h)
    rcases h1 with h1 | h1 | h1
    ·rcases h1 with h1 | ⟨k,hk,_⟩ | ⟨k,hk,_⟩
     ·by_cases hg:g < w.heap.size
      ·exact .inl ⟨h1,hg⟩
      ·exact .inr ⟨.inl (by omega),h3⟩
     ·rw [hb] at hk; cases hk
     ·rw [hb] at hk; cases hk
    ·exact .inr ⟨.inl h1,h3⟩
    ·exact .inr ⟨.inr h1,h3⟩
   exact ⟨p1.mono fun _ _ _ h=>A1Ok.mono hK h,RowsOk.mono hK p2,LentOk.mono hK p2'⟩
  ·rw [List.any_eq_false] at h1
   exact ⟨FL.mono' (fun x hx v F _ h=>A1Ok.noRo (by simpa using h1 x hx) h) p1,RowsOk.noRo h2 p2,LentOk.noRo h3 p2'⟩
 obtain ⟨q1,q2,q3⟩:=q12
 obtain ⟨n1,a1,a2⟩:=LN msK c.mb c.mo r.val (kd d 0) q1 hv
 obtain ⟨b1,b2,n2,b3,b4⟩:=LO msK c.mb c.mo msK r.rows (kd d 512) q2 hr
 generalize hgs:C.gv++rows.2=gs at *
 have hgo:Ows S gs:=by rw [← hgs]; exact CE hA.gv hgv2
 have hFh:B7 c gs (F1++F2):=by
  intro g hg
  rw [← hgs]
  rcases List.mem_append.1 hg with hg | hg
  ·obtain ⟨k,h,h'⟩:=hA.held g hg; exact ⟨k,by simp [h],h'⟩
  ·obtain ⟨k,h,h'⟩:=hF2 g hg; exact ⟨k,by simp [h],h'⟩
 have hnl:n1.length=vs.2.length:=a1.len
 have hkeys:=BD hu2
 have hnd0:(G1++(G2++G3)).Nodup:=(List.nodup_append.1 p3).2.1
 obtain ⟨hndA,hndB,hndC⟩:=List.nodup_append.1 hnd0
 obtain ⟨hndD,hndE,hndF⟩:=List.nodup_append.1 hndB
 have hkeys3:(lts.map (·.1)).Nodup:=by
  rw [List.map_append,List.map_append] at hkeys
  exact (List.nodup_append.1 (List.nodup_append.1 hkeys).2.1).2.1
 have hOwn:∀ g,g∈msQ.map c.mb++(F1++F2)→Ce S c g:=by
  intro g hg
  rcases List.mem_append.1 hg with hg | hg
  ·obtain ⟨k,hk,rfl⟩:=List.mem_map.1 hg
   rw [← hmsQ] at hk
   obtain ⟨p,hp,rfl⟩:=List.mem_map.1 hk
   obtain ⟨n,hn,_⟩:=hmsA p hp
   exact .inl ⟨p.1.1,by rw [hn]; simp,rfl⟩
  ·obtain ⟨k,h,h'⟩:=hFh g hg
   exact .inr ⟨k,hgo k h,h'⟩
 have hKS:KSame w w' (Kok b S c) K2:=⟨p5.size,fun g hg hlt=>⟨p5.same g hlt fun h=>hg.2 (hOwn g h),.inl ⟨hg,hlt⟩⟩⟩
 have hsm:∀ k,S.ow k≠none→∀ g,g∈c.F k→g∉F1++F2→w'.heap[g]?=w.heap[g]?:=by
  intro k hk g hg hgF
  refine p5.same g (hi.fr g (.inr ⟨k,hk,hg⟩)).1 fun h=>?_
  rcases List.mem_append.1 h with h | h
  ·obtain ⟨k',hk',rfl⟩:=List.mem_map.1 h
   rw [← hmsQ] at hk'
   obtain ⟨p,hp,rfl⟩:=List.mem_map.1 hk'
   obtain ⟨n,hn,_⟩:=hmsA p hp
   exact hi.mo p.1.1 k (by rw [hn]; simp) hk hg
  ·exact hgF h
 obtain ⟨t1,t2,n3,FL3,t3,t4,t5,t6⟩:=My hi hgo hKS hsm C.ln r.lent (fun e he=>by
   have hun2:AB (C.gv++rows.2)=true:=by rw [hgs]; exact hun
   obtain ⟨u1,_,_⟩:=AJ hun2
   obtain ⟨u,k1,k2⟩:=hA.ln u1 e he
   refine ⟨u,EO k1,?_⟩
   have:=k2.left hi hF2 hA.gv hgv2 hun2
   rw [hgs] at this
   exact this) hlt q3 hndE (fun g hg=>(p4 g (by simp [hg])).2) hkeys3
 have hall:FL (Io w' K2) (vs.2++(rs.2++lts)) (n1++(n2++n3)) (G1++(G2++FL3)):=a1.append (b3.append t3)
 have hFL3:∀ g,g∈FL3→g∉G1∧g∉G2:=by
  intro g hg
  rcases t5 g hg with h | ⟨k,hk,hgk,hgF⟩
  ·exact ⟨fun hx=>hndC g hx g (by simp [h]) rfl,fun hx=>hndF g hx g h rfl⟩
  ·have hlt':=(hi.fr g (.inr ⟨k,hgo k (t2 k hk),hgk⟩)).1
   refine ⟨fun hx=>?_,fun hx=>?_⟩
   ·rcases (p4 g (by simp [hx])).2 with h | h
    ·exact hgF h
    ·omega
   ·rcases (p4 g (by simp [hx])).2 with h | h
    ·exact hgF h
    ·omega
 have hnd:(G1++(G2++FL3)).Nodup:=by
  refine List.nodup_append.2 ⟨hndA,List.nodup_append.2 ⟨hndD,t4,?_⟩,?_⟩
  ·rintro x hx x' hx' rfl; exact (hFL3 x hx').2 hx
  ·rintro x hx x' hx' rfl
   rcases List.mem_append.1 hx' with h | h
   ·exact hndC x hx x (by simp [h]) rfl
   ·exact (hFL3 x h).1 hx
 have hGin:∀ g,g∈G1++(G2++FL3)→g < w'.heap.size∧((∃ k,k∈gs∧S.ow k≠none∧g∈c.F k)∨w.heap.size≤g):=by
  intro g hg
  have hcase:g∈G1++(G2++G3)∨∃ k,k∈Du C.ln∧g∈c.F k∧g∉F1++F2:=by
   rcases List.mem_append.1 hg with h | h
   ·exact .inl (by simp [h])
   ·rcases List.mem_append.1 h with h | h
    ·exact .inl (by simp [h])
    ·rcases t5 g h with h | h
     ·exact .inl (by simp [h])
     ·exact .inr h
  rcases hcase with h | ⟨k,hk,hgk,_⟩
  ·refine ⟨(p4 g h).1,(p4 g h).2.imp (fun h=>?_) id⟩
   obtain ⟨k,h,h'⟩:=hFh g h
   exact ⟨k,h,hgo k h,h'⟩
  ·have hko:=hgo k (t2 k hk)
   exact ⟨Nat.lt_of_lt_of_le (hi.fr g (.inr ⟨k,hko,hgk⟩)).1 p5.size,.inl ⟨k,t2 k hk,hko,hgk⟩⟩
 have hmsK:∀ k,k∈msK→S.ms k.1≠none:=by
  intro k hk
  rw [← hms] at hk
  obtain ⟨p,hp,rfl⟩:=List.mem_map.1 hk
  obtain ⟨n,hn,_⟩:=hmsA p hp
  rw [hn]; simp
 have hmsQK:∀ k,k∈msQ→S.ms k≠none:=by
  intro k hk
  rw [← hms1] at hk
  obtain ⟨p,hp,rfl⟩:=List.mem_map.1 hk
  exact hmsK p hp
 have hmsN:msQ.Nodup:=hun1
 generalize hl:vs.2++(rs.2++lts)=l at *
 generalize hns:n1++(n2++n3)=ns at *
 generalize hks:BN (U3 (Du C.ln) C.gv++rows.2)++((Du C.ln).map Kl.deep++BN ((vs.2++rs.2).map (·.1)))=ks
 generalize hS:(S.kp ks).ups (BJ gs++(Gr l++Hd rs.1))=S'
 have hg:=MD gs (S.kp ks)
 obtain ⟨o1,o2,_,o4⟩:=QM l ((S.kp ks).ups (BJ gs)) hkeys
 obtain ⟨r1,r2,_,r4,r5⟩:=VD rs.1 (((S.kp ks).ups (BJ gs)).ups (Gr l)) (by rw [show rs.1.map (·.1.1)=msQ by rw [← hms1,← b1,List.map_map]; rfl]; exact hmsN)
 rw [D4,D4] at hS
 obtain ⟨e1,e2,e3⟩:=Abj S ks
 let news:Nat→Option New:=fun k=>find ((l.map (·.1)).zip ns) k
 have how:∀ k,S'.ow k=match news k with | some n=>some n.o | none=>if k∈gs then none else S.ow k:=by
  intro k
  rw [← hS,r2,o4,hg.2.2,e2]
  have:=OW hall k
  show _=match find ((l.map (·.1)).zip ns) k with | some n=>some n.o | none=>if k∈gs then none else S.ow k
  cases hf:find ((l.map (·.1)).zip ns) k with
  | none=>rw [hf] at this; simp only at this; rw [← this]
  | some n=>rw [hf] at this; simp only at this; rw [← this]
 have hms':S'.ms=S.ms:=by rw [← hS,r1,o1,hg.1,e1]
 have hrsq:rs.1.map (·.1.1)=msQ:=by rw [← hms1,← b1,List.map_map]; rfl
 have hmc:∀ k i,k∉msQ→S'.mc k i=(S.mc k i).kp ks:=by
  intro k i hk
  rw [← hS,r4 k i (by rw [hrsq]; exact hk),o2,hg.2.1,e3]
 have hrowmc:∀ p,p∈rs.1→∀ i,S'.mc p.1.1 i=if p.1.2≤i∧i < p.1.2+p.2.length then p.2.getD (i - p.1.2) .no else (S.mc p.1.1 i).kp ks:=by
  intro p hp i
  rw [← hS,r5 p hp i,o2,hg.2.1,e3]
 have hHv:∀ c',(∀ k n,news k=some n→c'.hv k=n.h)→Hv S' c' l ns:=by
  intro c' hc' k n hk
  have hf:find ((l.map (·.1)).zip ns) k=some n:=Dj (by
   rw [List.map_fst_zip (by rw [hall.len]; simp)]; exact hkeys) hk
  exact ⟨by rw [how,show news k=some n from hf],hc' k n hf⟩
 have hK2:∀ K',KSame w w' (Kok b S c) K'→(∀ g,(w.heap.size≤g∨∃ k,k∈gs∧S.ow k≠none∧g∈c.F k)→(∀ k n,news k=some n→g∉n.F)→K' g)→∀ g,g < w'.heap.size→K2 g→K' g:=by
  rintro K' hK hfr g _ (⟨h1,h2⟩ | ⟨h1,h2⟩)
  ·exact (hK.2 g h1 h2).2
  ·refine hfr g (h1.imp id fun h1=>?_) fun k n hk hg=>?_
   ·obtain ⟨k,h,h'⟩:=hFh g h1
    exact ⟨k,h,hgo k h,h'⟩
   have hx:=(DS hall k n hk).2.1 g hg
   rcases List.mem_append.1 hx with h | h
   ·exact h2 (by simp [h])
   ·rcases List.mem_append.1 h with h | h
    ·exact h2 (by simp [h])
    ·rcases t5 g h with h | ⟨k',hk',hgk,hnF⟩
     ·exact h2 (by simp [h])
     ·have:=(hi.fr g (.inr ⟨k',hgo k' (t2 k' hk'),hgk⟩)).1
      rcases h1 with h1 | h1
      ·omega
      ·exact hnF h1
 have hstay:∀ k o,S.ow k=some o→(k∈gs∨news k≠none)→.all k∈ks∨(.deep k∈ks∧∃ n xs',news k=some n∧n.h=c.hv k∧n.o=⟨o.e,o.r,xs'⟩∧xs'.length=o.xs.length):=by
  intro k o ho hk
  by_cases hkl:k∈Du C.ln
  ·right
   rw [← t1] at hkl
   have hlen3:n3.length=lts.length:=t3.len
   obtain ⟨i,hi',hik⟩:=List.getElem_of_mem hkl
   have hi3:i < n3.length:=by rw [hlen3]; simpa using hi'
   have hz:(k,n3[i])∈(lts.map (·.1)).zip n3:=by
    have:((lts.map (·.1)).zip n3)[i]?=some (k,n3[i]):=by
     rw [List.getElem?_zip_eq_some]
     exact ⟨by rw [List.getElem?_eq_getElem hi',hik],List.getElem?_eq_getElem hi3⟩
    exact List.mem_of_getElem? this
   have hz2:(k,n3[i])∈(l.map (·.1)).zip ns:=by
    rw [← hl,← hns,List.map_append,List.map_append,List.zip_append (by simp [hnl]),List.zip_append (by rw [List.length_map]; exact b3.len.symm)]
    simp [hz]
   have hf:news k=some n3[i]:=Dj (by rw [List.map_fst_zip (by rw [hall.len]; simp)]; exact hkeys) hz2
   obtain ⟨g1,o',xs',g2,g3,g4⟩:=t6 k _ hz
   obtain rfl:o=o':=by rw [ho] at g2; injection g2
   refine ⟨?_,_,xs',hf,g1,g3,g4⟩
   rw [← hks]
   rw [t1] at hkl
   simp only [List.mem_append]
   exact .inr (.inl (List.mem_map.2 ⟨k,hkl,rfl⟩))
  ·left
   rw [← hks]
   rcases hk with hk | hk
   ·rw [← hgs] at hk
    refine List.mem_append.2 (.inl (List.mem_map.2 ⟨k,?_,rfl⟩))
    rcases List.mem_append.1 hk with hk | hk
    ·exact List.mem_append.2 (.inl (by simp only [U3,List.mem_filter]; exact ⟨hk,by simpa using hkl⟩))
    ·exact List.mem_append.2 (.inr hk)
   ·obtain ⟨n,hn⟩:=Option.ne_none_iff_exists'.1 hk
    have hm:=(DS hall k n hn).1
    rw [← hl,List.map_append,List.map_append] at hm
    refine List.mem_append.2 (.inr (List.mem_append.2 (.inr (List.mem_map.2 ⟨k,?_,rfl⟩))))
    rw [List.map_append]
    rcases List.mem_append.1 hm with hm | hm
    ·exact List.mem_append.2 (.inl hm)
    ·rcases List.mem_append.1 hm with hm | hm
     ·exact List.mem_append.2 (.inr hm)
     ·rw [t1] at hm; exact absurd hm hkl
 have hmany:=hi.many (S':=S') (w':=w') news gs msQ ks how hms' hmc hstay
  (p5.mono (by
   intro g hg
   rcases List.mem_append.1 hg with hg | hg
   ·obtain ⟨k,hk,rfl⟩:=List.mem_map.1 hg
    exact .inr ⟨k,hk,hmsQK k hk,rfl⟩
   ·obtain ⟨k,h,h'⟩:=hFh g hg
    exact .inl ⟨k,h,hgo k h,h'⟩))
  (fun k n hk g hg=>hGin g ((DS hall k n hk).2.1 g hg))
  (fun k n hk=>(DS hall k n hk).2.2.1 hnd) (fun k n k' n' hne hk hk'=>QS hall hnd k n k' n' hne hk hk')
  (fun K' hK hfr k n hk=>Rp.mono (hK2 K' hK hfr) _ _ (DS hall k n hk).2.2.2)
  (fun K' c' hcb hstayL hK hfr hhv k n hk hn=>by
   have hb:=hHv c' hhv
   rw [← hl,← hns] at hb
   rw [← hrsq] at hk
   obtain ⟨p,hp,rfl⟩:=List.mem_map.1 hk
   obtain ⟨cs,e,fr,h1,h2,hwin,h3⟩:=b4 S' c' (Hv.left b3.len (Hv.right hnl hb)) (fun k hk=>by rw [hms']; exact hmsK k hk) (fun k _=>by rw [hcb.1,hcb.2]; exact ⟨rfl,rfl⟩) p hp
   obtain ⟨i0,hi0,hpi⟩:=List.getElem_of_mem hp
   have q0:rs.1[i0]?=some p:=by rw [List.getElem?_eq_getElem hi0,hpi]
   have q1:(rs.1.map (·.1))[i0]?=some p.1:=by rw [List.getElem?_map,q0]; rfl
   have q2:(rs.1.map (·.2.length))[i0]?=some p.2.length:=by rw [List.getElem?_map,q0]; rfl
   rw [b1,← hms,List.getElem?_map,Option.map_eq_some_iff] at q1
   obtain ⟨m,hm,hm1⟩:=q1
   rw [b2] at q2
   rw [List.getElem?_map,Option.map_eq_some_iff] at q2
   obtain ⟨row,hrow,hrl⟩:=q2
   obtain ⟨n',hn',hle'⟩:=hmsA m (List.mem_of_getElem? hm)
   have hsz:m.2.length=p.2.length:=by
    have:=congrArg (·[i0]?) hlen
    simp only [List.getElem?_map,hrow,hm,Option.map_some,Option.some.injEq] at this
    omega
   rw [hm1] at hn' hle'
   obtain rfl:n=n':=by rw [hn] at hn'; injection hn'
   obtain ⟨cs0,e0,fr0,z1,z2,z3,z4,z5⟩:=hi.ms _ _ hn
   have hloc:(msK.map (loc c.mb c.mo))[i0]?=some (c.mb p.1.1,c.mo p.1.1+p.1.2):=by
    rw [← hms,List.map_map,List.getElem?_map,hm]
    simp only [Option.map_some,Function.comp,loc,hm1]
   obtain ⟨cs',y1,y2,y3⟩:=p6 i0 _ row cs0 e0 fr0 hloc hrow z1
   simp only at y1 y3
   rw [h1] at y1
   injection y1 with y1
   injection y1 with y1a y1b y1c
   subst y1a y1b y1c
   refine ⟨cs,e,fr,h1,by omega,h2,fun i u hlt hu=>?_,?_⟩
   ·rw [hrowmc p hp i]
    by_cases hc:p.1.2≤i∧i < p.1.2+p.2.length
    ·rw [if_pos hc]
     have hlt:i - p.1.2 < p.2.length:=by omega
     obtain ⟨u',hu1,hu2⟩:=h3.get (List.getElem?_eq_getElem hlt)
     rw [List.getD_eq_getElem?_getD,List.getElem?_eq_getElem hlt,Option.getD_some]
     have:u'=u:=by
      rw [List.getElem?_take_of_lt hlt,List.getElem?_drop,Array.getElem?_toList,show c.mo p.1.1+p.1.2+(i - p.1.2)=c.mo p.1.1+i by omega,hu] at hu1
      injection hu1 with hu1; exact hu1.symm
     subst this
     exact LeafOk.mono (hK2 K' hK hfr) hu2
    ·rw [if_neg hc]
     rw [y3 _ (by omega)] at hu
     exact hstayL _ _ (z4 i u hlt hu)
   ·intro cs1 e1 fr1 h0
    obtain ⟨x1,x2,x3,x4⟩:=z5 cs1 e1 fr1 h0
    refine ⟨x1,x2,by omega,fun i hio=>?_⟩
    rw [← x4 i hio]
    exact y3 i (by omega))
 obtain ⟨c',m1,m2,m3,m4,m5⟩:=hmany
 have hS':(S.kp ks).ups (BJ gs++(Gr l++Hd rs.1))=S':=by rw [D4,D4]; exact hS
 unfold Did
 simp only
 rw [hS']
 refine ⟨c',m3,m4,?_⟩
 have hb:=hHv c' fun k n hk=>(m2 k n hk).1
 rw [← hl,← hns] at hb
 refine ZL ?_
 have:=a2 S' c' (Hv.left hnl hb) (fun k hk=>by rw [hms']; exact hmsK k hk) (fun k _=>by rw [m1.1,m1.2]; exact ⟨rfl,rfl⟩)
 exact this.mono fun _ _ h=>S1Ok.mono (hK2 _ m4.kk m5) h
theorem Yi {p:SV→Value→Prop}:∀ {xs:List SV} {us:List Value} {ts:List TypeId},All2 p xs us→xs.length=ts.length→All2 (fun (x:SV×TypeId) u=>p x.1 u) (xs.zip ts) us
 | [],_,[],.nil,_=>.nil
 | _::_,_,_::_,.cons h1 h2,h=>.cons h1 (Yi h2 (by simpa using h))
 | [],_,_::_,_,h=>by simp at h
 | _::_,_,[],_,h=>by simp at h
theorem Yx {K:Nat→Prop} {C:AC}:∀ {ps:List (Nat×Nat)} {vs:List Value},All2 (Aa8 c C) ps vs→FL (A1Ok w K (C.ms.map (plc c))) (ps.map fun p=>A1.pl p.1 p.2) vs []
 | [],_,.nil=>⟨rfl,rfl⟩
 | p::ps,_,.cons (b:=v) (bs:=vs) h1 h2=>by
  obtain ⟨g,h3,h4⟩:=h1 []
  rw [List.append_nil] at h3
  exact ⟨v,vs,[],[],rfl,rfl,⟨rfl,g,h3,h4⟩,Yx h2⟩
theorem Aa7 (hE:EnvOk P E) {N:Nat} {a:Act} (hi:Inv b S w c) (hs:Slots N S c w (Kok b S c) a) {o:Oper} {f:FuncId} {fo:Operand} {caps:List (Nat×Nat)} {args:Array Operand} {ts:Array TypeId} {d:Nat} {out:Out} (ho:o.op=.call ⟨.value fo,args,ts⟩) (hfo:Cw S fo=.s (.fv f caps))
  (hsz:args.size=ts.size) (h:(U9 E d f caps ((args.toList.map (Cw S)).zip ts.toList)).ev S=some out):Oo P o a w fun v w'=>Did b S c w out v w':=by
 unfold U9 at h
 simp only [Ai,Option.bind_eq_some_iff] at h
 obtain ⟨C0,hC0,⟨ps,C1⟩,hcaps,C,hreach,h⟩:=h
 have hfv:=AF hs fo
 rw [hfo] at hfv
 obtain ⟨cvs,hfval,hcvs⟩:=hfv
 have hall:=Yi (FV hs args.toList) (by simpa using hsz:(args.toList.map (Cw S)).length=ts.toList.length)
 obtain ⟨F1,hA0⟩:=EM hi _ _ _ {} [] [] hall ⟨fun _ _=>⟨rfl,rfl⟩,fun g hg=>(by cases hg),fun k hk=>(by cases hk),trivial,fun _=>by simp,fun p hp=>(by cases hp),by simp,fun _ e he=>(by cases he)⟩ hC0
 rw [List.nil_append] at hA0
 obtain ⟨hA1,_,hps1⟩:=Qh caps _ hcvs hA0 hcaps
 simp only at hA1 hps1 hreach h
 obtain ⟨hA,⟨mr,hmr⟩,-,-,-,-⟩:=TT _ _ _ hA1 hreach
 have hps:All2 (Aa8 c C) ps cvs:=hps1.mono fun p v hp em=>by
  have:=hp (mr++em)
  rwa [← List.append_assoc,← hmr] at this
 unfold Aap at h
 simp only [Ai,Option.bind_eq_some_iff] at h
 obtain ⟨rows,hrows,h⟩:=h
 split at h
 ·rename_i hun
  simp only [Bool.and_eq_true,List.all_eq_true,Bool.not_eq_true'] at hun
  obtain ⟨hun,hbw⟩:=hun
  simp only [Ai,Option.bind_eq_some_iff] at h
  obtain ⟨r,hr,lts,hlts,h⟩:=h
  split at h
  ·rename_i hro
   split at h
   ·rename_i vs rs hv hrs
    split at h
    ·rename_i hu
     simp only [Bool.and_eq_true,decide_eq_true_eq] at hu
     obtain ⟨hu2,hlen⟩:=hu
     simp only [Tr.ev,Option.some.injEq] at h
     subst h
     obtain ⟨hgv2,F2,hR,hnd2,hF2⟩:=Uw hi (C.ms.map (·.1)) C.ms hA.ms hrows
     obtain ⟨u1,u2,u3⟩:=AJ hun
     have hFn:=CC hi hA.held hF2 hA.gv hgv2 hun (hA.nd u1) (hnd2 u2)
     obtain ⟨hFh,hFnd⟩:=hFn
     have hgo:=CE hA.gv hgv2
     obtain ⟨⟨fn,hf,hname,hbody⟩,hcs⟩:=hE.ca f _ rows.1 S r hr
     have hfl0:=hA.fl [] []
     rw [List.append_nil,List.append_nil] at hfl0
     have hfl:=hfl0.append (Yx (w:=w) (K:=KB b S c C.bw) hps)
     rw [List.append_nil] at hfl
     have hmb1:(C.ms.map (plc c)).map (·.1)=(C.ms.map (·.1.1)).map c.mb:=by rw [List.map_map,List.map_map]; rfl
     have hmsO:∀ g,g∈(C.ms.map (plc c)).map (·.1)→∃ k,S.ms k≠none∧c.mb k=g∧k∈C.ms.map (·.1.1):=by
      intro g hg
      rw [hmb1] at hg
      obtain ⟨k,hk,rfl⟩:=List.mem_map.1 hg
      obtain ⟨p,hp,rfl⟩:=List.mem_map.1 hk
      obtain ⟨n,hn,_⟩:=hA.ms p hp
      exact ⟨p.1.1,by rw [hn]; simp,rfl,hk⟩
     have hmsN:((C.ms.map (plc c)).map (·.1)).Nodup:=by
      have h2:∀ k,k∈C.ms.map (·.1.1)→S.ms k≠none:=by
       intro k hk
       obtain ⟨p,hp,rfl⟩:=List.mem_map.1 hk
       obtain ⟨n,hn,_⟩:=hA.ms p hp
       rw [hn]; simp
      rw [hmb1]
      have h3:=hA.un
      revert h2 h3
      generalize C.ms.map (·.1.1)=l
      intro h2 h3
      induction l with
      | nil=>simp
      | cons k l ih=>
       obtain ⟨g1,g2⟩:=List.nodup_cons.1 h3
       rw [List.map_cons,List.nodup_cons]
       refine ⟨fun hm=>?_,ih (fun k hk=>h2 k (List.mem_cons_of_mem _ hk)) g2⟩
       obtain ⟨k',hk',he⟩:=List.mem_map.1 hm
       have hne:k'≠k:=by rintro rfl; exact g1 hk'
       exact hi.mm k' k hne (h2 k' (List.mem_cons_of_mem _ hk')) (h2 k (by simp)) he
     have hcall:=hcs w (args.toList.map a.eval++cvs) (KB b S c C.bw) (C.ms.map (plc c)) F1 F2 hfl (by
      have:=hR C.bw
      rwa [show (C.ms.map (·.1)).map (loc c.mb c.mo)=C.ms.map (plc c) by rw [List.map_map]; rfl] at this) (by
      refine List.nodup_append.2 ⟨hmsN,hFnd,?_⟩
      rintro g hg g' hg' rfl
      obtain ⟨k,hk,rfl,_⟩:=hmsO g hg
      obtain ⟨k',hk',hgk⟩:=hFh _ hg'
      exact hi.mo k k' hk (hgo k' hk') hgk) (by
      intro g hg
      rcases List.mem_append.1 hg with hg | hg
      ·obtain ⟨k,hk,rfl,hkm⟩:=hmsO g hg
       have hO:Ce S c (c.mb k):=.inl ⟨k,hk,rfl⟩
       refine ⟨(hi.fr _ hO).1,?_⟩
       rintro (h | ⟨k',hk',how,hgk⟩ | ⟨k',hk',hms',hgk⟩)
       ·exact h.2 hO
       ·exact hi.mo k k' hk how hgk
       ·have hne:k≠k':=by
         rintro rfl
         have:=(hbw k hk').2
         simp only [List.contains_eq_mem,decide_eq_false_iff_not] at this
         exact this hkm
        exact hi.mm k k' hne hk hms' hgk
      ·obtain ⟨k,hk,hgk⟩:=hFh g hg
       have hO:Ce S c g:=.inr ⟨k,hgo k hk,hgk⟩
       refine ⟨(hi.fr _ hO).1,?_⟩
       rintro (h | ⟨k',hk',how,hgk'⟩ | ⟨k',hk',hms',hgk'⟩)
       ·exact h.2 hO
       rotate_left
       ·subst hgk'
        exact hi.mo k' k hms' (hgo k hk) hgk
       ·have hne:k≠k':=by
         rintro rfl
         have:=(hbw k hk').1
         simp only [List.contains_eq_mem,decide_eq_false_iff_not] at this
         exact this hk
        exact hi.oo k k' hne (hgo k hk) how g hgk hgk') ⟨(ZG hi).1,fun g hg=>.inl ((ZG hi).2 g hg)⟩
     intro next Q hnext
     have hargs:args.map a.eval++cvs.toArray=(args.toList.map a.eval++cvs).toArray:=by apply Array.ext'; simp
     unfold Oper.wp
     have hrun:(execOp a.eval o).run P w=.ok (.enter f (args.toList.map a.eval++cvs).toArray) w:=by
      rw [← hargs]
      have hname' : ¬ fn.name = "runtime.NumGoroutine" := by simpa using hname
      have hbody':¬ fn.body=none:=by
       intro hb
       rw [hb] at hbody
       cases hbody
      simp [execOp,ho,resolve,Deferred.ofValue,hfval,invoke,callFunc,hf,hname',hbody']
     rw [hrun]
     refine Calls.mono hcall ?_
     rintro e w' ⟨v,rfl,hp⟩
     refine hnext v w' (Aa6 hi hA ?_ hlts hv hrs hu2 hlen hF2 hgv2 hun hp)
     simp only [Bool.or_eq_true,Bool.not_eq_true',Bool.or_eq_false_iff,List.isEmpty_iff] at hro
     exact hro
    ·simp [Tr.ev] at h
   ·simp [Tr.ev] at h
  ·simp [Tr.ev] at h
 ·simp [Tr.ev] at h
end
end Go.V