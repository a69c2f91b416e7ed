import Derived.Test.YtofhefmbioblbaaGreatQMsB
set_option linter.unusedVariables false
set_option linter.unusedSimpArgs false
set_option maxRecDepth 100000
namespace Go.V.G
open Go.V
def src:List Prt→Int
 | []=>0
 | p::l=>p.1+p.2.1+src l
def tgt:List Prt→Int
 | []=>0
 | p::l=>p.1+p.2.2.length+tgt l
theorem ML:∀ a b:List Prt,src (a++b)=src a+src b
 | [],b=>by simp [src]
 | p::a,b=>by simp only [List.cons_append,src,ML a b]; omega
theorem MM:∀ a b:List Prt,tgt (a++b)=tgt a+tgt b
 | [],b=>by simp [tgt]
 | p::a,b=>by simp only [List.cons_append,tgt,MM a b]; omega
def okk:Int→List Prt→Bool
 | _,[]=>true
 | k,p::l=>!(decide (kd p=0)) && !(decide (kd p=k)) && okk (kd p) l
def C8 (c:List Prt):Bool:=okk 0 c && decide (src c≤120) && decide (tgt c≤120)
structure Some1 (p:Prt):Prop where
 k:0≤p.1
 d:0≤p.2.1
 ne:kd p≠0
theorem Vq {p:Prt} (h:kd p≠0):Some1 p:=by
 refine ⟨?_,?_,h⟩ <;> (unfold kd at h; split at h; omega; split at h; omega; split at h; omega; exact absurd rfl h)
theorem FH:∀ {k:Int} {l:List Prt},okk k l=true→∀ p∈l,Some1 p
 | k,q::l,h,p,hp=>by
  simp only [okk,Bool.and_eq_true,Bool.not_eq_true',decide_eq_false_iff_not] at h
  rcases List.mem_cons.1 hp with rfl | hp
  ·exact Vq h.1.1
  ·exact FH h.2 p hp
theorem C6:∀ {l:List Prt},(∀ p∈l,Some1 p)→0≤src l
 | [],_=>Int.le_refl _
 | p::l,h=>by
  have h1:=h p (by simp)
  have h2:=C6 (l:=l) (fun q hq=>h q (by simp [hq]))
  have:=h1.k; have:=h1.d
  simp only [src]; omega
theorem C5:∀ {l:List Prt},(∀ p∈l,Some1 p)→0≤tgt l
 | [],_=>Int.le_refl _
 | p::l,h=>by
  have h1:=h p (by simp)
  have h2:=C5 (l:=l) (fun q hq=>h q (by simp [hq]))
  have:=h1.k
  simp only [tgt]; omega
theorem Z7 {l:List Prt} {i:Nat} (h:i < l.length):l=l.take i++l[i]::l.drop (i+1):=by
 rw [← List.drop_eq_getElem_cons h,List.take_append_drop]
theorem Se {l:List Prt} {i:Nat} (h:i < l.length):src l=src (l.take i)+(l[i].1+l[i].2.1+src (l.drop (i+1))):=by
 conv=>lhs; rw [Z7 h]
 rw [ML]; rfl
theorem R0 {l:List Prt} {i:Nat} (h:i < l.length):tgt l=tgt (l.take i)+(l[i].1+l[i].2.2.length+tgt (l.drop (i+1))):=by
 conv=>lhs; rw [Z7 h]
 rw [MM]; rfl
theorem Qx {l:List Prt} {i:Nat} (h:i < l.length):src (l.take (i+1))=src (l.take i)+(l[i].1+l[i].2.1):=by
 rw [List.take_succ_eq_append_getElem h,ML]; simp [src]
theorem Qo {l:List Prt} {i:Nat} (h:i < l.length):tgt (l.take (i+1))=tgt (l.take i)+(l[i].1+l[i].2.2.length):=by
 rw [List.take_succ_eq_append_getElem h,MM]; simp [tgt]
def Cq (l:List Prt) (i:Nat):Int:=if i=0 then 0 else match l[i - 1]? with
 | some p=>kd p
 | none=>0
theorem PS {l:List Prt} {i:Nat} (h:i < l.length):Cq l (i+1)=kd l[i]:=by simp [Cq,List.getElem?_eq_getElem h]
theorem WI {l:List Prt} {i:Nat} (h:i < l.length) (k:Int):okk k (l.drop i)=(!(decide (kd l[i]=0)) && !(decide (kd l[i]=k)) && okk (kd l[i]) (l.drop (i+1))):=by
 rw [List.drop_eq_getElem_cons h]; rfl
theorem Eh {l:List Prt} {i:Nat} {p:Prt} (h:p∈l.drop i):p∈l:=List.mem_of_mem_drop h
theorem Iz {l:List Prt} {i:Nat} {p:Prt} (h:p∈l.take i):p∈l:=List.mem_of_mem_take h
theorem Bq {i:Nat} {n:Nat} (hn:n≤1099511627776) (h:i < n):IntKind.wrap .i64 ((i:Int)+1)=((i+1:Nat):Int):=by
 rw [w64 (by omega) (by omega)]; omega
theorem XR {c:List Prt} (hlen:c.length≤1099511627776):Ok (Ab HK (c,c,((List.length c:Nat):Int),0)) fun r=>match r with
  | .inl y=>y=c∧okk 0 c=true
  | .inr b=>b=false∧okk 0 c=false:=by
 refine Ok.loop (fun y=>y.1=c∧y.2.1=c∧y.2.2.1=((List.length c:Nat):Int)∧∃ i:Nat,y.2.2.2=((i:Nat):Int)∧i≤c.length∧okk 0 c=okk (Cq c i) (c.drop i)) (fun y=>(((List.length c:Nat):Int) - y.2.2.2).toNat)
  ⟨rfl,rfl,rfl,0,rfl,Nat.zero_le _,by simp [Cq]⟩ ?_
 rintro ⟨a,b,n,i'⟩ ⟨e1,e2,e3,i,e4,hi,hk⟩
 dsimp only at e1 e2 e3 e4
 subst e1 e2 e3 e4
 unfold HK
 dsimp only
 refine Ok.ite (fun hc=>?_) fun hc=>?_
 ·have hlt:i < b.length:=by simpa using hc
  refine Ok.yes (by simp) (Ok.bind_eq (r:=b[i]) (by simp [List.getElem?_eq_getElem hlt]) (Ok.bind_eq (TM _ _ _) ?_))
  have hb:Cq b i=Cq b i:=rfl
  refine Ok.bind (Q:=fun v=>v=(b,b,((List.length b:Nat):Int),((i:Nat):Int),decide (kd b[i]=0) || decide (kd b[i]=Cq b i))) ?_ ?_
  ·refine Ok.ite (fun h0=>?_) fun h0=>?_
   ·exact Ok.mk (by
       have:kd b[i]=0:=by simpa using h0
       simp [this])
   ·have h0':¬ kd b[i]=0:=by simpa using h0
    refine Ok.ite (fun hp=>?_) fun hp=>?_
    ·have hp':0 < i:=by simpa using hp
     have e:IntKind.wrap .i64 ((i:Int) - 1)=((i - 1:Nat):Int):=by rw [w64 (by omega) (by omega)]; omega
     have hl1:i - 1 < b.length:=by omega
     refine Ok.yes (by simp [e]) (Ok.bind_eq (r:=b[i - 1]) (by simp [e,List.getElem?_eq_getElem hl1]) (Ok.bind_eq (TM _ _ _) (Ok.mk ?_)))
     have hne:¬ i=0:=by omega
     have hb:Cq b i=kd b[i - 1]:=by simp [Cq,hne,List.getElem?_eq_getElem hl1]
     rw [hb]
     have e0:decide (kd b[i]=0)=false:=by simpa using h0'
     rw [e0,Bool.false_or]
     show (_,_,_,_,decide (kd b[i - 1]=kd b[i]))=_
     congr 4
     exact decide_eq_decide.2 eq_comm
    ·have hi0:i=0:=by
      have:¬ (0:Int) < (i:Int):=by simpa using hp
      omega
     subst hi0
     have e0:decide (kd b[0]=0)=false:=by simpa using h0'
     exact Ok.mk (by simp [Cq,e0])
  ·rintro _ rfl
   dsimp only
   rw [WI hlt] at hk
   refine Ok.ite (fun hbad=>Ok.mk ⟨rfl,?_⟩) fun hfine=>Ok.mk ⟨⟨rfl,rfl,rfl,i+1,Bq hlen hlt,by omega,?_⟩,?_⟩
   ·rw [hk]
    rcases Bool.or_eq_true_iff.1 hbad with h | h <;> simp [h]
   ·rw [hk,PS hlt]
    have:(decide (kd b[i]=0) || decide (kd b[i]=Cq b i))=false:=by simpa using hfine
    obtain ⟨h1,h2⟩:=Bool.or_eq_false_iff.1 this
    simp [h1,h2]
   ·rw [Bq hlen hlt]; dsimp only; omega
 ·have:i=b.length:=by
   have:¬ ((i:Int) < ((List.length b:Nat):Int)):=by simpa using hc
   omega
  subst this
  exact Ok.mk ⟨rfl,by rw [hk]; simp [okk]⟩
def W3 (c:List Prt):Int×(Int×Bool):=if src c≤120∧tgt c≤120 then (src c,tgt c,true) else (0,0,false)
theorem O6 {c:List Prt} (hlen:c.length≤1099511627776) (hput:Fx c≤1099511627776) (hs:∀ p∈c,Some1 p) (hf:∀ p∈c,I64 p.1∧I64 p.2.1):Jd c=some (W3 c):=by
 unfold Jd
 refine Ok.eq ?_
 refine Ok.bind (Q:=fun r=>match r with
  | .inl y=>src c≤120∧tgt c≤120∧y=(src c,tgt c)
  | .inr y=>¬ (src c≤120∧tgt c≤120)∧y=(0,0,false)) ?_ ?_
 ·refine Ok.loop (fun y=>y.2.2.1=c∧y.2.2.2.1=((List.length c:Nat):Int)∧∃ i:Nat,y.2.2.2.2=((i:Nat):Int)∧i≤c.length∧y.1=src (c.take i)∧y.2.1=tgt (c.take i)∧y.1≤120∧y.2.1≤120) (fun y=>(((List.length c:Nat):Int) - y.2.2.2.2).toNat)
   ⟨rfl,rfl,0,rfl,Nat.zero_le _,by simp [src],by simp [tgt],by simp,by simp⟩ ?_
  rintro ⟨s,t,c',n,i'⟩ ⟨e1,e2,i,e3,hi,e4,e5,h1,h2⟩
  dsimp only at e1 e2 e3 e4 e5 h1 h2
  subst e1 e2 e3
  unfold OZ
  dsimp only
  refine Ok.ite (fun hc=>?_) fun hc=>?_
  ·have hlt:i < c'.length:=by simpa using hc
   have hmem:c'[i]∈c':=List.getElem_mem hlt
   have hp:=hs _ hmem
   have hpf:=hf _ hmem
   have hpp:=Qm hmem
   have k0:=hp.k
   have d0:=hp.d
   have n1:=C6 (l:=c'.take i) fun p h=>hs p (Iz h)
   have n2:=C5 (l:=c'.take i) fun p h=>hs p (Iz h)
   have n3:=C6 (l:=c'.drop (i+1)) fun p h=>hs p (Eh h)
   have n4:=C5 (l:=c'.drop (i+1)) fun p h=>hs p (Eh h)
   have a1:=Se hlt
   have a2:=R0 hlt
   refine Ok.yes (by simp) (Ok.bind_eq (r:=c'[i]) (by simp [List.getElem?_eq_getElem hlt]) ?_)
   refine Ok.bind (Q:=fun v=>v=(s,t,c',((List.length c':Nat):Int),((i:Nat):Int),decide (120 < c'[i].1∨120 < c'[i].2.1),c'[i].1,c'[i].2.1,c'[i].2.2)) ?_ ?_
   ·refine Ok.ite (fun h=>Ok.mk ?_) fun h=>Ok.mk ?_
    ·have:120 < c'[i].1:=by simpa using h
     simp [this]
    ·have:¬ 120 < c'[i].1:=by simpa using h
     simp [this]
   rintro _ rfl
   dsimp only
   refine Ok.ite (fun hb=>Ok.mk ⟨?_,rfl⟩) fun hb=>?_
   ·have:120 < c'[i].1∨120 < c'[i].2.1:=by simpa using hb
    omega
   ·have hb':¬ (120 < c'[i].1∨120 < c'[i].2.1):=by simpa using hb
    have w1:IntKind.wrap .i64 (c'[i].1+c'[i].2.1)=c'[i].1+c'[i].2.1:=w64 (by omega) (by omega)
    have w2:IntKind.wrap .i64 (s+(c'[i].1+c'[i].2.1))=s+(c'[i].1+c'[i].2.1):=w64 (by omega) (by omega)
    have w3:IntKind.wrap .i64 (c'[i].1+((List.length c'[i].2.2:Nat):Int))=c'[i].1+((List.length c'[i].2.2:Nat):Int):=w64 (by omega) (by omega)
    have w4:IntKind.wrap .i64 (t+(c'[i].1+((List.length c'[i].2.2:Nat):Int)))=t+(c'[i].1+((List.length c'[i].2.2:Nat):Int)):=w64 (by omega) (by omega)
    rw [w1,w2,w3,w4]
    refine Ok.bind (Q:=fun v=>v=(s+(c'[i].1+c'[i].2.1),t+(c'[i].1+((List.length c'[i].2.2:Nat):Int)),c',((List.length c':Nat):Int),((i:Nat):Int),decide (120 < s+(c'[i].1+c'[i].2.1)∨120 < t+(c'[i].1+((List.length c'[i].2.2:Nat):Int))))) ?_ ?_
    ·refine Ok.ite (fun h=>Ok.mk ?_) fun h=>Ok.mk ?_
     ·have:120 < s+(c'[i].1+c'[i].2.1):=by simpa using h
      simp [this]
     ·have:¬ 120 < s+(c'[i].1+c'[i].2.1):=by simpa using h
      simp [this]
    rintro _ rfl
    dsimp only
    refine Ok.ite (fun hb=>Ok.mk ⟨?_,rfl⟩) fun hb=>Ok.mk ⟨⟨rfl,rfl,i+1,Bq hlen hlt,by omega,?_,?_,?_,?_⟩,?_⟩
    ·have:120 < s+(c'[i].1+c'[i].2.1)∨120 < t+(c'[i].1+((List.length c'[i].2.2:Nat):Int)):=by simpa using hb
     omega
    ·rw [Qx hlt,e4]
    ·rw [Qo hlt,e5]
    ·have:¬ (120 < s+(c'[i].1+c'[i].2.1)∨120 < t+(c'[i].1+((List.length c'[i].2.2:Nat):Int))):=by simpa using hb
     dsimp only; omega
    ·have:¬ (120 < s+(c'[i].1+c'[i].2.1)∨120 < t+(c'[i].1+((List.length c'[i].2.2:Nat):Int))):=by simpa using hb
     dsimp only; omega
    ·rw [Bq hlen hlt]; dsimp only; omega
  ·have:i=c'.length:=by
    have:¬ ((i:Int) < ((List.length c':Nat):Int)):=by simpa using hc
    omega
   subst this
   rw [List.take_length] at e4 e5
   exact Ok.mk ⟨by omega,by omega,by rw [e4,e5]⟩
 ·rintro (y | y) h
  ·obtain ⟨h1,h2,rfl⟩:=h
   exact Ok.mk (by simp [W3,h1,h2])
  ·obtain ⟨h1,rfl⟩:=h
   exact Ok.mk (by simp [W3,h1])
theorem ZQ {B:Nat} {c:List Prt} (h:Sm B c) (hB:B≤1099511627776):HM c=some (C8 c):=by
 unfold HM
 refine Ok.eq (Ok.bind (XR (Nat.le_trans h.len hB)) ?_)
 rintro (y | b) hr
 ·obtain ⟨rfl,hk⟩:=hr
  refine Ok.bind_eq (O6 (Nat.le_trans h.len hB) (Nat.le_trans h.put hB) (FH hk) h.fit) (Ok.mk ?_)
  unfold C8 W3
  rw [hk]
  by_cases h1:src y≤120 <;> by_cases h2:tgt y≤120 <;> simp [h1,h2]
 ·obtain ⟨rfl,hk⟩:=hr
  exact Ok.mk (by simp [C8,hk])
def Ww (c:List Prt):Int×(Int×Bool):=if C8 c=true then (src c,tgt c,true) else (0,0,false)
theorem Fu {c:List Prt} (h:C8 c=true):okk 0 c=true∧src c≤120∧tgt c≤120:=by
 simp only [C8,Bool.and_eq_true,decide_eq_true_eq] at h
 exact ⟨h.1.1,h.1.2,h.2⟩
theorem SY {B:Nat} {c:List Prt} (h:Sm B c) (hB:B≤1099511627776):IT c=some (Ww c):=by
 unfold IT Ww
 rw [ZQ h hB,Option.bind_some]
 cases hg:C8 c with
 | false=>simp
 | true=>
  obtain ⟨h1,h2,h3⟩:=Fu hg
  simp [O6 (Nat.le_trans h.len hB) (Nat.le_trans h.put hB) (FH h1) h.fit,W3,h2,h3]
end Go.V.G
set_option maxRecDepth 100000
namespace Go.V.G
open Go.V
theorem TW {B:Nat} {c:List Prt} (h:Sm B c) (hB:B≤1099511627776):HS c=some (C8 c):=by
 have hlen:=Nat.le_trans h.len hB
 have hput:=Nat.le_trans h.put hB
 unfold HS
 refine Ok.eq (Ok.bind (Q:=fun r=>match r with
  | .inl _=>C8 c=true
  | .inr b=>b=false∧C8 c=false) ?_ ?_)
 ·refine Ok.loop (fun y=>y.1=c∧y.2.2.2.1=c∧y.2.2.2.2.1=((List.length c:Nat):Int)∧∃ i:Nat,y.2.2.2.2.2=((i:Nat):Int)∧i≤c.length∧y.2.1=src (c.take i)∧y.2.2.1=tgt (c.take i)∧y.2.1≤120∧y.2.2.1≤120∧
    okk 0 c=okk (Cq c i) (c.drop i)∧∀ p∈c.take i,Some1 p) (fun y=>(((List.length c:Nat):Int) - y.2.2.2.2.2).toNat)
   ⟨rfl,rfl,rfl,0,rfl,Nat.zero_le _,by simp [src],by simp [tgt],by simp,by simp,by simp [Cq],fun p hp=>by simp at hp⟩ ?_
  rintro ⟨c0,s,t,c',n,i'⟩ ⟨e1,e2,e3,i,e4,hi,e5,e6,h1,h2,hk,hs⟩
  dsimp only at e1 e2 e3 e4 e5 e6 h1 h2
  subst e1 e2 e3 e4
  unfold K9
  dsimp only
  refine Ok.ite (fun hc=>?_) fun hc=>?_
  ·have hlt:i < c'.length:=by simpa using hc
   have hmem:c'[i]∈c':=List.getElem_mem hlt
   have hpf:=h.fit _ hmem
   have hpp:=Qm hmem
   refine Ok.yes (by simp) (Ok.bind_eq (r:=c'[i]) (by simp [List.getElem?_eq_getElem hlt]) (Ok.bind_eq (TA _ _ _) ?_))
   rw [WI hlt] at hk
   have n1:=C6 hs
   have n2:=C5 hs
   have a1:=Se hlt
   have a2:=R0 hlt
   have bad:(kd c'[i]=0∨kd c'[i]=Cq c' i∨120 < c'[i].1∨120 < c'[i].2.1∨120 < c'[i].2.2.length)→C8 c'=false:=by
    intro hb
    cases hg:C8 c' with
    | false=>rfl
    | true=>
     exfalso
     obtain ⟨g1,g2,g3⟩:=Fu hg
     have q:=FH g1
     have n3:=C6 (l:=c'.drop (i+1)) fun p h=>q p (Eh h)
     have n4:=C5 (l:=c'.drop (i+1)) fun p h=>q p (Eh h)
     have p1:=q _ hmem
     have k0:=p1.k; have d0:=p1.d
     rw [g1] at hk
     have hk':=hk.symm
     simp only [Bool.and_eq_true,Bool.not_eq_true',decide_eq_false_iff_not] at hk'
     rcases hb with hb | hb | hb | hb | hb
     ·exact p1.ne hb
     ·exact hk'.1.2 hb
     ·omega
     ·omega
     ·omega
   refine Ok.bind (Q:=fun v=>∃ b:Bool,v=(c',s,t,c',((List.length c':Nat):Int),((i:Nat):Int),b,c'[i].1,c'[i].2.1,c'[i].2.2)∧
     (b=true→kd c'[i]=0∨kd c'[i]=Cq c' i∨120 < c'[i].1∨120 < c'[i].2.1∨120 < c'[i].2.2.length)∧
     (b=false→kd c'[i]≠0∧kd c'[i]≠Cq c' i∧c'[i].1≤120∧c'[i].2.1≤120∧c'[i].2.2.length≤120)) ?_ ?_
   ·refine Ok.ite (fun h0=>?_) fun h0=>?_
    ·have h0':kd c'[i]=0:=by simpa using h0
     exact Ok.mk ⟨true,rfl,fun _=>.inl h0',fun h=>by cases h⟩
    ·have h0':¬ kd c'[i]=0:=by simpa using h0
     refine Ok.ite (fun hp=>?_) fun hp=>?_
     ·have hp':0 < i:=by simpa using hp
      have e:IntKind.wrap .i64 ((i:Int) - 1)=((i - 1:Nat):Int):=by rw [w64 (by omega) (by omega)]; omega
      have hl1:i - 1 < c'.length:=by omega
      have hne:¬ i=0:=by omega
      have hb:Cq c' i=kd c'[i - 1]:=by simp [Cq,hne,List.getElem?_eq_getElem hl1]
      refine Ok.yes (by simp [e]) (Ok.bind_eq (r:=c'[i - 1]) (by simp [e,List.getElem?_eq_getElem hl1]) (Ok.bind_eq (TA _ _ _) ?_))
      rw [hb]
      refine Ok.ite (fun hq=>?_) fun hq=>?_
      ·have hq':kd c'[i - 1]=kd c'[i]:=by simpa using hq
       exact Ok.mk ⟨true,rfl,fun _=>.inr (.inl hq'.symm),fun h=>by cases h⟩
      have hq':¬ kd c'[i - 1]=kd c'[i]:=by simpa using hq
      refine Ok.ite (fun hq1=>Ok.mk ⟨true,rfl,fun _=>.inr (.inr (.inl (by simpa using hq1))),fun h=>by cases h⟩) fun hq1=>?_
      refine Ok.ite (fun hq2=>Ok.mk ⟨true,rfl,fun _=>.inr (.inr (.inr (.inl (by simpa using hq2)))),fun h=>by cases h⟩) fun hq2=>?_
      refine Ok.mk ⟨_,rfl,fun hq3=>.inr (.inr (.inr (.inr ?_))),fun hq3=>⟨h0',fun h=>hq' h.symm,by simpa using hq1,by simpa using hq2,?_⟩⟩
      ·simp only [decide_eq_true_eq] at hq3; omega
      ·simp only [decide_eq_false_iff_not] at hq3; omega
     ·have hi0:i=0:=by
       have:¬ (0:Int) < (i:Int):=by simpa using hp
       omega
      subst hi0
      have hb:Cq c' 0=0:=rfl
      rw [hb]
      refine Ok.ite (fun hq1=>Ok.mk ⟨true,rfl,fun _=>.inr (.inr (.inl (by simpa using hq1))),fun h=>by cases h⟩) fun hq1=>?_
      refine Ok.ite (fun hq2=>Ok.mk ⟨true,rfl,fun _=>.inr (.inr (.inr (.inl (by simpa using hq2)))),fun h=>by cases h⟩) fun hq2=>?_
      refine Ok.mk ⟨_,rfl,fun hq3=>.inr (.inr (.inr (.inr ?_))),fun hq3=>⟨h0',h0',by simpa using hq1,by simpa using hq2,?_⟩⟩
      ·simp only [decide_eq_true_eq] at hq3; omega
      ·simp only [decide_eq_false_iff_not] at hq3; omega
   rintro _ ⟨b,rfl,hb1,hb2⟩
   dsimp only
   cases b with
   | true=>exact Ok.yes rfl (Ok.mk ⟨rfl,bad (hb1 rfl)⟩)
   | false=>
    refine Ok.no (by simp) ?_
    obtain ⟨g1,g2,g3,g4,g5⟩:=hb2 rfl
    have p1:=Vq g1
    have k0:=p1.k; have d0:=p1.d
    have w1:IntKind.wrap .i64 (c'[i].1+c'[i].2.1)=c'[i].1+c'[i].2.1:=w64 (by omega) (by omega)
    have w2:IntKind.wrap .i64 (s+(c'[i].1+c'[i].2.1))=s+(c'[i].1+c'[i].2.1):=w64 (by omega) (by omega)
    have w3:IntKind.wrap .i64 (c'[i].1+((List.length c'[i].2.2:Nat):Int))=c'[i].1+((List.length c'[i].2.2:Nat):Int):=w64 (by omega) (by omega)
    have w4:IntKind.wrap .i64 (t+(c'[i].1+((List.length c'[i].2.2:Nat):Int)))=t+(c'[i].1+((List.length c'[i].2.2:Nat):Int)):=w64 (by omega) (by omega)
    rw [w1,w2,w3,w4]
    have over:(120 < s+(c'[i].1+c'[i].2.1)∨120 < t+(c'[i].1+((List.length c'[i].2.2:Nat):Int)))→C8 c'=false:=by
     intro ho
     cases hg:C8 c' with
     | false=>rfl
     | true=>
      exfalso
      obtain ⟨q1,q2,q3⟩:=Fu hg
      have q:=FH q1
      have n3:=C6 (l:=c'.drop (i+1)) fun p h=>q p (Eh h)
      have n4:=C5 (l:=c'.drop (i+1)) fun p h=>q p (Eh h)
      omega
    refine Ok.bind (Q:=fun v=>v=(c',s+(c'[i].1+c'[i].2.1),t+(c'[i].1+((List.length c'[i].2.2:Nat):Int)),c',((List.length c':Nat):Int),((i:Nat):Int),decide (120 < s+(c'[i].1+c'[i].2.1)∨120 < t+(c'[i].1+((List.length c'[i].2.2:Nat):Int))))) ?_ ?_
    ·refine Ok.ite (fun h=>Ok.mk ?_) fun h=>Ok.mk ?_
     ·have:120 < s+(c'[i].1+c'[i].2.1):=by simpa using h
      simp [this]
     ·have:¬ 120 < s+(c'[i].1+c'[i].2.1):=by simpa using h
      simp [this]
    rintro _ rfl
    dsimp only
    refine Ok.ite (fun hb=>Ok.mk ⟨rfl,over (by simpa using hb)⟩) fun hb=>Ok.mk ⟨⟨rfl,rfl,rfl,i+1,Bq hlen hlt,by omega,?_,?_,?_,?_,?_,?_⟩,?_⟩
    ·rw [Qx hlt,e5]
    ·rw [Qo hlt,e6]
    ·have:¬ (120 < s+(c'[i].1+c'[i].2.1)∨120 < t+(c'[i].1+((List.length c'[i].2.2:Nat):Int))):=by simpa using hb
     dsimp only; omega
    ·have:¬ (120 < s+(c'[i].1+c'[i].2.1)∨120 < t+(c'[i].1+((List.length c'[i].2.2:Nat):Int))):=by simpa using hb
     dsimp only; omega
    ·rw [hk,PS hlt]; simp [g1,g2]
    ·intro p hp
     rw [List.take_succ_eq_append_getElem hlt] at hp
     rcases List.mem_append.1 hp with hp | hp
     ·exact hs p hp
     ·rw [List.mem_singleton.1 hp]; exact p1
    ·rw [Bq hlen hlt]; dsimp only; omega
  ·have:i=c'.length:=by
    have:¬ ((i:Int) < ((List.length c':Nat):Int)):=by simpa using hc
    omega
   subst this
   rw [List.take_length] at e5 e6
   refine Ok.mk ?_
   unfold C8
   rw [hk]
   simp [okk]
   omega
 ·rintro (y | b) hr
  ·exact Ok.mk hr.symm
  ·obtain ⟨rfl,hk⟩:=hr
   exact Ok.mk hk.symm
theorem XK {B:Nat} {c:List Prt} (h:Sm B c) (hB:B≤1099511627776) (hs:∀ p∈c,Some1 p) (hle:src c≤1000000):JB c=some (src c):=by
 have hlen:=Nat.le_trans h.len hB
 unfold JB
 have:Ab E7 (0,c,((List.length c:Nat):Int),0)=some (src c):=by
  have:=Ap E7 (fun k=>(src (c.take k),c,((List.length c:Nat):Int),(k:Int))) c.length (src c) (by
   intro i hlt
   have n1:=C6 (l:=c.take i) fun p h=>hs p (Iz h)
   have n3:=C6 (l:=c.drop (i+1)) fun p h=>hs p (Eh h)
   have p1:=hs _ (List.getElem_mem hlt)
   have k0:=p1.k; have d0:=p1.d
   have a1:=Se hlt
   have w1:IntKind.wrap .i64 (c[i].1+c[i].2.1)=c[i].1+c[i].2.1:=w64 (by omega) (by omega)
   have w2:IntKind.wrap .i64 (src (c.take i)+(c[i].1+c[i].2.1))=src (c.take i)+(c[i].1+c[i].2.1):=w64 (by omega) (by omega)
   have hi:((i:Nat):Int) < ((List.length c:Nat):Int):=by omega
   simp [E7,hi,List.getElem?_eq_getElem hlt,w1,w2,Qx hlt,Bq hlen hlt]) (by simp [E7])
  simpa [src] using this
 rw [this]; rfl
theorem Xm {B:Nat} {c:List Prt} (h:Sm B c) (hB:B≤1099511627776) (hs:∀ p∈c,Some1 p) (hle:tgt c≤1000000):Jr c=some (tgt c):=by
 have hlen:=Nat.le_trans h.len hB
 unfold Jr
 have:Ab E6 (0,c,((List.length c:Nat):Int),0)=some (tgt c):=by
  have:=Ap E6 (fun k=>(tgt (c.take k),c,((List.length c:Nat):Int),(k:Int))) c.length (tgt c) (by
   intro i hlt
   have n1:=C5 (l:=c.take i) fun p h=>hs p (Iz h)
   have n3:=C5 (l:=c.drop (i+1)) fun p h=>hs p (Eh h)
   have p1:=hs _ (List.getElem_mem hlt)
   have k0:=p1.k
   have a1:=R0 hlt
   have w1:IntKind.wrap .i64 (c[i].1+((List.length c[i].2.2:Nat):Int))=c[i].1+((List.length c[i].2.2:Nat):Int):=w64 (by omega) (by omega)
   have w2:IntKind.wrap .i64 (tgt (c.take i)+(c[i].1+((List.length c[i].2.2:Nat):Int)))=tgt (c.take i)+(c[i].1+((List.length c[i].2.2:Nat):Int)):=w64 (by omega) (by omega)
   have hi:((i:Nat):Int) < ((List.length c:Nat):Int):=by omega
   simp [E6,hi,List.getElem?_eq_getElem hlt,w1,w2,Qo hlt,Bq hlen hlt]) (by simp [E6])
  simpa [tgt] using this
 rw [this]; rfl
theorem CL (n lo hi:Int):Da n lo hi=some (decide (lo≤n∧n≤hi)):=by
 unfold Da
 by_cases h1:lo≤n <;> simp [h1]
theorem A5 (n lo hi:Int):BM n lo hi=some (decide (lo≤n∧n≤hi)):=by
 unfold BM
 by_cases h1:lo≤n <;> simp [h1]
end Go.V.G
set_option maxRecDepth 100000
namespace Go.V.G
open Go.V
abbrev Bls:=List (List Int)
structure Bd (bl:Bls):Prop where
 n:bl.length≤100000
 b:∀ x∈bl,0 < x.length∧x.length≤100000
def gd (bl:Bls) (wr lf:Int):Bool:=decide (40≤bl.length∧bl.length≤160) && (bl.all (fun b=>b.length == 128) && (decide (0≤wr∧wr≤1000000000) && decide (-1≤lf∧lf≤1000000)))
abbrev Dsk:=Bls×(Int×(Bool×Int))
theorem D9 {x:List Int} (h:x.length≤1048576):Au x=some x:=by
 unfold Au
 have hr:Aa (List.length ([]:List Int)+List.length x) 1=true:=by
  simp only [List.length_nil,Aa,decide_eq_true_eq]; omega
 cases x with
 | nil=>simp [H3,Aa]
 | cons a x=>simp only [H3,List.isEmpty_cons,Bool.false_eq_true,if_false,Option.bind_some,hr,if_true,List.nil_append]
theorem QH {x:List Int} (h:0 < x.length∧x.length≤100000):Au x=some x:=D9 (by omega)
theorem NQ {bl:Bls} (h:Bd bl):FW bl=some bl:=by
 have hn:=h.n
 unfold FW
 refine Ok.eq (Ok.bind (Q:=fun r=>r=bl) ?_ (fun r hr=>Ok.mk hr))
 refine Ok.loop (fun y=>∃ k:Nat,k≤bl.length∧y=(bl.take k,bl,((bl.length:Nat):Int),((k:Nat):Int))) (fun y=>(((bl.length:Nat):Int) - y.2.2.2).toNat) ⟨0,by omega,by simp⟩ ?_
 rintro _ ⟨k,hk,rfl⟩
 unfold Ln
 dsimp only
 refine Ok.ite (fun hc=>?_) fun hc=>?_
 ·have hlt:k < bl.length:=by simpa using hc
  refine Ok.yes (by simp) ?_
  have hg:bl[Int.toNat ((k:Nat):Int)]?=some bl[k]:=by simp [hlt]
  refine Ok.bind_eq hg (Ok.bind_eq (QH (h.b _ (List.getElem_mem hlt))) ?_)
  have e1:IntKind.wrap .i64 (((k:Nat):Int)+1)=(((k+1:Nat)):Int):=by rw [w64 (by omega) (by omega)]; omega
  refine Ok.yes ?_ (Ok.mk ⟨⟨k+1,by omega,?_⟩,?_⟩)
  ·simp only [List.length_take,List.length_singleton,Aa,decide_eq_true_eq]; omega
  ·rw [e1,List.take_succ_eq_append_getElem hlt]
  ·dsimp only; rw [e1]; omega
 ·have:k=bl.length:=by simp at hc; omega
  refine Ok.mk ?_
  dsimp only
  rw [this,List.take_length]
theorem WH {bl:Bls} (h:Bd bl) (wr:Int) (on:Bool) (lf:Int):Iv bl wr on lf=some (bl,wr,on,lf):=by
 have hn:=h.n
 unfold Iv
 refine Ok.eq (Ok.bind (Q:=fun r=>r.1=bl∧r.2.2.1=wr∧r.2.2.2.1=on∧r.2.2.2.2.1=lf) ?_ (fun r hr=>Ok.mk (by rw [hr.1,hr.2.1,hr.2.2.1,hr.2.2.2])))
 refine Ok.loop (fun y=>∃ k:Nat,k≤bl.length∧y.1=bl.take k∧y.2.1=bl∧y.2.2.1=((bl.length:Nat):Int)∧y.2.2.2.1=((k:Nat):Int)∧y.2.2.2.2.2.1=wr∧y.2.2.2.2.2.2.1=on∧y.2.2.2.2.2.2.2.1=lf) (fun y=>(((bl.length:Nat):Int) - y.2.2.2.1).toNat) ⟨0,by omega,by simp,rfl,rfl,rfl,rfl,rfl,rfl⟩ ?_
 rintro ⟨a,b,c,d,e,f,g,i,j⟩ ⟨k,hk,q1,q2,q3,q4,q5,q6,q7⟩
 dsimp only at q1 q2 q3 q4 q5 q6 q7
 subst q1 q2 q3 q4 q5 q6 q7
 unfold R9
 dsimp only
 refine Ok.ite (fun hc=>?_) fun hc=>?_
 ·have hlt:k < b.length:=by simpa using hc
  refine Ok.yes (by simp) ?_
  have hg:b[Int.toNat ((k:Nat):Int)]?=some b[k]:=by simp [hlt]
  have hb:=h.b _ (List.getElem_mem hlt)
  have e1:IntKind.wrap .i64 (((k:Nat):Int)+1)=(((k+1:Nat)):Int):=by rw [w64 (by omega) (by omega)]; omega
  refine Ok.bind_eq hg (Ok.yes ?_ (Ok.yes ?_ (Ok.mk ⟨⟨k+1,by omega,?_,rfl,rfl,?_,rfl,rfl,rfl⟩,?_⟩)))
  ·simp only [List.length_nil,Aa,decide_eq_true_eq]; omega
  ·simp only [List.length_take,List.length_singleton,Aa,decide_eq_true_eq]; omega
  ·rw [List.take_succ_eq_append_getElem hlt,List.nil_append]
  ·dsimp only; rw [e1]
  ·dsimp only; rw [e1]; omega
 ·have:k=b.length:=by simp at hc; omega
  refine Ok.mk ⟨?_,rfl,rfl,rfl⟩
  dsimp only
  rw [this,List.take_length]
theorem AbY {bl:Bls} (hn:bl.length≤1048576):Ok (A3 bl) fun r=>(0≤r↔¬ bl.all (fun b=>b.length == 128)=true):=by
 unfold A3
 refine Ok.bind (Q:=fun r=>match r with | .inl _=>bl.all (fun b=>b.length == 128)=true | .inr i=>0≤i∧¬ bl.all (fun b=>b.length == 128)=true) ?_ ?_
 ·refine Ok.loop (fun y=>∃ k:Nat,k≤bl.length∧y=(bl,((bl.length:Nat):Int),((k:Nat):Int))∧∀ j (hj:j < bl.length),j < k→bl[j].length=128) (fun y=>(((bl.length:Nat):Int) - y.2.2).toNat) ⟨0,by omega,rfl,fun _ _ h=>absurd h (by omega)⟩ ?_
  rintro _ ⟨k,hk,rfl,hall⟩
  unfold Ci
  dsimp only
  refine Ok.ite (fun hc=>?_) fun hc=>?_
  ·have hlt:k < bl.length:=by simpa using hc
   refine Ok.yes (by simp) ?_
   have hg:bl[Int.toNat ((k:Nat):Int)]?=some bl[k]:=by simp [hlt]
   refine Ok.bind_eq hg (Ok.bind_eq rfl (Ok.ite (fun hb=>Ok.mk ⟨by omega,?_⟩) fun hb=>?_))
   ·have hb':¬ bl[k].length=128:=by simp at hb; omega
    intro hx
    have:=List.all_eq_true.1 hx _ (List.getElem_mem hlt)
    simp at this
    exact hb' this
   ·have hb':bl[k].length=128:=by simp at hb; omega
    have e1:IntKind.wrap .i64 (((k:Nat):Int)+1)=(((k+1:Nat)):Int):=by rw [w64 (by omega) (by omega)]; omega
    refine Ok.mk ⟨⟨k+1,by omega,by rw [e1],fun j hj hjk=>?_⟩,?_⟩
    ·by_cases hjk2:j=k
     ·subst hjk2; exact hb'
     ·exact hall j hj (by omega)
    ·dsimp only; rw [e1]; omega
  ·have:k=bl.length:=by simp at hc; omega
   refine Ok.mk ?_
   dsimp only
   rw [List.all_eq_true]
   intro x hx
   obtain ⟨j,hj,rfl⟩:=List.getElem_of_mem hx
   simp [hall j hj (by omega)]
 ·rintro (u | i) hr
  ·refine Ok.mk ?_
   simp only at hr
   simp [hr]
  ·refine Ok.mk ?_
   simp only at hr
   simp only [hr.1,true_iff]; exact hr.2
theorem QA {bl:Bls} (hn:bl.length≤1048576) (wr:Int) (on:Bool) (lf:Int):Jz bl wr on lf=some (gd bl wr lf):=by
 have hA:II bl=some (decide (40≤bl.length∧bl.length≤160) && bl.all (fun b=>b.length == 128)):=by
  unfold II
  refine Ok.eq (Ok.bind (Q:=fun r=>r=_) ?_ (fun r hr=>Ok.mk hr))
  refine Ok.bind_eq (A5 _ _ _) ?_
  refine Ok.ite (fun hc=>?_) fun hc=>Ok.mk ?_
  ·refine Ok.bind (Q:=fun r=>r = !(bl.all (fun b=>b.length == 128))) ?_ (fun r hr=>Ok.mk ?_)
   ·unfold Bo
    refine (AbY hn).bind fun r hr=>Ok.mk ?_
    cases ha:bl.all (fun b=>b.length == 128) with
    | true=>rw [ha] at hr; simpa using hr
    | false=>rw [ha] at hr; simpa using hr
   ·have hc':40≤bl.length∧bl.length≤160:=by simp at hc; omega
    rw [hr]; simp [hc']
  ·have hc':¬ (40≤bl.length∧bl.length≤160):=by simp at hc; omega
   simp [hc']
 unfold Jz gd
 refine Ok.eq (Ok.bind (Q:=fun r=>r=_) ?_ (fun r hr=>Ok.mk hr))
 refine Ok.bind_eq hA ?_
 refine Ok.ite (fun hc=>?_) fun hc=>Ok.mk ?_
 ·simp only [Bool.and_eq_true] at hc
  refine Ok.bind_eq (A5 _ _ _) (Ok.ite (fun hw=>Ok.bind_eq (A5 _ _ _) (Ok.mk ?_)) fun hw=>Ok.mk ?_)
  ·simp only [decide_eq_true_eq] at hw
   simp [hc.1,hc.2,hw]
  ·simp only [decide_eq_true_eq] at hw
   simp [hw]
 ·have:(decide (40≤bl.length∧bl.length≤160) && bl.all (fun b=>b.length == 128))=false:=by simpa using hc
  rw [← Bool.and_assoc,this,Bool.false_and]
theorem QT {bl:Bls} (hn:bl.length≤1048576) (wr:Int) (on:Bool) (lf:Int):Ju bl wr on lf=some (gd bl wr lf):=by
 unfold Ju gd
 refine Ok.eq (Ok.bind (Q:=fun r=>r=(!(decide (40≤bl.length∧bl.length≤160) && (decide (0≤wr∧wr≤1000000000) && decide (-1≤lf∧lf≤1000000))),bl,wr,on,lf)) ?_ ?_)
 ·refine Ok.bind_eq (CL _ _ _) (Ok.ite (fun hc=>Ok.mk ?_) fun hc=>?_)
  ·have hc':¬ (40≤bl.length∧bl.length≤160):=by simp at hc; omega
   simp [hc']
  ·have hc':40≤bl.length∧bl.length≤160:=by simp at hc; omega
   refine Ok.bind_eq (CL _ _ _) (Ok.ite (fun hw=>Ok.mk ?_) fun hw=>Ok.bind_eq (CL _ _ _) (Ok.mk ?_))
   ·have hw':¬ (0≤wr∧wr≤1000000000):=by simpa only [Bool.not_eq_true',decide_eq_false_iff_not] using hw
    simp [hw']
   ·have hw':0≤wr∧wr≤1000000000:=by simpa using hw
    simp [hc',hw']
 ·rintro _ rfl
  dsimp only
  refine Ok.ite (fun hc=>Ok.mk ?_) fun hc=>?_
  ·have hc':(decide (40≤bl.length∧bl.length≤160) && (decide (0≤wr∧wr≤1000000000) && decide (-1≤lf∧lf≤1000000)))=false:=by simpa only [Bool.not_not,Bool.not_eq_true',Bool.not_eq_true,Bool.not_eq_false'] using hc
   cases h1:decide (40≤bl.length∧bl.length≤160) with
   | false=>simp
   | true=>rw [h1,Bool.true_and] at hc'; rw [hc']; simp
  ·have hc':(decide (40≤bl.length∧bl.length≤160) && (decide (0≤wr∧wr≤1000000000) && decide (-1≤lf∧lf≤1000000)))=true:=by simpa using hc
   rw [Bool.and_eq_true] at hc'
   rw [hc'.1,hc'.2,Bool.true_and,Bool.and_true]
   refine Ok.bind (Q:=fun r=>match r with | .inl _=>bl.all (fun b=>b.length == 128)=true | .inr i=>i=false∧¬ bl.all (fun b=>b.length == 128)=true) ?_ ?_
   ·refine Ok.loop (fun y=>∃ k:Nat,k≤bl.length∧y=(bl,((bl.length:Nat):Int),((k:Nat):Int))∧∀ j (hj:j < bl.length),j < k→bl[j].length=128) (fun y=>(((bl.length:Nat):Int) - y.2.2).toNat) ⟨0,by omega,rfl,fun _ _ h=>absurd h (by omega)⟩ ?_
    rintro _ ⟨k,hk,rfl,hall⟩
    unfold Nq
    dsimp only
    refine Ok.ite (fun hc=>?_) fun hc=>?_
    ·have hlt:k < bl.length:=by simpa using hc
     refine Ok.yes (by simp) ?_
     have hg:bl[Int.toNat ((k:Nat):Int)]?=some bl[k]:=by simp [hlt]
     refine Ok.bind_eq hg (Ok.ite (fun hb=>Ok.mk ⟨rfl,?_⟩) fun hb=>?_)
     ·have hb':¬ bl[k].length=128:=by simp at hb; omega
      intro hx
      have:=List.all_eq_true.1 hx _ (List.getElem_mem hlt)
      simp at this
      exact hb' this
     ·have hb':bl[k].length=128:=by simp at hb; omega
      have e1:IntKind.wrap .i64 (((k:Nat):Int)+1)=(((k+1:Nat)):Int):=by rw [w64 (by omega) (by omega)]; omega
      refine Ok.mk ⟨⟨k+1,by omega,by rw [e1],fun j hj hjk=>?_⟩,?_⟩
      ·by_cases hjk2:j=k
       ·subst hjk2; exact hb'
       ·exact hall j hj (by omega)
      ·dsimp only; rw [e1]; omega
    ·have:k=bl.length:=by simp at hc; omega
     refine Ok.mk ?_
     dsimp only
     rw [List.all_eq_true]
     intro x hx
     obtain ⟨j,hj,rfl⟩:=List.getElem_of_mem hx
     simp [hall j hj (by omega)]
   ·rintro (u | i) hr
    ·exact Ok.mk hr.symm
    ·refine Ok.mk ?_
     simp only at hr
     rw [hr.1]
     simpa using hr.2
end Go.V.G
set_option maxRecDepth 100000
namespace Go.V.G
open Go.V
theorem Bd.set {bl:Bls} (h:Bd bl) {x:List Int} (hx:0 < x.length∧x.length≤100000) (i:Nat):Bd (bl.set i x):=
 ⟨by rw [List.length_set]; exact h.n,fun y hy=>by
  rcases List.mem_or_eq_of_mem_set hy with hy | rfl
  ·exact h.b y hy
  ·exact hx⟩
def BI (a:Int) (data:List Int) (bl:Bls) (wr:Int) (on:Bool) (lf:Int):Bool×Dsk:=
 if on=false then (false,bl,wr,on,lf) else if lf=0 then (false,bl,wr,false,lf) else
  (true,bl.set a.toNat data,IntKind.wrap .i64 (wr+1),on,if 0 < lf then IntKind.wrap .i64 (lf - 1) else lf)
theorem Abk {a:Int} {data:List Int} {bl:Bls} (hd:data.length≤100000) (h0:0≤a) (h1:a < bl.length) (wr:Int) (on:Bool) (lf:Int):KN a data bl wr on lf=some (BI a data bl wr on lf):=by
 unfold KN BI
 have hg:bl[Int.toNat a]?=some bl[a.toNat]:=List.getElem?_eq_getElem (by omega)
 have hr:Aa (List.length ([]:List Int)+List.length data) 1=true:=by simp only [List.length_nil,Aa,decide_eq_true_eq]; omega
 cases on with
 | false=>simp
 | true=>
  by_cases hl:lf=0
  ·simp [hl]
  ·by_cases hp:0 < lf
   ·simp only [Bool.not_true,Bool.false_eq_true,if_false,hl,decide_false,hp,decide_true,if_true,Option.bind_some,hr,h0,h1,hg,reduceCtorEq,List.nil_append,Nat.zero_add]
   ·simp only [Bool.not_true,Bool.false_eq_true,if_false,hl,decide_false,hp,if_true,Option.bind_some,hr,h0,h1,hg,decide_true,reduceCtorEq,List.nil_append,Nat.zero_add]
theorem Aa1 {a:Int} {data:List Int} {bl:Bls} (hd:0 < data.length∧data.length≤100000) (h0:0≤a) (h1:a < bl.length) (wr:Int) (lf:Int):Gp a data bl wr true lf=some (BI a data bl wr true lf):=by
 unfold Gp BI
 have hg:bl[Int.toNat a]?=some bl[a.toNat]:=List.getElem?_eq_getElem (by omega)
 by_cases hl:lf=0
 ·simp [hl]
 ·by_cases hp:0 < lf
  ·simp only [Bool.false_eq_true,if_false,hl,decide_false,hp,decide_true,if_true,Option.bind_some,QH hd,h0,h1,hg,reduceCtorEq,Nat.zero_add]
  ·simp only [Bool.false_eq_true,if_false,hl,decide_false,hp,if_true,Option.bind_some,QH hd,h0,h1,hg,decide_true,reduceCtorEq,Nat.zero_add]
theorem KH {bl:Bls} (h:Bd bl) (wr:Int) (on:Bool) (lf:Int):Dl bl wr on lf=some (bl,wr,on,lf):=by
 unfold Dl
 rw [NQ h]; rfl
end Go.V.G
set_option maxRecDepth 100000
namespace Go.V.G
open Go.V
section
variable {α:Type}
theorem ixS {n i:Nat} (hn:n≤4611686018427387904) (h:i < n):IntKind.wrap .i64 (((i:Nat):Int)+1)=((i+1:Nat):Int):=by rw [w64 (by omega) (by omega)]; omega
def Aq (w:α→Nat):List α→Nat
 | []=>0
 | x::xs=>w x+Aq w xs
theorem EK (w:α→Nat):∀ {xs:List α} {x:α},x∈xs→w x≤Aq w xs
 | y::xs,x,h=>by
  rcases List.mem_cons.1 h with rfl | h
  ·simp only [Aq]; omega
  ·have:=EK w h; simp only [Aq]; omega
theorem LD (w:α→Nat):∀ (a b:List α),Aq w (a++b)=Aq w a+Aq w b
 | [],b=>by simp [Aq]
 | x::a,b=>by simp only [List.cons_append,Aq,LD w a b]; omega
def lft (l:Int) (n:Nat):Int:=if ((n:Nat):Int)≤l then l - n else -1
theorem SJ (f:List α×(Int×Int)→Option ((List α×(Int×Int))⊕(Int⊕Int))) (w:α→Nat) (xs:List α)
  (step:∀ (i:Nat) (h:i < xs.length) (l:Int),0≤l→l≤1048576→f (xs,l,((i:Nat):Int))=some (if ((w xs[i]:Nat):Int)≤l then .inl (xs,l - w xs[i],((i+1:Nat):Int)) else .inr (.inr (-1))))
  (last:∀ l,f (xs,l,((xs.length:Nat):Int))=some (.inr (.inl l))) {l:Int} (h0:0≤l) (h1:l≤1048576) :
  Ab f (xs,l,0)=some (if ((Aq w xs:Nat):Int)≤l then .inl (l - Aq w xs) else .inr (-1)):=by
 have:=AcD f (fun y=>y.1=xs∧(0≤y.2.1∧y.2.1≤1048576)∧∃ i:Nat,y.2.2=((i:Nat):Int)∧i≤xs.length) (fun y=>(((xs.length:Nat):Int) - y.2.2).toNat)
  (fun y=>if ((Aq w (y.1.drop y.2.2.toNat):Nat):Int)≤y.2.1 then .inl (y.2.1 - Aq w (y.1.drop y.2.2.toNat)) else .inr (-1)) (by
   rintro ⟨ys,l,i'⟩ ⟨e1,⟨h0,h1⟩,i,e2,hi⟩
   dsimp only at e1 h0 h1 e2
   subst e1 e2
   dsimp only
   rcases Nat.lt_or_ge i ys.length with hlt | hge
   ·have hs:=step i hlt l h0 h1
    have hd:Aq w (ys.drop i)=w ys[i]+Aq w (ys.drop (i+1)):=by rw [List.drop_eq_getElem_cons hlt]; rfl
    simp only [Int.toNat_natCast]
    by_cases hw:((w ys[i]:Nat):Int)≤l
    ·left
     rw [if_pos hw] at hs
     refine ⟨_,hs,⟨rfl,by dsimp only; omega,i+1,rfl,by omega⟩,by dsimp only; omega,?_⟩
     dsimp only
     simp only [Int.toNat_natCast,hd]
     by_cases hx:(((Aq w (ys.drop (i+1)):Nat):Int))≤l - ((w ys[i]:Nat):Int)
     ·rw [if_pos hx,if_pos (by omega)]
      congr 1; omega
     ·rw [if_neg hx,if_neg (by omega)]
    ·right
     rw [if_neg hw] at hs
     rw [hs,if_neg (by rw [hd]; omega)]
   ·right
    have:i=ys.length:=by omega
    subst this
    rw [last]
    simp [Aq,h0]) (xs,l,0) ⟨rfl,⟨h0,h1⟩,0,rfl,Nat.zero_le _⟩
 simpa using this
theorem Mg (f:List α×(List α×Int)→Option ((List α×(List α×Int))⊕(Unit⊕Bool))) (xs:List α) (step:∀ (i:Nat) (h:i < xs.length),f (xs,xs,((i:Nat):Int))=some (.inl (xs,xs,((i+1:Nat):Int))))
  (last:f (xs,xs,((xs.length:Nat):Int))=some (.inr (.inl ()))):Ab f (xs,xs,0)=some (.inl ()):=by
 have:=Ap f (fun k=>(xs,xs,((k:Nat):Int))) xs.length (.inl ()) (fun k hk=>step k hk) last
 simpa using this
theorem Mw (f:List α×(List α×Int)→Option ((List α×(List α×Int))⊕(List α))) (xs:List α) (z:α)
  (step:∀ (ys:List α) (i:Nat) (h:i < xs.length),ys.length=xs.length→f (xs,ys,((i:Nat):Int))=some (.inl (xs,ys.set i xs[i],((i+1:Nat):Int))))
  (last:∀ ys:List α,f (xs,ys,((xs.length:Nat):Int))=some (.inr ys)):Ab f (xs,List.replicate xs.length z,0)=some xs:=by
 have:=Ap f (fun k=>(xs,xs.take k++List.replicate (xs.length - k) z,((k:Nat):Int))) xs.length xs (fun k hk=>by
  rw [step _ k hk (by simp; omega),show xs.length - k=(xs.length - (k+1))+1 by omega,List.replicate_succ,List.take_succ_eq_append_getElem hk,List.set_append_right _ _ (by simp; omega),
   List.length_take,Nat.min_eq_left (Nat.le_of_lt hk),Nat.sub_self,List.set_cons_zero,List.append_assoc]
  rfl) (by rw [last]; simp)
 simpa using this
def mks (m:α→Int→α) (c:α→Nat):List α→Int→List α
 | [],_=>[]
 | x::xs,k=>m x k::mks m c xs (k+c x)
theorem F7 (m:α→Int→α) (c:α→Nat):∀ (xs:List α) (k:Int),(mks m c xs k).length=xs.length
 | [],_=>rfl
 | x::xs,k=>by simp only [mks,List.length_cons,F7 m c xs]
theorem M6 (m:α→Int→α) (c:α→Nat):∀ (a b:List α) (k:Int),mks m c (a++b) k=mks m c a k++mks m c b (k+Aq c a)
 | [],b,k=>by simp [mks,Aq]
 | x::a,b,k=>by
  simp only [List.cons_append,mks,M6 m c a b,Aq]
  congr 3; omega
theorem Ac7 (m:α→Int→α) (c:α→Nat) {xs:List α} {k:Int} {i:Nat} (h:i < xs.length):(mks m c xs k)[i]'(by rw [F7]; exact h)=m xs[i] (k+Aq c (xs.take i)):=by
 have e:xs=xs.take i++xs[i]::xs.drop (i+1):=by rw [← List.drop_eq_getElem_cons h,List.take_append_drop]
 have hl:(mks m c (xs.take i) k).length=i:=by rw [F7,List.length_take]; omega
 have h2:(mks m c xs k)[i]?=some (m xs[i] (k+Aq c (xs.take i))):=by
  conv=>lhs; rw [e]
  rw [M6,List.getElem?_append_right (by omega),hl,Nat.sub_self]; rfl
 rw [List.getElem?_eq_getElem (by rw [F7]; exact h)] at h2
 exact Option.some.inj h2
theorem Ui (c:α→Nat) {xs:List α} {i:Nat} (h:i < xs.length):Aq c (xs.take (i+1))=Aq c (xs.take i)+c xs[i]:=by
 rw [List.take_succ_eq_append_getElem h,LD]; simp [Aq]
theorem NY (c:α→Nat) (xs:List α) (i:Nat):Aq c (xs.take i)≤Aq c xs:=by
 conv=>rhs; rw [← List.take_append_drop i xs]
 rw [LD]; omega
theorem I0 (f:List α×(Int×Int)→Option ((List α×(Int×Int))⊕(List α×Int))) (m:α→Int→α) (c:α→Nat) (xs:List α)
  (step:∀ (ys:List α) (i:Nat) (h:i < ys.length) (k:Int),ys.length=xs.length→ys[i]∈xs→0≤k→k+c ys[i]≤4611686018427387904→f (ys,k,((i:Nat):Int))=some (.inl (ys.set i (m ys[i] k),k+c ys[i],((i+1:Nat):Int))))
  (last:∀ (ys:List α) (k:Int),f (ys,k,((ys.length:Nat):Int))=some (.inr (ys,k))) {k:Int} (h0:0≤k) (h1:k+Aq c xs≤4611686018427387904) :
  Ab f (xs,k,0)=some (mks m c xs k,k+Aq c xs):=by
 have:=Ap f (fun i=>(mks m c (xs.take i) k++xs.drop i,k+Aq c (xs.take i),((i:Nat):Int))) xs.length (mks m c xs k,k+Aq c xs) (fun i hi=>by
  have hl:(mks m c (xs.take i) k).length=i:=by rw [F7,List.length_take]; omega
  have hlen:(mks m c (xs.take i) k++xs.drop i).length=xs.length:=by rw [List.length_append,hl,List.length_drop]; omega
  have hget:(mks m c (xs.take i) k++xs.drop i)[i]'(by rw [hlen]; exact hi)=xs[i]:=by
   rw [List.getElem_append_right (by omega)]
   simp [hl]
  have ht:=Ui c hi
  have hle:=NY c xs (i+1)
  rw [step _ i (by rw [hlen]; exact hi) _ hlen (by rw [hget]; exact List.getElem_mem hi) (by omega) (by rw [hget]; omega),hget]
  have e1:(mks m c (xs.take i) k++xs.drop i).set i (m xs[i] (k+Aq c (xs.take i)))=mks m c (xs.take (i+1)) k++xs.drop (i+1):=by
   rw [List.set_append_right _ _ (by omega),hl,Nat.sub_self,List.drop_eq_getElem_cons hi,List.set_cons_zero,List.take_succ_eq_append_getElem hi,M6,List.append_assoc]; rfl
  rw [e1,ht]
  congr 4; omega) (by
   have hl:(mks m c (xs.take xs.length) k++xs.drop xs.length).length=xs.length:=by rw [List.length_append,F7]; simp
   have:=last (mks m c (xs.take xs.length) k++xs.drop xs.length) (k+Aq c (xs.take xs.length))
   rw [hl] at this
   rw [this]; simp)
 simpa [mks,Aq] using this
theorem TV (g:List α×(Int×Int)→Option ((List α×(Int×Int))⊕(Int⊕Int))) (m:α→Int→α) (c:α→Nat) (xs:List α)
  (step:∀ (ys:List α) (i:Nat) (h:i < ys.length) (x:α) (k:Int),ys.length=xs.length→x∈xs→ys[i]=m x k→0≤k→k+c x≤4611686018427387904→g (ys,k,((i:Nat):Int))=some (.inl (ys,k+c x,((i+1:Nat):Int))))
  (last:∀ (ys:List α) (k:Int),g (ys,k,((ys.length:Nat):Int))=some (.inr (.inl k))) {k:Int} (h0:0≤k) (h1:k+Aq c xs≤4611686018427387904) :
  Ab g (mks m c xs k,k,0)=some (.inl (k+Aq c xs)):=by
 have:=Ap g (fun i=>(mks m c xs k,k+Aq c (xs.take i),((i:Nat):Int))) xs.length (.inl (k+Aq c xs)) (fun i hi=>by
  have ht:=Ui c hi
  have hle:=NY c xs (i+1)
  rw [step _ i (by rw [F7]; exact hi) xs[i] _ (F7 ..) (List.getElem_mem hi) (Ac7 m c hi) (by omega) (by omega),ht]
  congr 4; omega) (by
   have:=last (mks m c xs k) (k+Aq c (xs.take xs.length))
   rw [F7] at this
   rw [this]; simp)
 simpa [Aq] using this
end
end Go.V.G
set_option maxRecDepth 100000
namespace Go.V.G
open Go.V
def N8 (xs:List (Int)):Prop:=xs.length≤maxLen
def AX (xs:List (Int)):Nat:=xs.length
theorem PX (xs:List (Int)):xs.length≤AX xs:=by unfold AX; omega
theorem Abb {xs:List (Int)} (hf:N8 xs) {l:Int} (h0:0≤l) (h1:l≤1048576):K6 xs l=some (lft l (AX xs)):=by
 have hl:xs.length≤maxLen:=hf
 unfold maxLen at hl
 unfold K6 lft AX
 rw [w64 (by omega) (by omega)]
 by_cases h:l - ((xs.length:Nat):Int) < 0
 ·rw [if_pos (by simpa using h),if_neg (by omega)]
 ·rw [if_neg (by simpa using h),if_pos (by omega)]
theorem AbQ {xs:List (Int)} (h:AX xs≤1048576):KS xs=some xs:=by
 have hl:=PX xs
 have hr:Aa xs.length 1=true:=by simp only [Aa,decide_eq_true_eq]; omega
 unfold KS
 simp only [Int.toNat_natCast,hr,if_true,Int.le_refl,decide_true,show (0:Int)≤((xs.length:Nat):Int) from by omega]
 rw [Mw H0 xs _ (by
  intro ys i hi hy
  have hc:((i:Nat):Int) < ((xs.length:Nat):Int):=by omega
  have hy':i < ys.length:=by omega
  have g1:∀ x,(ys.set i x)[i]?=some x:=fun x=>List.getElem?_set_self hy'
  skip
  unfold H0
  simp only [hy,hc,decide_true,if_true,show (0:Int)≤((i:Nat):Int) from by omega,Int.toNat_natCast,List.getElem?_eq_getElem hi,List.getElem?_eq_getElem hy',Option.bind_some,Nat.zero_add,List.set_set,g1,ixS (show xs.length≤4611686018427387904 by omega) hi]) (by intro ys; simp [H0])]
 rfl
theorem Abf {xs:List (Int)} (h:AX xs≤1099511627776):Lu xs xs=some true:=by
 have hl:=PX xs
 unfold Lu
 rw [if_neg (by simp),Mg H7 xs (by
  intro i hi
  have hc:((i:Nat):Int) < ((xs.length:Nat):Int):=by omega
  skip
  unfold H7
  simp only [hc,decide_true,if_true,show (0:Int)≤((i:Nat):Int) from by omega,Int.toNat_natCast,List.getElem?_eq_getElem hi,Option.bind_some,ixS (show xs.length≤4611686018427387904 by omega) hi,Bool.not_true,Bool.false_eq_true,if_false,not_true_eq_false,decide_false]) (by simp [H7])]
 rfl
def JI (xs:List (List Int)):Prop:=xs.length≤maxLen∧∀ x∈xs,N8 x
def AL (xs:List (List Int)):Nat:=xs.length+Aq AX xs
theorem FQ (xs:List (List Int)):xs.length≤AL xs:=by unfold AL; omega
theorem Aaq {xs:List (List Int)} (hf:JI xs) {l:Int} (h0:0≤l) (h1:l≤1048576):JL xs l=some (lft l (AL xs)):=by
 obtain ⟨hl,hx⟩:=hf
 unfold maxLen at hl
 unfold JL
 rw [w64 (by omega) (by omega)]
 by_cases h:l - ((xs.length:Nat):Int) < 0
 ·rw [if_pos (by simpa using h)]; unfold lft AL; rw [if_neg (by omega)]
 ·rw [if_neg (by simpa using h),SJ GU AX xs (by
   intro i hi l h0 h1
   have hc:((i:Nat):Int) < ((xs.length:Nat):Int):=by omega
   have hx:=hx _ (List.getElem_mem hi)
   unfold GU
   simp only [hc,decide_true,if_true,show (0:Int)≤((i:Nat):Int) from by omega,Int.toNat_natCast,List.getElem?_eq_getElem hi,Option.bind_some,Abb (hx) h0 h1,ixS (show xs.length≤4611686018427387904 by omega) hi]
   unfold lft
   by_cases hw:((AX xs[i]:Nat):Int)≤l
   ·have:¬ l - ((AX xs[i]:Nat):Int) < 0:=by omega
    simp [hw,this]
   ·simp [hw]) (by intro l; simp [GU]) (by omega) (by omega),Option.bind_some]
  unfold lft AL
  by_cases hx:((Aq AX xs:Nat):Int)≤l - ((xs.length:Nat):Int)
  ·rw [if_pos hx,if_pos (by omega)]
   show some _=some _
   congr 1; omega
  ·rw [if_neg hx,if_neg (by omega)]
theorem ZI {xs:List (List Int)} (h:AL xs≤1048576):Jv xs=some xs:=by
 have hl:=FQ xs
 have hr:Aa xs.length 24=true:=by simp only [Aa,decide_eq_true_eq]; omega
 unfold Jv
 simp only [Int.toNat_natCast,hr,if_true,Int.le_refl,decide_true,show (0:Int)≤((xs.length:Nat):Int) from by omega]
 rw [Mw G8 xs _ (by
  intro ys i hi hy
  have hc:((i:Nat):Int) < ((xs.length:Nat):Int):=by omega
  have hy':i < ys.length:=by omega
  have g1:∀ x,(ys.set i x)[i]?=some x:=fun x=>List.getElem?_set_self hy'
  have hb:AX xs[i]≤1048576:=by have:=EK AX (List.getElem_mem hi); unfold AL at h; omega
  unfold G8
  simp only [hy,hc,decide_true,if_true,show (0:Int)≤((i:Nat):Int) from by omega,Int.toNat_natCast,List.getElem?_eq_getElem hi,List.getElem?_eq_getElem hy',Option.bind_some,Nat.zero_add,List.set_set,g1,ixS (show xs.length≤4611686018427387904 by omega) hi,AbQ (hb)]) (by intro ys; simp [G8])]
 rfl
theorem ZX {xs:List (List Int)} (h:AL xs≤1099511627776):Jp xs xs=some true:=by
 have hl:=FQ xs
 unfold Jp
 rw [if_neg (by simp),Mg Ha xs (by
  intro i hi
  have hc:((i:Nat):Int) < ((xs.length:Nat):Int):=by omega
  have hb:AX xs[i]≤1099511627776:=by have:=EK AX (List.getElem_mem hi); unfold AL at h; omega
  unfold Ha
  simp only [hc,decide_true,if_true,show (0:Int)≤((i:Nat):Int) from by omega,Int.toNat_natCast,List.getElem?_eq_getElem hi,Option.bind_some,ixS (show xs.length≤4611686018427387904 by omega) hi,Abf (hb),Bool.not_true,Bool.false_eq_true,if_false,not_true_eq_false,decide_false]) (by simp [Ha])]
 rfl
end Go.V.G
set_option maxRecDepth 100000
namespace Go.V.G
open Go.V
theorem n1:((1:Nat):Int)=1:=rfl
theorem n4:((4:Nat):Int)=4:=rfl
def Ck:Int→Nat:=fun _=>1
def IB:Int→Int→Int:=fun _ k=>IntKind.wrap .u8 k
theorem V5:∀ xs:List Int,Aq Ck xs=xs.length
 | []=>rfl
 | x::xs=>by simp only [Aq,V5 xs,Ck,List.length_cons]; omega
theorem Zo {xs:List Int} (hl:xs.length≤1099511627776) {k:Int} (h0:0≤k) (h1:k+Aq Ck xs≤4611686018427387904):G7 xs k=some (mks IB Ck xs k,k+Aq Ck xs):=by
 unfold G7
 rw [I0 EP IB Ck xs (by
  intro ys i hi k hlen hmem h0 hk
  have hc:((i:Nat):Int) < ((ys.length:Nat):Int):=by omega
  simp only [Ck] at hk
  have w1:IntKind.wrap .i64 (k+1)=k+1:=w64 (by omega) (by omega)
  unfold EP
  simp only [hc,decide_true,if_true,show (0:Int)≤((i:Nat):Int) from by omega,Int.toNat_natCast,List.getElem?_eq_getElem hi,Option.bind_some,Nat.zero_add,ixS (show ys.length≤4611686018427387904 by omega) hi,w1,IB,Ck,n1]) (by intro ys k; simp [EP]) h0 h1]
 rfl
theorem YK {xs:List Int} (hl:xs.length≤1099511627776) {k:Int} (h0:0≤k) (h1:k+Aq Ck xs≤4611686018427387904):IO (mks IB Ck xs k) k=some (k+Aq Ck xs):=by
 unfold IO
 rw [TV Gj IB Ck xs (by
  intro ys i hi x k hlen hmem hx h0 hk
  have hc:((i:Nat):Int) < ((ys.length:Nat):Int):=by omega
  simp only [Ck] at hk
  have w1:IntKind.wrap .i64 (k+1)=k+1:=w64 (by omega) (by omega)
  unfold Gj
  simp only [hc,decide_true,if_true,show (0:Int)≤((i:Nat):Int) from by omega,Int.toNat_natCast,List.getElem?_eq_getElem hi,Option.bind_some,hx,ixS (show ys.length≤4611686018427387904 by omega) hi,w1,IB,Ck,n1,not_true_eq_false,decide_false,Bool.false_eq_true,if_false]) (by intro ys k; simp [Gj]) h0 h1]
 rfl
def Bm:List Int→Nat:=fun x=>Aq Ck x
def EJ:List Int→Int→List Int:=fun x k=>mks IB Ck x k
theorem I6:∀ xs:List (List Int),Aq Bm xs≤AL xs
 | []=>Nat.zero_le _
 | x::xs=>by
  have ih:=I6 xs; have hx:=V5 x
  simp only [AL,Aq,List.length_cons,Bm,AX] at ih ⊢
  omega
theorem XJ {xs:List (List Int)} (h:AL xs≤1099511627776) {k:Int} (h0:0≤k) (h1:k+Aq Bm xs≤4611686018427387904):Gd xs k=some (mks EJ Bm xs k,k+Aq Bm xs):=by
 have hl:=FQ xs
 unfold Gd
 rw [I0 Et EJ Bm xs (by
  intro ys i hi k hlen hmem h0 hk
  have hc:((i:Nat):Int) < ((ys.length:Nat):Int):=by omega
  have hb:ys[i].length≤1099511627776:=by have:=EK AX hmem; have e:AX ys[i]=ys[i].length:=rfl; unfold AL at h; omega
  have hm:=Zo hb h0 hk
  unfold Et
  simp only [hc,decide_true,if_true,show (0:Int)≤((i:Nat):Int) from by omega,Int.toNat_natCast,List.getElem?_eq_getElem hi,Option.bind_some,Nat.zero_add,ixS (show ys.length≤4611686018427387904 by omega) hi,hm,EJ,Bm]) (by intro ys k; simp [Et]) h0 h1]
 rfl
theorem Ada (l:Int) (n:Nat):(if decide (lft l n < 0)=true then (some (-1):Option Int) else some (lft l n))=some (lft l n):=by
 by_cases h:lft l n < 0
 ·rw [if_pos (by simpa using h)]
  unfold lft at h ⊢
  split at h
  ·omega
  ·rename_i hn; rw [if_neg hn]
 ·rw [if_neg (by simpa using h)]
theorem AcA {b:List (List Int)} {x:Int} {y:Bool} {z:Int} (hf:JI b) {l:Int} (h0:0≤l) (h1:l≤1048576):M1 b x y z l=some (lft l (AL b)):=by
 unfold M1; rw [Aaq hf h0 h1,Option.bind_some,Ada]
theorem AcG {b:List (List Int)} {x:Int} {y:Bool} {z:Int} (h:AL b≤1048576):FJ b x y z=some (b,x,y,z):=by
 unfold FJ; rw [ZI h]; rfl
theorem Yd {b:List (List Int)} {x:Int} {y:Bool} {z:Int} (h:AL b≤1099511627776):E0 b x y z b x y z=some true:=by
 unfold E0; simp [ZX h]
theorem TC {b:List (List Int)} {x:Int} {y:Bool} {z:Int} (h:AL b≤1099511627776) {k:Int} (h0:0≤k) (h1:k≤1000000000000000) :
  DL b x y z k=some (mks EJ Bm b k,x,y,z,k+Aq Bm b):=by
 have:=I6 b
 unfold DL; rw [XJ h h0 (by omega)]; rfl
end Go.V.G
set_option maxRecDepth 100000
namespace Go.V.G
open Go.V
abbrev Cl:=Int×(List Int×(Bool×(Int×Int)))
theorem Iw {σ τ ρ:Type} (f:σ→Option (σ⊕(τ⊕ρ))) (st:Nat→σ) (p:Nat→Bool) (e:Nat→ρ) (z:τ) (n:Nat)
  (step:∀ i,i < n→f (st i)=some (if p i=true then .inl (st (i+1)) else .inr (.inr (e i)))) (last:f (st n)=some (.inr (.inl z))) :
  ((∀ j,j < n→p j=true)∧Ab f (st 0)=some (.inl z))∨∃ k,k < n∧p k=false∧(∀ j,j < k→p j=true)∧Ab f (st 0)=some (.inr (e k)):=by
 by_cases h:∃ k,k < n∧p k=false
 ·have hf:∃ k,(k < n∧p k=false)∧∀ j,j < k→p j=true:=by
   obtain ⟨k,hk⟩:=h
   induction k using Nat.strongRecOn with
   | _ k ih=>
    by_cases hx:∃ j,j < k∧p j=false
    ·obtain ⟨j,hj,hp⟩:=hx
     exact ih j hj ⟨by omega,hp⟩
    ·refine ⟨k,hk,fun j hj=>?_⟩
     cases hpj:p j with
     | true=>rfl
     | false=>exact absurd ⟨j,hj,hpj⟩ hx
  obtain ⟨k,⟨hk,hp⟩,hall⟩:=hf
  refine .inr ⟨k,hk,hp,hall,Ap f st k _ (fun j hj=>?_) ?_⟩
  ·rw [step j (by omega),if_pos (hall j hj)]
  ·rw [step k hk,hp,if_neg (by simp)]
 ·have hall:∀ j,j < n→p j=true:=fun j hj=>by
   cases hpj:p j with
   | true=>rfl
   | false=>exact absurd ⟨j,hj,hpj⟩ h
  exact .inl ⟨hall,Ap f st n _ (fun j hj=>by rw [step j hj,if_pos (hall j hj)]) last⟩
def Aer (ls:List Cl) (u:Int):Bool:=ls.any fun q=>q.2.2.2.2 == u
def gl (x1:Int) (ls:List Cl) (bl:Bls) (i:Nat) (r:Cl):Bool:=
 decide (0≤r.1∧r.1 < bl.length) && (decide (0 < i→(ls[i - 1]?.getD r).1 < r.1) && (decide (r.2.1.length=128) && (decide (0≤r.2.2.2.1∧r.2.2.2.1≤100) && (decide (1≤r.2.2.2.2∧r.2.2.2.2≤x1) &&
  ((r.2.2.1 || r.2.1 == bl[r.1.toNat]?.getD []) && !(Aer (ls.take i) r.2.2.2.2))))))
structure CD (ls:List Cl) (bl:Bls):Prop where
 n:ls.length≤1048576
 m:bl.length≤1048576
 b:∀ x∈ls,x.2.1.length≤1048576∧∀ y∈x.2.1,0≤y∧y≤255
 k:∀ x∈bl,x.length≤1048576∧∀ y∈x,0≤y∧y≤255
def gc (x0 x1:Int) (ls:List Cl) (bl:Bls) (wr lf:Int):Bool:=
 gd bl wr lf && (decide (1≤x0∧x0≤8) && (decide (0≤x1∧x1≤1000000) && (decide (((ls.length:Nat):Int)≤x0) && (List.range ls.length).all fun i=>gl x1 ls bl i (ls[i]?.getD (0,[],false,0,0)))))
theorem Ao {i:Nat} (h:i≤1048576):IntKind.wrap .i64 (((i:Nat):Int)+1)=((i+1:Nat):Int):=by rw [w64 (by omega) (by omega)]; omega
structure Up (ls:List Cl) (m:Nat):Prop where
 up:∀ i j (hi:i < ls.length) (hj:j < ls.length),i < j→ls[i].1 < ls[j].1
 b:∀ i (hi:i < ls.length),0≤ls[i].1∧ls[i].1 < m
end Go.V.G
set_option maxRecDepth 100000
namespace Go.V.G
open Go.V
def ub (r:Int) (j:Nat):Bool:=decide ((IntKind.wrap .u8 (((BitVec.ofInt (IntKind.bits .u8) (Int.fdiv r (2 ^ (min j (IntKind.bits .u8)))) &&& BitVec.ofInt (IntKind.bits .u8) 1).toNat:Int)):Int)=1)
def sb (r:Int) (j:Nat):Int:=IntKind.wrap .u8 (((BitVec.ofInt (IntKind.bits .u8) r ||| BitVec.ofInt (IntKind.bits .u8) (IntKind.wrap .u8 (1 * 2 ^ (min j (IntKind.bits .u8))))).toNat:Int))
def bit (bits:List Int) (k:Nat):Bool:=ub (bits[k / 8]?.getD 0) (k % 8)
def setB (bits:List Int) (k:Nat):List Int:=bits.set (k / 8) (sb (bits[k / 8]?.getD 0) (k % 8))
theorem dv8 {k:Nat} (h:k≤1048576):IntKind.wrap .i64 (Int.tdiv ((k:Nat):Int) 8)=((k / 8:Nat):Int):=by
 rw [Int.tdiv_eq_ediv_of_nonneg (by omega),w64 (by omega) (by omega)]; omega
theorem md8 (k:Nat):Int.tmod ((k:Nat):Int) 8=((k % 8:Nat):Int):=by
 rw [Int.tmod_eq_emod_of_nonneg (by omega)]; omega
theorem Abs (k:Nat):IntKind.wrap .u64 (Int.tmod ((k:Nat):Int) 8)=((k % 8:Nat):Int):=by
 rw [md8,W2 (by omega) (by omega)]
theorem HF {bits:List Int} {k:Nat} (h:k≤1048576) (hk:k / 8 < bits.length):Hh bits ((k:Nat):Int)=some (bit bits k):=by
 unfold Hh bit
 rw [dv8 h,Abs,if_pos (by simp),if_pos (by simp; omega),Int.toNat_natCast,List.getElem?_eq_getElem hk,Option.bind_some,if_pos (by simp),if_pos (by simp; omega)]
 rfl
theorem MQ {bits:List Int} {k:Nat} (h:k≤1048576) (hk:k / 8 < bits.length) (b:Bls) (g t:List Int):Eu ((k:Nat):Int) b bits g t=some (bit bits k,b,bits,g,t):=by
 unfold Eu bit
 rw [dv8 h,md8,if_pos (by simp),if_pos (by simp; omega),if_pos (by simp; omega),Int.toNat_natCast,Nat.zero_add,List.getElem?_eq_getElem hk,Option.bind_some,if_pos (by simp),if_pos (by simp; omega)]
 rfl
theorem QN {bits:List Int} {k:Nat} (h:k≤1048576) (hk:k / 8 < bits.length):EH bits ((k:Nat):Int) true=some (setB bits k):=by
 unfold EH setB
 have hg:bits[k / 8]?=some bits[k / 8]:=List.getElem?_eq_getElem hk
 have hp:decide ((0:Int)≤((k / 8:Nat):Int))=true:=by simp; omega
 have hp2:decide (((k / 8:Nat):Int) < ((bits.length:Nat):Int))=true:=by simp; omega
 have hp3:decide ((0:Int)≤((k % 8:Nat):Int))=true:=by simp; omega
 rw [dv8 h,Abs]
 simp only [hp,hp2,hp3,hg,Int.toNat_natCast,Nat.zero_add,Option.bind_some,if_true,show decide (¬ (8:Int)=0)=true from rfl,Option.getD_some]
 rfl
def upG (n:Nat) (bits l:List Int) (i:Nat):Bool:=
 decide (33≤l[i]?.getD 0∧l[i]?.getD 0≤(n:Int) - 1) && (bit bits (l[i]?.getD 0).toNat && decide (0 < i→l[i - 1]?.getD 0 < l[i]?.getD 0))
def upB (n:Nat) (bits l:List Int):Bool:=(List.range l.length).all fun i=>upG n bits l i
def bG (n:Nat) (bits:List Int) (k:Nat):Bool:=!((decide (k < 33) && !(bit bits k)) || (decide (n≤k) && bit bits k))
theorem all_range {p:Nat→Bool} {n:Nat}:(List.range n).all p=true↔∀ i,i < n→p i=true:=by
 rw [List.all_eq_true]; exact ⟨fun h i hi=>h i (List.mem_range.2 hi),fun h i hi=>h i (List.mem_range.1 hi)⟩
theorem AdB (n:Nat) (bits l:List Int) (i:Nat) (hi:i < l.length):upG n bits l i =
  if ¬ (33≤l[i]∧l[i]≤(n:Int) - 1) then false else if bit bits l[i].toNat=false then false else if 0 < i∧l[i]≤l[i - 1]?.getD 0 then false else true:=by
 unfold upG
 rw [List.getElem?_eq_getElem hi,Option.getD_some]
 by_cases h1:33≤l[i]∧l[i]≤(n:Int) - 1
 ·rw [decide_eq_true h1,if_neg (not_not_intro h1),Bool.true_and]
  by_cases h2:bit bits l[i].toNat=false
  ·rw [h2,if_pos rfl]; rfl
  ·rw [if_neg h2]
   have h2':bit bits l[i].toNat=true:=by simpa using h2
   rw [h2',Bool.true_and]
   by_cases h3:0 < i∧l[i]≤l[i - 1]?.getD 0
   ·rw [if_pos h3]; simp; exact h3
   ·rw [if_neg h3]; simp; omega
 ·rw [decide_eq_false h1,if_pos h1]; rfl
structure SB (b:Bls) (x y z:List Int):Prop where
 b:b.length≤1048576
 y:y.length≤1048576
 z:z.length≤1048576
end Go.V.G
set_option maxRecDepth 100000
namespace Go.V.G
open Go.V
def VS (xs:List (Int)):Prop:=xs.length≤maxLen
def Vm (xs:List (Int)):Nat:=xs.length
end Go.V.G
set_option maxRecDepth 100000
namespace Go.V.G
open Go.V
theorem Xo {xs:List (List Int)} (h:AL xs≤1099511627776) {k:Int} (h0:0≤k) (h1:k+Aq Bm xs≤4611686018427387904):H4 (mks EJ Bm xs k) k=some (k+Aq Bm xs):=by
 have hl:=FQ xs
 unfold H4
 rw [TV Fr EJ Bm xs (by
  intro ys i hi x k hlen hmem hx h0 hk
  have hc:((i:Nat):Int) < ((ys.length:Nat):Int):=by omega
  have hb:x.length≤1099511627776:=by have:=EK AX hmem; have e:AX x=x.length:=rfl; unfold AL at h; omega
  have hm:=YK hb h0 hk
  simp only [Bm] at hk
  have hn:¬ (k+((Aq Ck x:Nat):Int) < 0):=by omega
  unfold Fr
  simp only [hc,decide_true,if_true,show (0:Int)≤((i:Nat):Int) from by omega,Int.toNat_natCast,List.getElem?_eq_getElem hi,Option.bind_some,hx,ixS (show ys.length≤4611686018427387904 by omega) hi,hm,EJ,Bm,hn,decide_false,Bool.false_eq_true,if_false]) (by intro ys k; simp [Fr]) h0 h1]
 rfl
structure FitS (b:List (List Int)) (x y z:List Int):Prop where
 b:JI b
 x:N8 x
 y:VS y
 z:VS z
def Yb (b:List (List Int)) (x y z:List Int):Nat:=AL b+AX x+Vm y+Vm z
end Go.V.G
set_option maxRecDepth 100000
namespace Go.V.G
open Go.V
def Ris (l:List Int):Prop:=∀ i j (hi:i < l.length) (hj:j < l.length),i < j→l[i] < l[j]
theorem FI {n:Nat} {bits l:List Int} (h:upB n bits l=true):Ris l∧∀ i (hi:i < l.length),33≤l[i]∧l[i]≤(n:Int) - 1∧bit bits l[i].toNat=true:=by
 have hg:∀ i (hi:i < l.length),(33≤l[i]∧l[i]≤(n:Int) - 1)∧bit bits l[i].toNat=true∧(0 < i→l[i - 1]?.getD 0 < l[i]):=fun i hi=>by
  have:=all_range.1 h i hi
  unfold upG at this
  rw [List.getElem?_eq_getElem hi,Option.getD_some] at this
  simp only [Bool.and_eq_true,decide_eq_true_eq] at this
  exact this
 refine ⟨fun i j hi hj hij=>?_,fun i hi=>⟨(hg i hi).1.1,(hg i hi).1.2,(hg i hi).2.1⟩⟩
 induction j with
 | zero=>omega
 | succ j ih=>
  have h1:=(hg (j+1) hj).2.2 (by omega)
  rw [show j+1 - 1=j from rfl,List.getElem?_eq_getElem (by omega),Option.getD_some] at h1
  by_cases hjj:i=j
  ·subst hjj; exact h1
  ·have:=ih (by omega) (by omega)
   omega
structure Spot (l:List Int) (n:Int) (k:Nat):Prop where
 le:k≤l.length
 lo:∀ j (h:j < l.length),j < k→l[j] < n
 hi:∀ j (h:j < l.length),k≤j→n≤l[j]
theorem Spot.one {l:List Int} {n:Int} {k m:Nat} (h:Spot l n k) (h':Spot l n m):k=m:=by
 rcases Nat.lt_trichotomy k m with hl | hl | hl
 ·have h1:=h.hi k (by have:=h'.le; omega) (Nat.le_refl _)
  have h2:=h'.lo k (by have:=h'.le; omega) hl
  omega
 ·exact hl
 ·have h1:=h'.hi m (by have:=h.le; omega) (Nat.le_refl _)
  have h2:=h.lo m (by have:=h.le; omega) hl
  omega
def ME (l:List Int) (n:Int) (k:Nat):List Int:=if l[k]?=some n then l else l.take k++([n]++l.drop k)
theorem TJ {l:List Int} (hl:l.length≤1048576) (hr:Ris l) (n:Int):∃ k,Spot l n k∧CZ l n=some (ME l n k):=by
 unfold CZ
 have hloop:Ok (Ab Nf (l,n,0)) fun v=>∃ k:Nat,Spot l n k∧v=(l,n,((k:Nat):Int)):=by
  refine Ok.loop (fun y=>∃ k:Nat,k≤l.length∧(∀ j (h:j < l.length),j < k→l[j] < n)∧y=(l,n,((k:Nat):Int))) (fun y=>(((l.length:Nat):Int) - y.2.2).toNat) ⟨0,by omega,fun j h hj=>absurd hj (by omega),rfl⟩ ?_
  rintro _ ⟨k,hk,hlo,rfl⟩
  unfold Nf
  dsimp only
  by_cases hlt:k < l.length
  ·rw [if_pos (by simp; omega),if_pos (by simp),if_pos (by simp; omega),Nat.zero_add,Int.toNat_natCast,List.getElem?_eq_getElem hlt,Option.bind_some,Option.bind_some]
   dsimp only
   by_cases hc:l[k] < n
   ·rw [if_pos (by simpa using hc),Ao (by omega)]
    refine Ok.mk ⟨⟨k+1,by omega,fun j h hj=>?_,rfl⟩,by dsimp only; omega⟩
    by_cases hjk:j=k
    ·subst hjk; exact hc
    ·exact hlo j h (by omega)
   ·rw [if_neg (by simpa using hc)]
    refine Ok.mk ⟨k,⟨hk,hlo,fun j h hj=>?_⟩,rfl⟩
    by_cases hjk:j=k
    ·subst hjk; omega
    ·have:=hr k j hlt h (by omega); omega
  ·rw [if_neg (by simp; omega),Option.bind_some]
   exact Ok.mk ⟨k,⟨hk,hlo,fun j h hj=>absurd h (by omega)⟩,rfl⟩
 obtain ⟨v,hv,k,hs,rfl⟩:=hloop
 refine ⟨k,hs,?_⟩
 have hk:=hs.le
 rw [hv,Option.bind_some]
 dsimp only
 have ins:∀ (c:Bool),c=false→(if c=true then some l else
   if (decide ((0:Int)≤0))=true then
   if (decide ((0:Int)≤((k:Nat):Int)))=true then
   if (decide ((((k:Nat):Int):Int)≤((List.length l:Nat):Int)))=true then
   if (decide ((((List.length l:Nat):Int):Int)≤((List.length l:Nat):Int)))=true then
   if (Aa (List.length ([]:List Int)+List.length ((l.drop (Int.toNat 0)).take (Int.toNat ((k:Nat):Int) - Int.toNat 0))) 8)=true then
   if (Aa (List.length (([]:List Int)++((l.drop (Int.toNat 0)).take (Int.toNat ((k:Nat):Int) - Int.toNat 0)))+List.length ([n]:List Int)) 8)=true then
   if (decide ((0:Int)≤((k:Nat):Int)))=true then
   if (decide ((((k:Nat):Int):Int)≤((List.length l:Nat):Int)))=true then
   if (decide ((((List.length l:Nat):Int):Int)≤((List.length l:Nat):Int)))=true then
   if (decide ((((List.length l:Nat):Int):Int)≤((List.length l:Nat):Int)))=true then
   if (Aa (List.length ((([]:List Int)++((l.drop (Int.toNat 0)).take (Int.toNat ((k:Nat):Int) - Int.toNat 0)))++([n]:List Int))+List.length ((l.drop (Int.toNat ((k:Nat):Int))).take (Int.toNat ((List.length l:Nat):Int) - Int.toNat ((k:Nat):Int)))) 8)=true then
   some (((([]:List Int)++((l.drop (Int.toNat 0)).take (Int.toNat ((k:Nat):Int) - Int.toNat 0)))++([n]:List Int))++((l.drop (Int.toNat ((k:Nat):Int))).take (Int.toNat ((List.length l:Nat):Int) - Int.toNat ((k:Nat):Int))))
   else none else none else none else none else none else none else none else none else none else none else none)=some (l.take k++([n]++l.drop k)):=by
  rintro c rfl
  have r1:∀ m:Nat,m≤1048577→Aa m 8=true:=fun m hm=>by simp only [Aa,decide_eq_true_eq]; omega
  rw [if_neg (by simp),if_pos (by simp),if_pos (by simp),if_pos (by simp; omega),if_pos (by simp),if_pos (r1 _ (by simp; omega)),if_pos (r1 _ (by simp; omega)),if_pos (by simp),if_pos (by simp; omega),if_pos (by simp),if_pos (by simp),if_pos (r1 _ (by simp; omega))]
  refine congrArg some ?_
  simp only [Int.toNat_natCast,List.nil_append,List.append_assoc]
  rw [show Int.toNat 0=0 from rfl,List.drop_zero,Nat.sub_zero,List.take_of_length_le (l:=l.drop k) (by simp)]
 unfold ME
 by_cases hlt:k < l.length
 ·rw [if_pos (by simp; omega),if_pos (by simp),if_pos (by simp; omega),Nat.zero_add,Int.toNat_natCast,List.getElem?_eq_getElem hlt,Option.bind_some,Option.bind_some]
  dsimp only
  by_cases hc:l[k]=n
  ·rw [if_pos (by simpa using hc),if_pos (by rw [hc])]
  ·rw [if_neg (show ¬ (some l[k]=some n) by simpa using hc)]
   exact ins _ (by simpa using hc)
 ·rw [if_neg (by simp; omega),Option.bind_some,if_neg (show ¬ (l[k]?=some n) by rw [List.getElem?_eq_none (by omega)]; simp)]
  exact ins false rfl
theorem Acz (a b:Int):H8 a b=some (decide (a < b)):=by
 unfold H8 Hb; simp
theorem AdS {l:List Int} (hl:l.length≤1048576) (hr:Ris l) (n:Int):∃ k,Spot l n k∧B3 l n=some (((k:Nat):Int),decide (l[k]?=some n)):=by
 unfold B3
 have hloop:Ok (Ab CI (l,n,((l.length:Nat):Int),0,((l.length:Nat):Int))) (fun r=>∃ k,Spot l n k∧r=(l,n,((l.length:Nat):Int),((k:Nat):Int))):=by
  refine Ok.loop (fun y=>∃ a b:Nat,a≤b∧b≤l.length∧(∀ j (h:j < l.length),j < a→l[j] < n)∧(∀ j (h:j < l.length),b≤j→n≤l[j])∧y=(l,n,((l.length:Nat):Int),((a:Nat):Int),((b:Nat):Int)))
   (fun y=>(y.2.2.2.2 - y.2.2.2.1).toNat) ⟨0,l.length,by omega,by omega,fun j h h2=>absurd h2 (by omega),fun j h h2=>absurd h2 (by omega),rfl⟩ ?_
  rintro _ ⟨a,b,hab,hb,h1,h2,rfl⟩
  unfold CI
  dsimp only
  refine Ok.ite (fun hc=>?_) fun hc=>?_
  ·have hlt:a < b:=by simpa using hc
   have e1:IntKind.wrap .i64 (Int.fdiv (IntKind.wrap .u64 (IntKind.wrap .i64 (((a:Nat):Int)+((b:Nat):Int)))) (2 ^ (min (Int.toNat 1) (IntKind.bits .u64))))=(((a+b) / 2:Nat):Int):=by
    rw [w64 (n:=((a:Nat):Int)+((b:Nat):Int)) (by omega) (by omega),W2 (by omega) (by omega),show (2:Int) ^ (min (Int.toNat 1) (IntKind.bits .u64))=2 from rfl,Int.fdiv_eq_ediv_of_nonneg _ (by omega),w64 (by omega) (by omega)]
    omega
   rw [e1]
   have hk:(a+b) / 2 < l.length:=by omega
   refine Ok.yes (by simp) (Ok.yes (by simp; omega) ?_)
   rw [Int.toNat_natCast]
   refine Ok.bind_eq (List.getElem?_eq_getElem hk) (Ok.bind_eq (Acz _ _) ?_)
   by_cases hlt2:l[(a+b) / 2] < n
   ·refine Ok.bind_eq (if_pos (by simpa using hlt2)) (Ok.mk ⟨⟨(a+b) / 2+1,b,by omega,hb,fun j h hj=>?_,h2,?_⟩,?_⟩)
    ·by_cases hjj:j=(a+b) / 2
     ·subst hjj; exact hlt2
     ·have:=hr j _ h hk (by omega); omega
    ·rw [Ao (by omega)]
    ·dsimp only; rw [Ao (by omega)]; omega
   ·refine Ok.bind_eq (if_neg (by simpa using hlt2)) (Ok.mk ⟨⟨a,(a+b) / 2,by omega,by omega,h1,fun j h hj=>?_,rfl⟩,?_⟩)
    ·by_cases hjj:j=(a+b) / 2
     ·subst hjj; omega
     ·have:=hr _ j hk h (by omega); omega
    ·dsimp only; omega
  ·have hlt:a=b:=by simp at hc; omega
   subst hlt
   exact Ok.mk ⟨a,⟨hb,h1,h2⟩,rfl⟩
 obtain ⟨r,hr',k,hs,rfl⟩:=hloop
 refine ⟨k,hs,?_⟩
 rw [hr',Option.bind_some]
 dsimp only
 by_cases hlt:k < l.length
 ·rw [if_pos (by simp; omega),if_pos (by simp),Int.toNat_natCast,List.getElem?_eq_getElem hlt,Option.bind_some]
  by_cases hc:l[k]=n
  ·rw [if_pos (by simpa using hc),Option.bind_some,hc]; simp
  ·rw [if_neg (by simpa using hc),if_pos (by simp),Option.bind_some]
   unfold E4
   simp [hc]
 ·rw [if_neg (by simp; omega),Option.bind_some,List.getElem?_eq_none (by omega)]; simp
theorem PZ {l:List Int} (hl:l.length≤1048576) (hr:Ris l) (n:Int):∃ k,Spot l n k∧ET l n=some (ME l n k):=by
 obtain ⟨k,hs,hb⟩:=AdS hl hr n
 refine ⟨k,hs,?_⟩
 have hk:=hs.le
 unfold ET ME
 rw [hb,Option.bind_some]
 dsimp only
 by_cases hc:l[k]?=some n
 ·rw [if_pos (by simpa using hc),if_pos hc]
 ·rw [if_neg (by simpa using hc),if_neg hc]
  unfold EA
  rw [if_pos ⟨by omega,by rw [Int.toNat_natCast]; exact hk,by simp,by simp; omega⟩,Option.bind_some,Int.toNat_natCast]
theorem Gg {x:List Int} (h:x.length≤1048576):BT x=some x:=by
 unfold BT
 have hr:Aa (List.length ([]:List Int)+List.length x) 8=true:=by
  simp only [List.length_nil,Aa,decide_eq_true_eq]; omega
 cases x with
 | nil=>simp [H3,Aa]
 | cons a x=>simp only [H3,List.isEmpty_cons,Bool.false_eq_true,if_false,Option.bind_some,hr,if_true,List.nil_append]
structure GS (b:Bls) (x y z:List Int):Prop where
 hb:40≤b.length∧b.length≤160
 hx:x.length=20
 hk:∀ c∈b,c.length=128
 hbits:∀ i,i < 160→bG b.length x i=true
 hy:upB b.length x y=true
 hz:upB b.length x z=true
def Bj:List Int:=List.replicate 128 0
end Go.V.G
set_option maxRecDepth 100000
namespace Go.V.G
open Go.V
theorem Rq {r:Int} (h0:0≤r) (h1:r≤255):(BitVec.ofInt (IntKind.bits .u8) r).toNat=r.toNat:=by
 obtain ⟨n,rfl⟩:=Int.eq_ofNat_of_zero_le h0
 show (BitVec.ofInt (IntKind.bits .u8) ((n:Nat):Int)).toNat=Int.toNat ((n:Nat):Int)
 rw [BitVec.ofInt_natCast,BitVec.toNat_ofNat,show IntKind.bits .u8=8 from rfl,Int.toNat_natCast]
 omega
theorem wub {r:Int} (h0:0≤r) (h1:r≤255):IntKind.wrap .u8 r=r:=by rw [IntKind.wrap_u8]; omega
theorem Tl {r:Int} (h0:0≤r) (h1:r≤255) {j:Nat} (hj:j < 8):ub r j=r.toNat.testBit j:=by
 obtain ⟨n,rfl⟩:=Int.eq_ofNat_of_zero_le h0
 have hn:n≤255:=by omega
 unfold ub
 rw [show min j (IntKind.bits .u8)=j from by show min j 8=j; omega,Int.fdiv_eq_ediv_of_nonneg _ (by exact Int.le_of_lt (Int.pow_pos (by decide)))]
 have hp:(2:Int) ^ j=((2 ^ j:Nat):Int):=by norm_cast
 rw [hp]
 have hq:((n:Nat):Int) / ((2 ^ j:Nat):Int)=((n / 2 ^ j:Nat):Int):=by norm_cast
 rw [hq]
 have hle:n / 2 ^ j≤255:=Nat.le_trans (Nat.div_le_self _ _) hn
 show _=Nat.testBit (Int.toNat ((n:Nat):Int)) j
 rw [Int.toNat_natCast,Nat.testBit_eq_decide_div_mod_eq]
 generalize n / 2 ^ j=q at hle
 rw [BitVec.toNat_and,Rq (by omega) (by omega),Rq (by omega) (by omega),Int.toNat_natCast,show (1:Int).toNat=1 from rfl,Nat.and_one_is_mod,wub (by omega) (by omega)]
 by_cases h:q % 2=1
 ·rw [decide_eq_true h,decide_eq_true (by omega)]
 ·rw [decide_eq_false h,decide_eq_false (by omega)]
theorem ZK {r:Int} (h0:0≤r) (h1:r≤255) {j:Nat} (hj:j < 8):sb r j=((r.toNat ||| 2 ^ j:Nat):Int)∧r.toNat ||| 2 ^ j≤255:=by
 have hr:r.toNat < 2 ^ 8:=by omega
 have hj2:2 ^ j < 2 ^ 8:=Nat.pow_lt_pow_right (by decide) hj
 have hor:r.toNat ||| 2 ^ j < 2 ^ 8:=Nat.or_lt_two_pow hr hj2
 have hp:(2:Int) ^ j=((2 ^ j:Nat):Int):=by norm_cast
 unfold sb
 rw [show min j (IntKind.bits .u8)=j from by show min j 8=j; omega,Int.one_mul,hp]
 clear hp
 generalize 2 ^ j=p at hj2 hor ⊢
 rw [wub (r:=((p:Nat):Int)) (by omega) (by omega),BitVec.toNat_or,Rq h0 h1,Rq (by omega) (by omega),Int.toNat_natCast,wub (by omega) (by omega)]
 exact ⟨rfl,by omega⟩
def U8s (x:List Int):Prop:=∀ v∈x,0≤v∧v≤255
theorem BW {x:List Int} (hu:U8s x) {k j:Nat} (hk:k / 8 < x.length) (hj:j / 8 < x.length):bit (setB x k) j=(decide (j=k) || bit x j):=by
 unfold bit setB
 have hgk:x[k / 8]?=some x[k / 8]:=List.getElem?_eq_getElem hk
 have hgj:x[j / 8]?=some x[j / 8]:=List.getElem?_eq_getElem hj
 have uk:=hu _ (List.getElem_mem hk)
 have uj:=hu _ (List.getElem_mem hj)
 rw [hgk,Option.getD_some]
 by_cases hd:j / 8=k / 8
 ·rw [hd,List.getElem?_set_self hk,Option.getD_some,hgk,Option.getD_some]
  obtain ⟨e1,e2⟩:=ZK uk.1 uk.2 (Nat.mod_lt k (by decide))
  rw [e1,Tl (by omega) (by omega) (Nat.mod_lt j (by decide)),Tl uk.1 uk.2 (Nat.mod_lt j (by decide)),Int.toNat_natCast,Nat.testBit_or,Nat.testBit_two_pow]
  by_cases hjk:j=k
  ·subst hjk; simp
  ·have:¬ (k % 8=j % 8):=by omega
   rw [decide_eq_false hjk,decide_eq_false this]; simp
 ·have hjk:¬ j=k:=by rintro rfl; exact hd rfl
  rw [List.getElem?_set_ne (Ne.symm hd),decide_eq_false hjk,Bool.false_or]
theorem W5 {x:List Int} (hu:U8s x) {k:Nat} (hk:k / 8 < x.length):U8s (setB x k):=by
 intro v hv
 unfold setB at hv
 rcases List.mem_or_eq_of_mem_set hv with hv | rfl
 ·exact hu v hv
 ·have uk:=hu _ (List.getElem_mem hk)
  rw [List.getElem?_eq_getElem hk,Option.getD_some]
  obtain ⟨e1,e2⟩:=ZK uk.1 uk.2 (Nat.mod_lt k (by decide))
  rw [e1]; omega
def cnt (x:List Int):Nat→Nat
 | 0=>0
 | n+1=>cnt x n+(if bit x n=true then 0 else 1)
theorem X7 {x:List Int} (hu:U8s x) {k:Nat} (hk:k / 8 < x.length) (hb:bit x k=false):∀ n,n≤8 * x.length→cnt (setB x k) n+(if k < n then 1 else 0)=cnt x n
 | 0,_=>rfl
 | n+1,hn=>by
  have ih:=X7 hu hk hb n (by omega)
  simp only [cnt]
  rw [BW hu hk (show n / 8 < x.length by omega)]
  by_cases hnk:n=k
  ·subst hnk
   rw [hb]
   simp at ih ⊢
   omega
  ·rw [decide_eq_false hnk,Bool.false_or]
   split at ih <;> split <;> split <;> omega
theorem WS {x:List Int}:∀ n,cnt x n=0↔∀ k,k < n→bit x k=true
 | 0=>by simp [cnt]
 | n+1=>by
  have ih:=WS (x:=x) n
  simp only [cnt]
  constructor
  ·intro h k hk
   by_cases hkn:k=n
   ·subst hkn
    cases hb:bit x k with
    | true=>rfl
    | false=>rw [hb] at h; simp at h
   ·exact ih.1 (by omega) k (by omega)
  ·intro h
   rw [ih.2 fun k hk=>h k (by omega),h n (by omega)]; rfl
theorem Ry {x:List Int}:∀ n,cnt x n≤n
 | 0=>Nat.le_refl _
 | n+1=>by have:=Ry (x:=x) n; simp only [cnt]; split <;> omega
theorem ris_iff {l:List Int}:Ris l↔l.Pairwise (· < ·):=by
 rw [List.pairwise_iff_getElem]
 exact ⟨fun h i j hi hj hij=>h i j hi hj hij,fun h i j hi hj hij=>h i j hi hj hij⟩
theorem Ym {l:List Int} (hr:Ris l) {n:Int} {k:Nat} (hs:Spot l n k):Ris (ME l n k):=by
 unfold ME
 split
 ·exact hr
 ·rename_i hne
  rw [ris_iff] at hr ⊢
  have hlo:∀ v∈l.take k,v < n:=by
   intro v hv
   obtain ⟨j,hj,rfl⟩:=List.getElem_of_mem hv
   rw [List.length_take] at hj
   rw [List.getElem_take]
   exact hs.lo j (by omega) (by omega)
  have hhi:∀ v∈l.drop k,n < v:=by
   intro v hv
   obtain ⟨j,hj,rfl⟩:=List.getElem_of_mem hv
   rw [List.length_drop] at hj
   rw [List.getElem_drop]
   have hkj:k+j < l.length:=by omega
   have h1:=hs.hi (k+j) hkj (by omega)
   by_cases hj0:j=0
   ·subst hj0
    have:l[k]?=some l[k]:=List.getElem?_eq_getElem (by omega)
    have hne':¬ l[k]=n:=fun hh=>hne (by rw [this,hh])
    simp only [Nat.add_zero] at h1 ⊢
    omega
   ·have hk0:k < l.length:=by omega
    have h2:=hs.hi k hk0 (Nat.le_refl _)
    have h3:=(ris_iff.2 hr) k (k+j) hk0 hkj (by omega)
    omega
  rw [List.pairwise_append]
  refine ⟨hr.sublist (List.take_sublist _ _),?_,?_⟩
  ·rw [List.pairwise_append]
   refine ⟨by simp,hr.sublist (List.drop_sublist _ _),?_⟩
   intro a ha b hb
   simp only [List.mem_singleton] at ha
   subst ha
   exact hhi b hb
  ·intro a ha b hb
   have h1:=hlo a ha
   rcases List.mem_append.1 hb with hb | hb
   ·simp only [List.mem_singleton] at hb; subst hb; exact h1
   ·have:=hhi b hb; omega
theorem TK {l:List Int} (hl:l.length≤1048576) (hr:Ris l) (n:Int):∃ z,CZ l n=some z∧ET l n=some z∧z.length≤l.length+1∧Ris z:=by
 obtain ⟨k,hs,h1⟩:=TJ hl hr n
 obtain ⟨m,ht,h2⟩:=PZ hl hr n
 obtain rfl:=hs.one ht
 refine ⟨_,h1,h2,?_,Ym hr hs⟩
 unfold ME
 split
 ·omega
 ·have:=hs.le; simp; omega
structure Wk (n:Nat) (b:Bls) (x z:List Int) (lz:Nat):Prop where
 hn:40≤n∧n≤160
 hb:b.length=n
 hk:∀ c∈b,c.length=128
 hx:x.length=20
 hu:U8s x
 hlow:∀ k,k < 33→bit x k=true
 hr:Ris z
 hz:z.length≤lz
abbrev Sp:=Bls×(List Int×(List Int×List Int))
theorem Ta {n:Nat} {b:Bls} {x y z:List Int} {lz:Nat} (h:Wk n b x z lz) (hlz:lz≤1048000) :
  (cnt x n=0∧AE b x y z=some (0,false,b,x,y,z))∨
  ∃ k b' x' z',(33≤k∧k < n)∧Bh b x y z=some (((k:Nat):Int),b',x',y,z')∧AE b x y z=some (((k:Nat):Int),true,b',x',y,z')∧Wk n b' x' z' (lz+1)∧cnt x' n+1=cnt x n:=by
 have hn:=h.hn; have hbl:=h.hb; have hx:=h.hx
 by_cases hall:∀ k,k < n→bit x k=true
 ·left
  refine ⟨(WS n).2 hall,?_⟩
  unfold AE
  have hl:=Ap AZ (fun k=>(((b.length:Nat):Int),((k:Nat):Int),b,x,y,z)) b.length (.inl (b,x,y,z)) (fun k hk=>by
   unfold AZ
   dsimp only
   rw [if_pos (by simp; omega),MQ (by omega) (by omega),Option.bind_some,hall k (by omega)]
   dsimp only
   rw [if_neg (by simp),Ao (by omega)]) (by
   unfold AZ
   dsimp only
   rw [if_neg (by simp)])
  rw [show Ab AZ (((b.length:Nat):Int),0,b,x,y,z)=_ from hl]
  rfl
 ·right
  have hex:∃ k,k < n∧bit x k=false∧∀ j,j < k→bit x j=true:=by
   have hex0:∃ k,k < n∧bit x k=false:=by
    refine Classical.byContradiction fun hn=>hall fun k hk=>?_
    cases hbk:bit x k with
    | true=>rfl
    | false=>exact absurd ⟨k,hk,hbk⟩ hn
   obtain ⟨k,hk⟩:=hex0
   induction k using Nat.strongRecOn with
   | _ k ih=>
    by_cases hxx:∃ j,j < k∧bit x j=false
    ·obtain ⟨j,hj,hp⟩:=hxx
     exact ih j hj ⟨by omega,hp⟩
    ·refine ⟨k,hk.1,hk.2,fun j hj=>?_⟩
     cases hpj:bit x j with
     | true=>rfl
     | false=>exact absurd ⟨j,hj,hpj⟩ hxx
  obtain ⟨k,hk,hbk,hbefore⟩:=hex
  have hk33:33≤k:=by
   refine Classical.byContradiction fun hn=>?_
   have:=h.hlow k (by omega)
   rw [hbk] at this; cases this
  obtain ⟨t',hp1,hp2,hp3,hp4⟩:=TK (by have:=h.hz; omega) h.hr ((k:Nat):Int)
  have hkb:k < b.length:=by omega
  refine ⟨k,b.set k Bj,setB x k,t',⟨hk33,hk⟩,?_,?_,?_,?_⟩
  ·unfold Bh
   have hl:=Ap CT (fun i=>(((33+i:Nat):Int),b,x,y,z)) (k - 33) (.inr (((k:Nat):Int),b.set k Bj,setB x k,y,t')) (fun i hi=>by
    unfold CT
    dsimp only
    rw [if_pos (by simp; omega),HF (by omega) (by omega),Option.bind_some,hbefore (33+i) (by omega),if_neg (by simp),Ao (by omega)]
    rfl) (by
    unfold CT
    dsimp only
    rw [show 33+(k - 33)=k by omega,if_pos (by simp; omega),HF (by omega) (by omega),Option.bind_some,hbk,if_pos (show (!false)=true from rfl),QN (by omega) (by omega),Option.bind_some,
     if_pos (by simp),if_pos (by simp),if_pos (by simp [Aa]),if_pos (by simp),if_pos (by simp; omega),Nat.zero_add,Int.toNat_natCast,List.getElem?_eq_getElem hkb,Option.bind_some,Option.bind_some,hp1]
    rfl)
   rw [show Ab CT (33,b,x,y,z)=_ from hl]
   rfl
  ·unfold AE
   have hcl:Au (List.replicate (Int.toNat 128) (0:Int))=some Bj:=D9 (by simp)
   have hlay:AW ((k:Nat):Int) (List.replicate (Int.toNat 128) (0:Int)) b (setB x k) y z=some (b.set k Bj,setB x k,y,t'):=by
    unfold AW
    rw [hcl,Option.bind_some,if_pos (by simp),if_pos (by simp; omega),Nat.zero_add,Int.toNat_natCast,List.getElem?_eq_getElem hkb,Option.bind_some,Option.bind_some,hp2]; rfl
   have hl:=Ap AZ (fun i=>(((b.length:Nat):Int),((i:Nat):Int),b,x,y,z)) k (.inr (((k:Nat):Int),true,b.set k Bj,setB x k,y,t')) (fun i hi=>by
    unfold AZ
    dsimp only
    rw [if_pos (by simp; omega),MQ (by omega) (by omega),Option.bind_some,hbefore i hi]
    dsimp only
    rw [if_neg (by simp),Ao (by omega)]) (by
    unfold AZ
    dsimp only
    have hk8:k / 8 < x.length:=by omega
    have hg8:x[k / 8]?=some x[k / 8]:=List.getElem?_eq_getElem hk8
    rw [if_pos (by simp; omega),MQ (by omega) (by omega),Option.bind_some,hbk]
    dsimp only
    rw [dv8 (by omega),md8,if_pos (show (!false)=true from rfl),if_pos (by simp),if_pos (by simp; omega),if_pos (by simp; omega),Nat.zero_add,Int.toNat_natCast,hg8,Option.bind_some,if_pos (by simp),if_pos (by simp; omega),if_pos (by simp; omega),if_pos (by simp; omega),
     Option.bind_some,Option.bind_some,if_pos (by simp),if_pos (by simp),if_pos (by simp [Aa])]
    have hsb:x.set (k / 8) (IntKind.wrap .u8 (((BitVec.ofInt (IntKind.bits .u8) x[k / 8] ||| BitVec.ofInt (IntKind.bits .u8) (IntKind.wrap .u8 (1 * 2 ^ (min (Int.toNat ((k % 8:Nat):Int)) (IntKind.bits .u8))))).toNat:Int)))=setB x k:=by
     unfold setB sb; rw [hg8,Option.getD_some,Int.toNat_natCast]
    rw [hsb,hlay]
    rfl)
   rw [show Ab AZ (((b.length:Nat):Int),0,b,x,y,z)=_ from hl]
   rfl
  ·refine ⟨hn,by rw [List.length_set]; exact hbl,fun c hc=>?_,by unfold setB; rw [List.length_set]; exact hx,W5 h.hu (by omega),fun j hj=>?_,hp4,by have:=h.hz; omega⟩
   ·rcases List.mem_or_eq_of_mem_set hc with hc | rfl
    ·exact h.hk c hc
    ·rfl
   ·rw [BW h.hu (by omega) (by omega),h.hlow j hj,Bool.or_true]
  ·have:=X7 h.hu (show k / 8 < x.length by omega) hbk n (by omega)
   rw [if_pos hk] at this
   exact this
end Go.V.G
set_option maxRecDepth 100000
namespace Go.V.G
open Go.V
theorem Ael {σ τ:Type} {f g:σ→Option (σ⊕τ)} {R:τ→Prop} (I:Nat→σ→Prop) (n:Nat) (step:∀ i s,i < n→I i s→∃ s',f s=some (.inl s')∧g s=some (.inl s')∧I (i+1) s')
  (last:∀ s,I n s→∃ t,f s=some (.inr t)∧g s=some (.inr t)∧R t) {s:σ} (h:I 0 s):∃ t,Ab f s=some t∧Ab g s=some t∧R t:=by
 have key:∀ d i s,d=n - i→i≤n→I i s→∃ t,Ab f s=some t∧Ab g s=some t∧R t:=by
  intro d
  induction d with
  | zero=>
   intro i s hd hi hs
   obtain rfl:i=n:=by omega
   obtain ⟨t,h1,h2,h3⟩:=last s hs
   exact ⟨t,by rw [An,h1],by rw [An,h2],h3⟩
  | succ d ih=>
   intro i s hd hi hs
   obtain ⟨s',h1,h2,h3⟩:=step i s (by omega) hs
   obtain ⟨t,k1,k2,k3⟩:=ih (i+1) s' (by omega) (by omega) h3
   exact ⟨t,by rw [An,h1]; exact k1,by rw [An,h2]; exact k2,k3⟩
 exact key n 0 s (by omega) (Nat.zero_le _) h
theorem YI {b:Bls} {x y z:List Int} (hb:b.length≤160) (hx:x.length=20):MI b x y z=some ((cnt x b.length:Nat):Int):=by
 unfold MI
 have hl:=Ap GR (fun k=>(((cnt x k:Nat):Int),((b.length:Nat):Int),((k:Nat):Int),b,x,y,z)) b.length ((cnt x b.length:Nat):Int) (fun k hk=>by
  unfold GR
  dsimp only
  have hc:=Ry (x:=x) k
  rw [if_pos (by simp; omega),HF (by omega) (by omega),Option.bind_some]
  cases hbk:bit x k with
  | false=>
   rw [if_pos (show (!false)=true from rfl),Option.bind_some]
   dsimp only
   rw [Ao (by omega),Ao (by omega)]
   simp only [cnt,hbk]
   rfl
  | true=>
   rw [if_neg (by simp),Option.bind_some]
   dsimp only
   rw [Ao (by omega)]
   simp only [cnt,hbk]
   rfl) (by
  unfold GR
  dsimp only
  rw [if_neg (by simp)])
 rw [show Ab GR (0,((b.length:Nat):Int),0,b,x,y,z)=_ from hl]; rfl
def nd (n:Nat):Nat:=if n=0 then 1 else (n+123) / 124
theorem TR {n:Nat} (h:n≤1000):Km ((n:Nat):Int)=some ((nd n:Nat):Int):=by
 unfold Km nd
 by_cases h0:n=0
 ·subst h0; rfl
 ·rw [if_neg (by simp; omega),if_neg h0,if_pos (by simp),w64 (n:=((n:Nat):Int)+124) (by omega) (by omega),w64 (n:=((n:Nat):Int)+124 - 1) (by omega) (by omega),Int.tdiv_eq_ediv_of_nonneg (by omega),w64 (by omega) (by omega)]
  refine congrArg some ?_
  omega
theorem O1 {n:Nat} (h:n≤1000):Ft ((n:Nat):Int)=some ((nd n:Nat):Int):=by
 unfold Ft nd
 rw [if_pos (by simp),w64 (n:=((n:Nat):Int)+124) (by omega) (by omega),w64 (n:=((n:Nat):Int)+124 - 1) (by omega) (by omega),Int.tdiv_eq_ediv_of_nonneg (by omega),w64 (by omega) (by omega)]
 refine congrArg some ?_
 by_cases h0:n=0
 ·subst h0; rfl
 ·rw [if_neg h0,if_neg (by omega)]; omega
theorem YU {n:Nat} (h:n≤1000):1≤nd n∧nd n≤9∧∀ i,i < nd n→124 * i≤n:=by
 unfold nd
 split
 ·refine ⟨by omega,by omega,fun i hi=>by omega⟩
 ·refine ⟨by omega,by omega,fun i hi=>by omega⟩
inductive Tks (y:List Int):Nat→Bls→List Int→List Int→List Int→Bls→List Int→List Int→Prop where
 | nil (b:Bls) (x z:List Int):Tks y 0 b x z [] b x z
 | snoc {m:Nat} {b:Bls} {x z l:List Int} {b1:Bls} {x1 z1:List Int} {k:Nat} {b2:Bls} {x2 z2:List Int} (h:Tks y m b x z l b1 x1 z1) (hs:Bh b1 x1 y z1=some (((k:Nat):Int),b2,x2,y,z2))
  (hi:AE b1 x1 y z1=some (((k:Nat):Int),true,b2,x2,y,z2)):Tks y (m+1) b x z (l++[((k:Nat):Int)]) b2 x2 z2
theorem SP {y:List Int} {m:Nat} {b:Bls} {x z l:List Int} {b':Bls} {x' z':List Int} (h:Tks y m b x z l b' x' z'):l.length=m:=by
 induction h with
 | nil=>rfl
 | snoc _ _ _ ih=>simp [ih]
theorem ZP {y:List Int} {n:Nat} {b:Bls} {x z:List Int} {lz:Nat} (h:Wk n b x z lz) (hlz:lz≤1040000):∀ m,m≤cnt x n→m≤1000→
  ∃ l b' x' z',Tks y m b x z l b' x' z'∧Wk n b' x' z' (lz+m)∧cnt x' n+m=cnt x n∧∀ v∈l,33≤v∧v < (n:Int)
 | 0,_,_=>⟨[],b,x,z,.nil b x z,h,rfl,fun v hv=>by cases hv⟩
 | m+1,hm,hb=>by
  obtain ⟨l,b1,x1,z1,h1,h2,h3,h4⟩:=ZP h hlz m (by omega) (by omega)
  rcases Ta (y:=y) h2 (by omega) with ⟨h0,_⟩ | ⟨k,b2,x2,z2,hk,hs,hi,hw,hc⟩
  ·omega
  ·refine ⟨_,b2,x2,z2,.snoc h1 hs hi,hw,by omega,fun v hv=>?_⟩
   rcases List.mem_append.1 hv with hv | hv
   ·exact h4 v hv
   ·simp only [List.mem_singleton] at hv; subst hv; omega
theorem Aem {y:List Int} {data:List Int} {m:Nat} {b:Bls} {x z l:List Int} {b':Bls} {x' z':List Int} (h:Tks y m b x z l b' x' z'):∀ rem:Nat,m+rem≤1000→
  Ab Df (data,[],((m+rem:Nat):Int),b,x,y,z)=Ab Df (data,l,((rem:Nat):Int),b',x',y,z'):=by
 induction h with
 | nil=>intro rem _; rw [Nat.zero_add]
 | @snoc m b x z l b1 x1 z1 k b2 x2 z2 h hs hi ih=>
  intro rem hr
  have:=ih (rem+1) (by omega)
  rw [show m+1+rem=m+(rem+1) by omega,this,An]
  have hl:=SP h
  have e:IntKind.wrap .i64 (((rem+1:Nat):Int) - 1)=((rem:Nat):Int):=by rw [w64 (by omega) (by omega)]; omega
  unfold Df
  dsimp only
  rw [if_pos (by simp only [decide_eq_true_eq]; omega),hs,Option.bind_some]
  dsimp only
  rw [if_pos (by simp only [List.length_singleton,Aa,decide_eq_true_eq]; omega),e]
theorem Aca {y:List Int} {need:Nat} {m:Nat} {b:Bls} {x z l:List Int} {b':Bls} {x' z':List Int} (h:Tks y m b x z l b' x' z'):m≤need→need≤1000→
  Ab Bc ([],((need:Nat):Int),0,b,x,y,z)=Ab Bc (l,((need:Nat):Int),((m:Nat):Int),b',x',y,z'):=by
 induction h with
 | nil=>intro _ _; rfl
 | @snoc m b x z l b1 x1 z1 k b2 x2 z2 h hs hi ih=>
  intro hm hn
  have:=ih (by omega) hn
  rw [this,An]
  have hl:=SP h
  unfold Bc
  dsimp only
  rw [if_pos (by simp; omega),hi,Option.bind_some]
  dsimp only
  rw [if_neg (by simp),if_pos (by simp only [List.length_singleton,Aa,decide_eq_true_eq]; omega),Ao (by omega)]
def Fm (data list:List Int) (i:Nat):List Int:=
 let own:=(data.drop (124 * i)).take 124
 let next:=if i+1 < list.length then list[i+1]?.getD 0 else 0
 let hd:=[82,IntKind.wrap .u8 (next / 256),IntKind.wrap .u8 next,IntKind.wrap .u8 ((own.length:Nat):Int)]++own
 hd++List.replicate (128 - hd.length) 0
theorem Abn {data list:List Int} {n:Nat} (hd:data.length≤1000) (hl:list.length=nd data.length) (hv:∀ v∈list,33≤v∧v < (n:Int)) {i:Nat} (hi:i < list.length) {b:Bls} {x y z:List Int} {lz:Nat} (h:Wk n b x z lz) (hlz:lz≤1040000) :
  ∃ b' z',DY (data,list,((list.length:Nat):Int),((i:Nat):Int),b,x,y,z)=some (.inl (data,list,((list.length:Nat):Int),((i+1:Nat):Int),b',x,y,z'))∧
   BH (data,list,((list.length:Nat):Int),((i:Nat):Int),b,x,y,z)=some (.inl (data,list,((list.length:Nat):Int),((i+1:Nat):Int),b',x,y,z'))∧Wk n b' x z' (lz+1)∧b'=b.set list[i].toNat (Fm data list i)∧CZ z list[i]=some z':=by
 obtain ⟨n1,n2,n3⟩:=YU hd
 have hi9:i < 9:=by omega
 have h124:=n3 i (by omega)
 have hn:=h.hn; have hbl:=h.hb
 have hgi:list[i]?=some list[i]:=List.getElem?_eq_getElem hi
 have hri:=hv _ (List.getElem_mem hi)
 obtain ⟨k,hk⟩:=Int.eq_ofNat_of_zero_le (show 0≤list[i] by omega)
 have hkn:k < n:=by omega
 obtain ⟨t',hp1,hp2,hp3,hp4⟩:=TK (by have:=h.hz; omega) h.hr ((k:Nat):Int)
 generalize hnx:(if i+1 < list.length then list[i+1]?.getD 0 else 0)=next
 have hnext:0≤next∧next < 160:=by
  rw [← hnx]
  split
  ·rename_i h1
   have:=hv _ (List.getElem_mem h1)
   rw [List.getElem?_eq_getElem h1,Option.getD_some]; omega
  ·omega
 generalize hown:(data.drop (124 * i)).take 124=own
 have hol:own.length≤124:=by rw [← hown,List.length_take]; omega
 have hwl:([82,IntKind.wrap .u8 (next / 256),IntKind.wrap .u8 next,IntKind.wrap .u8 ((own.length:Nat):Int)]++own).length=own.length+4:=by simp
 have hblk:Fm data list i=([82,IntKind.wrap .u8 (next / 256),IntKind.wrap .u8 next,IntKind.wrap .u8 ((own.length:Nat):Int)]++own)++List.replicate (128 - (own.length+4)) 0:=by
  unfold Fm
  simp only
  rw [hown,hnx,hwl]
 have hblen:(Fm data list i).length=128:=by rw [hblk,List.length_append,hwl,List.length_replicate]; omega
 have e1:IntKind.wrap .i64 (((i:Nat):Int)+1)=((i+1:Nat):Int):=Ao (by omega)
 have w1:IntKind.wrap .i64 (((i:Nat):Int) * 124)=((124 * i:Nat):Int):=by rw [w64 (by omega) (by omega)]; omega
 have w2:IntKind.wrap .i64 (124 * ((i:Nat):Int))=((124 * i:Nat):Int):=by rw [w64 (by omega) (by omega)]; omega
 have w3:IntKind.wrap .i64 (124 * ((i+1:Nat):Int))=((124 * (i+1):Nat):Int):=by rw [w64 (by omega) (by omega)]; omega
 have hhi:IntKind.wrap .i64 (Int.tdiv next 256)=next / 256:=by rw [Int.tdiv_eq_ediv_of_nonneg hnext.1,w64 (by omega) (by omega)]
 have hhf:Int.fdiv next (2 ^ (min (Int.toNat 8) (IntKind.bits .i64)))=next / 256:=by
  rw [show (2:Int) ^ (min (Int.toNat 8) (IntKind.bits .i64))=256 from rfl,Int.fdiv_eq_ediv_of_nonneg _ (by omega)]
 have hkb:k < b.length:=by omega
 refine ⟨b.set k (Fm data list i),t',?_,?_,⟨hn,by rw [List.length_set]; exact hbl,fun c hc=>?_,h.hx,h.hu,h.hlow,hp4,by have:=h.hz; omega⟩,by rw [hk,Int.toNat_natCast],by rw [hk]; exact hp1⟩
 ·unfold DY
  dsimp only
  rw [if_pos (by simp; omega),if_pos (by simp),if_pos (by simp; omega),Nat.zero_add,Int.toNat_natCast,hgi,Option.bind_some,e1]
  have hv7:(if (decide (((i+1:Nat):Int) < ((List.length list:Nat):Int)))=true then
     if (decide ((0:Int)≤((i+1:Nat):Int)))=true then
     if (decide ((((i+1:Nat):Int):Int) < ((List.length list:Nat):Int)))=true then
     Option.bind (list[0+Int.toNat ((i+1:Nat):Int)]?) fun r6=>
     some (data,list,((i:Nat):Int),list[i],r6,((list.length:Nat):Int),((i:Nat):Int),b,x,y,z)
     else none
     else none
    else
     some (data,list,((i:Nat):Int),list[i],0,((list.length:Nat):Int),((i:Nat):Int),b,x,y,z))=some (data,list,((i:Nat):Int),list[i],next,((list.length:Nat):Int),((i:Nat):Int),b,x,y,z):=by
   by_cases h1:i+1 < list.length
   ·rw [if_pos (by simp; omega),if_pos (by simp; omega),if_pos (by simp; omega),Nat.zero_add,Int.toNat_natCast,List.getElem?_eq_getElem h1,Option.bind_some]
    rw [if_pos h1,List.getElem?_eq_getElem h1,Option.getD_some] at hnx
    rw [hnx]
   ·rw [if_neg (by simp; omega)]
    rw [if_neg h1] at hnx
    rw [hnx]
  rw [hv7,Option.bind_some]
  dsimp only
  rw [w1,if_pos (by simp; omega),if_pos (by simp; omega),if_pos (by simp),if_pos (by simp),Int.toNat_natCast,Int.toNat_natCast]
  have hfull:(List.drop (124 * i) data).take (data.length - 124 * i)=List.drop (124 * i) data:=List.take_of_length_le (by simp)
  rw [hfull]
  have hv8:(if (decide ((124:Int) < ((List.length (List.drop (124 * i) data):Nat):Int)))=true then
     if (decide ((0:Int)≤0))=true then
     if (decide ((0:Int)≤124))=true then
     if (decide ((124:Int)≤((List.length (List.drop (124 * i) data):Nat):Int)))=true then
     if (decide ((((List.length (List.drop (124 * i) data):Nat):Int):Int)≤((List.length (List.drop (124 * i) data):Nat):Int)))=true then
     some (data,list,list[i],next,(List.drop (Int.toNat 0) (List.drop (124 * i) data)).take (Int.toNat 124 - Int.toNat 0),((list.length:Nat):Int),((i:Nat):Int),b,x,y,z)
     else none
     else none
     else none
     else none
    else
     some (data,list,list[i],next,List.drop (124 * i) data,((list.length:Nat):Int),((i:Nat):Int),b,x,y,z))=some (data,list,list[i],next,own,((list.length:Nat):Int),((i:Nat):Int),b,x,y,z):=by
   by_cases h1:124 < (List.drop (124 * i) data).length
   ·rw [if_pos (by simp only [decide_eq_true_eq]; omega),if_pos (by simp),if_pos (by simp),if_pos (by simp only [decide_eq_true_eq]; omega),if_pos (by simp)]
    have:(List.drop (Int.toNat 0) (List.drop (124 * i) data)).take (Int.toNat 124 - Int.toNat 0)=own:=by rw [← hown]; rfl
    rw [this]
   ·rw [if_neg (by simp only [decide_eq_true_eq]; omega)]
    have:List.drop (124 * i) data=own:=by rw [← hown,List.take_of_length_le (by omega)]
    rw [this]
  rw [hv8,Option.bind_some]
  dsimp only
  rw [if_pos (by simp),hhi,if_pos (by simp only [Aa,decide_eq_true_eq,List.length_cons,List.length_nil]; omega)]
  have hlay:B8 list[i] (([82,IntKind.wrap .u8 (next / 256),IntKind.wrap .u8 next,IntKind.wrap .u8 ((List.length own:Nat):Int)]:List Int)++own) b x y z=some (b.set k (Fm data list i),x,y,t'):=by
   rw [hk]
   unfold B8
   rw [if_pos (by simp),if_pos (by simp),if_pos (by simp [Aa]),if_pos (by simp),if_pos (by simp; omega),Nat.zero_add,Int.toNat_natCast,List.getElem?_eq_getElem hkb,Option.bind_some,Option.bind_some,hp1,Option.bind_some]
   rw [hblk,show Int.toNat 128=128 from rfl,List.length_replicate,List.take_of_length_le (by rw [hwl]; omega),hwl,List.drop_replicate]
  rw [hlay,Option.bind_some,e1]
 ·unfold BH
  dsimp only
  rw [if_pos (by simp; omega),if_pos (by simp),if_pos (by simp; omega),Nat.zero_add,Int.toNat_natCast,hgi,Option.bind_some,e1,w2,w3]
  generalize hmn:(if (((List.length data:Nat):Int):Int) < ((124 * (i+1):Nat):Int) then ((List.length data:Nat):Int) else ((124 * (i+1):Nat):Int))=mn
  have hmn':mn=((min data.length (124 * (i+1)):Nat):Int):=by rw [← hmn]; split <;> omega
  subst hmn'
  rw [if_pos (by simp; omega),if_pos (by simp; omega),if_pos (by simp; omega),if_pos (by simp)]
  simp only [Int.toNat_natCast]
  have hown2:(List.drop (124 * i) data).take (min data.length (124 * (i+1)) - 124 * i)=own:=by
   rw [← hown]
   by_cases h1:data.length≤124 * (i+1)
   ·rw [Nat.min_eq_left h1,List.take_of_length_le (by simp),List.take_of_length_le (by simp; omega)]
   ·rw [Nat.min_eq_right (by omega),show 124 * (i+1) - 124 * i=124 by omega]
  rw [hown2]
  have hv5:(if (decide (((i+1:Nat):Int) < ((List.length list:Nat):Int)))=true then
     if (decide ((0:Int)≤((i+1:Nat):Int)))=true then
     if (decide ((((i+1:Nat):Int):Int) < ((List.length list:Nat):Int)))=true then
     Option.bind (list[0+(i+1)]?) fun r4=>
     some (data,list,list[i],own,r4,((list.length:Nat):Int),((i:Nat):Int),b,x,y,z)
     else none
     else none
    else
     some (data,list,list[i],own,0,((list.length:Nat):Int),((i:Nat):Int),b,x,y,z))=some (data,list,list[i],own,next,((list.length:Nat):Int),((i:Nat):Int),b,x,y,z):=by
   by_cases h1:i+1 < list.length
   ·rw [if_pos (by simp; omega),if_pos (by simp; omega),if_pos (by simp; omega),Nat.zero_add,List.getElem?_eq_getElem h1,Option.bind_some]
    rw [if_pos h1,List.getElem?_eq_getElem h1,Option.getD_some] at hnx
    rw [hnx]
   ·rw [if_neg (by simp; omega)]
    rw [if_neg h1] at hnx
    rw [hnx]
  rw [hv5,Option.bind_some]
  dsimp only
  have htwo:F4 next=some [IntKind.wrap .u8 (next / 256),IntKind.wrap .u8 next]:=by
   unfold F4
   rw [if_pos (by simp),hhf]
  rw [htwo,Option.bind_some,if_pos (by simp [Aa]),if_pos (by simp [Aa]),if_pos (by simp only [Aa,decide_eq_true_eq,List.length_append,List.length_cons,List.length_nil]; omega)]
  have hpad:CJ (((([82]:List Int)++[IntKind.wrap .u8 (next / 256),IntKind.wrap .u8 next])++([IntKind.wrap .u8 ((List.length own:Nat):Int)]:List Int))++own) 128=some (Fm data list i):=by
   have ew:(((([82]:List Int)++[IntKind.wrap .u8 (next / 256),IntKind.wrap .u8 next])++([IntKind.wrap .u8 ((List.length own:Nat):Int)]:List Int))++own)=[82,IntKind.wrap .u8 (next / 256),IntKind.wrap .u8 next,IntKind.wrap .u8 ((own.length:Nat):Int)]++own:=by simp
   unfold CJ
   rw [ew,hwl,w64 (by omega) (by omega),if_pos (by simp; omega),show Int.toNat (128 - ((own.length+4:Nat):Int))=128 - (own.length+4) by omega,if_pos (by simp only [Aa,decide_eq_true_eq,List.length_replicate]; omega),← hblk]
  rw [hpad,Option.bind_some]
  have hlay:AW list[i] (Fm data list i) b x y z=some (b.set k (Fm data list i),x,y,t'):=by
   rw [hk]
   unfold AW
   rw [D9 (by omega),Option.bind_some,if_pos (by simp),if_pos (by simp; omega),Nat.zero_add,Int.toNat_natCast,List.getElem?_eq_getElem hkb,Option.bind_some,Option.bind_some,hp2]; rfl
  rw [hlay,Option.bind_some,e1]
 ·rcases List.mem_or_eq_of_mem_set hc with hc | rfl
  ·exact h.hk c hc
  ·exact hblen
theorem Pv {l:List Int} (hr:Ris l) (hb:∀ i (h:i < l.length),33≤l[i]∧l[i]≤159):l.length≤127:=by
 have key:∀ i (h:i < l.length),33+(i:Int)≤l[i]:=by
  intro i
  induction i with
  | zero=>intro h; have:=hb 0 h; omega
  | succ i ih=>intro h; have h1:=ih (by omega); have h2:=hr i (i+1) (by omega) h (by omega); omega
 refine Classical.byContradiction fun hn=>?_
 have h1:=key 127 (by omega)
 have h2:=hb 127 (by omega)
 omega
end Go.V.G
set_option maxRecDepth 100000
namespace Go.V.G
open Go.V
theorem Zm {m:Int} (h0:40≤m) (h1:m≤160):Ok (Ll m) fun r=>(r.2.1.length:Int)=m∧(∀ x∈r.2.1,x.length=128):=by
 unfold Ll
 refine Ok.bind_eq (CL _ _ _) (Ok.no (by simp [h0,h1]) ?_)
 refine Ok.bind (Q:=fun r=>(r.2.2.2.1.length:Int)=m∧(∀ x∈r.2.2.2.1,x.length=128)) ?_ (fun r hr=>Ok.mk hr)
 refine Ok.loop (fun y=>0≤y.1∧y.1+(y.2.2.2.2.1.length:Int)=m∧∀ x∈y.2.2.2.2.1,x.length=128) (fun y=>y.1.toNat) ⟨by dsimp only; omega,by simp,by simp⟩ ?_
 rintro ⟨n,a,b,c,bl,d,e,f⟩ ⟨q1,q2,q3⟩
 dsimp only at q1 q2 q3
 unfold OF
 refine Ok.ite (fun hc=>?_) fun hc=>Ok.mk ⟨?_,q3⟩
 ·have hn:0 < n:=by simpa using hc
  have e1:IntKind.wrap .i64 (n - 1)=n - 1:=w64 (by omega) (by omega)
  refine Ok.yes (by decide) (Ok.yes (by decide) (Ok.yes (by decide) (Ok.yes ?_ (Ok.mk ⟨⟨?_,?_,?_⟩,?_⟩))))
  ·simp only [List.length_singleton,Aa,decide_eq_true_eq]; omega
  ·dsimp only; rw [e1]; omega
  ·dsimp only; rw [e1,List.length_append,List.length_singleton]; omega
  ·intro x hx
   rcases List.mem_append.1 hx with hx | hx
   ·exact q3 x hx
   ·rw [List.mem_singleton.1 hx]; simp
  ·dsimp only; rw [e1]; omega
 ·have hn:n=0:=by simp at hc; omega
  dsimp only
  omega
end Go.V.G
set_option maxRecDepth 100000
namespace Go.V.G
open Go.V
theorem KU {l:List Int} (hl:l.length≤1048576) (hr:Ris l) (n:Int):∃ z,CZ l n=some z∧ET l n=some z∧z.length≤l.length+1∧Ris z∧∀ v,v∈z↔v∈l∨v=n:=by
 obtain ⟨k,hs,h1⟩:=TJ hl hr n
 obtain ⟨m,ht,h2⟩:=PZ hl hr n
 obtain rfl:=hs.one ht
 refine ⟨_,h1,h2,?_,Ym hr hs,fun v=>?_⟩
 ·unfold ME
  split
  ·omega
  ·have:=hs.le; simp; omega
 ·unfold ME
  split
  ·rename_i h
   have hm:=List.mem_of_getElem? h
   exact ⟨.inl,fun h'=>h'.elim id fun e=>by rw [e]; exact hm⟩
  ·have e:v∈l↔v∈l.take k∨v∈l.drop k:=by
    rw [← List.mem_append,List.take_append_drop]
   rw [e]
   simp only [List.mem_append,List.mem_singleton]
   constructor
   ·rintro (h | h | h)
    ·exact .inl (.inl h)
    ·exact .inr h
    ·exact .inl (.inr h)
   ·rintro ((h | h) | h)
    ·exact .inl h
    ·exact .inr (.inr h)
    ·exact .inr (.inl h)
structure Wq (b:Bls) (x z:List Int) (lz:Nat):Prop where
 hb:39≤b.length∧b.length≤160
 hx:x.length=20
 hu:U8s x
 hr:Ris z
 hz:z.length≤lz
theorem AdO {b:Bls} {x y z:List Int} {lz:Nat} (h:Wq b x z lz) (hlz:lz≤1048000):Ok (Bh b x y z) fun r=>
  r=(0,b,x,y,z)∨∃ (k:Nat) (z':List Int),(33≤k∧k < b.length)∧bit x k=false∧CZ z ((k:Nat):Int)=some z'∧r=(((k:Nat):Int),b.set k Bj,setB x k,y,z'):=by
 have hbl:=h.hb; have hx:=h.hx; have hz:=h.hz
 unfold Bh
 refine Ok.bind (Q:=fun v=>v=.inl (b,x,y,z)∨∃ (k:Nat) (z':List Int),(33≤k∧k < b.length)∧bit x k=false∧CZ z ((k:Nat):Int)=some z'∧v=.inr (((k:Nat):Int),b.set k Bj,setB x k,y,z')) ?_ ?_
 ·refine Ok.loop (fun s=>∃ i:Nat,33≤i∧i≤160∧s=(((i:Nat):Int),b,x,y,z)) (fun s=>(200 - s.1).toNat) ⟨33,by omega,by omega,rfl⟩ ?_
  rintro _ ⟨i,h33,hi,rfl⟩
  unfold CT
  dsimp only
  refine Ok.ite (fun hc=>?_) fun hc=>Ok.mk (.inl rfl)
  have hlt:i < b.length:=by simpa using hc
  refine Ok.bind_eq (HF (by omega) (by omega)) ?_
  refine Ok.ite (fun hu=>?_) fun hu=>?_
  ·have hbk:bit x i=false:=by simpa using hu
   obtain ⟨z',hp1,_⟩:=KU (by omega) h.hr ((i:Nat):Int)
   have hg:b[0+Int.toNat ((i:Nat):Int)]?=some b[i]:=by simp [hlt]
   refine Ok.bind_eq (QN (by omega) (by omega)) (Ok.yes (by simp) (Ok.yes (by simp) (Ok.yes (by simp [Aa]) (Ok.yes (by simp) (Ok.yes (by simpa using hlt) (Ok.bind_eq hg (Ok.bind_eq hg (Ok.bind_eq hp1 (Ok.mk (.inr ⟨i,z',⟨h33,hlt⟩,hbk,hp1,?_⟩))))))))))
   simp [Bj]
  ·have e1:=Ao (i:=i) (by omega)
   refine Ok.mk ⟨⟨i+1,by omega,by omega,by rw [e1]⟩,?_⟩
   dsimp only; rw [e1]; omega
 ·rintro v (rfl | ⟨k,z',h1,h2,h3,rfl⟩)
  ·exact Ok.mk (.inl rfl)
  ·exact Ok.mk (.inr ⟨k,z',h1,h2,h3,rfl⟩)
theorem Wq.take {b:Bls} {x z:List Int} {lz:Nat} (h:Wq b x z lz) (hlz:lz≤1048000) {k:Nat} (hk:k < b.length) {z':List Int} (hz':CZ z ((k:Nat):Int)=some z'):Wq (b.set k Bj) (setB x k) z' (lz+1):=by
 have hbl:=h.hb; have hx:=h.hx; have hz:=h.hz
 obtain ⟨z2,e1,_,e2,e3,_⟩:=KU (by omega) h.hr ((k:Nat):Int)
 rw [e1] at hz'
 obtain rfl:=Option.some.inj hz'
 exact ⟨by rw [List.length_set]; exact hbl,by unfold setB; rw [List.length_set]; exact hx,W5 h.hu (by omega),e3,by omega⟩
theorem Ph (n:Int):0≤IntKind.wrap .u8 n∧IntKind.wrap .u8 n≤255:=by rw [IntKind.wrap_u8]; omega
end Go.V.G
set_option maxRecDepth 100000
namespace Go.V.G
open Go.V
theorem Qq {l:List Int} {n:Int} (hl:l.length≤1048576):Ok (Dv l n) fun r=>(0≤r↔n∈l):=by
 unfold Dv
 refine Ok.bind (Q:=fun r=>(r=.inl ()∧n∉l)∨∃ k:Int,r=.inr k∧0≤k∧n∈l) ?_ ?_
 ·refine Ok.loop (fun y=>∃ k:Nat,k≤l.length∧y=(l,n,((l.length:Nat):Int),((k:Nat):Int))∧∀ j (h:j < l.length),j < k→l[j]≠n) (fun y=>(y.2.2.1 - y.2.2.2).toNat) ⟨0,by omega,rfl,fun j _ h=>by omega⟩ ?_
  rintro _ ⟨k,hk,rfl,hn⟩
  unfold Gw
  dsimp only
  refine Ok.ite (fun hc=>?_) fun hc=>Ok.mk (.inl ⟨rfl,fun hm=>?_⟩)
  ·have hlt:k < l.length:=by simpa using hc
   have hg:l[Int.toNat ((k:Nat):Int)]?=some l[k]:=by simp [hlt]
   have e1:=Ao (i:=k) (by omega)
   refine Ok.yes (by simp) (Ok.bind_eq hg (Ok.ite (fun he=>Ok.mk (.inr ⟨_,rfl,by omega,?_⟩)) fun he=>Ok.mk ⟨⟨k+1,by omega,by rw [e1],fun j hj hjk=>?_⟩,?_⟩))
   ·have he':n=l[k]:=by simpa using he
    rw [he']; exact List.getElem_mem _
   ·by_cases hjk':j=k
    ·subst hjk'; intro hh; exact he (by simp [hh])
    ·exact hn j hj (by omega)
   ·dsimp only; rw [e1]; omega
  ·obtain ⟨j,hj,he⟩:=List.getElem_of_mem hm
   have:¬ k < l.length:=by simpa using hc
   exact hn j hj (by omega) he
 ·rintro r (⟨rfl,h⟩ | ⟨k,rfl,h0,h⟩)
  ·exact Ok.mk (by simp [h])
  ·exact Ok.mk ⟨fun _=>h,fun _=>h0⟩
theorem Xy {l:List Int} {n:Int} (hl:l.length≤1048576):Ok (Bg l n) fun r=>(r=true↔n∈l):=by
 unfold Bg
 exact (Qq hl).bind fun r hr=>Ok.mk (by rw [← hr]; simp)
theorem L8 {n:Nat} {bits l:List Int} (hr:Ris l) (h:∀ v∈l,33≤v∧v≤(n:Int) - 1∧bit bits v.toNat=true):upB n bits l=true:=by
 refine all_range.2 fun i hi=>?_
 rw [AdB n bits l i hi]
 have hm:=h l[i] (List.getElem_mem _)
 rw [if_neg (fun hn=>hn ⟨hm.1,hm.2.1⟩),if_neg (by rw [hm.2.2]; simp),if_neg]
 rintro ⟨h0,h1⟩
 rw [List.getElem?_eq_getElem (by omega),Option.getD_some] at h1
 have:=hr (i - 1) i (by omega) hi (by omega)
 omega
theorem E5 {n:Nat} {bits l:List Int} (h:upB n bits l=true):∀ v∈l,33≤v∧v≤(n:Int) - 1∧bit bits v.toNat=true:=by
 intro v hv
 obtain ⟨i,hi,rfl⟩:=List.getElem_of_mem hv
 exact (FI h).2 i hi
theorem GS.take {b:Bls} {x y z:List Int} (g:GS b x y z) (hu:U8s x) {k:Nat} (hk:33≤k∧k < b.length) {z':List Int} (hzl:z.length≤1048000) (hz':CZ z ((k:Nat):Int)=some z'):GS (b.set k Bj) (setB x k) y z'∧((k:Nat):Int)∈z'∧z'.length≤z.length+1∧bit (setB x k) k=true:=by
 have hb:=g.hb; have hx:=g.hx
 obtain ⟨z2,e1,_,e2,e3,e4⟩:=KU (by omega) (FI g.hz).1 ((k:Nat):Int)
 rw [e1] at hz'
 obtain rfl:=Option.some.inj hz'
 have hs:∀ j,j < 160→bit (setB x k) j=(decide (j=k) || bit x j):=fun j hj=>BW hu (by omega) (by omega)
 have hup:∀ v:Int,33≤v∧v≤(b.length:Int) - 1∧bit x v.toNat=true→33≤v∧v≤((b.set k Bj).length:Int) - 1∧bit (setB x k) v.toNat=true:=fun v ⟨h1,h2,h3⟩=>
  ⟨h1,by rw [List.length_set]; exact h2,by rw [hs _ (by omega),h3,Bool.or_true]⟩
 refine ⟨⟨by rw [List.length_set]; exact hb,by unfold setB; rw [List.length_set]; exact hx,fun c hc=>?_,fun i hi=>?_,?_,?_⟩,(e4 _).2 (.inr rfl),e2,by rw [hs k (by omega)]; simp⟩
 ·rcases List.mem_or_eq_of_mem_set hc with hc | rfl
  ·exact g.hk c hc
  ·rfl
 ·rw [List.length_set]
  have:=g.hbits i hi
  unfold bG at this ⊢
  rw [hs i hi]
  by_cases hik:i=k
  ·subst hik
   simp; omega
  ·simpa [hik] using this
 ·exact L8 (FI g.hy).1 fun v hv=>hup v (E5 g.hy v hv)
 ·refine L8 e3 fun v hv=>?_
  rcases (e4 v).1 hv with hv | rfl
  ·exact hup v (E5 g.hz v hv)
  ·exact ⟨by omega,by rw [List.length_set]; omega,by rw [hs _ (by omega)]; simp⟩
def clr (r:Int) (j:Nat):Int:=IntKind.wrap .u8 (((BitVec.ofInt (IntKind.bits .u8) r &&& ~~~ BitVec.ofInt (IntKind.bits .u8) (IntKind.wrap .u8 (1 * 2 ^ (min j (IntKind.bits .u8))))).toNat:Int))
theorem Ad9 {x:List Int} (hu:U8s x) (k:Nat) (v:Int) (j:Nat):U8s (x.set k (clr v j)):=by
 intro w hw
 rcases List.mem_or_eq_of_mem_set hw with hw | rfl
 ·exact hu w hw
 ·exact Ph _
end Go.V.G
set_option maxRecDepth 100000
namespace Go.V.G
open Go.V
theorem Aay {x:List Int} {n:Nat} (hx:x.length≤1048576) (hn:n≤x.length):Ok (Hr x ((n:Nat):Int)) fun r=>(r=true↔∀ v∈x.drop n,v=0):=by
 unfold Hr
 refine Ok.yes (by simp) (Ok.yes (by simp; omega) (Ok.yes (by simp) (Ok.yes (by simp) ?_)))
 have e:(List.drop (Int.toNat ((n:Nat):Int)) x).take (Int.toNat ((List.length x:Nat):Int) - Int.toNat ((n:Nat):Int))=x.drop n:=by
  rw [Int.toNat_natCast,Int.toNat_natCast]
  exact List.take_of_length_le (by rw [List.length_drop]; omega)
 rw [e]
 have hl:(x.drop n).length≤1048576:=by rw [List.length_drop]; omega
 generalize x.drop n=l at hl
 refine Ok.bind (Q:=fun r=>(r=.inl ()∧∀ v∈l,v=0)∨(r=.inr false∧¬ ∀ v∈l,v=0)) ?_ ?_
 ·refine Ok.loop (fun y=>∃ k:Nat,k≤l.length∧y=(l,((l.length:Nat):Int),((k:Nat):Int))∧∀ j (h:j < l.length),j < k→l[j]=0) (fun y=>(y.2.1 - y.2.2).toNat) ⟨0,by omega,rfl,fun j _ h=>by omega⟩ ?_
  rintro _ ⟨k,hk,rfl,hz⟩
  unfold Qd
  dsimp only
  refine Ok.ite (fun hc=>?_) fun hc=>Ok.mk (.inl ⟨rfl,fun v hv=>?_⟩)
  ·have hlt:k < l.length:=by simpa using hc
   have hg:l[Int.toNat ((k:Nat):Int)]?=some l[k]:=by simp [hlt]
   have e1:=Ao (i:=k) (by omega)
   refine Ok.yes (by simp) (Ok.bind_eq hg (Ok.ite (fun he=>Ok.mk (.inr ⟨rfl,fun hall=>?_⟩)) fun he=>Ok.mk ⟨⟨k+1,by omega,by rw [e1],fun j hj hjk=>?_⟩,?_⟩))
   ·have:¬ l[k]=0:=by simpa using he
    exact this (hall _ (List.getElem_mem _))
   ·by_cases hjk':j=k
    ·subst hjk'; simpa using he
    ·exact hz j hj (by omega)
   ·dsimp only; rw [e1]; omega
  ·obtain ⟨j,hj,rfl⟩:=List.getElem_of_mem hv
   have:¬ k < l.length:=by simpa using hc
   exact hz j hj (by omega)
 ·rintro r (⟨rfl,h⟩ | ⟨rfl,h⟩)
  ·exact Ok.mk (by simpa using h)
  ·exact Ok.mk ⟨fun hh=>(by cases hh),fun hh=>absurd hh h⟩
end Go.V.G
set_option maxRecDepth 100000
namespace Go.V.G
open Go.V
def gb (c:List Int) (i:Nat):Int:=c[i]?.getD 0
def blk (b:Bls) (i:Nat):List Int:=b[i]?.getD []
theorem Ak {c:List Int} {i:Nat} (h:i < c.length):c[i]?=some (gb c i):=by unfold gb; rw [List.getElem?_eq_getElem h]; rfl
theorem CF {b:Bls} {i:Nat} (h:i < b.length):b[i]?=some (blk b i):=by unfold blk; rw [List.getElem?_eq_getElem h]; rfl
theorem iy {α:Type} {p:Prop} [Decidable p] {a b:α} (h:p):(if decide p=true then a else b)=a:=by rw [if_pos (by simpa using h)]
theorem ino {α:Type} {p:Prop} [Decidable p] {a b:α} (h:¬ p):(if decide p=true then a else b)=b:=by rw [if_neg (by simpa using h)]
structure RS (b:Bls) (x y:List Int):Prop where
 hn:40≤b.length∧b.length≤160
 hk:∀ c∈b,c.length=128
 hu:∀ c∈b,U8s c
 hx:x.length=20
 hy:y.length≤1048576
theorem DT {b:Bls} {i:Nat} (h:i < b.length):blk b i∈b:=List.mem_of_getElem? (CF h)
theorem RS.len {b:Bls} {x y:List Int} (g:RS b x y) {i:Nat} (h:i < b.length):(blk b i).length=128:=g.hk _ (DT h)
theorem GV {c:List Int} (h:U8s c) (j:Nat):0≤gb c j∧gb c j≤255:=by
 by_cases hj:j < c.length
 ·exact h _ (List.mem_of_getElem? (Ak hj))
 ·unfold gb; rw [List.getElem?_eq_none (by omega)]; simp
theorem RS.u8 {b:Bls} {x y:List Int} (g:RS b x y) {i:Nat} (h:i < b.length) (j:Nat):0≤gb (blk b i) j∧gb (blk b i) j≤255:=GV (g.hu _ (DT h)) j
def liv (b:Bls) (x y:List Int) (a:Int):Bool:=decide (33≤a∧a≤(b.length:Int) - 1) && (bit x a.toNat && !decide (a∈y))
theorem Dg {b:Bls} {x y:List Int} {a:Int} (h:liv b x y a=true):∃ m:Nat,a=(m:Int)∧33≤m∧m < b.length∧bit x m=true∧(m:Int)∉y:=by
 unfold liv at h
 simp only [Bool.and_eq_true,decide_eq_true_eq,Bool.not_eq_true',decide_eq_false_iff_not] at h
 obtain ⟨⟨h1,h2⟩,h3,h4⟩:=h
 obtain ⟨m,rfl⟩:=Int.eq_ofNat_of_zero_le (show 0≤a by omega)
 exact ⟨m,rfl,by omega,by omega,by simpa using h3,h4⟩
theorem Qs {l:List Int} {n:Int} (hl:l.length≤1048576):JT l n=some (decide (n∈l)):=by
 unfold JT
 refine Ok.eq (Ok.bind (Q:=fun r=>(r=.inl ()∧n∉l)∨(r=.inr true∧n∈l)) ?_ ?_)
 ·refine Ok.loop (fun y=>∃ k:Nat,k≤l.length∧y=(n,l,((l.length:Nat):Int),((k:Nat):Int))∧∀ j (h:j < l.length),j < k→l[j]≠n) (fun y=>(y.2.2.1 - y.2.2.2).toNat) ⟨0,by omega,rfl,fun j _ h=>by omega⟩ ?_
  rintro _ ⟨k,hk,rfl,hn⟩
  unfold RF
  dsimp only
  refine Ok.ite (fun hc=>?_) fun hc=>Ok.mk (.inl ⟨rfl,fun hm=>?_⟩)
  ·have hlt:k < l.length:=by simpa using hc
   have hg:l[Int.toNat ((k:Nat):Int)]?=some l[k]:=by simp [hlt]
   have e1:=Ao (i:=k) (by omega)
   refine Ok.yes (by simp) (Ok.bind_eq hg (Ok.ite (fun he=>Ok.mk (.inr ⟨rfl,?_⟩)) fun he=>Ok.mk ⟨⟨k+1,by omega,by rw [e1],fun j hj hjk=>?_⟩,?_⟩))
   ·have he':l[k]=n:=by simpa using he
    rw [← he']; exact List.getElem_mem _
   ·by_cases hjk':j=k
    ·subst hjk'; intro hh; exact he (by simp [hh])
    ·exact hn j hj (by omega)
   ·dsimp only; rw [e1]; omega
  ·obtain ⟨j,hj,he⟩:=List.getElem_of_mem hm
   have:¬ k < l.length:=by simpa using hc
   exact hn j hj (by omega) he
 ·rintro r (⟨rfl,h⟩ | ⟨rfl,h⟩)
  ·exact Ok.mk (by simp [h])
  ·exact Ok.mk (by simp [h])
theorem PT {l:List Int} {n:Int} (hl:l.length≤1048576):Bg l n=some (decide (n∈l)):=by
 refine Ok.eq ((Xy hl).mono fun r hr=>?_)
 by_cases h:n∈l
 ·rw [decide_eq_true h]; exact hr.2 h
 ·rw [decide_eq_false h]
  cases r with
  | false=>rfl
  | true=>exact absurd (hr.1 rfl) h
theorem OJ {b:Bls} {x y z:List Int} (g:RS b x y) (a:Int):Ip b x y z a=some (liv b x y a):=by
 have hn:=g.hn; have hx:=g.hx
 unfold Ip liv
 rw [CL,w64 (by omega) (by omega),Option.bind_some]
 by_cases h1:33≤a∧a≤(b.length:Int) - 1
 ·obtain ⟨m,rfl⟩:=Int.eq_ofNat_of_zero_le (show 0≤a by omega)
  rw [decide_eq_true h1,if_pos rfl,HF (by omega) (by omega),Option.bind_some,Int.toNat_natCast]
  cases bit x m with
  | false=>rfl
  | true=>rw [if_pos rfl,Qs g.hy]; rfl
 ·rw [decide_eq_false h1]; rfl
theorem Yz {b:Bls} {bits y z:List Int} {k:Nat} (h:k≤1048576) (hk:k / 8 < bits.length):Gh (b,bits,y,z) ((k:Nat):Int)=some (bit bits k):=by
 unfold Gh bit
 dsimp only
 rw [dv8 h,md8,if_pos (by simp),if_pos (by simp; omega),Int.toNat_natCast,List.getElem?_eq_getElem hk,Option.bind_some,if_pos (by simp),if_pos (by simp; omega)]
 rfl
theorem UK {b:Bls} {x y z:List Int} (g:RS b x y) (a:Int):Dn (b,x,y,z) a=some (decide (33≤a∧a≤(b.length:Int) - 1) && bit x a.toNat):=by
 have hn:=g.hn; have hx:=g.hx
 unfold Dn
 dsimp only
 rw [A5,w64 (by omega) (by omega),Option.bind_some]
 by_cases h1:33≤a∧a≤(b.length:Int) - 1
 ·obtain ⟨m,rfl⟩:=Int.eq_ofNat_of_zero_le (show 0≤a by omega)
  rw [decide_eq_true h1,if_pos rfl,Yz (by omega) (by omega),Option.bind_some,Int.toNat_natCast]
  rfl
 ·rw [decide_eq_false h1]; rfl
theorem Re {b:Bls} {x y z:List Int} (g:RS b x y) (a:Int):CW (b,x,y,z) a=some (liv b x y a):=by
 unfold CW liv
 rw [UK g,Option.bind_some]
 dsimp only
 cases decide (33≤a∧a≤(b.length:Int) - 1) with
 | false=>rfl
 | true=>
  cases bit x a.toNat with
  | false=>rfl
  | true=>rw [if_pos (show (true && true)=true from rfl),PT g.hy]; rfl
def rz (c:List Int) (n:Nat):Bool:=(c.drop n).all fun v=>decide (v=0)
theorem Uh {c:List Int} {n:Nat} (hc:c.length≤1048576) (hn:n≤c.length):Hr c ((n:Nat):Int)=some (rz c n):=by
 refine Ok.eq ((Aay hc hn).mono fun r hr=>?_)
 unfold rz
 cases h:(c.drop n).all fun v=>decide (v=0) with
 | true=>rw [hr]; intro v hv; simpa using List.all_eq_true.1 h v hv
 | false=>
  cases r with
  | false=>rfl
  | true=>
   have:((c.drop n).all fun v=>decide (v=0))=true:=List.all_eq_true.2 fun v hv=>by simpa using hr.1 rfl v hv
   rw [h] at this; cases this
theorem Qy (L:(List Int×(Int×Int))→Option ((List Int×(Int×Int))⊕(Unit⊕Int))) (p:Int→Bool) (l:List Int)
  (h:∀ k,k < l.length→L (l,((l.length:Nat):Int),((k:Nat):Int))=some (if p (gb l k)=true then .inr (.inr ((k:Nat):Int)) else .inl (l,((l.length:Nat):Int),((k+1:Nat):Int))))
  (h2:L (l,((l.length:Nat):Int),((l.length:Nat):Int))=some (.inr (.inl ()))) :
  ∃ r,Ab L (l,((l.length:Nat):Int),0)=some r∧((r=.inl ()∧(l.any p)=false)∨∃ k:Nat,r=.inr ((k:Nat):Int)∧(l.any p)=true):=by
 rcases Iw L (fun k=>(l,((l.length:Nat):Int),((k:Nat):Int))) (fun k=>!(p (gb l k))) (fun k=>((k:Nat):Int)) () l.length (fun k hk=>by
  rw [h k hk]; cases p (gb l k) <;> rfl) h2 with ⟨ha,hl⟩ | ⟨k,hk,hp,_,hl⟩
 ·refine ⟨_,hl,.inl ⟨rfl,?_⟩⟩
  rw [List.any_eq_false]
  intro v hv
  obtain ⟨j,hj,rfl⟩:=List.getElem_of_mem hv
  have:=ha j hj
  unfold gb at this
  rw [List.getElem?_eq_getElem hj,Option.getD_some] at this
  simpa using this
 ·refine ⟨_,hl,.inr ⟨k,rfl,?_⟩⟩
  rw [List.any_eq_true]
  refine ⟨_,List.mem_of_getElem? (Ak hk),?_⟩
  simpa using hp
theorem Aat (c:List Int) (n:Nat):((c.drop n).any fun v=>decide (¬ v=0)) = !(rz c n):=by
 unfold rz
 induction c.drop n with
 | nil=>rfl
 | cons a l ih=>rw [List.any_cons,List.all_cons,ih]; by_cases h:a=0 <;> simp [h]
theorem ZW {l:List Int} (hl:l.length≤1048576):AQ l=some (l.any fun v=>decide (¬ v=0)):=by
 unfold AQ Bw
 obtain ⟨r,hr,h⟩:=Qy AP (fun v=>decide (¬ v=0)) l (fun k hk=>by
  unfold AP H9
  dsimp only
  rw [iy (by omega),iy (by omega),Int.toNat_natCast,Ak hk,Option.bind_some,Option.bind_some,Ao (by omega)]
  by_cases hz:gb l k=0 <;> simp [hz]) (by
  unfold AP
  dsimp only
  rw [ino (by omega)])
 rw [hr,Option.bind_some]
 rcases h with ⟨rfl,h⟩ | ⟨k,rfl,h⟩
 ·rw [h]; rfl
 ·rw [h]; dsimp only; rw [Option.bind_some,decide_eq_true (by omega)]
theorem YL {l:List Int} (hl:l.length≤1048576):AO l=some (l.any fun v=>decide (¬ v=0)):=by
 unfold AO Bn
 obtain ⟨r,hr,h⟩:=Qy AN (fun v=>decide (¬ v=0)) l (fun k hk=>by
  unfold AN Hf
  dsimp only
  rw [iy (by omega),iy (by omega),Int.toNat_natCast,Ak hk,Option.bind_some,Option.bind_some,Ao (by omega)]
  by_cases hz:gb l k=0 <;> simp [hz]) (by
  unfold AN
  dsimp only
  rw [ino (by omega)])
 rw [hr,Option.bind_some]
 rcases h with ⟨rfl,h⟩ | ⟨k,rfl,h⟩
 ·rw [h]; rfl
 ·rw [h]; dsimp only; rw [Option.bind_some,decide_eq_true (by omega)]
def num (c:List Int) (i:Nat):Int:=gb c i * 256+gb c (i+1)
theorem Adz {c:List Int} (h:U8s c) (i:Nat):0≤num c i∧num c i≤65535:=by
 have h1:=GV h i; have h2:=GV h (i+1)
 unfold num; omega
theorem Aeu {a b:Int} (ha:0≤a∧a≤255) (hb:0≤b∧b≤255):(((BitVec.ofInt (IntKind.bits .i64) (a * 256) ||| BitVec.ofInt (IntKind.bits .i64) b).toNat:Nat):Int)=a * 256+b:=by
 obtain ⟨n,rfl⟩:=Int.eq_ofNat_of_zero_le ha.1
 obtain ⟨m,rfl⟩:=Int.eq_ofNat_of_zero_le hb.1
 have h1:((n:Nat):Int) * 256=((256 * n:Nat):Int):=by omega
 rw [h1,BitVec.ofInt_natCast,BitVec.ofInt_natCast,BitVec.toNat_or,BitVec.toNat_ofNat,BitVec.toNat_ofNat,show IntKind.bits .i64=64 from rfl,Nat.mod_eq_of_lt (by omega),Nat.mod_eq_of_lt (by omega)]
 have h2:=Nat.two_pow_add_eq_or_of_lt (i:=8) (b:=m) (by omega) n
 rw [show (2:Nat) ^ 8=256 from rfl] at h2
 rw [← h2]; omega
theorem XS {c:List Int} (hu:U8s c) {i:Nat} (h:i+1 < c.length) (hi:i≤1048576):HN c ((i:Nat):Int)=some (num c i):=by
 have u1:=GV hu i; have u2:=GV hu (i+1)
 unfold HN
 rw [iy (by omega),Int.toNat_natCast,Ak (by omega),Option.bind_some,iy (by omega),Ao hi,iy (by omega),Int.toNat_natCast,Ak h,Option.bind_some,
  show (2:Int) ^ (min (Int.toNat 8) (IntKind.bits .i64))=256 from rfl,w64 (n:=gb c i) (by omega) (by omega),w64 (n:=gb c i * 256) (by omega) (by omega),w64 (n:=gb c (i+1)) (by omega) (by omega),Aeu u1 u2,w64 (by omega) (by omega)]
 rfl
abbrev Pc:=Int×(Int×List UInt8)
def Ds (b:Bls) (a:Int):List UInt8:=Bu (((blk b a.toNat).drop 3).take (gb (blk b a.toNat) 2).toNat)
def C2 (b:Bls) (a:Int):Pc:=(a,gb (blk b a.toNat) 1,Ds b a)
def pcG (c:List Int):Bool:=decide (gb c 0=83) && (decide (1≤gb c 1∧gb c 1≤250) && (decide (1≤gb c 2∧gb c 2≤40) && rz c (3+(gb c 2).toNat)))
def pcB (b:Bls) (x y:List Int) (a:Int):Bool:=liv b x y a && pcG (blk b a.toNat)
theorem Zx {b:Bls} {x y z:List Int} (g:RS b x y) (a:Int):GZ (b,x,y,z) a=some (if pcB b x y a=true then (true,C2 b a) else (false,0,0,[])):=by
 unfold GZ pcB
 rw [Re g,Option.bind_some]
 cases hl:liv b x y a with
 | false=>rfl
 | true=>
  obtain ⟨m,rfl,h33,hm,_,_⟩:=Dg hl
  have hc:=g.len hm
  have u1:=g.u8 hm 1; have u2:=g.u8 hm 2
  unfold pcG C2 Ds
  rw [Int.toNat_natCast]
  rw [if_neg (by simp)]
  dsimp only
  generalize hcc:blk b m=c at *
  have hbm:b[m]?=some c:=by rw [CF hm,hcc]
  rw [iy (by omega),hbm,Option.bind_some,iy (by omega),show Int.toNat 0=0 from rfl,Ak (by omega),Option.bind_some,Option.bind_some]
  dsimp only
  by_cases h0:gb c 0=83
  ·rw [decide_eq_true h0,if_neg (by simp; omega),iy (by omega),Int.toNat_natCast,hbm,Option.bind_some,iy (by omega),show Int.toNat 1=1 from rfl,Ak (by omega),Option.bind_some,iy (by omega),show Int.toNat 2=2 from rfl,Ak (by omega),Option.bind_some,
    w64 (n:=gb c 1) (by omega) (by omega),w64 (n:=gb c 2) (by omega) (by omega),A5,Option.bind_some]
   by_cases h1:1≤gb c 1∧gb c 1≤250
   ·rw [decide_eq_true h1,if_neg (by simp),A5,Option.bind_some]
    by_cases h2:1≤gb c 2∧gb c 2≤40
    ·obtain ⟨k,hk⟩:=Int.eq_ofNat_of_zero_le u2.1
     rw [hk] at h2 ⊢
     rw [decide_eq_true h2,if_neg (by simp),show (3:Int)+((k:Nat):Int)=((3+k:Nat):Int) by omega,w64 (n:=((3+k:Nat):Int)) (by omega) (by omega),iy (by omega),iy (by omega),iy (by omega),iy (by omega)]
     simp only [Int.toNat_natCast]
     rw [List.take_of_length_le (show (List.drop (3+k) c).length≤c.length - (3+k) by rw [List.length_drop]; omega),ZW (by rw [List.length_drop]; omega),Aat,Option.bind_some,Option.bind_some]
     dsimp only
     cases hr:rz c (3+k) with
     | false=>rfl
     | true=>
      rw [if_neg (by simp),iy (by omega),show (3:Int)+((k:Nat):Int)=((3+k:Nat):Int) by omega,w64 (n:=((3+k:Nat):Int)) (by omega) (by omega),iy (by omega),iy (by omega),iy (by omega),Int.toNat_natCast,
       show 3+k - Int.toNat 3=k by omega]
      rfl
    ·rw [decide_eq_false h2]; rfl
   ·rw [decide_eq_false h1]; rfl
  ·rw [decide_eq_false h0,if_pos (by simpa using h0)]; rfl
end Go.V.G
set_option maxRecDepth 100000
namespace Go.V.G
open Go.V
def pcs (b:Bls) (x y:List Int) (c:List Int) (n:Nat):Nat→List Int→Nat→Option (List Int)
 | 0,out,_=>some out
 | f+1,out,k=>if (pcB b x y (num c (2+2 * k)) && (decide (k+1 < n→gb (blk b (num c (2+2 * k)).toNat) 2=40) && !decide (num c (2+2 * k)∈out)))=true then pcs b x y c n f (out++[num c (2+2 * k)]) (k+1) else none
theorem Acd {a b:Int} (ha:0≤a∧a≤255) (hb:0≤b∧b≤255):IntKind.wrap .i64 ((IntKind.wrap .i64 ((IntKind.wrap .i64 a) * 256))+(IntKind.wrap .i64 b))=a * 256+b:=by
 rw [w64 (n:=a) (by omega) (by omega),w64 (n:=a * 256) (by omega) (by omega),w64 (n:=b) (by omega) (by omega),w64 (by omega) (by omega)]
theorem WE {k:Nat} (h:k≤1048576):IntKind.wrap .i64 (2+(IntKind.wrap .i64 (2 * ((k:Nat):Int))))=((2+2 * k:Nat):Int):=by
 rw [w64 (n:=2 * ((k:Nat):Int)) (by omega) (by omega),w64 (by omega) (by omega)]; omega
theorem Aew {k:Nat} (h:k≤1048576):IntKind.wrap .i64 (3+(IntKind.wrap .i64 (2 * ((k:Nat):Int))))=((3+2 * k:Nat):Int):=by
 rw [w64 (n:=2 * ((k:Nat):Int)) (by omega) (by omega),w64 (by omega) (by omega)]; omega
theorem U0 {b:Bls} {x y z c out:List Int} {n k:Nat} (g:RS b x y) (hc:c.length=128) (hu:U8s c) (hn:n≤3) (hk:k < n) (ho:out.length≤3) :
  DV (c,((n:Nat):Int),out,((k:Nat):Int),b,x,y,z) =
   some (if (pcB b x y (num c (2+2 * k)) && (decide (k+1 < n→gb (blk b (num c (2+2 * k)).toNat) 2=40) && !decide (num c (2+2 * k)∈out)))=true then .inl (c,((n:Nat):Int),out++[num c (2+2 * k)],((k+1:Nat):Int),b,x,y,z) else .inr (.inr false)):=by
 have e1:=WE (k:=k) (by omega)
 have e2:=Aew (k:=k) (by omega)
 have u1:=GV hu (2+2 * k); have u2:=GV hu (3+2 * k)
 have ea:=Acd u1 u2
 have en:num c (2+2 * k)=gb c (2+2 * k) * 256+gb c (3+2 * k):=by unfold num; rw [show 2+2 * k+1=3+2 * k by omega]
 unfold DV pcB
 dsimp only
 rw [iy (by omega),e1,e2,iy (by omega),Int.toNat_natCast,Ak (by omega),Option.bind_some,iy (by omega),Int.toNat_natCast,Ak (by omega),Option.bind_some,ea,← en]
 have hroom:∀ v:Int,Aa (List.length out+List.length ([v]:List Int)) 8=true:=fun v=>by simp only [Aa,decide_eq_true_eq,List.length_singleton]; omega
 generalize num c (2+2 * k)=a
 rw [OJ g,Option.bind_some]
 cases hl:liv b x y a with
 | false=>rfl
 | true=>
  obtain ⟨m,rfl,h33,hm,_,_⟩:=Dg hl
  have hc2:=g.len hm
  have v1:=g.u8 hm 1; have v2:=g.u8 hm 2
  rw [if_neg (by simp),Qs (by omega),Option.bind_some,Option.bind_some]
  dsimp only
  by_cases hmem:((m:Nat):Int)∈out
  ·rw [decide_eq_true hmem,if_pos rfl,if_neg (by simp)]
  rw [decide_eq_false hmem,if_neg (by simp),iy (by omega),Int.toNat_natCast,CF hm,Option.bind_some]
  unfold pcG
  generalize blk b m=d at *
  have w2:IntKind.wrap .i64 (gb d 2)=gb d 2:=w64 (by omega) (by omega)
  rw [iy (by omega),show Int.toNat 2=2 from rfl,Ak (by omega),Option.bind_some,iy (by omega),show Int.toNat 0=0 from rfl,Ak (by omega),Option.bind_some]
  rw [w2]
  by_cases h0:gb d 0=83
  ·rw [decide_eq_true h0,if_neg (by simp; omega),iy (by omega),show Int.toNat 1=1 from rfl,Ak (by omega),Option.bind_some,w64 (n:=gb d 1) (by omega) (by omega),CL,Option.bind_some]
   by_cases h1:1≤gb d 1∧gb d 1≤250
   ·rw [decide_eq_true h1,if_neg (by simp),CL,Option.bind_some]
    by_cases h2:1≤gb d 2∧gb d 2≤40
    ·obtain ⟨j,hj⟩:=Int.eq_ofNat_of_zero_le v2.1
     rw [hj] at h2 ⊢
     rw [decide_eq_true h2,if_neg (by simp),show (3:Int)+((j:Nat):Int)=((3+j:Nat):Int) by omega,w64 (n:=((3+j:Nat):Int)) (by omega) (by omega),Uh (by omega) (by omega),Int.toNat_natCast,w64 (n:=((n:Nat):Int) - 1) (by omega) (by omega),Option.bind_some]
     have hr:∀ q:Bool,(if q=true then some (Sum.inr (Sum.inr false)) else
       if Aa (out.length + [((m:Nat):Int)].length) 8=true then some (Sum.inl (c,((n:Nat):Int),out++[((m:Nat):Int)],IntKind.wrap .i64 (((k:Nat):Int)+1),b,x,y,z)) else none :
       Option ((List Int×(Int×(List Int×(Int×(List (List Int)×(List Int×(List Int×List Int)))))))⊕((List Int×(Int×List Int))⊕Bool))) =
       some (if (!q)=true then .inl (c,((n:Nat):Int),out++[((m:Nat):Int)],((k+1:Nat):Int),b,x,y,z) else .inr (.inr false)):=fun q=>by
      cases q with
      | true=>rfl
      | false=>rw [if_neg (by simp),if_pos (hroom _),Ao (by omega)]; rfl
     by_cases h4:k+1 < n
     ·rw [iy (by omega)]
      by_cases h5:((j:Nat):Int)=40
      ·rw [ino (by omega),Option.bind_some]
       dsimp only
       rw [hr]
       have:decide (k+1 < n→((j:Nat):Int)=40)=true:=decide_eq_true fun _=>h5
       rw [this]
       cases rz d (3+j) <;> rfl
      ·rw [iy h5,Option.bind_some]
       dsimp only
       have:decide (k+1 < n→((j:Nat):Int)=40)=false:=decide_eq_false fun hh=>h5 (hh h4)
       rw [this,if_pos rfl]
       cases rz d (3+j) <;> rfl
     ·rw [ino (by omega),Option.bind_some]
      dsimp only
      rw [hr]
      have:decide (k+1 < n→((j:Nat):Int)=40)=true:=decide_eq_true fun hh=>absurd hh h4
      rw [this]
      cases rz d (3+j) <;> rfl
    ·rw [decide_eq_false h2]; rfl
   ·rw [decide_eq_false h1]; rfl
  ·rw [decide_eq_false h0,if_pos (by simpa using h0)]; rfl
theorem NJ {b:Bls} {x y z c:List Int} {n:Nat} (g:RS b x y) (hc:c.length=128) (hu:U8s c) (hn:n≤3):∀ (f k:Nat) (out:List Int),k+f=n→out.length≤k→
  Ab DV (c,((n:Nat):Int),out,((k:Nat):Int),b,x,y,z)=some (match pcs b x y c n f out k with | some l=>.inl (c,((n:Nat):Int),l) | none=>.inr false)
 | 0,k,out,hk,ho=>by
  rw [An]
  unfold DV pcs
  dsimp only
  rw [ino (by omega)]
 | f+1,k,out,hk,ho=>by
  have hs:=U0 (z:=z) (k:=k) (out:=out) g hc hu hn (by omega) (by omega)
  unfold pcs
  by_cases h:(pcB b x y (num c (2+2 * k)) && (decide (k+1 < n→gb (blk b (num c (2+2 * k)).toNat) 2=40) && !decide (num c (2+2 * k)∈out)))=true
  ·rw [if_pos h] at hs
   rw [An,hs,if_pos h]
   exact NJ g hc hu hn f (k+1) _ (by omega) (by simp; omega)
  ·rw [if_neg h] at hs
   rw [An,hs,if_neg h]
theorem Zl {l:List Pc} (hl:l.length≤1048576) (a s:Int) (t:List UInt8) :
  Ah l a s t=some (decide (a∈l.map (·.1)),a,s,t):=by
 unfold Ah Am
 rcases Iw Aj (fun k=>(l,((l.length:Nat):Int),((k:Nat):Int),a,s,t)) (fun k=>!(decide ((l[k]?.getD (0,0,[])).1=a))) (fun k=>(((k:Nat):Int),a,s,t)) (a,s,t) l.length (fun k hk=>by
  unfold Aj Hl
  dsimp only
  rw [iy (by omega),iy (by omega),Int.toNat_natCast,List.getElem?_eq_getElem hk,Option.bind_some,Option.bind_some,Ao (by omega),Option.getD_some]
  by_cases hz:l[k].1=a <;> simp [hz]) (by
  unfold Aj
  dsimp only
  rw [ino (by omega)]) with ⟨h1,h2⟩ | ⟨k,hk,h1,_,h2⟩
 ·have:a∉l.map (·.1):=by
   intro hm
   obtain ⟨p,hp,he⟩:=List.mem_map.1 hm
   obtain ⟨j,hj,rfl⟩:=List.getElem_of_mem hp
   have:=h1 j hj
   rw [List.getElem?_eq_getElem hj,Option.getD_some] at this
   simp [he] at this
  rw [show (0:Int)=((0:Nat):Int) from rfl,h2,Option.bind_some,decide_eq_false this]
  rfl
 ·have:a∈l.map (·.1):=by
   rw [List.getElem?_eq_getElem hk,Option.getD_some] at h1
   refine List.mem_map.2 ⟨l[k],List.getElem_mem _,?_⟩
   simpa using h1
  rw [show (0:Int)=((0:Nat):Int) from rfl,h2,Option.bind_some,decide_eq_true this]
  dsimp only
  rw [Option.bind_some]
  dsimp only
  rw [decide_eq_true (by omega)]
theorem Ad8 {b:Bls} {x y:List Int} (g:RS b x y) {m:Nat} (hm:m < b.length) (h:gb (blk b m) 2≤40):((List.length (Ds b ((m:Nat):Int)):Nat):Int)=gb (blk b m) 2:=by
 have hc:=g.len hm
 have u2:=g.u8 hm 2
 unfold Ds Bu
 rw [Int.toNat_natCast,List.length_map,List.length_take,List.length_drop]
 omega
theorem UF {b:Bls} {x y z c out:List Int} {n k:Nat} (g:RS b x y) (hc:c.length=128) (hu:U8s c) (hn:n≤3) (hk:k < n) (ho:out.length≤3) :
  CM ((b,x,y,z),c,((n:Nat):Int),out.map (C2 b),((n:Nat):Int),((k:Nat):Int)) =
   some (if (pcB b x y (num c (2+2 * k)) && (decide (k+1 < n→gb (blk b (num c (2+2 * k)).toNat) 2=40) && !decide (num c (2+2 * k)∈out)))=true then .inl ((b,x,y,z),c,((n:Nat):Int),(out++[num c (2+2 * k)]).map (C2 b),((n:Nat):Int),((k+1:Nat):Int)) else .inr (.inr false)):=by
 have e1:=WE (k:=k) (by omega)
 unfold CM
 dsimp only
 rw [iy (by omega),e1,XS hu (by omega) (by omega),Option.bind_some,Zx g]
 generalize num c (2+2 * k)=a
 rw [Option.bind_some,Ao (by omega)]
 cases hp:pcB b x y a with
 | false=>rfl
 | true=>
  have hl:liv b x y a=true:=by unfold pcB at hp; simp only [Bool.and_eq_true] at hp; exact hp.1
  obtain ⟨m,rfl,h33,hm,_,_⟩:=Dg hl
  have h40:gb (blk b m) 2≤40:=by
   unfold pcB pcG at hp
   simp only [Bool.and_eq_true,decide_eq_true_eq,Int.toNat_natCast] at hp
   exact hp.2.2.2.1.2
  have ht:=Ad8 g hm h40
  have hmap:((out.map (C2 b)).map (·.1))=out:=by rw [List.map_map]; exact List.map_id out
  have hroom:∀ v:Pc,Aa (List.length (out.map (C2 b))+List.length ([v]:List Pc)) 32=true:=fun v=>by simp only [Aa,decide_eq_true_eq,List.length_singleton,List.length_map]; omega
  rw [if_pos rfl]
  dsimp only
  rw [if_neg (by simp),Zl (by rw [List.length_map]; omega),hmap,Option.bind_some]
  dsimp only
  rw [show (C2 b ((m:Nat):Int)).1=((m:Nat):Int) from rfl,show (C2 b ((m:Nat):Int)).2.2=Ds b ((m:Nat):Int) from rfl,Int.toNat_natCast]
  have hr:∀ q:Bool,(if q=true then some (Sum.inr (Sum.inr false)) else
    if Aa ((out.map (C2 b)).length + [((((m:Nat):Int)),(C2 b ((m:Nat):Int)).2.1,Ds b ((m:Nat):Int))].length) 32=true then some (Sum.inl ((b,x,y,z),c,((n:Nat):Int),out.map (C2 b)++[((((m:Nat):Int)),(C2 b ((m:Nat):Int)).2.1,Ds b ((m:Nat):Int))],((n:Nat):Int),IntKind.wrap .i64 (((k:Nat):Int)+1))) else none :
    Option (((List (List Int)×(List Int×(List Int×List Int)))×(List Int×(Int×(List (Int×(Int×List UInt8))×(Int×Int)))))⊕(List (Int×(Int×List UInt8))⊕Bool))) =
    some (if (!q)=true then .inl ((b,x,y,z),c,((n:Nat):Int),(out++[((m:Nat):Int)]).map (C2 b),((n:Nat):Int),((k+1:Nat):Int)) else .inr (.inr false)):=fun q=>by
   cases q with
   | true=>rfl
   | false=>
    rw [if_neg (by simp),if_pos (hroom _),List.map_append,Ao (by omega)]
    rfl
  by_cases h4:k+1 < n
  ·rw [iy (by omega),ht]
   by_cases h5:gb (blk b m) 2=40
   ·rw [ino (by omega),Option.bind_some]
    dsimp only
    rw [hr]
    have:decide (k+1 < n→gb (blk b m) 2=40)=true:=decide_eq_true fun _=>h5
    rw [this]; rfl
   ·rw [iy (by omega),Option.bind_some]
    dsimp only
    have:decide (k+1 < n→gb (blk b m) 2=40)=false:=decide_eq_false fun hh=>h5 (hh h4)
    rw [this]; rfl
  ·rw [ino (by omega),Option.bind_some]
   dsimp only
   rw [hr]
   have:decide (k+1 < n→gb (blk b m) 2=40)=true:=decide_eq_true fun hh=>absurd hh h4
   rw [this]; rfl
theorem Nx {b:Bls} {x y z c:List Int} {n:Nat} (g:RS b x y) (hc:c.length=128) (hu:U8s c) (hn:n≤3):∀ (f k:Nat) (out:List Int),k+f=n→out.length≤k→
  Ab CM ((b,x,y,z),c,((n:Nat):Int),out.map (C2 b),((n:Nat):Int),((k:Nat):Int))=some (match pcs b x y c n f out k with | some l=>.inl (l.map (C2 b)) | none=>.inr false)
 | 0,k,out,hk,ho=>by
  rw [An]
  unfold CM pcs
  dsimp only
  rw [ino (by omega)]
 | f+1,k,out,hk,ho=>by
  have hs:=UF (z:=z) (k:=k) (out:=out) g hc hu hn (by omega) (by omega)
  unfold pcs
  by_cases h:(pcB b x y (num c (2+2 * k)) && (decide (k+1 < n→gb (blk b (num c (2+2 * k)).toNat) 2=40) && !decide (num c (2+2 * k)∈out)))=true
  ·rw [if_pos h] at hs
   rw [An,hs,if_pos h]
   exact Nx g hc hu hn f (k+1) _ (by omega) (by simp; omega)
  ·rw [if_neg h] at hs
   rw [An,hs,if_neg h]
def ptx (b:Bls) (x y:List Int) (root:Int):Option (List Int):=
 if (liv b x y root && (decide (gb (blk b root.toNat) 0=84) && (decide (gb (blk b root.toNat) 1≤3) && rz (blk b root.toNat) (2+2 * (gb (blk b root.toNat) 1).toNat))))=true then
  pcs b x y (blk b root.toNat) (gb (blk b root.toNat) 1).toNat (gb (blk b root.toNat) 1).toNat [] 0 else none
theorem Xs {b:Bls} {x y z:List Int} (g:RS b x y) (root:Int):∃ l':List Int,Js b x y z root=some (match ptx b x y root with | some l=>(l,true) | none=>(l',false)):=by
 unfold Js ptx
 rw [OJ g,Option.bind_some]
 cases hl:liv b x y root with
 | false=>exact ⟨[],rfl⟩
 | true=>
  obtain ⟨m,rfl,h33,hm,_,_⟩:=Dg hl
  have hc:=g.len hm
  have hu:=g.hu _ (DT hm)
  rw [Int.toNat_natCast,if_neg (by simp),Bool.true_and]
  have hbm:=CF hm
  generalize blk b m=c at *
  have u1:=GV hu 1
  rw [iy (by omega),hbm,Option.bind_some,iy (by omega),show Int.toNat 0=0 from rfl,Ak (by omega),Option.bind_some]
  by_cases h0:gb c 0=84
  ·rw [decide_eq_true h0,if_neg (by simp; omega),iy (by omega),Option.bind_some,iy (by omega),show Int.toNat 1=1 from rfl,Ak (by omega),Option.bind_some,Option.bind_some]
   dsimp only
   rw [Int.toNat_natCast,hbm,Bool.true_and]
   by_cases h3:gb c 1≤3
   ·obtain ⟨n,hn⟩:=Int.eq_ofNat_of_zero_le u1.1
    rw [ino (by omega),iy (by omega),Option.bind_some,iy (by omega),Ak (by omega),Option.bind_some,decide_eq_true h3,Bool.true_and,hn,w64 (by omega) (by omega),Int.toNat_natCast]
    have hL:Ab DV (c,((n:Nat):Int),[],0,b,x,y,z)=_:=NJ g hc hu (by omega) n 0 [] (by omega) (by simp)
    rw [hL,Option.bind_some]
    have e1:=WE (k:=n) (by omega)
    cases hp:pcs b x y c n n [] 0 with
    | none=>exact ⟨[],by dsimp only; cases rz c (2+2 * n) <;> rfl⟩
    | some l=>
     refine ⟨l,?_⟩
     dsimp only
     rw [e1,Uh (by omega) (by omega),Option.bind_some]
     cases rz c (2+2 * n) <;> rfl
   ·exact ⟨[],by rw [iy (by omega),decide_eq_false h3]; rfl⟩
  ·rw [decide_eq_false h0,if_pos (by simpa using h0)]; exact ⟨[],rfl⟩
theorem Xn {b:Bls} {x y z:List Int} (g:RS b x y) (root:Int):F6 (b,x,y,z) root=some (match ptx b x y root with | some l=>(l.map (C2 b),true) | none=>([],false)):=by
 unfold F6 ptx
 rw [Re g,Option.bind_some]
 cases hl:liv b x y root with
 | false=>rfl
 | true=>
  obtain ⟨m,rfl,h33,hm,_,_⟩:=Dg hl
  have hc:=g.len hm
  have hu:=g.hu _ (DT hm)
  rw [Int.toNat_natCast,if_neg (by simp),Bool.true_and]
  have hbm:=CF hm
  dsimp only
  generalize blk b m=c at *
  have u1:=GV hu 1
  rw [iy (by omega),hbm,Option.bind_some,iy (by omega),show Int.toNat 0=0 from rfl,Ak (by omega),Option.bind_some,Option.bind_some]
  dsimp only
  by_cases h0:gb c 0=84
  ·obtain ⟨n,hn⟩:=Int.eq_ofNat_of_zero_le u1.1
   rw [decide_eq_true h0,if_neg (by simp; omega),iy (by omega),Int.toNat_natCast,hbm,Option.bind_some,iy (by omega),show Int.toNat 1=1 from rfl,Ak (by omega),Option.bind_some,Bool.true_and,hn,w64 (n:=((n:Nat):Int)) (by omega) (by omega)]
   have e1:=WE (k:=n) (by omega)
   by_cases h3:((n:Nat):Int)≤3
   ·rw [ino (by omega),e1,iy (by omega),iy (by omega),iy (by omega),iy (by omega),decide_eq_true h3,Bool.true_and]
    simp only [Int.toNat_natCast]
    rw [List.take_of_length_le (show (List.drop (2+2 * n) c).length≤c.length - (2+2 * n) by rw [List.length_drop]; omega),YL (by rw [List.length_drop]; omega),Aat,Option.bind_some,Option.bind_some]
    dsimp only
    cases hr:rz c (2+2 * n) with
    | false=>rfl
    | true=>
     have hL:Ab CM ((b,x,y,z),c,((n:Nat):Int),[],((n:Nat):Int),0)=_:=Nx g hc hu (by omega) n 0 [] (by omega) (by simp)
     rw [if_neg (by simp),if_pos rfl,hL,Option.bind_some]
     cases pcs b x y c n n [] 0 <;> rfl
   ·rw [iy (by omega),decide_eq_false h3]; rfl
  ·rw [decide_eq_false h0,if_pos (by simpa using h0)]; rfl
end Go.V.G
set_option maxRecDepth 100000
namespace Go.V.G
open Go.V
noncomputable def pt (z:List Int) (n:Int):List Int:=(CZ z n).getD []
theorem Dt {z:List Int} (hz:z.length≤1048576) (hr:Ris z) (n:Int):CZ z n=some (pt z n)∧ET z n=some (pt z n)∧(pt z n).length≤z.length+1∧Ris (pt z n)∧∀ v,v∈pt z n↔v∈z∨v=n:=by
 obtain ⟨z',h1,h2,h3,h4,h5⟩:=KU hz hr n
 have e:pt z n=z':=by unfold pt; rw [h1]; rfl
 rw [e]; exact ⟨h1,h2,h3,h4,h5⟩
def AA (d:List Int):List Int:=d++List.replicate (128 - d.length) 0
theorem EZ {d:List Int} (h:d.length≤128):(AA d).length=128:=by unfold AA; simp; omega
theorem Acs {d:List Int} (h:d.length=128):AA d=d:=by unfold AA; rw [h]; simp
theorem IP {d:List Int} (h:d.length≤128):CJ d 128=some (AA d):=by
 unfold CJ AA
 rw [w64 (by omega) (by omega),iy (by omega),show Int.toNat ((128:Int) - ((d.length:Nat):Int))=128 - d.length by omega,if_pos (by simp only [Aa,decide_eq_true_eq,List.length_replicate]; omega)]
theorem M7 {b:Bls} {x y z d:List Int} {m:Nat} (hd:d.length≤128) (hm:m < b.length) (hz:z.length≤1048576) (hr:Ris z) :
  B8 ((m:Nat):Int) d b x y z=some (b.set m (AA d),x,y,pt z ((m:Nat):Int)):=by
 obtain ⟨h1,_⟩:=Dt hz hr ((m:Nat):Int)
 unfold B8 AA
 rw [iy (by omega),iy (by omega),if_pos (by simp [Aa]),iy (by omega),iy (by omega),Nat.zero_add,Int.toNat_natCast,CF hm,Option.bind_some,Option.bind_some,h1,Option.bind_some,
  show Int.toNat 128=128 from rfl,List.length_replicate,List.take_of_length_le hd,List.drop_replicate]
theorem QE {b:Bls} {x y z d:List Int} {m:Nat} (hd:d.length=128) (hm:m < b.length) (hz:z.length≤1048576) (hr:Ris z) :
  AW ((m:Nat):Int) d b x y z=some (b.set m d,x,y,pt z ((m:Nat):Int)):=by
 obtain ⟨_,h1,_⟩:=Dt hz hr ((m:Nat):Int)
 unfold AW
 rw [D9 (by omega),Option.bind_some,iy (by omega),iy (by omega),Nat.zero_add,Int.toNat_natCast,CF hm,Option.bind_some,Option.bind_some,h1]; rfl
theorem FO (s:List UInt8):(AR s).length=s.length:=by simp [AR]
theorem Ns {b:Bls} {x y z:List Int} {s:Int} {t:List UInt8} {m:Nat} (ht:t.length≤40) (hm:m < b.length) (hz:z.length≤1048576) (hr:Ris z) :
  Cp ((m:Nat):Int) s t b x y z=some (b.set m (AA ([83,IntKind.wrap .u8 s,((t.length:Nat):Int)]++AR t)),x,y,pt z ((m:Nat):Int)):=by
 have hl:([83,IntKind.wrap .u8 s,((t.length:Nat):Int)]++AR t).length≤128:=by
  simp only [List.length_append,List.length_cons,List.length_nil,FO]; omega
 unfold Cp
 rw [if_pos (by simp only [Aa,decide_eq_true_eq,List.length_cons,List.length_nil,FO]; omega),wub (r:=((t.length:Nat):Int)) (by omega) (by omega),IP hl,Option.bind_some,QE (EZ hl) hm hz hr]
 rfl
theorem YJ {l:List Int} (h:U8s l):AR (Bu l)=l:=by
 unfold Bu AR
 rw [List.map_map]
 conv=>rhs; rw [← List.map_id l]
 refine List.map_congr_left fun v hv=>?_
 obtain ⟨h0,h1⟩:=h v hv
 obtain ⟨n,rfl⟩:=Int.eq_ofNat_of_zero_le h0
 simp only [Function.comp,Int.toNat_natCast,id]
 rw [UInt8.toNat_ofNat_of_lt' (by show n < 256; omega)]
theorem YM {c:List Int} (hc:c.length=128) (hu:U8s c) (hg:pcG c=true) :
  c=AA ([83,gb c 1,gb c 2]++AR (Bu ((c.drop 3).take (gb c 2).toNat))):=by
 unfold pcG at hg
 simp only [Bool.and_eq_true,decide_eq_true_eq] at hg
 obtain ⟨h0,h1,h2,hr⟩:=hg
 obtain ⟨n,hn⟩:=Int.eq_ofNat_of_zero_le (show 0≤gb c 2 by omega)
 rw [hn] at h2 hr ⊢
 rw [Int.toNat_natCast] at hr ⊢
 have hu2:U8s ((c.drop 3).take n):=fun v hv=>hu v (List.mem_of_mem_drop (List.mem_of_mem_take hv))
 rw [YJ hu2]
 have h3:c.take 3=[83,gb c 1,((n:Nat):Int)]:=by
  match c,hc with
  | a0::a1::a2::r,_=>
   have e0:a0=83:=h0
   have e2:a2=((n:Nat):Int):=hn
   rw [e0,e2]; rfl
 have hrz:c.drop (3+n)=List.replicate (125 - n) 0:=by
  rw [List.eq_replicate_iff]
  refine ⟨by rw [List.length_drop]; omega,fun v hv=>?_⟩
  unfold rz at hr
  simpa using List.all_eq_true.1 hr v hv
 have hlen:([83,gb c 1,((n:Nat):Int)]++(c.drop 3).take n).length=3+n:=by
  simp only [List.length_append,List.length_cons,List.length_nil,List.length_take,List.length_drop]; omega
 unfold AA
 rw [hlen,show 128 - (3+n)=125 - n by omega,← hrz,← h3,List.append_assoc,← List.drop_drop,List.take_append_drop,List.take_append_drop]
theorem Aaz {c:List Int} (hc:c.length=128) (hu:U8s c) (hg:pcG c=true) (v:Int) :
  c.set 1 v=AA ([83,v,((List.length (Bu ((c.drop 3).take (gb c 2).toNat)):Nat):Int)]++AR (Bu ((c.drop 3).take (gb c 2).toNat))):=by
 have hf:=YM hc hu hg
 have hg':=hg
 unfold pcG at hg'
 simp only [Bool.and_eq_true,decide_eq_true_eq] at hg'
 obtain ⟨_,_,h2,_⟩:=hg'
 have hl:((List.length (Bu ((c.drop 3).take (gb c 2).toNat)):Nat):Int)=gb c 2:=by
  unfold Bu
  rw [List.length_map,List.length_take,List.length_drop]; omega
 rw [hl]
 have hl2:∀ v:Int,([83,v,gb c 2]++AR (Bu ((c.drop 3).take (gb c 2).toNat))).length=3+(Bu ((c.drop 3).take (gb c 2).toNat)).length:=fun v=>by
  simp only [List.length_append,List.length_cons,List.length_nil,FO]
 generalize hw:AR (Bu ((c.drop 3).take (gb c 2).toNat))=w at *
 generalize gb c 2=g2 at *
 generalize gb c 1=g1 at *
 rw [hf]
 unfold AA
 rw [hl2,hl2]
 rfl
theorem AaP {b:Bls} {x y c:List Int} {n:Nat}:∀ (f k:Nat) (out l:List Int),pcs b x y c n f out k=some l→(∀ a∈out,pcB b x y a=true)→out.Nodup→
  (∀ a∈l,pcB b x y a=true)∧l.Nodup∧l.length=out.length+f
 | 0,k,out,l,h,h1,h2=>by
  unfold pcs at h
  cases h
  exact ⟨h1,h2,rfl⟩
 | f+1,k,out,l,h,h1,h2=>by
  unfold pcs at h
  split at h
  ·rename_i hc
   simp only [Bool.and_eq_true,Bool.not_eq_true',decide_eq_false_iff_not] at hc
   obtain ⟨hp,_,hm⟩:=hc
   obtain ⟨r1,r2,r3⟩:=AaP f (k+1) _ l h (fun a ha=>by
    rcases List.mem_append.1 ha with ha | ha
    ·exact h1 a ha
    ·rw [List.mem_singleton.1 ha]; exact hp) (by
    rw [List.nodup_append]
    refine ⟨h2,by simp,fun a ha b hb=>?_⟩
    rw [List.mem_singleton.1 hb]
    rintro rfl; exact hm ha)
   exact ⟨r1,r2,by rw [r3]; simp; omega⟩
  ·cases h
structure Pcs (b:Bls) (x y l:List Int):Prop where
 all:∀ a∈l,pcB b x y a=true
 nd:l.Nodup
 len:l.length≤3
theorem ZM {b:Bls} {x y:List Int} {root:Int} {l:List Int} (h:ptx b x y root=some l):Pcs b x y l∧liv b x y root=true∧gb (blk b root.toNat) 0=84∧root∉l:=by
 unfold ptx at h
 split at h
 ·rename_i hc
  simp only [Bool.and_eq_true,decide_eq_true_eq] at hc
  obtain ⟨h1,h2,h3,_⟩:=hc
  obtain ⟨r1,r2,r3⟩:=AaP _ 0 [] l h (fun a ha=>by cases ha) List.nodup_nil
  refine ⟨⟨r1,r2,by rw [r3]; simp; omega⟩,h1,h2,fun hm=>?_⟩
  have:=r1 root hm
  unfold pcB pcG at this
  simp only [Bool.and_eq_true,decide_eq_true_eq] at this
  omega
 ·cases h
theorem JR {b:Bls} {x y:List Int} {a:Int} (h:pcB b x y a=true):∃ m:Nat,a=((m:Nat):Int)∧33≤m∧m < b.length∧bit x m=true∧((m:Nat):Int)∉y∧pcG (blk b m)=true:=by
 unfold pcB at h
 simp only [Bool.and_eq_true] at h
 obtain ⟨m,rfl,h1,h2,h3,h4⟩:=Dg h.1
 exact ⟨m,rfl,h1,h2,h3,h4,h.2⟩
theorem Aet (b:Bls) {x y:List Int} {a:Int} (h:pcB b x y a=true):(Ds b a).length≤40:=by
 obtain ⟨m,rfl,_,_,_,_,hg⟩:=JR h
 unfold pcG at hg
 simp only [Bool.and_eq_true,decide_eq_true_eq] at hg
 unfold Ds Bu
 rw [Int.toNat_natCast,List.length_map,List.length_take]; omega
theorem YT {b:Bls} {x y z:List Int} (g:RS b x y) {a:Int} (h:pcB b x y a=true):KM b x y z a=some (Ds b a):=by
 obtain ⟨m,rfl,h33,hm,_,_,hg⟩:=JR h
 have hc:=g.len hm
 have v2:=g.u8 hm 2
 unfold pcG at hg
 simp only [Bool.and_eq_true,decide_eq_true_eq] at hg
 unfold KM Ds
 have hbm:=CF hm
 rw [Int.toNat_natCast]
 generalize blk b m=c at *
 obtain ⟨n,hn⟩:=Int.eq_ofNat_of_zero_le v2.1
 rw [hn] at hg ⊢
 rw [iy (by omega),hbm,Option.bind_some,iy (by omega),Option.bind_some,iy (by omega),show Int.toNat 2=2 from rfl,Ak (by omega),Option.bind_some,hn,w64 (n:=((n:Nat):Int)) (by omega) (by omega),
  show (3:Int)+((n:Nat):Int)=((3+n:Nat):Int) by omega,w64 (by omega) (by omega),iy (by omega),iy (by omega),iy (by omega),iy (by omega),Int.toNat_natCast,Int.toNat_natCast,show 3+n - Int.toNat 3=n by omega]
 rfl
theorem GS.rs {b:Bls} {x y z:List Int} (g:GS b x y z) (h:SB b x y z) (hu:∀ c∈b,U8s c):RS b x y:=⟨g.hb,g.hk,hu,g.hx,h.y⟩
end Go.V.G
set_option maxRecDepth 100000
namespace Go.V.G
open Go.V
abbrev Wst:=Bls×(List Int×List Int)
structure Ws (n:Nat) (s:Wst) (q:Nat):Prop where
 hn:s.1.length=n
 hk:∀ c∈s.1,c.length=128
 hu:∀ c∈s.1,U8s c
 hy:Ris s.2.1
 hz:Ris s.2.2
 ly:s.2.1.length≤q
 lz:s.2.2.length≤q
theorem Ws.more {n q r:Nat} {s:Wst} (h:Ws n s q) (hr:q≤r):Ws n s r:=⟨h.hn,h.hk,h.hu,h.hy,h.hz,Nat.le_trans h.ly hr,Nat.le_trans h.lz hr⟩
theorem BS {b:Bls} {i j:Nat} {c:List Int} (h:i≠j):blk (b.set i c) j=blk b j:=by unfold blk; rw [List.getElem?_set_ne h]
theorem F9 {b:Bls} {i:Nat} {c:List Int} (h:i < b.length):blk (b.set i c) i=c:=by unfold blk; rw [List.getElem?_set_self h]; rfl
theorem Ws.setB {n q:Nat} {s:Wst} (h:Ws n s q) (hq:q≤1048000) {i:Nat} {c:List Int} (hc:c.length=128) (hu:U8s c):Ws n (s.1.set i c,s.2.1,pt s.2.2 ((i:Nat):Int)) (q+1):=by
 have hl:=h.lz; have hl2:=h.ly
 obtain ⟨_,_,h3,h4,_⟩:=Dt (z:=s.2.2) (by omega) h.hz ((i:Nat):Int)
 exact ⟨by rw [List.length_set]; exact h.hn,fun d hd=>by
  rcases List.mem_or_eq_of_mem_set hd with hd | rfl
  ·exact h.hk d hd
  ·exact hc,fun d hd=>by
  rcases List.mem_or_eq_of_mem_set hd with hd | rfl
  ·exact h.hu d hd
  ·exact hu,h.hy,h4,by dsimp only; omega,by dsimp only; omega⟩
theorem AcM {c:List Int} (h:U8s c) {i:Nat} {v:Int} (hv:0≤v∧v≤255):U8s (c.set i v):=fun w hw=>by
 rcases List.mem_or_eq_of_mem_set hw with hw | rfl
 ·exact h w hw
 ·exact hv
theorem GS.ws {b:Bls} {x y z:List Int} (g:GS b x y z) (hu:∀ c∈b,U8s c):Ws b.length (b,y,z) 127:=by
 have hb:=g.hb
 obtain ⟨r1,r2⟩:=FI g.hy
 obtain ⟨r3,r4⟩:=FI g.hz
 have l1:y.length≤127:=Pv r1 (fun i hi=>by have:=r2 i hi; omega)
 have l2:z.length≤127:=Pv r3 (fun i hi=>by have:=r4 i hi; omega)
 exact ⟨rfl,g.hk,hu,r1,r3,l1,l2⟩
theorem Ws.w {n q:Nat} {s:Wst} (h:Ws n s q) (hn:n≤160) (hq:q≤1000) {x:List Int} (hx:x.length=20):Yb s.1 x s.2.1 s.2.2≤5000000:=by
 have hw:∀ l:Bls,(∀ c∈l,c.length=128)→Aq AX l=l.length * 128:=by
  intro l
  induction l with
  | nil=>intro _; rfl
  | cons c l ih=>
   intro hh
   simp only [Aq,List.length_cons]
   rw [ih (fun d hd=>hh d (by simp [hd]))]
   have e:AX c=c.length:=rfl
   rw [e,hh c (by simp)]; omega
 have h1:=hw s.1 h.hk
 have h2:=h.hn; have h3:=h.ly; have h4:=h.lz
 unfold Yb AL AX Vm
 unfold AX at h1
 rw [h1]; omega
end Go.V.G
set_option maxRecDepth 100000
namespace Go.V.G
open Go.V
def Bk:Nat→List UInt8→List (List UInt8)
 | 0,_=>[]
 | f+1,t=>if t=[] then [] else t.take 40::Bk f (t.drop 40)
theorem EN:∀ f t,(Bk f t).length≤f
 | 0,_=>by simp [Bk]
 | f+1,t=>by
  unfold Bk
  split
  ·simp
  ·have:=EN f (t.drop 40); simp; omega
theorem RO:∀ f t p,p∈Bk f t→1≤p.length∧p.length≤40
 | 0,_,p,h=>by simp [Bk] at h
 | f+1,t,p,h=>by
  unfold Bk at h
  split at h
  ·cases h
  ·rename_i ht
   rcases List.mem_cons.1 h with rfl | h
   ·have:=List.length_pos_iff.2 ht
    rw [List.length_take]; omega
   ·exact RO f _ p h
theorem AbJ (f:Nat):Bk f []=[]:=by cases f <;> rfl
theorem Abt {n m:Nat} (h:n+m≤1000):Aa (n+m) 16=true:=by simp only [Aa,decide_eq_true_eq]; omega
theorem Rk:∀ (f:Nat) (t:List UInt8) (out:List (List UInt8)),t.length≤40 * f→out.length+f≤900→Ab Iq (t,out)=some (out++Bk f t)
 | 0,t,out,h,ho=>by
  obtain rfl:t=[]:=List.length_eq_zero_iff.1 (by omega)
  rw [An]
  unfold Iq
  simp [Bk]
 | f+1,t,out,h,ho=>by
  by_cases ht:t=[]
  ·subst ht
   rw [An]
   unfold Iq
   simp [Bk]
  ·have hp:=List.length_pos_iff.2 ht
   have hmin:(if ((t.length:Nat):Int) < 40 then ((t.length:Nat):Int) else 40)=((min t.length 40:Nat):Int):=by split <;> omega
   have hne:(!(t == ([]:List UInt8)))=true:=by simp [ht]
   have e1:(List.drop (min t.length 40) t).take (t.length - min t.length 40)=t.drop 40:=by
    by_cases hl:t.length≤40
    ·rw [Nat.min_eq_left hl,List.drop_eq_nil_of_le (Nat.le_refl _),List.drop_eq_nil_of_le hl,List.take_nil]
    ·rw [Nat.min_eq_right (by omega)]; exact List.take_of_length_le (by rw [List.length_drop]; omega)
   have e2:(List.drop (Int.toNat 0) t).take (min t.length 40 - Int.toNat 0)=t.take 40:=by
    rw [show Int.toNat 0=0 from rfl,List.drop_zero,Nat.sub_zero]
    by_cases hl:t.length≤40
    ·rw [Nat.min_eq_left hl,List.take_of_length_le (Nat.le_refl _),List.take_of_length_le hl]
    ·rw [Nat.min_eq_right (by omega)]
   have hs:Iq (t,out)=some (.inl (t.drop 40,out++[t.take 40])):=by
    unfold Iq
    dsimp only
    simp only [hmin]
    rw [if_pos hne]
    simp only [Int.toNat_natCast,e1,e2,if_pos (Abt (n:=out.length) (m:=([t.take 40]:List (List UInt8)).length) (by simp; omega))]
    simp (disch:=omega) only [iy]
   rw [An,hs]
   dsimp only
   rw [Rk f _ _ (by rw [List.length_drop]; omega) (by simp; omega),Bk,if_neg ht,List.append_assoc]
   rfl
theorem WB {t:List UInt8} (h:t.length≤120):Va t=some (Bk 3 t):=by
 unfold Va
 rw [Rk 3 t [] (by omega) (by simp)]
 rfl
theorem Rz:∀ (f:Nat) (t:List UInt8) (out:List (List UInt8)),t.length≤40 * f→out.length+f≤900→∃ v,Ab Ge (t,out)=some v∧(if v.1=[] then v.2 else v.2++[v.1])=out++Bk f t∧v.2.length≤900
 | 0,t,out,h,ho=>by
  obtain rfl:t=[]:=List.length_eq_zero_iff.1 (by omega)
  refine ⟨([],out),?_,by simp [Bk],by dsimp only; omega⟩
  rw [An]
  unfold Ge
  simp
 | f+1,t,out,h,ho=>by
  by_cases ht:40 < t.length
  ·have hne:t≠[]:=by rintro rfl; simp at ht
   obtain ⟨v,h1,h2,h3⟩:=Rz f (t.drop 40) (out++[t.take 40]) (by rw [List.length_drop]; omega) (by simp; omega)
   refine ⟨v,?_,?_,h3⟩
   ·have e1:(List.drop (Int.toNat 40) t).take (Int.toNat ((t.length:Nat):Int) - Int.toNat 40)=t.drop 40:=by
     rw [Int.toNat_natCast,show Int.toNat 40=40 from rfl]; exact List.take_of_length_le (by rw [List.length_drop]; omega)
    have e2:(List.drop (Int.toNat 0) t).take (Int.toNat 40 - Int.toNat 0)=t.take 40:=rfl
    have hs:Ge (t,out)=some (.inl (t.drop 40,out++[t.take 40])):=by
     unfold Ge
     dsimp only
     simp only [e1,e2,if_pos (Abt (n:=out.length) (m:=([t.take 40]:List (List UInt8)).length) (by simp; omega))]
     simp (disch:=omega) only [iy]
    rw [An,hs]
    exact h1
   ·rw [h2,Bk,if_neg hne,List.append_assoc]; rfl
  ·refine ⟨(t,out),?_,?_,by dsimp only; omega⟩
   ·rw [An]
    unfold Ge
    dsimp only
    rw [ino (by omega)]
   ·dsimp only
    unfold Bk
    split
    ·simp
    ·rw [List.take_of_length_le (by omega),List.drop_eq_nil_of_le (by omega),AbJ]
theorem QJ {t:List UInt8} (h:t.length≤120):LZ t=some (Bk 3 t):=by
 unfold LZ
 obtain ⟨v,h1,h2,h3⟩:=Rz 3 t [] (by omega) (by simp)
 rw [h1,Option.bind_some]
 rw [List.nil_append] at h2
 by_cases hv:v.1=[]
 ·rw [if_pos hv] at h2
  rw [hv,h2]; rfl
 ·rw [if_neg hv] at h2
  rw [if_pos (by simp [hv]),if_pos (Abt (by simp; omega)),h2]; rfl
def shr (b:Bls) (hv:List Int) (k:Nat) (p:List UInt8):Int:=match hv[k]? with
 | some a=>if Ds b a=p∧gb (blk b a.toNat) 1 < 250 then a else 0
 | none=>0
def shs (b:Bls) (hv:List Int) (ps:List (List UInt8)):List Int:=(List.range ps.length).map fun k=>shr b hv k (ps[k]?.getD [])
theorem Fi (b:Bls) (hv:List Int) (ps:List (List UInt8)):(shs b hv ps).length=ps.length:=by simp [shs]
theorem LV (b:Bls) (hv:List Int) {ps:List (List UInt8)} {k:Nat} (h:k < ps.length):(shs b hv ps)[k]?=some (shr b hv k ps[k]):=by
 unfold shs
 rw [List.getElem?_map,List.getElem?_range h,Option.map_some,List.getElem?_eq_getElem h]; rfl
theorem Vi (b:Bls) (hv:List Int) {ps:List (List UInt8)} {k:Nat} (h:k < ps.length):(shs b hv ps).take (k+1)=(shs b hv ps).take k++[shr b hv k ps[k]]:=by
 have hk:k < (shs b hv ps).length:=by rw [Fi]; exact h
 have e:=LV b hv h
 rw [List.getElem?_eq_getElem hk] at e
 rw [List.take_succ_eq_append_getElem hk,Option.some.inj e]
theorem O9 (b:Bls) (hv:List Int) (k:Nat) (p:List UInt8):shr b hv k p=0∨∃ (h:k < hv.length),shr b hv k p=hv[k]∧Ds b hv[k]=p∧gb (blk b hv[k].toNat) 1 < 250:=by
 unfold shr
 by_cases h:k < hv.length
 ·rw [List.getElem?_eq_getElem h]
  dsimp only
  split
  ·rename_i hc; exact .inr ⟨h,rfl,hc.1,hc.2⟩
  ·exact .inl rfl
 ·rw [List.getElem?_eq_none (by omega)]; exact .inl rfl
def pcN (b:Bls) (a:Int) (p:List UInt8):Pc:=if a=0 then (0,0,p) else C2 b a
def pcl (b:Bls) (sh:List Int) (ps:List (List UInt8)):List Pc:=(List.range ps.length).map fun k=>pcN b (sh[k]?.getD 0) (ps[k]?.getD [])
def flg (sh:List Int):List Bool:=sh.map fun a=>decide (¬ a=0)
theorem Ix (b:Bls) (sh:List Int) (ps:List (List UInt8)):(pcl b sh ps).length=ps.length:=by simp [pcl]
theorem SX (b:Bls) (sh:List Int) {ps:List (List UInt8)} {k:Nat} (h:k < ps.length):(pcl b sh ps)[k]?=some (pcN b (sh[k]?.getD 0) ps[k]):=by
 unfold pcl
 rw [List.getElem?_map,List.getElem?_range h,Option.map_some,List.getElem?_eq_getElem h]; rfl
theorem Aa2 (b:Bls) (sh:List Int) {ps:List (List UInt8)} {k:Nat} (h:k < ps.length):(pcl b sh ps).take (k+1)=(pcl b sh ps).take k++[pcN b (sh[k]?.getD 0) ps[k]]:=by
 have hk:k < (pcl b sh ps).length:=by rw [Ix]; exact h
 have e:=SX b sh h
 rw [List.getElem?_eq_getElem hk] at e
 rw [List.take_succ_eq_append_getElem hk,Option.some.inj e]
theorem Ab3 (b:Bls) (hv:List Int) {ps:List (List UInt8)} {k:Nat} (h:k < ps.length):(flg (shs b hv ps)).take (k+1)=(flg (shs b hv ps)).take k++[decide (¬ shr b hv k ps[k]=0)]:=by
 unfold flg
 rw [← List.map_take,Vi b hv h,List.map_append,List.map_take]; rfl
theorem ND {b:Bls} {x y z hv:List Int} (g:RS b x y) (hp:Pcs b x y hv) {ps:List (List UInt8)} (hps:ps.length≤3) :
  Ab Fe (hv,[],ps,((ps.length:Nat):Int),0,b,x,y,z)=some (shs b hv ps):=by
 have hL:=Ap Fe (fun k=>(hv,(shs b hv ps).take k,ps,((ps.length:Nat):Int),((k:Nat):Int),b,x,y,z)) ps.length (shs b hv ps) (fun k hk=>by
  have hr:∀ v:Int,Aa (((shs b hv ps).take k).length+([v]:List Int).length) 8=true:=fun v=>by
   simp only [Aa,decide_eq_true_eq,List.length_take,Fi,List.length_singleton]; omega
  rw [Vi b hv hk]
  unfold Fe
  dsimp only
  rw [iy (by omega),iy (by omega),iy (by omega),Nat.zero_add,Int.toNat_natCast,List.getElem?_eq_getElem hk,Option.bind_some]
  unfold shr
  by_cases hkv:k < hv.length
  ·have hpk:=hp.all _ (List.getElem_mem hkv)
   rw [iy (by omega),iy (by omega),iy (by omega),List.getElem?_eq_getElem hkv,Option.bind_some,YT g hpk,Option.bind_some]
   obtain ⟨m,hm,h33,hmb,_,_,hg⟩:=JR hpk
   rw [hm]
   have hc:=g.len hmb
   dsimp only
   rw [Int.toNat_natCast]
   by_cases he:Ds b ((m:Nat):Int)=ps[k]
   ·have hgk:hv[k]?=some ((m:Nat):Int):=by rw [List.getElem?_eq_getElem hkv,hm]
    rw [if_pos (by simpa using he)]
    by_cases h2:gb (blk b m) 1 < 250
    ·rw [if_pos (show Ds b ((m:Nat):Int)=ps[k]∧gb (blk b m) 1 < 250 from ⟨he,h2⟩)]
     simp (disch:=omega) only [iy,Option.bind_some,Int.toNat_natCast,CF hmb,show Int.toNat 1=1 from rfl,Ak (show 1 < (blk b m).length by omega),Nat.zero_add,hgk,hr,if_true,eq_self,Ao]
    ·rw [if_neg (show ¬ (Ds b ((m:Nat):Int)=ps[k]∧gb (blk b m) 1 < 250) from fun hh=>h2 hh.2)]
     simp (disch:=omega) only [iy,ino,Option.bind_some,Int.toNat_natCast,CF hmb,show Int.toNat 1=1 from rfl,Ak (show 1 < (blk b m).length by omega),Nat.zero_add,hgk,hr,if_true,eq_self,Ao]
   ·rw [if_neg (by simpa using he),Option.bind_some]
    dsimp only
    rw [if_neg (by simp),if_neg (show ¬ (Ds b ((m:Nat):Int)=ps[k]∧gb (blk b m) 1 < 250) from fun hh=>he hh.1),Option.bind_some,if_pos (hr _),Ao (by omega)]
  ·have hgk:hv[k]?=none:=List.getElem?_eq_none (by omega)
   simp (disch:=omega) only [ino,hgk,Option.bind_some,hr,if_true,eq_self,Ao,Bool.false_eq_true,if_false]) (by
  unfold Fe
  dsimp only
  rw [ino (by omega),List.take_of_length_le (by rw [Fi]; exact Nat.le_refl _)])
 exact hL
theorem NL {b:Bls} {x y hv:List Int} (hp:Pcs b x y hv) {ps:List (List UInt8)} (hps:ps.length≤3) :
  Ab Do (hv.map (C2 b),[],[],ps,((ps.length:Nat):Int),0)=some (pcl b (shs b hv ps) ps,flg (shs b hv ps)):=by
 have hL:=Ap Do (fun k=>(hv.map (C2 b),(pcl b (shs b hv ps) ps).take k,(flg (shs b hv ps)).take k,ps,((ps.length:Nat):Int),((k:Nat):Int))) ps.length (pcl b (shs b hv ps) ps,flg (shs b hv ps)) (fun k hk=>by
  have hr:∀ v:Pc,Aa (((pcl b (shs b hv ps) ps).take k).length+([v]:List Pc).length) 32=true:=fun v=>by
   simp only [Aa,decide_eq_true_eq,List.length_take,Ix,List.length_singleton]; omega
  have hr2:∀ v:Bool,Aa (((flg (shs b hv ps)).take k).length+([v]:List Bool).length) 1=true:=fun v=>by
   unfold flg
   simp only [Aa,decide_eq_true_eq,List.length_take,List.length_map,Fi,List.length_singleton]; omega
  rw [Aa2 b _ hk,Ab3 b hv hk,LV b hv hk,Option.getD_some]
  unfold Do
  dsimp only
  rw [iy (by omega),iy (by omega),iy (by omega),Nat.zero_add,Int.toNat_natCast,List.getElem?_eq_getElem hk,Option.bind_some,List.length_map]
  unfold pcN
  by_cases hkv:k < hv.length
  ·have hpk:=hp.all _ (List.getElem_mem hkv)
   have hg:(hv.map (C2 b))[k]?=some (C2 b hv[k]):=by rw [List.getElem?_map,List.getElem?_eq_getElem hkv]; rfl
   obtain ⟨m,hm,h33,hmb,_,_,_⟩:=JR hpk
   rw [iy (by omega),iy (by omega),iy (by omega),hg,Option.bind_some,Option.bind_some]
   rw [show (C2 b hv[k]).2.2=Ds b hv[k] from rfl]
   by_cases he:Ds b hv[k]=ps[k]
   ·have e21:(C2 b hv[k]).2.1=gb (blk b hv[k].toNat) 1:=rfl
    rw [if_pos (by simpa using he)]
    by_cases h2:gb (blk b hv[k].toNat) 1 < 250
    ·have hs:shr b hv k ps[k]=hv[k]:=by unfold shr; rw [List.getElem?_eq_getElem hkv]; dsimp only; rw [if_pos ⟨he,h2⟩]
     rw [hs,if_neg (show ¬ hv[k]=0 by omega),decide_eq_true (show ¬ hv[k]=0 by omega)]
     simp (disch:=omega) only [iy,Option.bind_some,Int.toNat_natCast,Nat.zero_add,hg,e21,hr,hr2,if_true,eq_self,Ao,List.length_map]
     rfl
    ·have hs:shr b hv k ps[k]=0:=by unfold shr; rw [List.getElem?_eq_getElem hkv]; dsimp only; rw [if_neg (fun hh=>h2 hh.2)]
     rw [hs,if_pos rfl]
     simp (disch:=omega) only [iy,ino,Option.bind_some,Int.toNat_natCast,Nat.zero_add,hg,e21,hr,hr2,if_true,eq_self,Ao,List.length_map]
     rfl
   ·have hs:shr b hv k ps[k]=0:=by unfold shr; rw [List.getElem?_eq_getElem hkv]; dsimp only; rw [if_neg (fun hh=>he hh.1)]
    rw [if_neg (by simpa using he),hs,if_pos rfl]
    simp (disch:=omega) only [Option.bind_some,hr,hr2,if_true,eq_self,Ao,Bool.false_eq_true,if_false]
    rfl
  ·have hs:shr b hv k ps[k]=0:=by unfold shr; rw [List.getElem?_eq_none (by omega)]
   rw [hs,if_pos rfl]
   simp (disch:=omega) only [ino,List.length_map,Option.bind_some,hr,hr2,if_true,eq_self,Ao,Bool.false_eq_true,if_false]
   rfl) (by
  unfold Do
  dsimp only
  rw [ino (by omega),List.take_of_length_le (by rw [Ix]; exact Nat.le_refl _),List.take_of_length_le (by unfold flg; rw [List.length_map,Fi]; exact Nat.le_refl _)])
 exact hL
def ID (b:Bls) (x y:List Int) (near:Int):Option (List Int):=if near=0 then some [] else ptx b x y near
theorem VO {b:Bls} {x y hv:List Int} {near:Int} (h:ID b x y near=some hv):Pcs b x y hv:=by
 unfold ID at h
 split at h
 ·cases h; exact ⟨fun a ha=>(by cases ha),List.nodup_nil,by simp⟩
 ·exact (ZM h).1
theorem P1 {b:Bls} {x y z hv:List Int} {near:Int} {t:List UInt8} (g:RS b x y) (h:ID b x y near=some hv) (ht:t.length≤120):H6 b x y z t near=some (shs b hv (Bk 3 t)):=by
 have hp:=VO h
 unfold H6
 unfold ID at h
 by_cases hn:near=0
 ·rw [if_pos hn] at h
  cases h
  rw [ino (by simpa using hn),Option.bind_some]
  dsimp only
  rw [QJ ht,Option.bind_some,ND g hp (EN _ _)]; rfl
 ·rw [if_neg hn] at h
  obtain ⟨l',e⟩:=Xs (z:=z) g near
  rw [h] at e
  rw [iy hn,e,Option.bind_some,Option.bind_some]
  dsimp only
  rw [QJ ht,Option.bind_some,ND g hp (EN _ _)]; rfl
theorem PL {b:Bls} {x y z:List Int} {near:Int} {t:List UInt8} (g:RS b x y) (ht:t.length≤120):EC (b,x,y,z) t near =
  some (match ID b x y near with | some hv=>(pcl b (shs b hv (Bk 3 t)) (Bk 3 t),flg (shs b hv (Bk 3 t)),true) | none=>([],[],false)):=by
 unfold EC ID
 by_cases hn:near=0
 ·have hp:Pcs b x y []:=⟨fun a ha=>(by cases ha),List.nodup_nil,by simp⟩
  have e:=NL hp (ps:=Bk 3 t) (EN _ _)
  rw [List.map_nil] at e
  rw [ino (by simpa using hn),Option.bind_some,if_pos hn]
  dsimp only
  rw [WB ht,Option.bind_some,e]; rfl
 ·have e:=Xn (z:=z) g near
  rw [iy hn,e,Option.bind_some,if_neg hn]
  cases hp:ptx b x y near with
  | none=>rfl
  | some hv=>
   dsimp only
   rw [if_neg (by simp),Option.bind_some]
   dsimp only
   rw [WB ht,Option.bind_some,NL (ZM hp).1 (EN _ _)]; rfl
def zs (l:List Int):Nat:=l.countP fun a=>decide (a=0)
theorem UA {b:Bls} {x y z hv:List Int} {near:Int} {t:List UInt8} (g:RS b x y) (h:ID b x y near=some hv) (ht:t.length≤120):HU b x y z t near=some ((zs (shs b hv (Bk 3 t))+1:Nat):Int):=by
 have hl:(shs b hv (Bk 3 t)).length≤3:=by rw [Fi]; exact EN _ _
 unfold HU
 rw [P1 g h ht,Option.bind_some]
 generalize shs b hv (Bk 3 t)=l at *
 have hL:=Ap D0 (fun k=>(((zs (l.take k)+1:Nat):Int),l,((l.length:Nat):Int),((k:Nat):Int))) l.length (((zs l+1:Nat):Int)) (fun k hk=>by
  have hz:zs (l.take k)≤3:=Nat.le_trans List.countP_le_length (by rw [List.length_take]; omega)
  have e:zs (l.take (k+1))=zs (l.take k)+if l[k]=0 then 1 else 0:=by
   unfold zs
   rw [List.take_succ_eq_append_getElem hk,List.countP_append]
   by_cases h0:l[k]=0 <;> simp [h0]
  unfold D0
  dsimp only
  rw [iy (by omega),iy (by omega),iy (by omega),Nat.zero_add,Int.toNat_natCast,List.getElem?_eq_getElem hk,Option.bind_some,e]
  by_cases h0:l[k]=0
  ·rw [iy h0,Option.bind_some,if_pos h0]
   dsimp only
   rw [Ao (by omega),Ao (by omega)]
  ·rw [ino h0,Option.bind_some,if_neg h0]
   dsimp only
   rw [Ao (by omega)]) (by
  unfold D0
  dsimp only
  rw [ino (by omega),List.take_length])
 have hL':Ab D0 (1,l,((l.length:Nat):Int),0)=_:=hL
 rw [hL']; rfl
end Go.V.G
set_option maxRecDepth 100000
namespace Go.V.G
open Go.V
theorem Wk.wq {n lz:Nat} {b:Bls} {x z:List Int} (h:Wk n b x z lz):Wq b x z lz:=⟨by have:=h.hn; have:=h.hb; omega,h.hx,h.hu,h.hr,h.hz⟩
theorem RZ {n lz:Nat} {b:Bls} {x y z:List Int} (h:Wk n b x z lz) (hlz:lz≤1048000) :
  (cnt x n=0∧AE b x y z=some (0,false,b,x,y,z))∨
  ∃ k:Nat,(33≤k∧k < n)∧bit x k=false∧Bh b x y z=some (((k:Nat):Int),b.set k Bj,setB x k,y,pt z ((k:Nat):Int))∧
   AE b x y z=some (((k:Nat):Int),true,b.set k Bj,setB x k,y,pt z ((k:Nat):Int))∧Wk n (b.set k Bj) (setB x k) (pt z ((k:Nat):Int)) (lz+1)∧cnt (setB x k) n+1=cnt x n:=by
 rcases Ta (y:=y) h hlz with h0 | ⟨k,b',x',z',hk,hs,hi,hw,hc⟩
 ·exact .inl h0
 ·right
  obtain ⟨r,hr,hq⟩:=AdO (y:=y) h.wq hlz
  rw [hs] at hr
  have hr':=Option.some.inj hr
  rcases hq with e | ⟨k2,z2,h1,h2,h3,e⟩
  ·rw [e] at hr'
   have:=congrArg (·.1) hr'
   dsimp only at this
   omega
  ·rw [e] at hr'
   have ek:=congrArg (·.1) hr'
   have eb:=congrArg (·.2.1) hr'
   have ex:=congrArg (·.2.2.1) hr'
   have ez:=congrArg (·.2.2.2.2) hr'
   dsimp only at ek eb ex ez
   obtain rfl:k=k2:=by omega
   have e2:z2=pt z ((k:Nat):Int):=by unfold pt; rw [h3]; rfl
   subst eb ex ez
   rw [e2] at hs hi hw
   exact ⟨k,hk,h2,hs,hi,hw,hc⟩
theorem Wk.lay {n lz:Nat} {b:Bls} {x z c:List Int} (h:Wk n b x z lz) (hlz:lz≤1048000) (hc:c.length=128) (k:Nat):Wk n (b.set k c) x (pt z ((k:Nat):Int)) (lz+1):=by
 have hz:=h.hz
 obtain ⟨_,_,h3,h4,_⟩:=Dt (z:=z) (by omega) h.hr ((k:Nat):Int)
 exact ⟨h.hn,by rw [List.length_set]; exact h.hb,fun d hd=>by
  rcases List.mem_or_eq_of_mem_set hd with hd | rfl
  ·exact h.hk d hd
  ·exact hc,h.hx,h.hu,h.hlow,h4,by omega⟩
structure Sh (b:Bls) (x y sh:List Int) (ps:List (List UInt8)):Prop where
 len:sh.length=ps.length
 m3:ps.length≤3
 pc:∀ p∈ps,1≤p.length∧p.length≤40
 at_:∀ j,j < ps.length→sh[j]?=some 0∨∃ m:Nat,sh[j]?=some ((m:Nat):Int)∧pcB b x y ((m:Nat):Int)=true∧Ds b ((m:Nat):Int)=ps[j]?.getD []∧gb (blk b m) 1 < 250
 ne:∀ (i j:Nat) (v:Int),i < j→sh[i]?=some v→sh[j]?=some v→v=0
theorem Adl {b:Bls} {x y hv:List Int} (hp:Pcs b x y hv) (t:List UInt8):Sh b x y (shs b hv (Bk 3 t)) (Bk 3 t):=by
 refine ⟨Fi _ _ _,EN _ _,RO 3 t,fun j hj=>?_,fun i j v hij hi hj=>?_⟩
 ·rw [LV b hv hj,List.getElem?_eq_getElem hj,Option.getD_some]
  rcases O9 b hv j (Bk 3 t)[j] with h0 | ⟨h1,h2,h3,h4⟩
  ·rw [h0]; exact .inl rfl
  ·right
   have hpj:=hp.all _ (List.getElem_mem h1)
   obtain ⟨m,hm,_⟩:=JR hpj
   rw [hm,Int.toNat_natCast] at h4
   rw [hm] at h2 h3 hpj
   exact ⟨m,by rw [h2],hpj,h3,h4⟩
 ·have hjl:j < (Bk 3 t).length:=by
   have:=(List.getElem?_eq_some_iff.1 hj).1
   rw [Fi] at this; exact this
  rw [LV b hv (by omega)] at hi
  rw [LV b hv hjl] at hj
  have hi':=Option.some.inj hi
  have hj':=Option.some.inj hj
  rcases O9 b hv i (Bk 3 t)[i] with h0 | ⟨h1,h2,_⟩
  ·rw [h0] at hi'; exact hi'.symm
  ·rcases O9 b hv j (Bk 3 t)[j] with k0 | ⟨k1,k2,_⟩
   ·rw [k0] at hj'; exact hj'.symm
   ·rw [h2] at hi'
    rw [k2] at hj'
    exact absurd (hi'.trans hj'.symm) (List.pairwise_iff_getElem.1 hp.nd i j h1 k1 hij)
structure Li (n:Nat) (b:Bls) (x z sh:List Int) (ps:List (List UInt8)) (k:Nat) (A:List Int) (b':Bls) (x' z':List Int) (q:Nat):Prop where
 wk:Wk n b' x' z' q
 bu:∀ c∈b',U8s c
 len:A.length=k
 nd:A.Nodup
 at_:∀ j,j < k→∃ m:Nat,A[j]?=some ((m:Nat):Int)∧(33≤m∧m < n)∧bit x' m=true∧
  ((sh[j]?=some 0∧bit x m=false∧blk b' m=AA ([83,1,(((ps[j]?.getD []).length:Nat):Int)]++AR (ps[j]?.getD [])))∨(sh[j]?=some ((m:Nat):Int)∧blk b' m=(blk b m).set 1 (gb (blk b m) 1+1)))
 oth:∀ i,i < 160→((i:Nat):Int)∉A→blk b' i=blk b i∧bit x' i=bit x i
 up:∀ i,i < 160→bit x i=true→bit x' i=true
 zm:∀ v∈z',v∈z∨v∈A
 ct:cnt x' n+zs (sh.take k)=cnt x n
theorem Li.mem {n k q:Nat} {b b':Bls} {x z sh x' z' A:List Int} {ps:List (List UInt8)} (h:Li n b x z sh ps k A b' x' z' q) {a:Int} (ha:a∈A):∃ j m:Nat,j < k∧a=((m:Nat):Int)∧A[j]?=some ((m:Nat):Int)∧(33≤m∧m < n)∧bit x' m=true∧
  ((sh[j]?=some 0∧bit x m=false)∨sh[j]?=some ((m:Nat):Int)):=by
 obtain ⟨j,hj,he⟩:=List.getElem_of_mem ha
 have hl:=h.len
 obtain ⟨m,h1,h2,h3,h4⟩:=h.at_ j (by omega)
 rw [List.getElem?_eq_getElem hj] at h1
 have:=Option.some.inj h1
 refine ⟨j,m,by omega,by rw [← he,this],by rw [List.getElem?_eq_getElem hj,this],h2,h3,?_⟩
 rcases h4 with ⟨p1,p2,_⟩ | ⟨p1,_⟩
 ·exact .inl ⟨p1,p2⟩
 ·exact .inr p1
theorem OX {d:List Int} (h:U8s d):U8s (AA d):=fun v hv=>by
 unfold AA at hv
 rcases List.mem_append.1 hv with hv | hv
 ·exact h v hv
 ·rw [List.eq_of_mem_replicate hv]; omega
theorem AbM (s:List UInt8):U8s (AR s):=fun v hv=>by
 unfold AR at hv
 obtain ⟨c,_,rfl⟩:=List.mem_map.1 hv
 have:=c.toNat_lt
 omega
def npc (p:List UInt8):List Int:=[83,1,((p.length:Nat):Int)]++AR p
theorem AcH (p:List UInt8):(npc p).length=3+p.length:=by unfold npc; simp only [List.length_append,List.length_cons,List.length_nil,FO]
theorem Adu {p:List UInt8} (h:p.length≤40):U8s (npc p):=fun v hv=>by
 unfold npc at hv
 rcases List.mem_append.1 hv with hv | hv
 ·simp only [List.mem_cons,List.not_mem_nil,or_false] at hv
  rcases hv with rfl | rfl | rfl <;> omega
 ·exact AbM p v hv
theorem Pm {l:List Int} {k:Nat} {a:Int} (h:l[k]?=some a):zs (l.take (k+1))=zs (l.take k)+if a=0 then 1 else 0:=by
 obtain ⟨hk,he⟩:=List.getElem?_eq_some_iff.1 h
 unfold zs
 rw [List.take_succ_eq_append_getElem hk,List.countP_append,he]
 by_cases h0:a=0 <;> simp [h0]
theorem w8d {m:Nat} (h:m < 160):IntKind.wrap .u8 (IntKind.wrap .i64 (Int.tdiv ((m:Nat):Int) 256))=0:=by
 rw [Int.tdiv_eq_ediv_of_nonneg (by omega),w64 (by omega) (by omega),wub (by omega) (by omega)]; omega
theorem Q2 {m:Nat} (h:m < 160):F4 ((m:Nat):Int)=some [0,((m:Nat):Int)]:=by
 unfold F4
 rw [iy (by omega),show (2:Int) ^ (min (Int.toNat 8) (IntKind.bits .i64))=256 from rfl,Int.fdiv_eq_ediv_of_nonneg _ (by omega),wub (r:=((m:Nat):Int)) (by omega) (by omega),wub (by omega) (by omega)]
 have:((m:Nat):Int) / 256=0:=by omega
 rw [this]
theorem UY {n k q:Nat} {b b':Bls} {x y z sh x' z' A acc:List Int} {ps:List (List UInt8)} (g:RS b x y) (hb:b.length=n) (hs:Sh b x y sh ps) (h:Li n b x z sh ps k A b' x' z' q) (hq:q≤1000) (hk:k < ps.length) (hacc:acc.length≤20) :
  (sh[k]?=some 0∧cnt x' n=0∧Ax (flg sh,acc,pcl b sh ps,((ps.length:Nat):Int),((k:Nat):Int),b',x',y,z')=some (.inr (.inr (0,false,b',x',y,z'))))∨
  ∃ (a:Int) (b2:Bls) (x2 z2:List Int),Li n b x z sh ps (k+1) (A++[a]) b2 x2 z2 (q+2)∧
   Bp (sh,acc,ps,((ps.length:Nat):Int),((k:Nat):Int),b',x',y,z')=some (.inl (sh,acc++[0,a],ps,((ps.length:Nat):Int),((k+1:Nat):Int),b2,x2,y,z2))∧
   Ax (flg sh,acc,pcl b sh ps,((ps.length:Nat):Int),((k:Nat):Int),b',x',y,z')=some (.inl (flg sh,acc++[0,a],pcl b sh ps,((ps.length:Nat):Int),((k+1:Nat):Int),b2,x2,y,z2)):=by
 have hn:=h.wk.hn
 have hm3:=hs.m3
 have hsl:=hs.len
 have hpk:=hs.pc _ (List.getElem_mem hk)
 have hgp:ps[k]?=some ps[k]:=List.getElem?_eq_getElem hk
 have hb':=h.wk.hb
 have hx':=h.wk.hx
 have hzz:=h.wk.hz
 have hr2:∀ v w:Int,Aa (acc.length+([v,w]:List Int).length) 1=true:=fun v w=>by
  simp only [Aa,decide_eq_true_eq,List.length_cons,List.length_nil]; omega
 rcases hs.at_ k hk with h0 | ⟨m,hm,hpB,htx,h250⟩
 ·-- a new piece
  have hpl:(pcl b sh ps)[k]?=some (0,0,ps[k]):=by rw [SX b sh hk,h0]; rfl
  have hfl:(flg sh)[k]?=some false:=by unfold flg; rw [List.getElem?_map,h0]; rfl
  have hfll:(flg sh).length=ps.length:=by unfold flg; rw [List.length_map,hsl]
  have hnl:=AcH ps[k]
  rcases RZ (y:=y) h.wk (by omega) with ⟨hc0,hi0⟩ | ⟨a,ha,hba,hts,hti,hw,hcc⟩
  ·refine .inl ⟨h0,hc0,?_⟩
   unfold Ax
   simp (disch:=omega) only [iy,Nat.zero_add,Int.toNat_natCast,hpl,hfl,Ix,hfll,Option.bind_some,Bool.not_false,if_true,eq_self,hi0]
  ·right
   have hset:(b'.set a Bj).set a (AA (npc ps[k]))=b'.set a (AA (npc ps[k])):=List.set_set ..
   have hab:a < b'.length:=by omega
   have hlb:a < (b'.set a Bj).length:=by rw [List.length_set]; exact hab
   have e1:=M7 (x:=setB x' a) (y:=y) (d:=npc ps[k]) (by omega) hlb (z:=pt z' ((a:Nat):Int)) (by have:=hw.hz; omega) hw.hr
   have e2:=Ns (x:=setB x' a) (y:=y) (s:=1) (t:=ps[k]) hpk.2 hlb (z:=pt z' ((a:Nat):Int)) (by have:=hw.hz; omega) hw.hr
   rw [wub (r:=1) (by omega) (by omega)] at e2
   rw [hset] at e1
   have e2':Cp ((a:Nat):Int) 1 ps[k] (b'.set a Bj) (setB x' a) y (pt z' ((a:Nat):Int))=some (b'.set a (AA (npc ps[k])),setB x' a,y,pt (pt z' ((a:Nat):Int)) ((a:Nat):Int)):=by rw [e2]; exact congrArg (fun w=>some (w,_)) hset
   have hroom:Aa (([83,1,((List.length ps[k]:Nat):Int)]:List Int).length+(AR ps[k]).length) 1=true:=by
    simp only [Aa,decide_eq_true_eq,List.length_cons,List.length_nil,FO]; omega
   have enp:([83,1,((List.length ps[k]:Nat):Int)]++AR ps[k]:List Int)=npc ps[k]:=rfl
   have hnA:((a:Nat):Int)∉A:=fun hh=>by
    obtain ⟨j,m,_,hm,_,_,hbm,_⟩:=h.mem hh
    have:a=m:=by omega
    subst this
    rw [hba] at hbm; cases hbm
   have hbx:bit x a=false:=by
    have:=(h.oth a (by omega) hnA).2
    rw [hba] at this; exact this.symm
   have hw2:=hw.lay (by omega) (EZ (by omega:(npc ps[k]).length≤128)) a
   rw [hset] at hw2
   refine ⟨((a:Nat):Int),_,_,_,⟨hw2,?_,by rw [List.length_append,h.len]; rfl,?_,?_,?_,?_,?_,?_⟩,?_,?_⟩
   ·intro c hc
    rcases List.mem_or_eq_of_mem_set hc with hc | rfl
    ·exact h.bu c hc
    ·exact OX (Adu hpk.2)
   ·rw [List.nodup_append]
    refine ⟨h.nd,by simp,fun u hu v hv=>?_⟩
    rw [List.mem_singleton.1 hv]
    rintro rfl; exact hnA hu
   ·intro j hj
    by_cases hjk:j=k
    ·subst hjk
     refine ⟨a,by rw [List.getElem?_append_right (by rw [h.len]; exact Nat.le_refl _),h.len]; simp,ha,by rw [BW h.wk.hu (by omega) (by omega)]; simp,.inl ⟨h0,hbx,?_⟩⟩
     rw [F9 hab,hgp]; rfl
    ·obtain ⟨m,h1,h2,h3,h4⟩:=h.at_ j (by omega)
     have hma:a≠m:=by
      rintro rfl
      rw [hba] at h3; cases h3
     refine ⟨m,by rw [List.getElem?_append_left (by rw [h.len]; omega),h1],h2,by rw [BW h.wk.hu (by omega) (by omega),h3,Bool.or_true],?_⟩
     rw [BS hma]
     exact h4
   ·intro i hi hiA
    rw [List.mem_append,List.mem_singleton] at hiA
    have hai:a≠i:=by rintro rfl; exact hiA (.inr rfl)
    rw [BS hai,BW h.wk.hu (by omega) (by omega),decide_eq_false (Ne.symm hai),Bool.false_or]
    exact h.oth i hi fun hh=>hiA (.inl hh)
   ·intro i hi hbi
    rw [BW h.wk.hu (by omega) (by omega),h.up i hi hbi,Bool.or_true]
   ·intro v hv
    obtain ⟨_,_,_,_,m1⟩:=Dt (z:=z') (by omega) h.wk.hr ((a:Nat):Int)
    obtain ⟨_,_,_,_,m2⟩:=Dt (z:=pt z' ((a:Nat):Int)) (by have:=hw.hz; omega) hw.hr ((a:Nat):Int)
    rcases (m2 v).1 hv with hv | rfl
    ·rcases (m1 v).1 hv with hv | rfl
     ·exact (h.zm v hv).imp id fun hh=>by simp [hh]
     ·exact .inr (by simp)
    ·exact .inr (by simp)
   ·rw [Pm h0,if_pos rfl]
    have:=h.ct
    omega
   ·unfold Bp
    simp (disch:=omega) only [iy,Nat.zero_add,Int.toNat_natCast,hgp,h0,decide_true,Option.bind_some,hts,hroom,if_true,eq_self,enp,e1,hr2,w8d (m:=a) (by omega),wub,Ao]
   ·unfold Ax
    simp (disch:=omega) only [iy,Nat.zero_add,Int.toNat_natCast,hpl,hfl,Ix,hfll,Option.bind_some,Bool.not_false,if_true,eq_self,hti,Bool.not_true,Bool.false_eq_true,if_false,w64,Int.zero_add,e2',Q2 (m:=a) (by omega),hr2,Ao]
    rfl
 ·-- a shared piece
  right
  obtain ⟨m',hm',h33,hmb,hbm,hmy,hg⟩:=JR hpB
  obtain rfl:m=m':=by omega
  have hpl:(pcl b sh ps)[k]?=some (C2 b ((m:Nat):Int)):=by
   rw [SX b sh hk,hm,Option.getD_some]
   unfold pcN
   rw [if_neg (by omega)]
  have hfl:(flg sh)[k]?=some true:=by
   unfold flg
   rw [List.getElem?_map,hm,Option.map_some,decide_eq_true (by omega)]
  have hfll:(flg sh).length=ps.length:=by unfold flg; rw [List.length_map,hsl]
  have hnA:((m:Nat):Int)∉A:=fun hh=>by
   obtain ⟨j,m2,hj,hm2,_,_,_,h4⟩:=h.mem hh
   obtain rfl:m=m2:=by omega
   rcases h4 with ⟨_,h5⟩ | h5
   ·rw [hbm] at h5; cases h5
   ·have:=hs.ne j k _ hj h5 hm
    omega
  have hmn:m < n:=by omega
  obtain ⟨hbk,_⟩:=h.oth m (by omega) hnA
  have hmb':m < b'.length:=by omega
  have hc:=h.wk.hk _ (DT hmb')
  have hu:=h.bu _ (DT hmb')
  have u1:=GV hu 1
  rw [← hbk] at h250 hg
  have hps:=Aaz hc hu hg (gb (blk b' m) 1+1)
  have etx:Ds b ((m:Nat):Int)=Bu (((blk b' m).drop 3).take (gb (blk b' m) 2).toNat):=by unfold Ds; rw [Int.toNat_natCast,hbk]
  have e1:=M7 (x:=x') (y:=y) (d:=(blk b' m).set 1 (gb (blk b' m) 1+1)) (by rw [List.length_set]; omega) hmb' (by omega) h.wk.hr
  rw [Acs (by rw [List.length_set]; exact hc)] at e1
  have e2:=Ns (x:=x') (y:=y) (s:=gb (blk b' m) 1+1) (t:=Ds b ((m:Nat):Int)) (Aet b hpB) hmb' (z:=z') (by omega) h.wk.hr
  rw [wub (r:=gb (blk b' m) 1+1) (by omega) (by omega),etx,← hps,← etx] at e2
  have hw2:=h.wk.lay (by omega) (c:=(blk b' m).set 1 (gb (blk b' m) 1+1)) (by rw [List.length_set]; exact hc) m
  refine ⟨((m:Nat):Int),_,_,_,⟨⟨hw2.hn,hw2.hb,hw2.hk,hw2.hx,hw2.hu,hw2.hlow,hw2.hr,by have:=hw2.hz; omega⟩,?_,by rw [List.length_append,h.len]; rfl,?_,?_,?_,h.up,?_,?_⟩,?_,?_⟩
  ·intro c hc'
   rcases List.mem_or_eq_of_mem_set hc' with hc' | rfl
   ·exact h.bu c hc'
   ·exact AcM hu (by omega)
  ·rw [List.nodup_append]
   refine ⟨h.nd,by simp,fun u hu v hv=>?_⟩
   rw [List.mem_singleton.1 hv]
   rintro rfl; exact hnA hu
  ·intro j hj
   by_cases hjk:j=k
   ·subst hjk
    refine ⟨m,by rw [List.getElem?_append_right (by rw [h.len]; exact Nat.le_refl _),h.len]; simp,⟨h33,hmn⟩,h.up m (by omega) hbm,.inr ⟨hm,?_⟩⟩
    rw [F9 hmb',hbk]
   ·obtain ⟨m2,h1,h2,h3,h4⟩:=h.at_ j (by omega)
    have hma:m≠m2:=by
     rintro rfl
     exact hnA (List.mem_of_getElem? h1)
    refine ⟨m2,by rw [List.getElem?_append_left (by rw [h.len]; omega),h1],h2,h3,?_⟩
    rw [BS hma]
    exact h4
  ·intro i hi hiA
   rw [List.mem_append,List.mem_singleton] at hiA
   have hai:m≠i:=by rintro rfl; exact hiA (.inr rfl)
   rw [BS hai]
   exact h.oth i hi fun hh=>hiA (.inl hh)
  ·intro v hv
   obtain ⟨_,_,_,_,m1⟩:=Dt (z:=z') (by omega) h.wk.hr ((m:Nat):Int)
   rcases (m1 v).1 hv with hv | rfl
   ·exact (h.zm v hv).imp id fun hh=>by simp [hh]
   ·exact .inr (by simp)
  ·rw [Pm hm,if_neg (by omega)]
   exact h.ct
  ·have hbs:=CF hmb'
   have hroom:Aa (([]:List Int).length+(blk b' m).length) 1=true:=by rw [hc]; rfl
   have hg1:(blk b' m)[1]?=some (gb (blk b' m) 1):=Ak (by omega)
   unfold Bp
   simp (disch:=omega) only [iy,ino,Nat.zero_add,Int.toNat_natCast,hgp,hm,Option.bind_some,hbs,hroom,List.nil_append,show Int.toNat 1=1 from rfl,hg1,wub,if_true,eq_self,e1,hr2,w8d (m:=m) (by omega),Ao]
  ·have e3:(C2 b ((m:Nat):Int)).2.1=gb (blk b' m) 1:=by rw [hbk]; rfl
   have e4:(C2 b ((m:Nat):Int)).1=((m:Nat):Int):=rfl
   have e5:(C2 b ((m:Nat):Int)).2.2=Ds b ((m:Nat):Int):=rfl
   unfold Ax
   simp (disch:=omega) only [iy,Nat.zero_add,Int.toNat_natCast,hpl,hfl,Ix,hfll,Option.bind_some,if_true,eq_self,Bool.not_true,Bool.false_eq_true,if_false,e3,e4,e5,w64,e2,Q2 (m:=m) (by omega),hr2,Ao]
   rfl
end Go.V.G
set_option maxRecDepth 100000
namespace Go.V.G
open Go.V
def ats (m:Nat) (A:List Int):List Int:=[84,((m:Nat):Int)]++A.flatMap fun a=>[0,a]
theorem Yj (m:Nat) (A:List Int):(ats m A).length=2+2 * A.length:=by
 unfold ats
 rw [List.length_append,List.length_flatMap]
 have:(A.map fun a=>([0,a]:List Int).length)=A.map fun _=>2:=rfl
 rw [this]
 have e:∀ l:List Int,(l.map fun _=>2).sum=2 * l.length:=fun l=>by
  induction l with
  | nil=>rfl
  | cons a l ih=>rw [List.map_cons,List.sum_cons,ih,List.length_cons]; omega
 rw [e]; rfl
theorem Abo (m:Nat) (A:List Int) (a:Int):ats m (A++[a])=ats m A++[0,a]:=by
 unfold ats
 rw [List.flatMap_append,List.append_assoc]; rfl
theorem Acb {l:List Int} (k:Nat):zs (l.take k)≤zs l:=List.Sublist.countP_le (List.take_sublist k l)
theorem NK {n q:Nat} {b:Bls} {x y z sh:List Int} {ps:List (List UInt8)} (g:RS b x y) (hb:b.length=n) (hs:Sh b x y sh ps) (hq:q≤900):∀ (f k:Nat) (A:List Int) (b':Bls) (x' z':List Int),k+f=ps.length→
  Li n b x z sh ps k A b' x' z' (q+2 * k)→
  (∃ (A':List Int) (b2:Bls) (x2 z2:List Int),Li n b x z sh ps ps.length A' b2 x2 z2 (q+2 * ps.length)∧
   Ab Bp (sh,ats ps.length A,ps,((ps.length:Nat):Int),((k:Nat):Int),b',x',y,z')=some (ats ps.length A',b2,x2,y,z2)∧
   Ab Ax (flg sh,ats ps.length A,pcl b sh ps,((ps.length:Nat):Int),((k:Nat):Int),b',x',y,z')=some (.inl (ats ps.length A',b2,x2,y,z2)))∨
  (cnt x n < zs sh∧∃ (b2:Bls) (x2 z2:List Int),Ab Ax (flg sh,ats ps.length A,pcl b sh ps,((ps.length:Nat):Int),((k:Nat):Int),b',x',y,z')=some (.inr (0,false,b2,x2,y,z2)))
 | 0,k,A,b',x',z',hk,h=>by
  obtain rfl:k=ps.length:=by omega
  refine .inl ⟨A,b',x',z',h,?_,?_⟩
  ·have:Bp (sh,ats ps.length A,ps,((ps.length:Nat):Int),((ps.length:Nat):Int),b',x',y,z')=some (.inr (ats ps.length A,b',x',y,z')):=by
    unfold Bp
    dsimp only
    rw [ino (by omega)]
   rw [An,this]
  ·have:Ax (flg sh,ats ps.length A,pcl b sh ps,((ps.length:Nat):Int),((ps.length:Nat):Int),b',x',y,z')=some (.inr (.inl (ats ps.length A,b',x',y,z'))):=by
    unfold Ax
    dsimp only
    rw [ino (by omega)]
   rw [An,this]
 | f+1,k,A,b',x',z',hk,h=>by
  have hm3:=hs.m3
  have hal:=Yj ps.length A
  have hl:=h.len
  rcases UY (acc:=ats ps.length A) g hb hs h (by omega) (by omega) (by omega) with ⟨h0,hc,hi⟩ | ⟨a,b2,x2,z2,h1,h2,h3⟩
  ·refine .inr ⟨?_,b',x',z',by rw [An,hi]⟩
   have e1:=Pm h0
   rw [if_pos rfl] at e1
   have e2:=Acb (l:=sh) (k+1)
   have:=h.ct
   omega
  ·rw [An,h2,An,h3,← Abo]
   exact NK g hb hs hq f (k+1) (A++[a]) b2 x2 z2 (by omega) h1
structure Lt (n:Nat) (b:Bls) (x z sh:List Int) (ps:List (List UInt8)) (A:List Int) (r:Nat) (b':Bls) (x' z':List Int) (q:Nat):Prop where
 wk:Wk n b' x' z' q
 bu:∀ c∈b',U8s c
 len:A.length=ps.length
 nd:A.Nodup
 rt:(33≤r∧r < n)∧bit x r=false∧bit x' r=true∧blk b' r=AA (ats ps.length A)∧((r:Nat):Int)∉A
 at_:∀ j,j < ps.length→∃ m:Nat,A[j]?=some ((m:Nat):Int)∧(33≤m∧m < n)∧bit x' m=true∧
  ((sh[j]?=some 0∧bit x m=false∧blk b' m=AA (npc (ps[j]?.getD [])))∨(sh[j]?=some ((m:Nat):Int)∧blk b' m=(blk b m).set 1 (gb (blk b m) 1+1)))
 oth:∀ i,i < 160→((i:Nat):Int)∉A→i≠r→blk b' i=blk b i∧bit x' i=bit x i
 up:∀ i,i < 160→bit x i=true→bit x' i=true
 zm:∀ v∈z',v∈z∨v∈A∨v=((r:Nat):Int)
 ct:cnt x' n+zs sh+1=cnt x n
theorem Adr {m:Nat} {A:List Int} (hm:m≤255) (h:∀ a∈A,0≤a∧a≤255):U8s (ats m A):=fun v hv=>by
 unfold ats at hv
 rcases List.mem_append.1 hv with hv | hv
 ·simp only [List.mem_cons,List.not_mem_nil,or_false] at hv
  rcases hv with rfl | rfl <;> omega
 ·obtain ⟨a,ha,hv⟩:=List.mem_flatMap.1 hv
  simp only [List.mem_cons,List.not_mem_nil,or_false] at hv
  rcases hv with rfl | rfl
  ·omega
  ·exact h _ ha
theorem GS.wk {b:Bls} {x y z:List Int} (g:GS b x y z) (hu:U8s x):Wk b.length b x z 127:=by
 obtain ⟨r1,r2⟩:=FI g.hz
 have hb:=g.hb
 exact ⟨g.hb,rfl,g.hk,g.hx,hu,fun k hk=>by
  have:=g.hbits k (by omega)
  unfold bG at this
  rw [decide_eq_true hk,decide_eq_false (show ¬ b.length≤k by omega)] at this
  simpa using this,r1,Pv r1 (fun i hi=>by have:=r2 i hi; omega)⟩
theorem VF {b:Bls} {x y z hv:List Int} {near:Int} {t:List UInt8} (g:GS b x y z) (h:SB b x y z) (hu:∀ c∈b,U8s c) (hux:U8s x) (hh:ID b x y near=some hv) (ht:t.length≤120) :
  (∃ (A:List Int) (r:Nat) (b2:Bls) (x2 z2:List Int),Lt b.length b x z (shs b hv (Bk 3 t)) (Bk 3 t) A r b2 x2 z2 200∧
   DG t near b x y z=some (((r:Nat):Int),b2,x2,y,z2)∧BU t near b x y z=some (((r:Nat):Int),true,b2,x2,y,z2))∨
  (cnt x b.length < zs (shs b hv (Bk 3 t))+1∧∃ (k:Int) (b2:Bls) (x2 z2:List Int),BU t near b x y z=some (k,false,b2,x2,y,z2)):=by
 have rs:=g.rs h hu
 have hp:=VO hh
 have hs:=Adl hp t
 have hm3:=hs.m3
 have e1:=P1 (z:=z) rs hh ht
 have e2:=PL (z:=z) (near:=near) rs ht
 rw [hh] at e2
 have hb:=g.hb
 unfold DG BU
 rw [e1,e2,Option.bind_some,Option.bind_some,QJ ht,Option.bind_some]
 dsimp only
 generalize Bk 3 t=ps at *
 generalize shs b hv ps=sh at *
 have hsl:=hs.len
 rw [Ix,hsl,wub (r:=((ps.length:Nat):Int)) (by omega) (by omega)]
 have hL0:Li b.length b x z sh ps 0 [] b x z (127+2 * 0):=⟨g.wk hux,hu,rfl,List.nodup_nil,fun j hj=>absurd hj (by omega),fun i hi _=>⟨rfl,rfl⟩,fun i hi hb=>hb,fun v hv=>.inl hv,by simp [zs]⟩
 have hA0:([84,((ps.length:Nat):Int)]:List Int)=ats ps.length []:=rfl
 rw [hA0]
 have hloop:=NK rs rfl hs (by omega) ps.length 0 [] b x z (by omega) hL0
 rcases hloop with ⟨A,b2,x2,z2,hLi,h1,h2⟩ | ⟨hlt,b2,x2,z2,h2⟩
 ·have h1':Ab Bp (sh,ats ps.length [],ps,((ps.length:Nat):Int),0,b,x,y,z)=_:=h1
  have h2':Ab Ax (flg sh,ats ps.length [],pcl b sh ps,((ps.length:Nat):Int),0,b,x,y,z)=_:=h2
  rw [h1',h2',Option.bind_some,Option.bind_some]
  dsimp only
  have hct:=hLi.ct
  rw [List.take_of_length_le (by omega)] at hct
  have hal:=Yj ps.length A
  have hAl:=hLi.len
  rcases RZ (y:=y) hLi.wk (by omega) with ⟨hc0,hi0⟩ | ⟨a,ha,hba,hts,hti,hw,hcc⟩
  ·right
   refine ⟨by omega,0,b2,x2,z2,?_⟩
   rw [hi0]; rfl
  ·left
   have hb2:=hLi.wk.hb
   have hx2:=hLi.wk.hx
   have hset:(b2.set a Bj).set a (AA (ats ps.length A))=b2.set a (AA (ats ps.length A)):=List.set_set ..
   have hab:a < b2.length:=by omega
   have hlb:a < (b2.set a Bj).length:=by rw [List.length_set]; exact hab
   have f1:=M7 (x:=setB x2 a) (y:=y) (d:=ats ps.length A) (by omega) hlb (z:=pt z2 ((a:Nat):Int)) (by have:=hw.hz; omega) hw.hr
   have f2:=QE (x:=setB x2 a) (y:=y) (d:=AA (ats ps.length A)) (EZ (by omega)) hlb (z:=pt z2 ((a:Nat):Int)) (by have:=hw.hz; omega) hw.hr
   rw [hset] at f1 f2
   have hnA:((a:Nat):Int)∉A:=fun hh=>by
    obtain ⟨j,m,_,hm,_,_,hbm,_⟩:=hLi.mem hh
    obtain rfl:a=m:=by omega
    rw [hba] at hbm; cases hbm
   have hbx:bit x a=false:=by
    have:=(hLi.oth a (by omega) hnA).2
    rw [hba] at this; exact this.symm
   have hw2:=hw.lay (by omega) (EZ (by omega:(ats ps.length A).length≤128)) a
   rw [hset] at hw2
   have hAu:∀ v∈A,0≤v∧v≤255:=fun v hv=>by
    obtain ⟨j,m,_,hm,_,hmn,_⟩:=hLi.mem hv
    omega
   refine ⟨A,a,_,_,_,⟨⟨hw2.hn,hw2.hb,hw2.hk,hw2.hx,hw2.hu,hw2.hlow,hw2.hr,by have:=hw2.hz; omega⟩,?_,hAl,hLi.nd,⟨ha,hbx,?_,F9 hab,hnA⟩,?_,?_,?_,?_,by omega⟩,?_,?_⟩
   ·intro c hc
    rcases List.mem_or_eq_of_mem_set hc with hc | rfl
    ·exact hLi.bu c hc
    ·exact OX (Adr (by omega) hAu)
   ·rw [BW hLi.wk.hu (by omega) (by omega)]; simp
   ·intro j hj
    obtain ⟨m,p1,p2,p3,p4⟩:=hLi.at_ j hj
    have hma:a≠m:=by
     rintro rfl
     rw [hba] at p3; cases p3
    refine ⟨m,p1,p2,by rw [BW hLi.wk.hu (by omega) (by omega),p3,Bool.or_true],?_⟩
    rw [BS hma]
    exact p4
   ·intro i hi hiA hia
    rw [BS (Ne.symm hia),BW hLi.wk.hu (by omega) (by omega),decide_eq_false hia,Bool.false_or]
    exact hLi.oth i hi hiA
   ·intro i hi hbi
    rw [BW hLi.wk.hu (by omega) (by omega),hLi.up i hi hbi,Bool.or_true]
   ·intro v hv
    obtain ⟨_,_,_,_,m1⟩:=Dt (z:=z2) (by have:=hLi.wk.hz; omega) hLi.wk.hr ((a:Nat):Int)
    obtain ⟨_,_,_,_,m2⟩:=Dt (z:=pt z2 ((a:Nat):Int)) (by have:=hw.hz; omega) hw.hr ((a:Nat):Int)
    rcases (m2 v).1 hv with hv | rfl
    ·rcases (m1 v).1 hv with hv | rfl
     ·exact (hLi.zm v hv).imp id .inl
     ·exact .inr (.inr rfl)
    ·exact .inr (.inr rfl)
   ·rw [hts,Option.bind_some]
    dsimp only
    rw [f1]; rfl
   ·rw [hti,Option.bind_some]
    dsimp only
    rw [if_neg (by simp),IP (by omega),Option.bind_some,f2]; rfl
 ·right
  have h2':Ab Ax (flg sh,ats ps.length [],pcl b sh ps,((ps.length:Nat):Int),0,b,x,y,z)=_:=h2
  exact ⟨by omega,0,b2,x2,z2,by rw [h2']; rfl⟩
end Go.V.G
set_option maxRecDepth 100000
namespace Go.V.G
open Go.V
structure TkI (n:Nat) (b:Bls) (x z l:List Int) (b':Bls) (x' z':List Int):Prop where
 nd:l.Nodup
 fr:∀ v∈l,∃ k:Nat,v=((k:Nat):Int)∧(33≤k∧k < n)∧bit x k=false∧bit x' k=true
 oth:∀ i,i < 160→((i:Nat):Int)∉l→blk b' i=blk b i∧bit x' i=bit x i
 up:∀ i,i < 160→bit x i=true→bit x' i=true
 zm:∀ v∈z',v∈z∨v∈l
 bu:∀ c∈b',U8s c
theorem QL:U8s Bj:=fun v hv=>by
 unfold Bj at hv
 rw [List.eq_of_mem_replicate hv]; omega
theorem Yp {y:List Int} {n lz:Nat} {b:Bls} {x z:List Int} (h:Wk n b x z lz) (hu:∀ c∈b,U8s c) (hlz:lz≤1040000):∀ m,m≤cnt x n→m≤1000→
  ∃ l b' x' z',Tks y m b x z l b' x' z'∧Wk n b' x' z' (lz+m)∧cnt x' n+m=cnt x n∧TkI n b x z l b' x' z'
 | 0,_,_=>⟨[],b,x,z,.nil b x z,h,rfl,⟨List.nodup_nil,fun v hv=>(by cases hv),fun i _ _=>⟨rfl,rfl⟩,fun i _ hb=>hb,fun v hv=>.inl hv,hu⟩⟩
 | m+1,hm,hb=>by
  obtain ⟨l,b1,x1,z1,h1,h2,h3,h4⟩:=Yp (y:=y) h hu hlz m (by omega) (by omega)
  rcases RZ (y:=y) h2 (by omega) with ⟨h0,_⟩ | ⟨k,hk,hbk,hs,hi,hw,hc⟩
  ·omega
  ·have hn:=h2.hn
   have hx1:=h2.hx
   have hnl:((k:Nat):Int)∉l:=fun hh=>by
    obtain ⟨k2,e,_,_,hb2⟩:=h4.fr _ hh
    obtain rfl:k=k2:=by omega
    rw [hbk] at hb2; cases hb2
   refine ⟨_,_,_,_,.snoc h1 hs hi,hw,by omega,⟨?_,?_,?_,?_,?_,?_⟩⟩
   ·rw [List.nodup_append]
    refine ⟨h4.nd,by simp,fun u hu v hv=>?_⟩
    rw [List.mem_singleton.1 hv]
    rintro rfl; exact hnl hu
   ·intro v hv
    rcases List.mem_append.1 hv with hv | hv
    ·obtain ⟨j,e,hj,p1,p2⟩:=h4.fr v hv
     exact ⟨j,e,hj,p1,by rw [BW h2.hu (by omega) (by omega),p2,Bool.or_true]⟩
    ·rw [List.mem_singleton] at hv
     refine ⟨k,hv,hk,?_,by rw [BW h2.hu (by omega) (by omega)]; simp⟩
     rw [← (h4.oth k (by omega) hnl).2]; exact hbk
   ·intro i hi hil
    rw [List.mem_append,List.mem_singleton] at hil
    have hki:k≠i:=by rintro rfl; exact hil (.inr rfl)
    rw [BS hki,BW h2.hu (by omega) (by omega),decide_eq_false (Ne.symm hki),Bool.false_or]
    exact h4.oth i hi fun hh=>hil (.inl hh)
   ·intro i hi hbi
    rw [BW h2.hu (by omega) (by omega),h4.up i hi hbi,Bool.or_true]
   ·intro v hv
    obtain ⟨_,_,_,_,m1⟩:=Dt (z:=z1) (by have:=h2.hz; omega) h2.hr ((k:Nat):Int)
    rcases (m1 v).1 hv with hv | rfl
    ·exact (h4.zm v hv).imp id fun hh=>by simp [hh]
    ·exact .inr (by simp)
   ·intro c hc
    rcases List.mem_or_eq_of_mem_set hc with hc | rfl
    ·exact h4.bu c hc
    ·exact QL
def nxt (l:List Int) (i:Nat):Int:=if i+1 < l.length then l[i+1]?.getD 0 else 0
def own (data:List Int) (i:Nat):List Int:=(data.drop (124 * i)).take 124
theorem Abe {data l:List Int} {i:Nat} (h:0≤nxt l i∧nxt l i≤255):Fm data l i=AA ([82,0,nxt l i,(((own data i).length:Nat):Int)]++own data i):=by
 have ho:(own data i).length≤124:=by unfold own; rw [List.length_take]; omega
 have e0:IntKind.wrap .u8 (nxt l i / 256)=0:=by
  have:nxt l i / 256=0:=by omega
  rw [this]; rfl
 have e1:IntKind.wrap .u8 (nxt l i)=nxt l i:=wub h.1 h.2
 have e2:IntKind.wrap .u8 (((own data i).length:Nat):Int)=(((own data i).length:Nat):Int):=wub (by omega) (by omega)
 have e:Fm data l i=AA ([82,IntKind.wrap .u8 (nxt l i / 256),IntKind.wrap .u8 (nxt l i),IntKind.wrap .u8 (((own data i).length:Nat):Int)]++own data i):=rfl
 rw [e,e0,e1,e2]
theorem AdX {data:List Int} (h:U8s data) (i:Nat):U8s (own data i):=fun v hv=>h v (List.mem_of_mem_drop (List.mem_of_mem_take hv))
theorem Abh {data l:List Int} {i:Nat} (hd:U8s data) (h:0≤nxt l i∧nxt l i≤255):U8s (Fm data l i):=by
 have ho:(own data i).length≤124:=by unfold own; rw [List.length_take]; omega
 rw [Abe h]
 refine OX fun v hv=>?_
 rcases List.mem_append.1 hv with hv | hv
 ·simp only [List.mem_cons,List.not_mem_nil,or_false] at hv
  rcases hv with rfl | rfl | rfl | rfl <;> omega
 ·exact AdX hd i v hv
structure Lr (n:Nat) (b:Bls) (x z data l:List Int) (b':Bls) (x' z':List Int):Prop where
 wk:Wk n b' x' z' 200
 bu:∀ c∈b',U8s c
 len:l.length=nd data.length
 nd:l.Nodup
 at_:∀ j,j < l.length→∃ k:Nat,l[j]?=some ((k:Nat):Int)∧(33≤k∧k < n)∧bit x k=false∧bit x' k=true∧blk b' k=Fm data l j
 oth:∀ i,i < 160→((i:Nat):Int)∉l→blk b' i=blk b i∧bit x' i=bit x i
 up:∀ i,i < 160→bit x i=true→bit x' i=true
 zm:∀ v∈z',v∈z∨v∈l
 ct:cnt x' n+l.length=cnt x n
theorem AdC {d:List Int} (n:Nat) (h:n=d.length):rz (AA d) n=true:=by
 subst h
 unfold rz AA
 rw [List.drop_left,List.all_eq_true]
 intro v hv
 rw [List.eq_of_mem_replicate hv]; rfl
end Go.V.G
set_option maxRecDepth 100000
namespace Go.V.G
open Go.V
def B1 (c:List Int):List Int:=(List.range 32).map fun k=>num c (1+2 * k)
theorem KQ (c:List Int):(B1 c).length=32:=by simp [B1]
def pgB (b:Bls) (x y:List Int) (a kind:Int):Bool:=liv b x y a && (decide (gb (blk b a.toNat) 0=kind) && rz (blk b a.toNat) 65)
def pg (b:Bls) (x y:List Int) (a kind:Int):List Int×Bool:=if pgB b x y a kind=true then (B1 (blk b a.toNat),true) else ([],false)
theorem Acf {b:Bls} {x y:List Int} {a kind:Int} (h:pgB b x y a kind=false):pg b x y a kind=([],false):=by unfold pg; rw [h]; rfl
theorem Z5 {b:Bls} {x y:List Int} {a kind:Int} (h:pgB b x y a kind=true):pg b x y a kind=(B1 (blk b a.toNat),true):=by unfold pg; rw [h]; rfl
theorem AeC {k:Nat} (h:k≤1048576):IntKind.wrap .i64 (1+(IntKind.wrap .i64 (2 * ((k:Nat):Int))))=((1+2 * k:Nat):Int):=by
 rw [w64 (n:=2 * ((k:Nat):Int)) (by omega) (by omega),w64 (by omega) (by omega)]; omega
theorem QC {α:Type} (f:Nat→α) (k:Nat):(List.range (k+1)).map f=(List.range k).map f++[f k]:=by rw [List.range_succ,List.map_append]; rfl
theorem DD {α:Type} (f:Nat→α) (k:Nat):((List.range k).map f).length=k:=by simp
theorem Xi {b:Bls} {x y z c:List Int} {m k:Nat} (hbm:b[m]?=some c) (hc:c.length=128) (hu:U8s c) (hk:k < 32) :
  DC (((m:Nat):Int),(List.range k).map (fun k=>num c (1+2 * k)),((k:Nat):Int),b,x,y,z)=some (.inl (((m:Nat):Int),(List.range (k+1)).map (fun k=>num c (1+2 * k)),((k+1:Nat):Int),b,x,y,z)):=by
 have e1:=AeC (k:=k) (by omega)
 have e2:=WE (k:=k) (by omega)
 have u1:=GV hu (1+2 * k); have u2:=GV hu (2+2 * k)
 have ea:=Acd u1 u2
 have en:num c (1+2 * k)=gb c (1+2 * k) * 256+gb c (2+2 * k):=by unfold num; rw [show 1+2 * k+1=2+2 * k by omega]
 have g1:c[1+2 * k]?=some (gb c (1+2 * k)):=Ak (by omega)
 have g2:c[2+2 * k]?=some (gb c (2+2 * k)):=Ak (by omega)
 have hroom:∀ v:Int,Aa (((List.range k).map (fun k=>num c (1+2 * k))).length+([v]:List Int).length) 8=true:=fun v=>by simp only [Aa,decide_eq_true_eq,DD,List.length_singleton]; omega
 unfold DC
 dsimp only
 simp (disch:=omega) only [iy,e1,e2,Int.toNat_natCast,hbm,Option.bind_some,g1,g2,ea,← en,Ao,hroom,if_true,QC]
theorem Z2 {c l:List Int} {k:Nat} (hl:l.length≤1048576) (hk:k < l.length):CX (c,l,((l.length:Nat):Int),((k:Nat):Int))=some (if decide (gb l k=0)=true then .inl (c,l,((l.length:Nat):Int),((k+1:Nat):Int)) else .inr (.inr false)):=by
 unfold CX
 dsimp only
 rw [iy (by omega),iy (by omega),Int.toNat_natCast,Ak hk,Option.bind_some,Ao (by omega)]
 by_cases h:gb l k=0 <;> simp [h]
theorem RA (l:List Int) (p:Int→Bool):(∀ j,j < l.length→p (gb l j)=true)↔l.all p=true:=by
 rw [List.all_eq_true]
 constructor
 ·intro h v hv
  obtain ⟨j,hj,rfl⟩:=List.getElem_of_mem hv
  have:=h j hj
  unfold gb at this
  rwa [List.getElem?_eq_getElem hj,Option.getD_some] at this
 ·intro h j hj
  exact h _ (List.mem_of_getElem? (Ak hj))
theorem Ow {b:Bls} {x y z:List Int} (g:RS b x y) (a kind:Int):GQ b x y z a kind=some (pg b x y a kind):=by
 unfold GQ pg pgB
 rw [OJ g,Option.bind_some]
 cases hl:liv b x y a with
 | false=>rfl
 | true=>
  obtain ⟨m,rfl,h33,hm,_,_⟩:=Dg hl
  have hc:=g.len hm
  have hu:=g.hu _ (DT hm)
  have hbm:=CF hm
  rw [Int.toNat_natCast]
  generalize hcc:blk b m=c at *
  rw [if_neg (by simp),iy (by omega),hbm,Option.bind_some,iy (by omega),show Int.toNat 0=0 from rfl,Ak (show 0 < c.length by omega),Option.bind_some,Option.bind_some]
  dsimp only
  by_cases h0:gb c 0=kind
  ·rw [ino (not_not_intro h0),decide_eq_true h0]
   have hloop:=Ap DC (fun k=>(((m:Nat):Int),(List.range k).map (fun k=>num c (1+2 * k)),((k:Nat):Int),b,x,y,z)) 32 (((m:Nat):Int),B1 c,b,x,y,z)
    (fun k hk=>Xi hbm hc hu hk) (by
     unfold DC
     dsimp only
     rw [ino (by omega)]
     rfl)
   rw [show Ab DC (((m:Nat):Int),[],0,b,x,y,z)=_ from hloop,Option.bind_some]
   dsimp only
   have hd:List.take (Int.toNat ((c.length:Nat):Int) - Int.toNat 65) (List.drop (Int.toNat 65) c)=c.drop 65:=by
    rw [Int.toNat_natCast,show Int.toNat 65=65 from rfl]
    exact List.take_of_length_le (by rw [List.length_drop]; omega)
   rw [iy (by omega),Int.toNat_natCast,hbm,Option.bind_some,iy (by omega),iy (by omega),iy (by omega),iy (by omega),hd]
   have hdl:(c.drop 65).length=63:=by rw [List.length_drop,hc]
   rcases Iw CX (fun k=>(B1 c,c.drop 65,(((c.drop 65).length:Nat):Int),((k:Nat):Int))) (fun k=>decide (gb (c.drop 65) k=0)) (fun _=>false) (B1 c) (c.drop 65).length
    (fun k hk=>Z2 (by omega) hk) (by
     unfold CX
     dsimp only
     rw [ino (by omega)]) with ⟨ha,hlp⟩ | ⟨k,hk,hp,_,hlp⟩
   ·have hr:rz c 65=true:=(RA (c.drop 65) fun v=>decide (v=0)).1 ha
    rw [show Ab CX (B1 c,c.drop 65,(((c.drop 65).length:Nat):Int),0)=_ from hlp,Option.bind_some,hr]
    rfl
   ·have hr:rz c 65=false:=by
     cases h:rz c 65 with
     | false=>rfl
     | true=>
      have:=(RA (c.drop 65) fun v=>decide (v=0)).2 h k hk
      rw [hp] at this; cases this
    rw [show Ab CX (B1 c,c.drop 65,(((c.drop 65).length:Nat):Int),0)=_ from hlp,Option.bind_some,hr]
    rfl
  ·rw [iy h0,decide_eq_false h0]; rfl
def nz (l:List Int):Bool:=l.any fun v=>decide (¬ v=0)
theorem Ik {l:List Int} (hl:l.length≤1048576):Ij l=some (nz l):=by
 unfold Ij nz
 rcases Iw F8 (fun k=>(l,((l.length:Nat):Int),((k:Nat):Int))) (fun k=>decide (gb l k=0)) (fun _=>true) () l.length (fun k hk=>by
  unfold F8
  dsimp only
  rw [iy (by omega),iy (by omega),Int.toNat_natCast,Ak hk,Option.bind_some,Ao (by omega)]
  by_cases hz:gb l k=0 <;> simp [hz]) (by
  unfold F8
  dsimp only
  rw [ino (by omega)]) with ⟨ha,hlp⟩ | ⟨k,hk,hp,_,hlp⟩
 ·rw [show Ab F8 (l,((l.length:Nat):Int),0)=_ from hlp,Option.bind_some]
  have:=(RA l fun v=>decide (v=0)).1 ha
  refine congrArg some (Eq.symm ?_)
  rw [List.any_eq_false]
  intro v hv
  have:=List.all_eq_true.1 this v hv
  simpa using this
 ·rw [show Ab F8 (l,((l.length:Nat):Int),0)=_ from hlp,Option.bind_some]
  refine congrArg some (Eq.symm ?_)
  rw [List.any_eq_true]
  exact ⟨_,List.mem_of_getElem? (Ak hk),by simpa using hp⟩
theorem Ea {l:List Int} (hl:l.length≤1048576):Dc l=some (!nz l):=by
 unfold Dc BB BK nz
 obtain ⟨r,hr,h⟩:=Qy A8 (fun v=>decide (¬ v=0)) l (fun k hk=>by
  unfold A8 LK
  dsimp only
  rw [iy (by omega),iy (by omega),Int.toNat_natCast,Ak hk,Option.bind_some,Option.bind_some,Ao (by omega)]
  by_cases hz:gb l k=0 <;> simp [hz]) (by
  unfold A8
  dsimp only
  rw [ino (by omega)])
 rw [hr,Option.bind_some]
 rcases h with ⟨rfl,h⟩ | ⟨k,rfl,h⟩
 ·rw [h]; rfl
 ·rw [h]; dsimp only; rw [Option.bind_some,Option.bind_some,decide_eq_true (by omega)]
def isb (b:Bls) (x:List Int) (v:Int):Bool:=decide (33≤v∧v≤(b.length:Int) - 1) && bit x v.toNat
theorem Zh {b:Bls} {x y z:List Int} (g:RS b x y) (v:Int):La b x y z v=some (isb b x v):=by
 have hn:=g.hn; have hx:=g.hx
 unfold La isb
 rw [CL,w64 (by omega) (by omega),Option.bind_some]
 by_cases h1:33≤v∧v≤(b.length:Int) - 1
 ·obtain ⟨m,rfl⟩:=Int.eq_ofNat_of_zero_le (show 0≤v by omega)
  rw [decide_eq_true h1,if_pos rfl,HF (by omega) (by omega),Option.bind_some,Int.toNat_natCast]
  rfl
 ·rw [decide_eq_false h1]; rfl
def QB (b:Bls) (x:List Int) (l:List Int):Bool:=l.any fun v=>decide (¬ v=0) && !isb b x v
end Go.V.G
set_option maxRecDepth 100000
namespace Go.V.G
open Go.V
theorem VX {σ τ ρ:Type} (L:σ→Option (σ⊕(τ⊕ρ))) (st:Nat→σ) (l:List Int) (p:Int→Bool) (e:ρ) (z:τ)
  (step:∀ k,k < l.length→L (st k)=some (if p (gb l k)=true then .inr (.inr e) else .inl (st (k+1)))) (last:L (st l.length)=some (.inr (.inl z))) :
  Ab L (st 0)=some (if l.any p=true then .inr e else .inl z):=by
 rcases Iw L st (fun k=>!p (gb l k)) (fun _=>e) z l.length (fun k hk=>by rw [step k hk]; cases p (gb l k) <;> rfl) last with ⟨ha,hlp⟩ | ⟨k,hk,hp,_,hlp⟩
 ·have:=(RA l fun v=>!p v).1 ha
  have h2:l.any p=false:=by
   rw [List.any_eq_false]
   intro v hv
   have:=List.all_eq_true.1 this v hv
   simpa using this
  rw [hlp,h2]; rfl
 ·have h2:l.any p=true:=by
   rw [List.any_eq_true]
   exact ⟨_,List.mem_of_getElem? (Ak hk),by simpa using hp⟩
  rw [hlp,h2]; rfl
theorem SE {α:Type} (n k:Nat) (g h:Nat→α):((List.range n).map (fun j=>if j < k then g j else h j)).set k (g k)=(List.range n).map (fun j=>if j < k+1 then g j else h j):=by
 apply List.ext_getElem?
 intro i
 rw [List.getElem?_set,List.getElem?_map,List.getElem?_map,List.length_map,List.length_range]
 by_cases hi:i < n
 ·rw [List.getElem?_range hi]
  by_cases hki:k=i
  ·subst hki; simp [hi]
  ·have:(i < k)=(i < k+1):=by apply propext; omega
   simp [hki,this]
 ·rw [List.getElem?_eq_none (by simpa using hi)]
  by_cases hki:k=i
  ·subst hki; simp [hi]
  ·simp [hki]
theorem F5 {α:Type} (n:Nat) (f:Nat→α) {k:Nat} (h:k < n):((List.range n).map f)[k]?=some (f k):=by rw [List.getElem?_map,List.getElem?_range h]; rfl
theorem Sw {α:Type} (n:Nat) (g h:Nat→α):(List.range n).map (fun j=>if j < n then g j else h j)=(List.range n).map g:=
 List.map_congr_left fun j hj=>if_pos (List.mem_range.1 hj)
theorem map_none {α:Type} (n:Nat) (g h:Nat→α):(List.range n).map (fun j=>if j < 0 then g j else h j)=(List.range n).map h:=
 List.map_congr_left fun j _=>if_neg (by omega)
theorem I2 {α:Type} (n:Nat) (v:α):(List.range n).map (fun _=>v)=List.replicate n v:=by
 apply List.ext_getElem?
 intro i
 rw [List.getElem?_map,List.getElem?_replicate]
 by_cases hi:i < n
 ·rw [List.getElem?_range hi,if_pos hi]; rfl
 ·rw [if_neg hi,List.getElem?_eq_none (by simpa using hi)]; rfl
theorem Ace {l:List Int} {n:Nat} (h:l.length=n):(List.range n).map (gb l)=l:=by
 apply List.ext_getElem?
 intro i
 rw [List.getElem?_map]
 by_cases hi:i < n
 ·rw [List.getElem?_range hi,Ak (by omega)]; rfl
 ·rw [List.getElem?_eq_none (by simpa using hi),List.getElem?_eq_none (by omega)]; rfl
def zer:List Int:=List.replicate 32 0
def lfs (b:Bls) (a:Int):List Int:=if a=0 then [] else B1 (blk b a.toNat)
def lfv (b:Bls) (a:Int):List Int:=if a=0 then zer else B1 (blk b a.toNat)
theorem SZ (b:Bls) (a:Int):(lfv b a).length=32:=by unfold lfv zer; split <;> simp [KQ]
def stG (b:Bls) (x y top:List Int) (k:Nat):Bool:=
 decide (gb top k=0) || (pgB b x y (gb top k) 81 && (nz (B1 (blk b (gb top k).toNat)) && (!(top.take k).any (fun v=>decide (v=gb top k)) && !QB b x (B1 (blk b (gb top k).toNat)))))
def IH (b:Bls) (root:Int):List Int:=B1 (blk b root.toNat)
def tre (b:Bls) (x y:List Int) (root:Int):Option (List Int):=
 if root=0 then some zer else if (pgB b x y root 80 && (nz (IH b root) && (List.range 32).all (stG b x y (IH b root))))=true then some (IH b root) else none
theorem AdT {b:Bls} {x y z top:List Int} {lv:List (List Int)} {a n:Int} {k:Nat} (hk:k≤top.length) (ht:top.length≤1000) :
  Ab GL (lv,top,((k:Nat):Int),a,n,((k:Nat):Int),((0:Nat):Int),((k:Nat):Int),((k:Nat):Int),0,b,x,y,z) =
   some (if (top.take k).any (fun v=>decide (v=a))=true then .inr false else .inl (lv,top,((k:Nat):Int),a,n,((k:Nat):Int),b,x,y,z)):=by
 have hl:(top.take k).length=k:=by rw [List.length_take]; omega
 exact VX GL (fun i=>(lv,top,((k:Nat):Int),a,n,((k:Nat):Int),((0:Nat):Int),((k:Nat):Int),((k:Nat):Int),((i:Nat):Int),b,x,y,z)) (top.take k) (fun v=>decide (v=a)) false
  (lv,top,((k:Nat):Int),a,n,((k:Nat):Int),b,x,y,z) (fun i hi=>by
   have hi':i < k:=by omega
   have hg:top[i]?=some (gb (top.take k) i):=by
    rw [← Ak hi,List.getElem?_take_of_lt hi']
   unfold GL
   dsimp only
   have hd:((List.drop (Int.toNat ((0:Nat):Int)) top).take (Int.toNat ((k:Nat):Int))).length=k:=by
    rw [Int.toNat_natCast,Int.toNat_natCast,List.drop_zero,hl]
   rw [iy (by omega),iy (by omega),hd,iy (by omega)]
   simp only [Int.toNat_natCast,Nat.zero_add]
   rw [hg,Option.bind_some,Ao (by omega)]
   by_cases h:gb (top.take k) i=a
   ·rw [iy h,decide_eq_true h]; rfl
   ·rw [ino h,decide_eq_false h]; rfl) (by
   rw [hl]
   unfold GL
   dsimp only
   rw [ino (by omega)])
theorem Adq {b:Bls} {x y z top l:List Int} {lv:List (List Int)} {n:Int} {i j:Int} (g:RS b x y) (hl:l.length≤1000) :
  Ab GI (lv,top,i,l,n,j,((l.length:Nat):Int),0,b,x,y,z)=some (if QB b x l=true then .inr false else .inl (lv,top,i,l,n,j,b,x,y,z)):=by
 exact VX GI (fun k=>(lv,top,i,l,n,j,((l.length:Nat):Int),((k:Nat):Int),b,x,y,z)) l (fun v=>decide (¬ v=0) && !isb b x v) false
  (lv,top,i,l,n,j,b,x,y,z) (fun k hk=>by
   unfold GI
   dsimp only
   rw [iy (by omega),iy (by omega),iy (by omega),Int.toNat_natCast,Nat.zero_add,Ak hk,Option.bind_some]
   by_cases h:gb l k=0
   ·rw [ino (not_not_intro h),decide_eq_false (not_not_intro h),Option.bind_some]
    dsimp only
    rw [Ao (by omega)]; rfl
   ·rw [iy h,decide_eq_true h,Zh g,Option.bind_some,Option.bind_some]
    dsimp only
    rw [Ao (by omega)]
    cases isb b x (gb l k) <;> rfl) (by
   unfold GI
   dsimp only
   rw [ino (by omega)])
theorem XG {b:Bls} {x y z top:List Int} {k:Nat} (g:RS b x y) (ht:top.length=32) (hk:k < 32) :
  Ej ((List.range 32).map (fun j=>if j < k then lfs b (gb top j) else []),top,((32:Nat):Int),((k:Nat):Int),b,x,y,z) =
   some (if stG b x y top k=true then .inl ((List.range 32).map (fun j=>if j < k+1 then lfs b (gb top j) else []),top,((32:Nat):Int),((k+1:Nat):Int),b,x,y,z) else .inr (.inr false)):=by
 have hs:=SE 32 k (fun j=>lfs b (gb top j)) (fun _=>[])
 have hgt:=F5 32 (fun j=>if j < k then lfs b (gb top j) else []) hk
 have hln:((List.range 32).map (fun j=>if j < k then lfs b (gb top j) else [])).length=32:=DD _ _
 generalize (List.range 32).map (fun j=>if j < k then lfs b (gb top j) else [])=lv at *
 have hgk:top[k]?=some (gb top k):=Ak (by omega)
 have hd:((List.drop (Int.toNat 0) top).take (Int.toNat ((k:Nat):Int) - Int.toNat 0)).length=k:=by
  rw [Int.toNat_natCast,show Int.toNat 0=0 from rfl,List.drop_zero,Nat.sub_zero,List.length_take]; omega
 have hz0:(((Int.toNat 0:Nat)):Int)=((0:Nat):Int):=rfl
 have hzk:(((Int.toNat ((k:Nat):Int) - Int.toNat 0:Nat)):Int)=((k:Nat):Int):=by rw [Int.toNat_natCast]; rfl
 have hdup:=AdT (b:=b) (x:=x) (y:=y) (z:=z) (lv:=lv) (a:=gb top k) (n:=((32:Nat):Int)) (show k≤top.length by omega) (by omega)
 unfold Ej
 dsimp only
 rw [iy (by omega),iy (by omega),iy (by omega),Int.toNat_natCast,Nat.zero_add,hgk,Option.bind_some]
 unfold stG
 generalize hak:gb top k=a at *
 by_cases h0:a=0
 ·rw [iy h0,Option.bind_some]
  dsimp only
  rw [Ao (by omega),decide_eq_true h0,Bool.true_or,if_pos rfl,← hs]
  refine congrArg some (congrArg Sum.inl ?_)
  have:lfs b a=[]:=by unfold lfs; rw [if_pos h0]
  rw [this]
  refine congrArg (fun q=>(q,_)) ?_
  apply List.ext_getElem?
  intro i
  rw [List.getElem?_set]
  split
  ·rename_i he; subst he
   rw [if_pos (by omega),hgt,if_neg (by omega)]
  ·rfl
 rw [ino h0,decide_eq_false h0,Bool.false_or,iy (by omega),iy (by omega),iy (by omega),iy (by omega)]
 rw [Int.toNat_natCast] at hd hzk
 rw [hd,hz0,hzk,hdup,Option.bind_some]
 cases hdp:(top.take k).any fun v=>decide (v=a) with
 | true=>
  rw [if_pos rfl]
  dsimp only
  rw [Option.bind_some]
  dsimp only
  rw [Bool.not_true,Bool.false_and,Bool.and_false,Bool.and_false,if_neg (by simp)]
 | false=>
  rw [if_neg (by simp)]
  dsimp only
  rw [Ow g,Bool.not_false,Bool.true_and]
  cases hp:pgB b x y a 81 with
  | false=>
   rw [Acf hp,Option.bind_some]
   dsimp only
   rw [if_pos (by simp),Option.bind_some]
   dsimp only
   rw [if_pos rfl,Option.bind_some]
   dsimp only
   rw [Bool.false_and,if_neg (by simp)]
  | true=>
   rw [Z5 hp,Option.bind_some]
   dsimp only
   have hpl:=KQ (blk b a.toNat)
   rw [if_neg (by simp),Ik (by omega),Option.bind_some,Option.bind_some]
   dsimp only
   rw [Bool.true_and]
   cases hnz:nz (B1 (blk b a.toNat)) with
   | false=>
    rw [if_pos (by simp),Option.bind_some]
    dsimp only
    rw [Bool.false_and,if_neg (by simp)]
   | true=>
    rw [if_neg (by simp),Adq g (by omega),Option.bind_some,Bool.true_and]
    cases hbd:QB b x (B1 (blk b a.toNat)) with
    | true=>
     rw [if_pos rfl]
     dsimp only
     rw [Option.bind_some]
     rfl
    | false=>
     rw [if_neg (by simp)]
     dsimp only
     have hg2:lv[0+k]?=some []:=by rw [Nat.zero_add,hgt,if_neg (by omega)]
     rw [iy (by omega),hln,iy (by omega),Int.toNat_natCast,hg2,Option.bind_some,Option.bind_some,Option.bind_some,Nat.zero_add]
     dsimp only
     rw [Ao (by omega),Bool.not_false,if_pos rfl,← hs]
     have:lfs b a=B1 (blk b a.toNat):=by unfold lfs; rw [if_neg h0]
     rw [this]
def trS (b:Bls) (o:Option (List Int)):List (List Int)×(List Int×Bool):=match o with
 | some top=>(top.map (lfs b),top,true)
 | none=>([],[],false)
def trI (b:Bls) (root:Int) (o:Option (List Int)):Bool×(Int×(List Int×List (List Int))):=match o with
 | some top=>(true,root,top,top.map (lfv b))
 | none=>(false,0,[],[])
theorem Sa {α:Type} (f:Int→α) {l:List Int} {n:Nat} (h:l.length=n):(List.range n).map (fun j=>f (gb l j))=l.map f:=by
 have:=congrArg (List.map f) (Ace h)
 rw [List.map_map] at this
 exact this
theorem Vl:Aa (Int.toNat 32) 24=true:=by simp [Aa]
theorem rm8:Aa (Int.toNat 32) 8=true:=by simp [Aa]
theorem OE {b:Bls} {x y z:List Int} (g:RS b x y) (root:Int):Kz b x y z root=some (trS b (tre b x y root)):=by
 unfold Kz tre
 rw [iy (by omega),iy (by omega),if_pos Vl,iy (by omega),iy (by omega),if_pos rm8]
 by_cases h0:root=0
 ·rw [iy h0,if_pos h0]
  unfold trS zer
  dsimp only
  rw [List.map_replicate]
  rfl
 rw [ino h0,if_neg h0,Ow g]
 unfold IH
 cases hp:pgB b x y root 80 with
 | false=>rw [Acf hp]; rfl
 | true=>
  rw [Z5 hp,Option.bind_some]
  dsimp only
  have hpl:=KQ (blk b root.toNat)
  generalize B1 (blk b root.toNat)=top at *
  rw [if_neg (by simp),Ik (by omega),Option.bind_some,Option.bind_some]
  dsimp only
  rw [Bool.true_and]
  cases hnz:nz top with
  | false=>rfl
  | true=>
   rw [if_neg (by simp),hpl,Bool.true_and]
   have e0:List.replicate (Int.toNat 32) ([]:List Int)=(List.range 32).map (fun j=>if j < 0 then lfs b (gb top j) else []):=by
    rw [map_none,I2]; rfl
   rw [e0]
   rcases Iw Ej (fun k=>((List.range 32).map (fun j=>if j < k then lfs b (gb top j) else []),top,((32:Nat):Int),((k:Nat):Int),b,x,y,z)) (fun k=>stG b x y top k) (fun _=>false)
    ((List.range 32).map (fun j=>if j < 32 then lfs b (gb top j) else []),top) 32 (fun k hk=>XG g hpl hk) (by
     unfold Ej
     dsimp only
     rw [ino (by omega)]) with ⟨ha,hlp⟩ | ⟨k,hk,hq,_,hlp⟩
   ·rw [show Ab Ej ((List.range 32).map (fun j=>if j < 0 then lfs b (gb top j) else []),top,((32:Nat):Int),0,b,x,y,z)=_ from hlp,Option.bind_some,if_pos (all_range.2 ha),Sw,Sa _ hpl]
    rfl
   ·have hn:((List.range 32).all (stG b x y top))=false:=by
     cases h:(List.range 32).all (stG b x y top) with
     | false=>rfl
     | true=>have:=all_range.1 h k hk; rw [hq] at this; cases this
    rw [show Ab Ej ((List.range 32).map (fun j=>if j < 0 then lfs b (gb top j) else []),top,((32:Nat):Int),0,b,x,y,z)=_ from hlp,Option.bind_some,hn]
    rfl
theorem XI {b:Bls} {x y z:List Int} (root:Int):Ab D6 (root,((List.length (List.replicate (Int.toNat 32) ([]:List Int)):Nat):Int),0,some (b,x,y,z),0,root,List.replicate (Int.toNat 32) (0:Int),List.replicate (Int.toNat 32) ([]:List Int)) =
  some (root,some (b,x,y,z),0,root,zer,List.replicate 32 zer):=by
 have hln:∀ k,((List.range 32).map (fun j=>if j < k then zer else ([]:List Int))).length=32:=fun k=>DD _ _
 have hl:=Ap D6 (fun k=>(root,((32:Nat):Int),((k:Nat):Int),some (b,x,y,z),0,root,zer,(List.range 32).map (fun j=>if j < k then zer else []))) 32 (root,some (b,x,y,z),0,root,zer,(List.range 32).map (fun j=>if j < 32 then zer else [])) (fun k hk=>by
   have hs:=SE 32 k (fun _=>zer) (fun _=>([]:List Int))
   have hgt:=F5 32 (fun j=>if j < k then zer else ([]:List Int)) hk
   have h1:=hln k
   generalize (List.range 32).map (fun j=>if j < k then zer else ([]:List Int))=lv at *
   unfold D6
   dsimp only
   rw [iy (by omega),iy (by omega),iy (by omega),if_pos rm8,iy (by omega),h1,iy (by omega),Int.toNat_natCast,Nat.zero_add,hgt,Option.bind_some,Option.bind_some,Ao (by omega),← hs]
   rfl) (by
   unfold D6
   dsimp only
   rw [ino (by omega)])
 rw [Sw,I2] at hl
 have e0:List.replicate (Int.toNat 32) ([]:List Int)=(List.range 32).map (fun j=>if j < 0 then zer else []):=by
  rw [map_none,I2]; rfl
 rw [e0,hln 0]
 exact hl
end Go.V.G
set_option maxRecDepth 100000
namespace Go.V.G
open Go.V
abbrev Kv:=Int×Int
def sg (l:List Kv) (i:Nat):Kv:=l[i]?.getD (0,0)
theorem Th {l:List Kv} {i:Nat} (h:i < l.length):l[i]?=some (sg l i):=by unfold sg; rw [List.getElem?_eq_getElem h]; rfl
def SF (b:Bls) (x y:List Int) (l:List Kv) (i:Nat):Bool:=
 decide (0≤(sg l i).1∧(sg l i).1≤1023) && ((decide ((sg l i).2=0) || liv b x y (sg l i).2) && (decide (i=0) || decide ((sg l (i - 1)).1 < (sg l i).1)))
def Pq (b:Bls) (x y:List Int) (l:List Kv):Bool:=decide (l.length≤64) && (List.range l.length).all (SF b x y l)
def Ks (l:List Kv):Prop:=∀ s∈l,0≤s.1∧s.1≤1023
def upd (k:Nat) (l:List Int) (s:Kv):List Int:=if s.1.toNat / 32=k then l.set (s.1.toNat % 32) s.2 else l
def av (b:Bls) (top:List Int) (l:List Kv) (k:Nat):List Int:=l.foldl (upd k) (lfv b (gb top k))
def oth (l:List Kv) (k:Nat):Bool:=l.any fun s=>decide (s.1.toNat / 32=k)
def aft (b:Bls) (top:List Int) (l:List Kv) (k:Nat):List Int:=if oth l k=true then av b top l k else lfs b (gb top k)
theorem BG {α:Type} {l:List α} {i:Nat} {s:α} (h:l[i]?=some s):l.take (i+1)=l.take i++[s]:=by
 obtain ⟨hi,rfl⟩:=List.getElem?_eq_some_iff.1 h
 exact List.take_succ_eq_append_getElem hi
theorem SD {b:Bls} {top:List Int} {l:List Kv} {i:Nat} {s:Kv} (h:l[i]?=some s) (k:Nat):av b top (l.take (i+1)) k=upd k (av b top (l.take i) k) s:=by
 unfold av; rw [BG h,List.foldl_append]; rfl
theorem VT {l:List Kv} {i:Nat} {s:Kv} (h:l[i]?=some s) (k:Nat):oth (l.take (i+1)) k=(oth (l.take i) k || decide (s.1.toNat / 32=k)):=by
 unfold oth; rw [BG h,List.any_append]; simp
theorem U5 {b:Bls} {top:List Int}:∀ {l:List Kv} {k:Nat},oth l k=false→av b top l k=lfv b (gb top k):=by
 intro l k h
 unfold av
 unfold oth at h
 rw [List.any_eq_false] at h
 generalize lfv b (gb top k)=v
 induction l generalizing v with
 | nil=>rfl
 | cons s l ih=>
  rw [List.foldl_cons]
  have h1:=h s (by simp)
  have:upd k v s=v:=by unfold upd; rw [if_neg (by simpa using h1)]
  rw [this]
  exact ih (fun s hs=>h s (by simp [hs])) v
theorem NH (k:Nat):∀ (l:List Kv) (v:List Int),(l.foldl (upd k) v).length=v.length
 | [],v=>rfl
 | s::l,v=>by
  rw [List.foldl_cons,NH k l]
  unfold upd; split <;> simp
theorem HV (b:Bls) (top:List Int) (l:List Kv) (k:Nat):(av b top l k).length=32:=by unfold av; rw [NH,SZ]
theorem SM {α:Type} (n q:Nat) (f g:Nat→α) {v:α} (hv:g q=v) (h:∀ k,k≠q→g k=f k):((List.range n).map f).set q v=(List.range n).map g:=by
 apply List.ext_getElem?
 intro i
 rw [List.getElem?_set,List.getElem?_map,List.getElem?_map,List.length_map,List.length_range]
 by_cases hi:i < n
 ·rw [List.getElem?_range hi]
  by_cases hki:q=i
  ·subst hki; simp [hi,hv]
  ·simp [hki,h i (Ne.symm hki)]
 ·rw [List.getElem?_eq_none (by simpa using hi)]
  by_cases hki:q=i
  ·subst hki; simp [hi]
  ·simp [hki]
theorem Pt {n:Int} (h:0≤n∧n≤1023):IntKind.wrap .i64 (Int.tdiv n 32)=((n.toNat / 32:Nat):Int)∧n.toNat / 32 < 32:=by
 obtain ⟨m,rfl⟩:=Int.eq_ofNat_of_zero_le h.1
 have hm:m≤1023:=by omega
 rw [Int.tdiv_eq_ediv_of_nonneg (by omega),Int.toNat_natCast,w64 (by omega) (by omega)]
 omega
theorem Sv {n:Int} (h:0≤n∧n≤1023):Int.tmod n 32=((n.toNat % 32:Nat):Int)∧n.toNat % 32 < 32:=by
 obtain ⟨m,rfl⟩:=Int.eq_ofNat_of_zero_le h.1
 rw [Int.tmod_eq_emod_of_nonneg (by omega),Int.toNat_natCast]
 omega
theorem WO {b:Bls} {top:List Int} {l:List Kv} (hk:Ks l) (hl:l.length≤1000) {i:Nat} (hi:i < l.length) :
  Ev ((List.range 32).map (aft b top (l.take i)),(List.range 32).map (oth (l.take i)),l,((l.length:Nat):Int),((i:Nat):Int)) =
   some (.inl ((List.range 32).map (aft b top (l.take (i+1))),(List.range 32).map (oth (l.take (i+1))),l,((l.length:Nat):Int),((i+1:Nat):Int))):=by
 have hs:=Th hi
 generalize sg l i=s at hs
 have hks:=hk s (List.mem_of_getElem? hs)
 obtain ⟨d1,d2⟩:=Pt hks
 obtain ⟨m1,m2⟩:=Sv hks
 have ho:=VT hs
 have ha:=SD (b:=b) (top:=top) hs
 have g1:=F5 32 (oth (l.take i)) d2
 have g2:=F5 32 (aft b top (l.take i)) d2
 have l1:((List.range 32).map (oth (l.take i))).length=32:=DD _ _
 have l2:((List.range 32).map (aft b top (l.take i))).length=32:=DD _ _
 have e1:=SM 32 (s.1.toNat / 32) (oth (l.take i)) (oth (l.take (i+1))) (v:=true) (by rw [ho]; simp) (fun k hne=>by rw [ho,decide_eq_false (Ne.symm hne),Bool.or_false])
 have hal:=HV b top (l.take i) (s.1.toNat / 32)
 have e2:=SM 32 (s.1.toNat / 32) (aft b top (l.take i)) (aft b top (l.take (i+1))) (v:=(av b top (l.take i) (s.1.toNat / 32)).set (s.1.toNat % 32) s.2)
  (by unfold aft; rw [ho,decide_eq_true rfl,Bool.or_true,if_pos rfl,ha]; unfold upd; rw [if_pos rfl])
  (fun k hne=>by unfold aft; rw [ho,decide_eq_false (Ne.symm hne),Bool.or_false,ha]; unfold upd; rw [if_neg (Ne.symm hne)])
 have hcase:(aft b top (l.take i) (s.1.toNat / 32)=av b top (l.take i) (s.1.toNat / 32))∨(aft b top (l.take i) (s.1.toNat / 32)=[]∧av b top (l.take i) (s.1.toNat / 32)=zer):=by
  unfold aft
  cases hq:oth (l.take i) (s.1.toNat / 32) with
  | true=>exact .inl (if_pos rfl)
  | false=>
   rw [if_neg (by simp),U5 hq]
   unfold lfs lfv
   split
   ·exact .inr ⟨rfl,rfl⟩
   ·exact .inl rfl
 generalize hA:av b top (l.take i) (s.1.toNat / 32)=A at *
 generalize hq:s.1.toNat / 32=q at *
 generalize hr:s.1.toNat % 32=r at *
 generalize (List.range 32).map (oth (l.take i))=ots at *
 generalize (List.range 32).map (aft b top (l.take i))=lvs at *
 have hAr:A[r]?=some (gb A r):=Ak (by omega)
 unfold Ev
 dsimp only
 rw [iy (by omega),iy (by omega),Int.toNat_natCast,hs,Option.bind_some,d1]
 simp (disch:=omega) only [iy,l1,l2,Int.toNat_natCast,Nat.zero_add,g1,g2,Option.bind_some]
 rcases hcase with hc | ⟨hc,hz⟩
 ·rw [hc] at g2
  rw [hc,ino (by omega),Option.bind_some]
  dsimp only
  simp (disch:=omega) only [m1,iy,l2,Int.toNat_natCast,Nat.zero_add,g2,Option.bind_some,hal,hAr,Ao,e1,e2,hr]
 ·rw [hc]
  have hset:(lvs.set q zer)[q]?=some A:=by rw [List.getElem?_set_self (by omega),hz]
  have hll:(lvs.set q zer).length=32:=by rw [List.length_set,l2]
  have hss:(lvs.set q zer).set q (A.set r s.2)=lvs.set q (A.set r s.2):=by rw [List.set_set]
  rw [show List.replicate (Int.toNat 32) (0:Int)=zer from rfl]
  rw [iy (show (((([]:List Int).length:Nat)):Int)=0 from rfl),if_pos rm8,Option.bind_some]
  dsimp only
  simp (disch:=omega) only [m1,iy,hll,Int.toNat_natCast,Nat.zero_add,hset,Option.bind_some,hal,hAr,Ao,e1,e2,hr,hss]
theorem R6 {b:Bls} {x y z top:List Int} {l:List Kv} {root:Int} (g:RS b x y) (ht:tre b x y root=some top) (htl:top.length=32) (hk:Ks l) (hl:l.length≤1000) :
  Ld b x y z root l=some ((List.range 32).map (aft b top l),(List.range 32).map (oth l)):=by
 unfold Ld
 rw [OE g,ht,Option.bind_some]
 unfold trS
 dsimp only
 rw [iy (by omega),iy (by omega),if_pos (by simp [Aa])]
 have h:=Ap Ev (fun i=>((List.range 32).map (aft b top (l.take i)),(List.range 32).map (oth (l.take i)),l,((l.length:Nat):Int),((i:Nat):Int))) l.length
  ((List.range 32).map (aft b top (l.take l.length)),(List.range 32).map (oth (l.take l.length))) (fun i hi=>WO hk hl hi) (by
   unfold Ev
   dsimp only
   rw [ino (by omega)])
 have e0:List.map (lfs b) top=(List.range 32).map (aft b top (l.take 0)):=by
  rw [← Sa (lfs b) htl]
  exact List.map_congr_left fun k _=>rfl
 have e1:List.replicate (Int.toNat 32) false=(List.range 32).map (oth (l.take 0)):=by
  rw [show (List.range 32).map (oth (l.take 0))=(List.range 32).map (fun _=>false) from List.map_congr_left fun k _=>rfl,I2]; rfl
 rw [e0,e1,show Ab Ev ((List.range 32).map (aft b top (l.take 0)),(List.range 32).map (oth (l.take 0)),l,((l.length:Nat):Int),0)=_ from h,Option.bind_some,List.take_length]
def nwC (b:Bls) (top:List Int) (l:List Kv):Nat→Nat
 | 0=>0
 | k+1=>nwC b top l k+(if (oth l k && nz (av b top l k))=true then 1 else 0)
def anC (b:Bls) (top:List Int) (l:List Kv) (k:Nat):Bool:=(List.range k).any fun j=>nz (av b top l j)
def ndK (b:Bls) (top:List Int) (l:List Kv):Nat:=if l.length=0 then 0 else nwC b top l 32+(if anC b top l 32=true then 1 else 0)
theorem Vs (b:Bls) (top:List Int) (l:List Kv):∀ k,nwC b top l k≤k
 | 0=>Nat.le_refl _
 | k+1=>by have:=Vs b top l k; simp only [nwC]; split <;> omega
theorem AaX (b:Bls) (top:List Int) (l:List Kv) (k:Nat):anC b top l (k+1)=(anC b top l k || nz (av b top l k)):=by
 unfold anC; rw [List.range_succ,List.any_append]; simp
theorem UO {b:Bls} {top:List Int} {l:List Kv} {vals:List (List Int)} {n root:Int} {an:Bool} (hk:Ks l) (hl:l.length≤1000) {k i:Nat} (hi:i < l.length) (hk32:k < 32) :
  DA (l,n,an,((k:Nat):Int),av b top (l.take i) k,oth (l.take i) k,((k:Nat):Int),l,((l.length:Nat):Int),((i:Nat):Int),root,top,vals) =
   some (.inl (l,n,an,((k:Nat):Int),av b top (l.take (i+1)) k,oth (l.take (i+1)) k,((k:Nat):Int),l,((l.length:Nat):Int),((i+1:Nat):Int),root,top,vals)):=by
 have hs:=Th hi
 generalize sg l i=s at hs
 have hks:=hk s (List.mem_of_getElem? hs)
 obtain ⟨d1,d2⟩:=Pt hks
 obtain ⟨m1,m2⟩:=Sv hks
 have hal:=HV b top (l.take i) k
 unfold DA
 dsimp only
 rw [iy (by omega),iy (by omega),Int.toNat_natCast,hs,Option.bind_some,iy (by omega),d1,SD hs,VT hs]
 unfold upd
 by_cases hq:s.1.toNat / 32=k
 ·rw [iy (by omega),m1,iy (by omega),iy (by omega),hal,iy (by omega),Int.toNat_natCast,Nat.zero_add,Ak (show s.1.toNat % 32 < (av b top (l.take i) k).length by omega),Option.bind_some,Option.bind_some,Option.bind_some]
  dsimp only
  rw [Ao (by omega),if_pos hq,decide_eq_true hq,Bool.or_true]
 ·rw [ino (by omega),Option.bind_some]
  dsimp only
  rw [Ao (by omega),if_neg hq,decide_eq_false hq,Bool.or_false]
theorem QX {b:Bls} {top:List Int} {l:List Kv} {root:Int} (htl:top.length=32) (hk:Ks l) (hl:l.length≤1000) :
  Fh root top (top.map (lfv b)) l=some ((ndK b top l:Nat):Int):=by
 unfold Fh ndK
 by_cases h0:l.length=0
 ·rw [iy (by omega),if_pos h0]; rfl
 rw [ino (by omega),if_neg h0]
 have hvl:(top.map (lfv b)).length=32:=by rw [List.length_map,htl]
 have h:=Ap EB (fun k=>(l,((nwC b top l k:Nat):Int),anC b top l k,((k:Nat):Int),root,top,top.map (lfv b))) 32 (((nwC b top l 32:Nat):Int),anC b top l 32) (fun k hk32=>by
   have hg:(top.map (lfv b))[k]?=some (lfv b (gb top k)):=by rw [List.getElem?_map,Ak (by omega)]; rfl
   have hln:=SZ b (gb top k)
   have hc:=Vs b top l k
   have hav:=HV b top l k
   have hin:=Ap DA (fun i=>(l,((nwC b top l k:Nat):Int),anC b top l k,((k:Nat):Int),av b top (l.take i) k,oth (l.take i) k,((k:Nat):Int),l,((l.length:Nat):Int),((i:Nat):Int),root,top,top.map (lfv b))) l.length
    (l,((nwC b top l k:Nat):Int),anC b top l k,av b top (l.take l.length) k,oth (l.take l.length) k,((k:Nat):Int),root,top,top.map (lfv b)) (fun i hi=>UO hk hl hi hk32) (by
     unfold DA
     dsimp only
     rw [ino (by omega)])
   rw [List.take_length] at hin
   unfold EB
   dsimp only
   rw [iy (by omega),iy (by omega),Int.toNat_natCast,hg,Option.bind_some,Gg (by omega),Option.bind_some,
    show Ab DA (l,((nwC b top l k:Nat):Int),anC b top l k,((k:Nat):Int),lfv b (gb top k),false,((k:Nat):Int),l,((l.length:Nat):Int),0,root,top,top.map (lfv b))=_ from hin,Option.bind_some,AaX]
   simp only [nwC]
   have hA:(if anC b top l k=true then some (l,((nwC b top l k:Nat):Int),true,av b top l k,oth l k,((k:Nat):Int),root,top,top.map (lfv b)) else
     Option.bind (Dc (av b top l k)) fun c8=>some (l,((nwC b top l k:Nat):Int),(!c8),av b top l k,oth l k,((k:Nat):Int),root,top,top.map (lfv b))) =
     some (l,((nwC b top l k:Nat):Int),(anC b top l k || nz (av b top l k)),av b top l k,oth l k,((k:Nat):Int),root,top,top.map (lfv b)):=by
    cases anC b top l k with
    | true=>rfl
    | false=>rw [if_neg (by simp),Ea (by omega),Option.bind_some,Bool.not_not,Bool.false_or]
   rw [hA,Option.bind_some]
   dsimp only
   have hB:(if oth l k=true then Option.bind (Dc (av b top l k)) fun c10=>some (l,((nwC b top l k:Nat):Int),(anC b top l k || nz (av b top l k)),((k:Nat):Int),(!c10),root,top,top.map (lfv b)) else
     some (l,((nwC b top l k:Nat):Int),(anC b top l k || nz (av b top l k)),((k:Nat):Int),false,root,top,top.map (lfv b))) =
     some (l,((nwC b top l k:Nat):Int),(anC b top l k || nz (av b top l k)),((k:Nat):Int),(oth l k && nz (av b top l k)),root,top,top.map (lfv b)):=by
    cases oth l k with
    | false=>rfl
    | true=>rw [if_pos rfl,Ea (by omega),Option.bind_some,Bool.not_not,Bool.true_and]
   rw [hB,Option.bind_some]
   dsimp only
   cases (oth l k && nz (av b top l k)) with
   | false=>
    rw [if_neg (by simp),Option.bind_some]
    dsimp only
    rw [Ao (by omega)]; rfl
   | true=>
    rw [if_pos rfl,Option.bind_some]
    dsimp only
    rw [Ao (by omega),Ao (by omega)]; rfl) (by
   unfold EB
   dsimp only
   rw [ino (by omega)])
 have hc:=Vs b top l 32
 rw [show Ab EB (l,0,false,0,root,top,top.map (lfv b))=_ from h,Option.bind_some]
 dsimp only
 cases anC b top l 32 with
 | false=>rfl
 | true=>rw [if_pos rfl,Option.bind_some,Ao (by omega)]; rfl
end Go.V.G