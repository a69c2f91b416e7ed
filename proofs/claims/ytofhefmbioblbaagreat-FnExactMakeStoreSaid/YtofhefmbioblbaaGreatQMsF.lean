import Derived.Test.YtofhefmbioblbaaGreatQMsE
import Derived.Orders
import Derived.Tactics
import Derived.Deep.LoopGhost
import Derived.Below
import Derived.WalkKit
import Derived.ProofKit
import Derived.ChangeOld
import Derived.DataReads
set_option linter.unusedVariables false
set_option linter.unusedSimpArgs false
namespace Go.V
open Go.RowKit
theorem Acv (vs:List (Nat×Ae)) (t:Ty) (i:Nat):tuple vs [t] i=match find vs i with
 | some ⟨u,x⟩=>if h:u=t then some (h ▸ x) else none
 | none=>none:=rfl
theorem AcX (vs:List (Nat×Ae)) (t u:Ty) (ts:List Ty) (i:Nat):tuple vs (t::u::ts) i=match find vs i with
 | some ⟨u',x⟩=>if h:u'=t then match tuple vs (u::ts) (i+1) with
  | some y=>some (h ▸ x,y)
  | none=>none
  else none
 | none=>none:=rfl
theorem XA (vs:List (Nat×Ae)):∀ (ts:List Ty) (i:Nat) (x:(AM ts).D),tuple vs ts i=some x→∀ j,j < ts.length→find vs (i+j)=(split ts x)[j]?:=by
 intro ts
 induction ts with
 | nil=>intro i x _ j hj; simp at hj
 | cons t ts ih=>
  intro i x h j hj
  cases ts with
  | nil=>
   obtain rfl:j=0:=by simp at hj; exact hj
   rw [Acv] at h
   show find vs (i+0)=[(⟨t,x⟩:Ae)][0]?
   split at h
   ·rename_i u y hf
    split at h
    ·rename_i hu
     subst hu
     injection h with h
     subst h
     exact hf
    ·cases h
   ·cases h
  | cons u ts=>
   rw [AcX] at h
   split at h
   ·rename_i u' y hf
    split at h
    ·rename_i hu
     subst hu
     split at h
     ·rename_i z hz
      injection h with h
      subst h
      show find vs (i+j)=((⟨_,y⟩:Ae)::split (u::ts) z)[j]?
      cases j with
      | zero=>exact hf
      | succ j=>
       have:=ih (i+1) z hz j (by simpa using hj)
       rw [List.getElem?_cons_succ,← this]
       congr 1; omega
     ·cases h
    ·cases h
   ·cases h
structure Le (m m':Mt):Prop where
 ro:∀ x,x∈m.ro→x∈m'.ro
 rm:∀ x,x∈m.rm→x∈m'.rm
 nl:∀ x,x∈m.nl→x∈m'.nl
 vs:∀ x,x∈m.vs→x∈m'.vs
theorem Le.refl (m:Mt):Le m m:=⟨fun _ h=>h,fun _ h=>h,fun _ h=>h,fun _ h=>h⟩
theorem Le.trans {a b c:Mt} (h:Le a b) (k:Le b c):Le a c:=⟨fun x hx=>k.ro x (h.ro x hx),fun x hx=>k.rm x (h.rm x hx),fun x hx=>k.nl x (h.nl x hx),fun x hx=>k.vs x (h.vs x hx)⟩
theorem Hz {l l':List (Nat×Nat)} {a b:Nat} (h:Ja l a b=some l'):(a,b)∈l'∧∀ x,x∈l→x∈l':=by
 unfold Ja at h
 split at h
 ·rename_i c hc
  split at h
  ·rename_i hcb
   subst hcb
   injection h with h
   subst h
   exact ⟨AG hc,fun _ h=>h⟩
  ·cases h
 ·injection h with h
  subst h
  exact ⟨by simp,fun x hx=>by simp [hx]⟩
section
variable {holes:List Ty} {S S0:St} {c c0:Cc} {w:World} {K K0:Nat→Prop}
structure Fin (hs:List Ae) (m:Mt) (S S0:St) (c c0:Cc) (w:World) (K K0:Nat→Prop):Prop where
 k:∀ g,g < w.heap.size→K g→K0 g
 vs:∀ i x,(i,x)∈m.vs→hs[i]?=some x
 ro:∀ κ k,(κ,k)∈m.ro→S0.ow κ=S.ow k∧c0.hv κ=c.hv k
 nl:∀ κ,κ∈m.nl→(∃ e r,S0.ow κ=some ⟨e,r,[]⟩)∧c0.hv κ=.slice none 0 0
 rm:∀ κ k,(κ,k)∈m.rm→(S.ms k≠none→S0.ms κ≠none)∧c0.mb κ=c.mb k∧c0.mo κ=c.mo k
theorem Vn {hs:List Ae} {mf:Mt} {m m':Mt} {t:TL} {l:Leaf} (h:t.mt holes m l=some m'):Le m m'∧(Le m' mf→Fin hs mf S S0 c c0 w K K0→∀ v,LeafOk S c w K l v→LeafOk S0 c0 w K0 (t.inj hs) v):=by
 unfold TL.mt at h
 split at h
 ·rename_i i t x
  injection h with h
  subst h
  refine ⟨⟨fun _ h=>h,fun _ h=>h,fun _ h=>h,fun x hx=>by simp [hx]⟩,fun hl hf v hv=>?_⟩
  have:=hf.vs i ⟨t,x⟩ (hl.vs _ (by simp))
  simp only [TL.inj,this]
  exact LeafOk.mono hf.k hv
 ·rename_i i
  split at h
  ·rename_i e r _
   injection h with h
   subst h
   refine ⟨⟨fun _ h=>h,fun _ h=>h,fun _ h=>h,fun x hx=>by simp [hx]⟩,fun hl hf v hv=>?_⟩
   have:=hf.vs i ⟨.sl false e r,[]⟩ (hl.vs _ (by simp))
   simp only [TL.inj,this]
   obtain rfl:v=.slice none 0 0:=hv
   show Rp w K0 (.sl false e r) [] _ _
   rw [Rp]
   exact ⟨rfl,none,0,[],rfl,Nat.le_refl _,⟨rfl,rfl⟩,.inl rfl⟩
  ·cases h
 ·rename_i κ k
  split at h
  ·rename_i l hl
   injection h with h
   subst h
   obtain ⟨h1,h2⟩:=Hz hl
   refine ⟨⟨h2,fun _ h=>h,fun _ h=>h,fun _ h=>h⟩,fun hle hf v hv=>?_⟩
   obtain ⟨h3,h4⟩:=hf.ro κ k (hle.ro _ h1)
   obtain ⟨o,e,r,ys,hd,q1,q2,q3,q4⟩:=hv
   exact ⟨o,e,r,ys,hd,by rw [h3]; exact q1,q2,by rw [h4]; exact q3,q4⟩
  ·cases h
 ·rename_i κ
  injection h with h
  subst h
  refine ⟨⟨fun _ h=>h,fun _ h=>h,fun x hx=>by simp [hx],fun _ h=>h⟩,fun hle hf v hv=>?_⟩
  obtain ⟨⟨e,r,h3⟩,h4⟩:=hf.nl κ (hle.nl _ (by simp))
  obtain rfl:v=.slice none 0 0:=hv
  exact ⟨_,e,r,[],.slice none 0 0,h3,rfl,by rw [h4]; rfl,rfl⟩
 ·rename_i κ i f k n g
  split at h
  ·rename_i hfg
   subst hfg
   split at h
   ·rename_i l hl
    injection h with h
    subst h
    obtain ⟨h1,h2⟩:=Hz hl
    refine ⟨⟨h2,fun _ h=>h,fun _ h=>h,fun x hx=>by simp [hx]⟩,fun hle hf v hv=>?_⟩
    obtain ⟨h3,h4⟩:=hf.ro κ k (hle.ro _ h1)
    have:=hf.vs i ⟨.int .i64,((n:Nat):Int)⟩ (hle.vs _ (by simp))
    obtain ⟨o,e,r,ys,hd,q1,q2,q3,q4⟩:=hv
    simp only [TL.inj,this,M0,Int.toNat_natCast]
    exact ⟨o,e,r,ys,hd,by rw [h3]; exact q1,q2,by rw [h4]; exact q3,q4⟩
   ·cases h
  ·cases h
 ·rename_i κ i j k n g
  split at h
  ·rename_i l hl
   injection h with h
   subst h
   obtain ⟨h1,h2⟩:=Hz hl
   refine ⟨⟨h2,fun _ h=>h,fun _ h=>h,fun x hx=>by simp [hx]⟩,fun hle hf v hv=>?_⟩
   obtain ⟨h3,h4⟩:=hf.ro κ k (hle.ro _ h1)
   have t1:=hf.vs i ⟨.int .i64,((n:Nat):Int)⟩ (hle.vs _ (by simp))
   have t2:=hf.vs j ⟨.int .i64,((g:Nat):Int)⟩ (hle.vs _ (by simp))
   obtain ⟨o,e,r,ys,hd,q1,q2,q3,q4⟩:=hv
   simp only [TL.inj,t1,t2,M0,Int.toNat_natCast]
   exact ⟨o,e,r,ys,hd,by rw [h3]; exact q1,q2,by rw [h4]; exact q3,q4⟩
  ·cases h
 ·rename_i κ i f x y k n g a b
  split at h
  ·rename_i hfg
   subst hfg
   split at h
   ·rename_i l hl
    injection h with h
    subst h
    obtain ⟨h1,h2⟩:=Hz hl
    refine ⟨⟨h2,fun _ h=>h,fun _ h=>h,fun x hx=>by simp [hx]⟩,fun hle hf v hv=>?_⟩
    obtain ⟨h3,h4⟩:=hf.ro κ k (hle.ro _ h1)
    have t1:=hf.vs i ⟨.int .i64,((n:Nat):Int)⟩ (hle.vs _ (by simp))
    have t2:=hf.vs x ⟨.int .i64,((a:Nat):Int)⟩ (hle.vs _ (by simp))
    have t3:=hf.vs y ⟨.int .i64,((b:Nat):Int)⟩ (hle.vs _ (by simp))
    obtain ⟨o,e,r,ys,hd,q1,q2,q3,q4⟩:=hv
    simp only [TL.inj,t1,t2,t3,M0,Int.toNat_natCast]
    exact ⟨o,e,r,ys,hd,by rw [h3]; exact q1,q2,by rw [h4]; exact q3,q4⟩
   ·cases h
  ·cases h
 ·injection h with h
  subst h
  exact ⟨Le.refl _,fun _ _ v hv=>hv⟩
 ·injection h with h
  subst h
  exact ⟨Le.refl _,fun _ _ v hv=>hv⟩
 ·rename_i i
  split at h
  ·rename_i t _
   injection h with h
   subst h
   refine ⟨⟨fun _ h=>h,fun _ h=>h,fun _ h=>h,fun x hx=>by simp [hx]⟩,fun hl hf v hv=>?_⟩
   have:=hf.vs i ⟨.pt t,none⟩ (hl.vs _ (by simp))
   simp only [TL.inj,this]
   obtain rfl:v=.pointer none:=hv
   show Rp w K0 (.pt t) none _ _
   simp only [Rp]
   exact ⟨trivial,trivial⟩
  ·cases h
 ·rename_i κ off k off'
  split at h
  ·rename_i ho
   subst ho
   split at h
   ·rename_i l hl
    injection h with h
    subst h
    obtain ⟨h1,h2⟩:=Hz hl
    refine ⟨⟨fun _ h=>h,h2,fun _ h=>h,fun _ h=>h⟩,fun hle hf v hv=>?_⟩
    obtain ⟨h3,h4⟩:=hf.rm κ k (hle.rm _ h1)
    obtain ⟨n,hn,rfl⟩:=hv
    obtain ⟨n',hn'⟩:=Option.ne_none_iff_exists'.1 (h3 (by rw [hn]; simp))
    exact ⟨n',hn',by rw [h4.1,h4.2]⟩
   ·cases h
  ·cases h
 ·injection h with h
  subst h
  exact ⟨Le.refl _,fun _ _ v _=>trivial⟩
 ·cases h
theorem Yo {hs:List Ae} {mf:Mt}:∀ (ts:List TL) (ls:List Leaf) {m m':Mt},TL.mts holes m ts ls=some m'→Le m m'∧(Le m' mf→Fin hs mf S S0 c c0 w K K0→∀ vs,All2 (LeafOk S c w K) ls vs→All2 (LeafOk S0 c0 w K0) (ts.map (TL.inj hs)) vs)
 | [],[],m,m',h=>by
  rw [TL.mts] at h
  injection h with h
  subst h
  exact ⟨Le.refl _,fun _ _ vs hv=>by cases hv; exact .nil⟩
 | t::ts,l::ls,m,m',h=>by
  rw [TL.mts] at h
  split at h
  ·rename_i m1 h1
   obtain ⟨q1,q2⟩:=Vn (hs:=hs) (mf:=mf) (S:=S) (S0:=S0) (c:=c) (c0:=c0) (w:=w) (K:=K) (K0:=K0) h1
   obtain ⟨q3,q4⟩:=Yo ts ls h
   refine ⟨q1.trans q3,fun hle hf vs hv=>?_⟩
   cases hv with
   | cons a1 a2=>exact .cons (q2 (q3.trans hle) hf _ a1) (q4 hle hf _ a2)
  ·cases h
 | [],_::_,_,_,h=>by simp [TL.mts] at h
 | _::_,[],_,_,h=>by simp [TL.mts] at h
theorem AdY {hs:List Ae} {mf:Mt} {m m':Mt} {t:TS} {x:SV} (h:t.mt holes m x=some m'):Le m m'∧(Le m' mf→Fin hs mf S S0 c c0 w K K0→∀ v,AI S c w K x v→AI S0 c0 w K0 (.s (t.inj hs)) v):=by
 unfold TS.mt at h
 split at h
 ·obtain ⟨q1,q2⟩:=Vn (hs:=hs) (mf:=mf) (S:=S) (S0:=S0) (c:=c) (c0:=c0) (w:=w) (K:=K) (K0:=K0) h
  exact ⟨q1,fun hle hf v hv=>q2 hle hf v hv⟩
 ·obtain ⟨q1,q2⟩:=Yo (hs:=hs) (mf:=mf) (S:=S) (S0:=S0) (c:=c) (c0:=c0) (w:=w) (K:=K) (K0:=K0) _ _ h
  refine ⟨q1,fun hle hf v hv=>?_⟩
  obtain ⟨vs,rfl,hv⟩:=hv
  exact ⟨vs,rfl,q2 hle hf vs hv⟩
 ·rename_i κ off k off'
  split at h
  ·rename_i ho
   subst ho
   split at h
   ·rename_i l hl
    injection h with h
    subst h
    obtain ⟨h1,h2⟩:=Hz hl
    refine ⟨⟨fun _ h=>h,h2,fun _ h=>h,fun _ h=>h⟩,fun hle hf v hv=>?_⟩
    obtain ⟨h3,h4⟩:=hf.rm κ k (hle.rm _ h1)
    obtain ⟨n,hn,rfl⟩:=hv
    obtain ⟨n',hn'⟩:=Option.ne_none_iff_exists'.1 (h3 (by rw [hn]; simp))
    exact ⟨n',hn',by rw [h4.1,h4.2]⟩
   ·cases h
  ·cases h
 ·rename_i f cs f' cs'
  split at h
  ·rename_i hq
   obtain ⟨rfl,rfl,hall⟩:=hq
   injection h with h
   subst h
   refine ⟨Le.refl _,fun hle hf v hv=>?_⟩
   obtain ⟨vs,rfl,hvs⟩:=hv
   refine ⟨vs,rfl,?_⟩
   induction hvs with
   | nil=>exact .nil
   | @cons p v cs vs h1 _ ih=>
    simp only [List.all_cons,Bool.and_eq_true,beq_iff_eq] at hall
    obtain ⟨n,hn,rfl⟩:=h1
    obtain ⟨h3,h4⟩:=hf.rm p.1 p.1 (hle.rm _ (AG hall.1))
    obtain ⟨n',hn'⟩:=Option.ne_none_iff_exists'.1 (h3 (by rw [hn]; simp))
    exact .cons ⟨n',hn',by rw [h4.1,h4.2]⟩ (ih hall.2)
  ·cases h
 ·rename_i i off u x off'
  split at h
  ·rename_i ho
   subst ho
   injection h with h
   subst h
   refine ⟨⟨fun _ h=>h,fun _ h=>h,fun _ h=>h,fun x hx=>by simp [hx]⟩,fun hle hf v hv=>?_⟩
   have:=hf.vs i ⟨u,x⟩ (hle.vs _ (by simp))
   simp only [TS.inj,this]
   obtain ⟨a,vs,q0,q1,q2,q3,q4⟩:=hv
   exact ⟨a,vs,q0,Rp.mono hf.k _ _ q1,hf.k _ q3 q2,q3,q4⟩
  ·cases h
 ·cases h
theorem RN {hs:List Ae} {mf:Mt}:∀ (l:List (Nat×TS)) {m m':Mt},Mh holes S l m=some m'→Le m m'∧(Le m' mf→Fin hs mf S S0 c c0 w K K0→∀ i t,(i,t)∈l→∀ v,AI S c w K (S.sl i) v→AI S0 c0 w K0 (.s (t.inj hs)) v)
 | [],m,m',h=>by
  rw [Mh] at h
  injection h with h
  subst h
  exact ⟨Le.refl _,fun _ _ i t hm=>by cases hm⟩
 | (i,t)::l,m,m',h=>by
  rw [Mh] at h
  split at h
  ·rename_i m1 h1
   obtain ⟨q1,q2⟩:=AdY (hs:=hs) (mf:=mf) (S:=S) (S0:=S0) (c:=c) (c0:=c0) (w:=w) (K:=K) (K0:=K0) h1
   obtain ⟨q3,q4⟩:=RN l h
   refine ⟨q1.trans q3,fun hle hf j u hm v hv=>?_⟩
   rcases List.mem_cons.1 hm with hm | hm
   ·injection hm with e1 e2
    subst e1 e2
    exact q2 (q3.trans hle) hf v hv
   ·exact q4 hle hf j u hm v hv
  ·cases h
theorem VA {hs:List Ae} {mf:Mt} (k:Nat):∀ (ts:List TL) (i:Nat) {m m':Mt},RU holes S k ts i m=some m'→
  Le m m'∧(Le m' mf→Fin hs mf S S0 c c0 w K K0→∀ j t,ts[j]?=some t→∀ v,LeafOk S c w K (S.mc k (i+j)) v→LeafOk S0 c0 w K0 (t.inj hs) v)
 | [],i,m,m',h=>by
  rw [RU] at h
  injection h with h
  subst h
  exact ⟨Le.refl _,fun _ _ j t hm=>by simp at hm⟩
 | t::ts,i,m,m',h=>by
  rw [RU] at h
  split at h
  ·rename_i m1 h1
   obtain ⟨q1,q2⟩:=Vn (hs:=hs) (mf:=mf) (S:=S) (S0:=S0) (c:=c) (c0:=c0) (w:=w) (K:=K) (K0:=K0) h1
   obtain ⟨q3,q4⟩:=VA k ts (i+1) h
   refine ⟨q1.trans q3,fun hle hf j u hm v hv=>?_⟩
   cases j with
   | zero=>
    simp only [List.getElem?_cons_zero,Option.some.injEq] at hm
    subst hm
    exact q2 (q3.trans hle) hf v hv
   | succ j=>exact q4 hle hf j u (by simpa using hm) v (by rwa [show i+(j+1)=i+1+j by omega] at hv)
  ·cases h
theorem OL {hs:List Ae} {mf:Mt}:∀ (l:List (Nat×List TL)) {m m':Mt},N7 holes S l m=some m'→
  Le m m'∧(Le m' mf→∀ κ row,(κ,row)∈l→∃ k,(κ,k)∈mf.rm∧S.ms k=some row.length∧(Fin hs mf S S0 c c0 w K K0→∀ j t,row[j]?=some t→∀ v,LeafOk S c w K (S.mc k j) v→LeafOk S0 c0 w K0 (t.inj hs) v))
 | [],m,m',h=>by
  rw [N7] at h
  injection h with h
  subst h
  exact ⟨Le.refl _,fun _ i t hm=>by cases hm⟩
 | (κ,row)::l,m,m',h=>by
  rw [N7] at h
  split at h
  ·rename_i k hk
   split at h
   ·rename_i hn
    split at h
    ·rename_i m1 h1
     obtain ⟨q1,q2⟩:=VA (hs:=hs) (mf:=mf) (S:=S) (S0:=S0) (c:=c) (c0:=c0) (w:=w) (K:=K) (K0:=K0) k row 0 h1
     obtain ⟨q3,q4⟩:=OL l h
     refine ⟨q1.trans q3,fun hle κ' row' hm=>?_⟩
     rcases List.mem_cons.1 hm with hm | hm
     ·injection hm with e1 e2
      subst e1 e2
      exact ⟨k,(q1.trans (q3.trans hle)).rm _ (AG hk),hn,fun hf j t ht v hv=>q2 (q3.trans hle) hf j t ht v (by rwa [Nat.zero_add])⟩
     ·exact q4 hle κ' row' hm
    ·cases h
   ·cases h
  ·cases h
theorem N9:∀ (l:List (Nat×Nat)) {m m':Mt},L4 holes S l m=some m'→
  Le m m'∧m'.ro=m.ro∧m'.nl=m.nl∧∀ κ h,(κ,h)∈l→(∃ k o,(κ,k)∈m.ro∧S.ow k=some o∧(h,(⟨.sl true o.e o.r,o.xs⟩:Ae))∈m'.vs)∨(κ∈m.nl∧∃ e r,(h,(⟨.sl true e r,[]⟩:Ae))∈m'.vs)
 | [],m,m',h=>by
  rw [L4] at h
  injection h with h
  subst h
  exact ⟨Le.refl _,rfl,rfl,fun _ _ hm=>by cases hm⟩
 | (κ,hh)::l,m,m',h=>by
  rw [L4] at h
  have add:∀ (x:Ae),Le m { m with vs:=(hh,x)::m.vs }:=fun x=>⟨fun _ h=>h,fun _ h=>h,fun _ h=>h,fun y hy=>by simp [hy]⟩
  split at h
  ·rename_i k hk
   split at h
   ·rename_i o ho
    obtain ⟨q1,q2,q3,q4⟩:=N9 l h
    refine ⟨(add _).trans q1,q2,q3,fun κ' h' hm=>?_⟩
    rcases List.mem_cons.1 hm with hm | hm
    ·injection hm with e1 e2
     subst e1 e2
     exact .inl ⟨k,o,AG hk,ho,q1.vs _ (by simp)⟩
    ·exact q4 κ' h' hm
   ·cases h
  ·split at h
   ·rename_i hc
    split at h
    ·rename_i e r _
     obtain ⟨q1,q2,q3,q4⟩:=N9 l h
     refine ⟨(add _).trans q1,q2,q3,fun κ' h' hm=>?_⟩
     rcases List.mem_cons.1 hm with hm | hm
     ·injection hm with e1 e2
      subst e1 e2
      exact .inr ⟨by simpa using hc,e,r,q1.vs _ (by simp)⟩
     ·exact q4 κ' h' hm
    ·cases h
   ·cases h
end
theorem SA:∀ {l:List (Nat×Nat)} {a b k:Nat},(l.map (·.2)).Nodup→(a,k)∈l→(b,k)∈l→a=b
 | [],_,_,_,_,h,_=>by cases h
 | (i,j)::l,a,b,k,hn,h1,h2=>by
  rw [List.map_cons,List.nodup_cons] at hn
  rcases List.mem_cons.1 h1 with e1 | h1'
  ·injection e1 with e1 e1'
   subst e1 e1'
   rcases List.mem_cons.1 h2 with e2 | h2'
   ·injection e2 with e2 _; exact e2.symm
   ·exact absurd (List.mem_map.2 ⟨(b,k),h2',rfl⟩) hn.1
  ·rcases List.mem_cons.1 h2 with e2 | h2'
   ·injection e2 with e2 e2'
    subst e2 e2'
    exact absurd (List.mem_map.2 ⟨(a,k),h1',rfl⟩) hn.1
   ·exact SA hn.2 h1' h2'
theorem Tpl.ok0 {b:Base} {N:Nat} {S:St} {a:Act} {w:World} (t:Tpl) {x:t.D} (h:t.prj0 S=some x) (hs:Sim b N S a w):Sim b N (t.inj x) a w:=by
 unfold Tpl.prj0 at h
 split at h
 ·rename_i m hm
  split at h
  ·rename_i hfine
   simp only [Mt.fine,Bool.and_eq_true,List.all_eq_true,decide_eq_true_eq,Bool.not_eq_true',beq_iff_eq] at hfine
   obtain ⟨⟨⟨⟨⟨⟨⟨⟨⟨f1,f2⟩,f3⟩,f4⟩,f5⟩,f6⟩,f7⟩,f8⟩,f9⟩,f10⟩:=hfine
   obtain ⟨c,hi,hsl,hfx⟩:=hs
   unfold Tpl.mt at hm
   split at hm
   ·rename_i m1 hm1
    split at hm
    ·rename_i m2 hm2
     obtain ⟨w1,w2,w3,w4⟩:=N9 t.owns hm
     generalize hhs:split t.holes x=hs
     have hinj:t.inj x=t.injH hs:=by rw [← hhs]; rfl
     rw [hinj]
     have hvs:∀ i y,(i,y)∈m.vs→hs[i]?=some y:=by
      intro i y hy
      have:=XA m.vs t.holes 0 x h i (f2 _ hy)
      rw [Nat.zero_add,hhs] at this
      rw [← this]
      exact Dj (BD f1) hy
     let c0:Cc:=⟨c.mb,c.mo,fun κ=>match find m.ro κ with | some k=>c.hv k | none=>.slice none 0 0,fun κ=>match find m.ro κ with | some k=>c.F k | none=>[]⟩
     have how:∀ κ,(t.injH hs).ow κ≠none→(∃ k o,find m.ro κ=some k∧S.ow k=some o∧(t.injH hs).ow κ=some o)∨(find m.ro κ=none∧∃ e r,(t.injH hs).ow κ=some ⟨e,r,[]⟩):=by
      intro κ hκ
      simp only [Tpl.injH] at hκ ⊢
      split at hκ
      ·rename_i hh hfo
       rcases w4 κ hh (AG hfo) with ⟨k,o,k1,k2,k3⟩ | ⟨k1,e,r,k3⟩
       ·rw [← w2] at k1
        refine .inl ⟨k,o,Dj (BD f3) k1,k2,?_⟩
        rw [hvs _ _ k3]; rfl
       ·rw [← w3] at k1
        have:=(f7 κ k1).1
        refine .inr ⟨HE (by simpa using this),e,r,?_⟩
        rw [hvs _ _ k3]; rfl
      ·exact absurd rfl hκ
     have hroO:∀ κ k,(κ,k)∈m.ro→(t.injH hs).ow κ=S.ow k∧S.ow k≠none:=by
      intro κ k hk
      have h8:=f8 _ hk
      obtain ⟨hh,hho⟩:=Option.isSome_iff_exists.1 h8
      rcases w4 κ hh (AG hho) with ⟨k',o,k1,k2,k3⟩ | ⟨k1,e,r,k3⟩
      ·rw [← w2] at k1
       have e1:=Dj (BD f3) k1
       have e2:=Dj (BD f3) hk
       rw [e1] at e2
       injection e2 with e2
       subst e2
       refine ⟨?_,by rw [k2]; simp⟩
       simp only [Tpl.injH,hho,hvs _ _ k3,k2]; rfl
      ·rw [← w3] at k1
       have:=(f7 κ k1).1
       simp only [List.contains_eq_mem,decide_eq_false_iff_not] at this
       exact absurd (List.mem_map.2 ⟨(κ,k),hk,rfl⟩) this
     have hrm:∀ κ,(t.injH hs).ms κ≠none→∃ row,find t.mems κ=some row∧(t.injH hs).ms κ=some row.length:=by
      intro κ hκ
      simp only [Tpl.injH] at hκ ⊢
      cases hfm:find t.mems κ with
      | none=>rw [hfm] at hκ; exact absurd rfl hκ
      | some row=>exact ⟨row,rfl,rfl⟩
     have hrmf:∀ κ k,(κ,k)∈m.rm→find m.rm κ=some k:=fun κ k hk=>Dj (BD f5) hk
     have hcmb:∀ κ k,find m.rm κ=some k→c0.mb κ=c.mb k:=fun κ k hk=>by show c.mb κ=_; rw [show κ=k from f10 _ (AG hk)]
     have hcmo:∀ κ k,find m.rm κ=some k→c0.mo κ=c.mo k:=fun κ k hk=>by show c.mo κ=_; rw [show κ=k from f10 _ (AG hk)]
     have hchv:∀ κ k,find m.ro κ=some k→c0.hv κ=c.hv k∧c0.F κ=c.F k:=fun κ k hk=>⟨by show (match find m.ro κ with | some k=>c.hv k | none=>.slice none 0 0)=_; rw [hk],by show (match find m.ro κ with | some k=>c.F k | none=>[])=_; rw [hk]⟩
     have hcno:∀ κ,find m.ro κ=none→c0.hv κ=.slice none 0 0∧c0.F κ=[]:=fun κ hk=>⟨by show (match find m.ro κ with | some k=>c.hv k | none=>.slice none 0 0)=_; rw [hk],by show (match find m.ro κ with | some k=>c.F k | none=>[])=_; rw [hk]⟩
     have hmem:∀ κ row,find t.mems κ=some row→∃ k,find m.rm κ=some k∧S.ms k=some row.length:=by
      intro κ row hrow
      obtain ⟨_,q2⟩:=OL (hs:=hs) (mf:=m) (S:=S) (S0:=S) (c:=c) (c0:=c) (w:=w) (K:=Kok b S c) (K0:=Kok b S c) t.mems hm2
      obtain ⟨k,k1,k2,_⟩:=q2 w1 κ row (AG hrow)
      exact ⟨k,hrmf κ k k1,k2⟩
     have hK:∀ g,g < w.heap.size→Kok b S c g→Kok b (t.injH hs) c0 g:=by
      rintro g _ ⟨h1,h2⟩
      refine ⟨h1,?_⟩
      rintro (⟨κ,hκ,rfl⟩ | ⟨κ,hκ,hg⟩)
      ·obtain ⟨row,hrow,_⟩:=hrm κ hκ
       obtain ⟨k,hk,hn⟩:=hmem κ row hrow
       exact h2 (.inl ⟨k,by rw [hn]; simp,(hcmb κ k hk).symm⟩)
      ·rcases how κ hκ with ⟨k,o,k1,k2,k3⟩ | ⟨k1,_⟩
       ·rw [(hchv κ k k1).2] at hg
        exact h2 (.inr ⟨k,by rw [k2]; simp,hg⟩)
       ·rw [(hcno κ k1).2] at hg; cases hg
     have hfin:Fin hs m S (t.injH hs) c c0 w (Kok b S c) (Kok b (t.injH hs) c0):=by
      refine ⟨hK,hvs,?_,?_,?_⟩
      ·intro κ k hk
       exact ⟨(hroO κ k hk).1,(hchv κ k (Dj (BD f3) hk)).1⟩
      ·intro κ hκ
       have h7:=f7 κ hκ
       have hno:find m.ro κ=none:=HE (by simpa using h7.1)
       refine ⟨?_,(hcno κ hno).1⟩
       obtain ⟨hh,hho⟩:=Option.isSome_iff_exists.1 h7.2
       rcases w4 κ hh (AG hho) with ⟨k',o,k1,k2,k3⟩ | ⟨k1,e,r,k3⟩
       ·rw [← w2] at k1
        rw [Dj (BD f3) k1] at hno; cases hno
       ·refine ⟨e,r,?_⟩
        simp only [Tpl.injH,hho,hvs _ _ k3]; rfl
      ·intro κ k hk
       refine ⟨fun _=>?_,hcmb κ k (hrmf κ k hk),hcmo κ k (hrmf κ k hk)⟩
       obtain ⟨row,hrow⟩:=Option.isSome_iff_exists.1 (f9 _ hk)
       simp only [Tpl.injH,hrow]; simp
     obtain ⟨l1,g1⟩:=RN (hs:=hs) (mf:=m) (S:=S) (S0:=t.injH hs) (c:=c) (c0:=c0) (w:=w) (K:=Kok b S c) (K0:=Kok b (t.injH hs) c0) t.slots hm1
     obtain ⟨l2,g2⟩:=OL (hs:=hs) (mf:=m) (S:=S) (S0:=t.injH hs) (c:=c) (c0:=c0) (w:=w) (K:=Kok b S c) (K0:=Kok b (t.injH hs) c0) t.mems hm2
     have hinjr:∀ κ κ' k,find m.ro κ=some k→find m.ro κ'=some k→κ=κ':=by
      intro κ κ' k h1 h2
      exact SA (BD f4) (AG h1) (AG h2)
     have hinjm:∀ κ κ' k,find m.rm κ=some k→find m.rm κ'=some k→κ=κ':=by
      intro κ κ' k h1 h2
      exact SA (BD f6) (AG h1) (AG h2)
     have hmk:∀ κ n,(t.injH hs).ms κ=some n→∃ row k,find t.mems κ=some row∧n=row.length∧find m.rm κ=some k∧S.ms k=some n:=by
      intro κ n hn
      obtain ⟨row,h1,h2⟩:=hrm κ (by rw [hn]; simp)
      obtain ⟨k,k1,k2⟩:=hmem κ row h1
      rw [hn] at h2
      injection h2 with h2
      exact ⟨row,k,h1,h2,k1,by rw [k2,h2]⟩
     refine ⟨c0,⟨?_,?_,?_,?_,?_,?_,?_,hi.fix,hi.os,hi.tape,hi.output,hi.size,hi.an⟩,⟨?_,hsl.n,hsl.d⟩,hfx⟩
     ·intro κ n hn
      obtain ⟨row,k,h1,rfl,h2,h3⟩:=hmk κ n hn
      obtain ⟨cs,e,fr,p1,p2,p3,p4,p5⟩:=hi.ms k _ h3
      rw [hcmb κ k h2,hcmo κ k h2]
      refine ⟨cs,e,fr,p1,p2,p3,fun i v hlt hv=>?_,p5⟩
      obtain ⟨k',k1,_,k3⟩:=g2 w1 κ row (AG h1)
      have:k'=k:=by
       have:=hrmf κ k' k1
       rw [h2] at this
       injection this with this; exact this.symm
      subst this
      have hrow:row[i]?=some row[i]:=List.getElem?_eq_getElem hlt
      have hmc:(t.injH hs).mc κ i=(row[i]).inj hs:=by simp only [Tpl.injH,h1,hrow]
      rw [hmc]
      exact k3 hfin i _ hrow v (p4 i v hlt hv)
     ·intro κ o ho
      rcases how κ (by rw [ho]; simp) with ⟨k,o',k1,k2,k3⟩ | ⟨k1,e,r,k3⟩
      ·rw [ho] at k3
       injection k3 with k3
       subst k3
       rw [(hchv κ k k1).1,(hchv κ k k1).2]
       exact Rp.mono hK _ _ (hi.ow k o k2)
      ·rw [ho] at k3
       injection k3 with k3
       subst k3
       rw [(hcno κ k1).1,(hcno κ k1).2]
       simp only [Rp]
       exact .inl ⟨trivial,trivial,trivial⟩
     ·intro κ hκ
      rcases how κ hκ with ⟨k,o',k1,k2,k3⟩ | ⟨k1,_⟩
      ·rw [(hchv κ k k1).2]; exact hi.nd k (by rw [k2]; simp)
      ·rw [(hcno κ k1).2]; simp
     ·intro κ κ' hne h1 h2 g hg
      rcases how κ h1 with ⟨k,o1,k1,k2,k3⟩ | ⟨k1,_⟩
      ·rw [(hchv κ k k1).2] at hg
       rcases how κ' h2 with ⟨k',o2,q1,q2,q3⟩ | ⟨q1,_⟩
       ·rw [(hchv κ' k' q1).2]
        have hne':k≠k':=by rintro rfl; exact hne (hinjr κ κ' k k1 q1)
        exact hi.oo k k' hne' (by rw [k2]; simp) (by rw [q2]; simp) g hg
       ·rw [(hcno κ' q1).2]; simp
      ·rw [(hcno κ k1).2] at hg; cases hg
     ·intro κ κ' hne h1 h2
      obtain ⟨n,hn⟩:=Option.ne_none_iff_exists'.1 h1
      obtain ⟨n',hn'⟩:=Option.ne_none_iff_exists'.1 h2
      obtain ⟨_,k,_,_,a1,a2⟩:=hmk κ n hn
      obtain ⟨_,k',_,_,b1,b2⟩:=hmk κ' n' hn'
      rw [hcmb κ k a1,hcmb κ' k' b1]
      have hne':k≠k':=by rintro rfl; exact hne (hinjm κ κ' k a1 b1)
      exact hi.mm k k' hne' (by rw [a2]; simp) (by rw [b2]; simp)
     ·intro κ κ' h1 h2
      obtain ⟨n,hn⟩:=Option.ne_none_iff_exists'.1 h1
      obtain ⟨_,k,_,_,a1,a2⟩:=hmk κ n hn
      rw [hcmb κ k a1]
      rcases how κ' h2 with ⟨k',o2,q1,q2,q3⟩ | ⟨q1,_⟩
      ·rw [(hchv κ' k' q1).2]
       exact hi.mo k k' (by rw [a2]; simp) (by rw [q2]; simp)
      ·rw [(hcno κ' q1).2]; simp
     ·rintro g (⟨κ,hκ,rfl⟩ | ⟨κ,hκ,hg⟩)
      ·obtain ⟨n,hn⟩:=Option.ne_none_iff_exists'.1 hκ
       obtain ⟨_,k,_,_,a1,a2⟩:=hmk κ n hn
       rw [hcmb κ k a1]
       exact hi.fr _ (.inl ⟨k,by rw [a2]; simp,rfl⟩)
      ·rcases how κ hκ with ⟨k,o,k1,k2,k3⟩ | ⟨k1,_⟩
       ·rw [(hchv κ k k1).2] at hg
        exact hi.fr g (.inr ⟨k,by rw [k2]; simp,hg⟩)
       ·rw [(hcno κ k1).2] at hg; cases hg
     ·intro i
      have:=g1 (l2.trans w1) hfin
      cases hfs:find t.slots i with
      | none=>
       have:(t.injH hs).sl i=.no:=by simp only [Tpl.injH,hfs]
       rw [this]; trivial
      | some s=>
       have h1:(t.injH hs).sl i=.s (s.inj hs):=by simp only [Tpl.injH,hfs]
       rw [h1]
       exact this i s (AG hfs) _ (hsl.ok i)
    ·cases hm
   ·cases hm
  ·cases h
 ·cases h
theorem Inv.setLeaf {b:Base} {S:St} {w:World} {c:Cc} (h:Inv b S w c) (k off:Nat) (l:Leaf) (hl:∀ cs e fr v,S.ms k≠none→w.heap[c.mb k]?=some (.cells cs e fr)→cs[c.mo k+off]?=some v→LeafOk S c w (Kok b S c) l v):Inv b (S.up (.mc k off l)) w c:=by
 have ho:(S.up (.mc k off l)).ow=S.ow:=rfl
 have hm:(S.up (.mc k off l)).ms=S.ms:=rfl
 have hk:Kok b (S.up (.mc k off l)) c=Kok b S c:=Fz ho hm
 refine ⟨?_,?_,h.nd,h.oo,h.mm,h.mo,fun g hg=>h.fr g ((Ib ho hm g).1 hg),h.fix,h.os,h.tape,h.output,h.size,h.an⟩
 ·intro k' n hn
  obtain ⟨cs,e,fr,h1,h2,h3,h4,h5⟩:=h.ms k' n hn
  refine ⟨cs,e,fr,h1,h2,h3,fun i v hlt hv=>?_,h5⟩
  rw [hk]
  refine (Hx ho hm _ _).2 ?_
  show LeafOk S c w (Kok b S c) (if k'=k then (if i=off then l else S.mc k' i) else S.mc k' i) v
  split
  ·rename_i hkk
   subst hkk
   split
   ·rename_i hio
    subst hio
    have h1':=h1
    exact hl cs e fr v (by rw [show S.ms k'=some n from hn]; simp) h1' hv
   ·exact h4 i v hlt hv
  ·exact h4 i v hlt hv
 ·intro k' o hk'; rw [hk]; exact h.ow k' o hk'
theorem MH {N:Nat} {S:St} {c:Cc} {w:World} {K:Nat→Prop} {a:Act} (h:Slots N S c w K (a.put none undef)):Slots N S c w K a:=h
theorem Slots.setSlot {N:Nat} {S:St} {c:Cc} {w:World} {K:Nat→Prop} {a:Act} (h:Slots N S c w K a) (i:Nat) (x:SV) (hx:AI S c w K x (a.tmps.getD i undef)):Slots N (S.put i x) c w K a:=by
 have hsv:∀ l v,AI (S.put i x) c w K l v↔AI S c w K l v:=by
  intro l v
  cases l with
  | s y=>exact JN rfl rfl y v
  | tu ys=>
   constructor
   ·rintro ⟨vs,e,hv⟩; exact ⟨vs,e,hv.mono fun y v=>(JN rfl rfl y v).1⟩
   ·rintro ⟨vs,e,hv⟩; exact ⟨vs,e,hv.mono fun y v=>(JN rfl rfl y v).2⟩
  | un=>exact Iff.rfl
  | no=>exact Iff.rfl
 refine ⟨fun j=>?_,h.n,h.d⟩
 rw [hsv]
 show AI S c w K (if j=i then x else S.sl j) _
 split
 ·rename_i e; subst e; exact hx
 ·exact h.ok j
theorem Wv {b:Base} {N:Nat} {S:St} {a:Act} {w:World} {c:Cc} (hi:Inv b S w c) (hsl:Slots N S c w (Kok b S c) a) (hfx:∀ p,p∈b.fx→a.tmps.getD p.1 undef=p.2) (p:Pl) {k:Nat} {win:Option (Nat×Nat)} (hlf:Kh S p=.vw k [] win) :
  ∃ v,LeafOk S c w (Kok b S c) (.vw k [] win) v∧∀ (S':St) (c':Cc) (l':Leaf),S'.ms=S.ms→(c'.mb=c.mb∧c'.mo=c.mo)→Inv b S' w c'→Slots N S' c' w (Kok b S' c') a→(∀ i,S'.sl i=(S.sl i).kp [.all k])→
   LeafOk S' c' w (Kok b S' c') l' v→Sim b N (S'.setAt l' p) a w:=by
 cases p with
 | sl i=>
  simp only [Kh] at hlf
  split at hlf
  ·rename_i l hl
   subst hlf
   have:=hsl.ok i
   rw [hl] at this
   refine ⟨_,this,fun S' c' l' _ _ hi' hsl' _ hlk=>?_⟩
   refine ⟨c',Inv.put (S:=S') rfl rfl rfl hi',?_,hfx⟩
   rw [show Kok b (S'.setAt l' (.sl i)) c'=Kok b S' c' from Fz rfl rfl]
   exact hsl'.setSlot i _ hlk
  ·cases hlf
 | ag i j=>
  simp only [Kh] at hlf
  split at hlf
  ·rename_i ls hl
   have:=hsl.ok i
   rw [hl] at this
   obtain ⟨vs,e,hall⟩:=this
   rw [List.getD_eq_getElem?_getD] at hlf
   cases hj:ls[j]? with
   | none=>rw [hj] at hlf; cases hlf
   | some l=>
    rw [hj] at hlf
    simp only [Option.getD_some] at hlf
    subst hlf
    obtain ⟨v,hvj,hvl⟩:=hall.get hj
    refine ⟨v,hvl,fun S' c' l' _ _ hi' hsl' hsl2 hlk=>?_⟩
    have hS:S'.sl i=.s (.ag (ls.map (Leaf.kp [.all k]))):=by rw [hsl2,hl]; rfl
    simp only [St.setAt,hS]
    refine ⟨c',Inv.put (S:=S') rfl rfl rfl hi',?_,hfx⟩
    rw [show Kok b (S'.put i (.s (.ag ((ls.map (Leaf.kp [.all k])).set j l')))) c'=Kok b S' c' from Fz rfl rfl]
    refine hsl'.setSlot i _ ?_
    have h2:=hsl'.ok i
    rw [hS] at h2
    obtain ⟨vs',e',hall'⟩:=h2
    have hvs:vs'=vs:=by
     have:=e'.symm.trans e
     injection this with this
     exact List.toArray_inj this
    subst hvs
    have hset:=hall'.set j hlk
    have:vs'.set j v=vs':=by
     apply List.ext_getElem?
     intro m
     rw [List.getElem?_set]
     split
     ·rename_i hm
      subst hm
      split
      ·exact hvj.symm
      ·rename_i hlt
       exact absurd (List.getElem?_eq_some_iff.1 hvj).1 hlt
     ·rfl
    rw [this] at hset
    exact ⟨vs',e',hset⟩
  ·cases hlf
 | mc k0 c0=>
  simp only [Kh] at hlf
  split at hlf
  ·rename_i m hm
   split at hlf
   ·rename_i hlt
    obtain ⟨cs,e,fr,h1,h2,h3,h4,_⟩:=hi.ms k0 m hm
    have hc:cs[c.mo k0+c0]?=some cs[c.mo k0+c0]:=Array.getElem?_eq_getElem (by omega)
    have:=h4 c0 _ hlt hc
    rw [hlf] at this
    refine ⟨_,this,fun S' c' l' e1 e2 hi' hsl' _ hlk=>?_⟩
    refine ⟨c',hi'.setLeaf k0 c0 _ ?_,?_,hfx⟩
    ·intro cs' e' fr' v' _ hh hv'
     rw [e2.1,h1] at hh
     injection hh with hh
     injection hh with hh _ _
     subst hh
     rw [e2.2,hc] at hv'
     injection hv' with hv'
     rw [← hv']; exact hlk
    ·rw [show Kok b (S'.setAt l' (.mc k0 c0)) c'=Kok b S' c' from Fz rfl rfl]
     refine ⟨fun i=>?_,hsl'.n,hsl'.d⟩
     have:=hsl'.ok i
     show AI (S'.up (.mc k0 c0 _)) c' w _ (S'.sl i) _
     cases hx:S'.sl i with
     | s y=>rw [hx] at this; exact (JN rfl rfl y _).2 this
     | tu ys=>
      rw [hx] at this
      obtain ⟨vs,e,hv⟩:=this
      exact ⟨vs,e,hv.mono fun y v=>(JN rfl rfl y v).2⟩
     | un=>rw [hx] at this; exact this
     | no=>trivial
   ·cases hlf
  ·cases hlf
 | pt i ts=>simp [Kh] at hlf
theorem Inv.drop {b:Base} {S:St} {w:World} {c:Cc} (hi:Inv b S w c) (k:Nat):Inv b (S.drop k) w c∧Stay S (S.drop k) c c w w (Kok b S c) (Kok b (S.drop k) c) [.m k]∧∀ n,S.ms k=some n→Kok b (S.drop k) c (c.mb k):=by
 have hms:∀ i,(S.drop k).ms i=if i=k then none else S.ms i:=fun i=>rfl
 have how:(S.drop k).ow=S.ow:=rfl
 have hmc:∀ a i,(S.drop k).mc a i=(S.mc a i).kp [.m k]:=fun a i=>Dh S [.m k] a i
 have hown:∀ g,Ce (S.drop k) c g→Ce S c g:=by
  rintro g (⟨k',hk',rfl⟩ | ⟨k',hk',hg⟩)
  ·rw [hms] at hk'
   split at hk'
   ·exact absurd rfl hk'
   ·exact .inl ⟨k',hk',rfl⟩
  ·exact .inr ⟨k',hk',hg⟩
 have kk:KSame w w (Kok b S c) (Kok b (S.drop k) c):=⟨Nat.le_refl _,fun g hg _=>⟨rfl,hg.1,fun h=>hg.2 (hown g h)⟩⟩
 have stay:Stay S (S.drop k) c c w w (Kok b S c) (Kok b (S.drop k) c) [.m k]:=by
  refine Stay.of hi (fun k' o ho=>.inr (.inl ⟨ho,rfl,fun _ _=>rfl⟩)) (fun k' n hn=>?_) kk
  by_cases hk:k'=k
  ·subst hk; exact .inl (by simp)
  ·exact .inr ⟨by rw [hms,if_neg hk]; exact hn,rfl,rfl⟩
 refine ⟨⟨?_,?_,hi.nd,hi.oo,?_,?_,?_,hi.fix,hi.os,hi.tape,hi.output,hi.size,hi.an⟩,stay,?_⟩
 ·intro k' n hn
  rw [hms] at hn
  split at hn
  ·cases hn
  ·obtain ⟨cs,e,fr,h1,h2,h3,h4,h5⟩:=hi.ms k' n hn
   exact ⟨cs,e,fr,h1,h2,h3,fun i v hlt hv=>by rw [hmc]; exact stay.leaf (h4 i v hlt hv),h5⟩
 ·intro k' o ho
  exact Rp.frame kk _ _ (hi.ow k' o ho) fun _ _=>rfl
 ·intro k1 k2 hne h1 h2
  rw [hms] at h1 h2
  split at h1
  ·exact absurd rfl h1
  ·split at h2
   ·exact absurd rfl h2
   ·exact hi.mm k1 k2 hne h1 h2
 ·intro k1 k2 h1 h2
  rw [hms] at h1
  split at h1
  ·exact absurd rfl h1
  ·exact hi.mo k1 k2 h1 h2
 ·exact fun g hg=>hi.fr g (hown g hg)
 ·intro n hn
  have hko:S.ms k≠none:=by rw [hn]; simp
  refine ⟨.inr (hi.fr _ (.inl ⟨k,hko,rfl⟩)).2,?_⟩
  rintro (⟨k',hk',he⟩ | ⟨k',hk',hg⟩)
  ·rw [hms] at hk'
   split at hk'
   ·exact absurd rfl hk'
   ·rename_i hne
    exact hi.mm k' k hne hk' hko he
  ·exact hi.mo k k' hko hk' hg
theorem T8 {S:St} {c:Cc} {w:World} {K:Nat→Prop} (k:Nat):∀ (ts:List Ty) (i:Nat) (vs:List Value) {ls:List Ae},vs.length=ts.length→(∀ j v,vs[j]?=some v→LeafOk S c w K (S.mc k (i+j)) v)→J3 S k ts i=some ls→FL (ALOk w K) ls vs []
 | [],i,vs,ls,hl,_,h=>by
  simp only [J3,Option.some.injEq] at h
  subst h
  obtain rfl:vs=[]:=List.eq_nil_of_length_eq_zero hl
  exact ⟨rfl,rfl⟩
 | t::ts,i,[],ls,hl,_,_=>by simp at hl
 | t::ts,i,v::vs,ls,hl,hc,h=>by
  have ih:∀ {ls'},J3 S k ts (i+1)=some ls'→FL (ALOk w K) ls' vs []:=fun h'=>T8 k ts (i+1) vs (by simpa using hl) (fun j v hv=>by
   have:=hc (j+1) v (by simpa using hv)
   rwa [show i+(j+1)=i+1+j by omega] at this) h'
  have h0:=hc 0 v rfl
  rw [Nat.add_zero] at h0
  simp only [J3] at h
  split at h
  ·rename_i u x he
   rw [he] at h0
   split at h
   ·rename_i ls' hls'
    injection h with h
    subst h
    exact ⟨v,vs,[],[],rfl,rfl,⟨h0,fun _=>rfl⟩,ih hls'⟩
   ·cases h
  ·rename_i he
   rw [he] at h0
   obtain rfl:v=.slice none 0 0:=h0
   split at h
   ·split at h
    ·rename_i ls' hls'
     injection h with h
     subst h
     refine ⟨_,vs,[],[],rfl,rfl,⟨?_,fun _=>rfl⟩,ih hls'⟩
     rw [Rp]
     exact ⟨rfl,none,0,[],rfl,Nat.le_refl _,⟨rfl,rfl⟩,.inl rfl⟩
    ·cases h
   ·cases h
  ·cases h
theorem Zu {b:Base} {N:Nat} {S:St} {a:Act} {w:World} (p:Pl) (hs:Sim b N S a w):Sim b N (SW S p) a w:=by
 unfold SW
 split
 ·rename_i k lo n hlf
  split
  ·rename_i o ho
   obtain ⟨c,hi,hsl,hfx⟩:=hs
   obtain ⟨v,hv,hplace⟩:=Wv hi hsl hfx p hlf
   obtain ⟨o0,e,r,ys,hd,q1,q2,q3,q4⟩:=hv
   obtain rfl:o=o0:=by rw [ho] at q1; injection q1
   simp only [Al,Tr.run,Option.some.injEq] at q2
   injection q2 with ha hb
   injection ha with _ he hr
   obtain ⟨oe,or,oxs⟩:=o
   simp only at he hr hb
   subst he hr
   obtain rfl:=eq_of_heq hb
   simp only [hdr,Option.some.injEq] at q3
   subst q3
   obtain ⟨F2,g1,g2,g3⟩:=S6 (hi.ow k _ ho) (hi.nd k (by rw [ho]; simp)) q4
   generalize hS:(S.kp [.all k]).up (.ow k (some ⟨oe,or,(oxs.drop lo).take n⟩))=S'
   obtain ⟨c',e1,e2,_,e4,e5,_⟩:=hi.setOwn (S':=S') (w':=w) k ⟨oe,or,(oxs.drop lo).take n⟩ [] [.all k] v F2
    (by intro k'; rw [← hS]; show (if k'=k then _ else (S.kp _).ow k')=_; rw [DM]; simp)
    (by rw [← hS]; exact Dd S _) (by intro k' i; rw [← hS]; exact Dh S [.all k] k' i) (fun k hk=>by cases hk) (fun _ _=>.inl (by simp)) (Step.refl _ _)
    (fun g hg=>⟨(hi.fr g (.inr ⟨k,by rw [ho]; simp,g2 g hg⟩)).1,.inl ⟨k,.inl rfl,by rw [ho]; simp,g2 g hg⟩⟩) g3
    (fun K' hK _=>Rp.frame ⟨Nat.le_refl _,fun g hg hlt=>⟨rfl,(hK.2 g hg hlt).2⟩⟩ _ _ g1 fun g _=>rfl)
   have hsl':Slots N S' c' w (Kok b S' c') a:=MH (e5.slots hsl (by intro i; rw [← hS]; exact GX S [.all k] i) none .no undef (fun _ h=>by cases h) trivial (fun _ _=>Iff.rfl) (fun _ _=>Iff.rfl))
   have how:S'.ow k=some ⟨oe,or,(oxs.drop lo).take n⟩:=by rw [← hS]; show (if k=k then _ else _)=_; rw [if_pos rfl]
   exact hplace S' c' (.vw k [] none) (by rw [← hS]; exact Dd S _) e1 e4 hsl' (by intro i; rw [← hS]; exact GX S [.all k] i) ⟨_,oe,or,_,v,how,rfl,by rw [e2]; rfl,rfl⟩
  ·exact hs
 ·exact hs
theorem Ur {b:Base} {N:Nat} {a:Act} {w:World}:∀ (ps:List Pl) {S:St},Sim b N S a w→Sim b N (VH S ps) a w
 | [],_,hs=>hs
 | p::ps,_,hs=>Ur ps (Zu p hs)
theorem Zn {b:Base} {N:Nat} {S:St} {a:Act} {w:World} (p:Pl) (hs:Sim b N S a w):Sim b N (S7 S p) a w:=by
 unfold S7
 split
 ·rename_i k hlf
  split
  ·rename_i o ho
   obtain ⟨c,hi,hsl,hfx⟩:=hs
   obtain ⟨v,hv,hplace⟩:=Wv hi hsl hfx p hlf
   obtain ⟨o0,e,r,ys,hd,q1,q2,q3,q4⟩:=hv
   simp only [hdr,Option.some.injEq] at q3
   obtain rfl:v=hd:=q4
   subst q3
   generalize hS:(S.kp [.all k]).up (.ow k none)=S'
   obtain ⟨c',e1,_,e4,e5,hfree⟩:=hi.many (S':=S') (w':=w) (fun _=>none) [k] [] [.all k]
    (by intro k'; rw [← hS]; show (if k'=k then _ else (S.kp _).ow k')=_; rw [DM]; simp)
    (by rw [← hS]; exact Dd S _) (by intro k' i _; rw [← hS]; exact Dh S [.all k] k' i) (fun k' o _ hk'=>.inl (hk'.elim (fun h=>by rw [List.mem_singleton.1 h]; simp) fun h=>absurd rfl h))
    (Step.refl _ _) (fun _ _ h=>by cases h) (fun _ _ h=>by cases h) (fun _ _ _ _ _ h=>by cases h) (fun _ _ _ _ _ h=>by cases h) (fun _ _ _ _ _ _ _ _ _ h=>by cases h)
   have hsl':Slots N S' c' w (Kok b S' c') a:=MH (e5.slots hsl (by intro i; rw [← hS]; exact GX S [.all k] i) none .no undef (fun _ h=>by cases h) trivial (fun _ _=>Iff.rfl) (fun _ _=>Iff.rfl))
   refine hplace S' c' _ (by rw [← hS]; exact Dd S _) e1 e4 hsl' (by intro i; rw [← hS]; exact GX S [.all k] i) ?_
   exact Rp.frz (fun g hlt hg=>(e5.kk.2 g hg hlt).2) _ _ (hi.ow k o ho) fun g hg=>hfree g (.inr ⟨k,by simp,by rw [ho]; simp,hg⟩) (fun _ _ h=>by cases h)
  ·exact hs
 ·exact hs
theorem Zb {b:Base} {N:Nat} {S:St} {a:Act} {w:World} (p:Pl) (hs:Sim b N S a w):Sim b N (SU S p) a w:=by
 unfold SU
 split
 ·rename_i i ts
  split
  ·rename_i k hsl0
   split
   ·rename_i n ls hn hls
    split
    ·rename_i hlen
     obtain ⟨c,hi,hsl,hfx⟩:=hs
     obtain ⟨h1,h2,h3⟩:=hi.drop k
     have hsl':Slots N (S.drop k) c w (Kok b (S.drop k) c) a:=MH (h2.slots hsl (by intro i; exact GX S [.m k] i) none .no undef (fun _ h=>by cases h) trivial (fun _ _=>Iff.rfl) (fun _ _=>Iff.rfl))
     have hv:=hsl.ok i
     rw [hsl0] at hv
     obtain ⟨n',hn',hv⟩:=hv
     obtain ⟨cs,e,fr,g1,g2,g3,g4,_⟩:=hi.ms k n hn
     have hlt:c.mb k < w.heap.size:=DB g1
     have hwl:((cs.toList.drop (c.mo k)).take ts.length).length=ts.length:=by
      rw [List.length_take,List.length_drop,Array.length_toList (xs:=cs)]; omega
     have hwg:∀ j,j < ts.length→((cs.toList.drop (c.mo k)).take ts.length)[j]?=cs[c.mo k+j]?:=by
      intro j hj
      rw [List.getElem?_take_of_lt hj,List.getElem?_drop,Array.getElem?_toList]
     have hfl:=T8 (S:=S) (c:=c) (w:=w) (K:=Kok b S c) k ts 0 _ hwl (fun j v hv=>by
      have hj:j < ts.length:=by rw [← hwl]; exact (List.getElem?_eq_some_iff.1 hv).1
      rw [hwg j hj] at hv
      rw [Nat.zero_add]
      exact g4 j v (by omega) hv) hls
     refine ⟨c,Inv.put (S:=S.drop k) rfl rfl rfl h1,?_,hfx⟩
     rw [show Kok b ((S.drop k).put i (.s (.one (.v (.pt (BF ls).1) (some (BF ls).2))))) c=Kok b (S.drop k) c from Fz rfl rfl]
     refine hsl'.setSlot i _ ?_
     rw [hv]
     show Rp w _ (.pt (BF ls).1) (some (BF ls).2) _ _
     simp only [Rp]
     refine ⟨trivial,⟨c.mb k,c.mo k+0,none⟩,_,rfl,Lh _ (hfl.mono fun _ _ _ h=>ALOk.mono (fun g hg hk=>(h2.kk.2 g hk hg).2) h),h3 n hn,hlt,fun j hj=>?_⟩
     rw [AT,AV g1,Nat.add_zero]
     exact (hwg j (by omega)).symm
    ·exact hs
   ·exact hs
  ·exact hs
 ·exact Zn p hs
theorem Ug {b:Base} {N:Nat} {a:Act} {w:World}:∀ (ps:List Pl) {S:St},Sim b N S a w→Sim b N (V4 S ps) a w
 | [],_,hs=>hs
 | p::ps,_,hs=>Ug ps (Zb p hs)
theorem Tpl.ok {b:Base} {N:Nat} {S:St} {a:Act} {w:World} (t:Tpl) {x:t.D} (h:t.prj S=some x) (hs:Sim b N S a w):Sim b N (t.inj x) a w:=
 t.ok0 h (Ug t.fz (Ur t.nw hs))
end Go.V
namespace Go.V
theorem YN (E:Env) (ρ ρ':Operand→SV) (d:Nat) (op:Op) (h:∀ x,x∈op.operands.toList→ρ x=ρ' x):Ji E ρ d op=Ji E ρ' d op:=by
 have pairs:∀ ps:List (Nat×Operand),(∀ x,x∈ps.map (·.2)→ρ x=ρ' x)→(ps.map fun p=>(p.1,ρ p.2))=ps.map fun p=>(p.1,ρ' p.2):=fun ps hp=>
  List.map_congr_left fun p hm=>by rw [hp p.2 (List.mem_map.2 ⟨p,hm,rfl⟩)]
 cases op
 case build t ps=>simp only [Ji,pairs ps.toList fun x hx=>h x (by simpa [Op.operands] using hx)]
 case buildSlice t n ps=>simp only [Ji,pairs ps.toList fun x hx=>h x (by simpa [Op.operands] using hx)]
 case slice t x lo hi mx=>
  simp only [Op.operands] at h
  have h1:ρ x=ρ' x:=h x (by simp)
  have h2:lo.map ρ=lo.map ρ':=by cases lo with | none=>rfl | some y=>simp only [Option.map_some]; rw [h y (by simp)]
  have h3:hi.map ρ=hi.map ρ':=by cases hi with | none=>rfl | some y=>simp only [Option.map_some]; rw [h y (by simp)]
  have h4:mx.map ρ=mx.map ρ':=by cases mx with | none=>rfl | some y=>simp only [Option.map_some]; rw [h y (by simp)]
  simp only [Ji,h1,h2,h3,h4]
 case makeFunc f first cs=>
  have hcs:cs.toList.map ρ=cs.toList.map ρ':=List.map_congr_left fun x hx=>h x (by
   simp only [Op.operands,Array.toList_append,List.mem_append]; exact .inr hx)
  cases f with
  | func f=>simp only [Ji,hcs]
  | _=>rfl
 case call c=>
  obtain ⟨cal,as,ts⟩:=c
  have has:as.toList.map ρ=as.toList.map ρ':=List.map_congr_left fun x hx=>h x (by
   cases cal <;> simp [Op.operands,Call.operands] <;> simp [Array.mem_toList_iff.1 hx])
  cases cal with
  | value f=>
   have hf:ρ f=ρ' f:=h f (by simp [Op.operands,Call.operands])
   simp only [Ji,has,hf]
  | invoke r m=>rfl
  | builtin b=>cases b <;> simp only [Ji,has]
 all_goals first
  | rfl
  | (simp only [Op.operands,List.mem_cons,List.not_mem_nil,or_false,forall_eq_or_imp,forall_eq] at h; simp only [Ji,h]; done)
def Ag (S S':St) (l:List Lg):Prop:=∀ x,x∈l→match x with | .o k=>S.ow k=S'.ow k | .c k off _=>S.mc k off=S'.mc k off | .m k=>S.ms k=S'.ms k
theorem WJ {α:Type} (S:St) (t:Tr α):∀ (g:List Lg) {x:α} {l:List Lg},(t.at S g).run=some (x,l)→∀ y,y∈g→y∈l:=by
 induction t with
 | ret a=>intro g x l h; simp only [Tr.at,Tr.run,Option.some.injEq,Prod.mk.injEq] at h; rw [← h.2]; exact fun _ h=>h
 | fail=>intro g x l h; simp [Tr.at,Tr.run] at h
 | br c t e ih1 ih2=>
  intro g x l h
  simp only [Tr.at,Tr.run] at h
  split at h
  ·exact ih1 g h
  ·exact ih2 g h
 | get γ o f ih=>
  intro g x l h
  simp only [Tr.at,CY,Option.bind_eq_some_iff] at h
  obtain ⟨b,hb,h⟩:=h
  exact ih b g h
 | alt γ δ s f f' ih1 ih2=>
  intro g x l h
  cases s with
  | inl b=>exact ih1 b g h
  | inr b=>exact ih2 b g h
 | rdO k f ih=>intro g x l h y hy; exact ih _ _ h y (List.mem_cons_of_mem _ hy)
 | rdC k off f ih=>intro g x l h y hy; exact ih _ _ h y (List.mem_cons_of_mem _ hy)
 | rdM k f ih=>intro g x l h y hy; exact ih _ _ h y (List.mem_cons_of_mem _ hy)
theorem Abm {α:Type} (S S':St) (t:Tr α):∀ (g:List Lg) {x:α} {l:List Lg},(t.at S g).run=some (x,l)→Ag S S' l→(t.at S' g).run=some (x,l):=by
 induction t with
 | ret a=>intro g x l h _; exact h
 | fail=>intro g x l h; simp [Tr.at,Tr.run] at h
 | br c t e ih1 ih2=>
  intro g x l h ha
  simp only [Tr.at,Tr.run] at h ⊢
  split at h
  ·rename_i hc; rw [if_pos hc]; exact ih1 g h ha
  ·rename_i hc; rw [if_neg hc]; exact ih2 g h ha
 | get γ o f ih=>
  intro g x l h ha
  simp only [Tr.at,CY,Option.bind_eq_some_iff] at h ⊢
  obtain ⟨b,hb,h⟩:=h
  exact ⟨b,hb,ih b g h ha⟩
 | alt γ δ s f f' ih1 ih2=>
  intro g x l h ha
  cases s with
  | inl b=>exact ih1 b g h ha
  | inr b=>exact ih2 b g h ha
 | rdO k f ih=>
  intro g x l h ha
  replace h:((f (S.ow k)).at S (.o k::g)).run=some (x,l):=h
  have:S.ow k=S'.ow k:=ha _ (WJ S _ _ h (.o k) (by simp))
  show ((f (S'.ow k)).at S' (.o k::g)).run=_
  rw [← this]
  exact ih _ _ h ha
 | rdC k off f ih=>
  intro g x l h ha
  replace h:((f (S.mc k off)).at S (.c k off (S.mc k off)::g)).run=some (x,l):=h
  have:S.mc k off=S'.mc k off:=ha _ (WJ S _ _ h (.c k off (S.mc k off)) (by simp))
  show ((f (S'.mc k off)).at S' (.c k off (S'.mc k off)::g)).run=_
  rw [← this]
  exact ih _ _ h ha
 | rdM k f ih=>
  intro g x l h ha
  replace h:((f (S.ms k)).at S (.m k::g)).run=some (x,l):=h
  have:S.ms k=S'.ms k:=ha _ (WJ S _ _ h (.m k) (by simp))
  show ((f (S'.ms k)).at S' (.m k::g)).run=_
  rw [← this]
  exact ih _ _ h ha
def AbC (S:St) (l:List Lg):Prop:=∀ k off x,Lg.c k off x∈l→S.mc k off=x
theorem AcQ {α:Type} (S:St) (t:Tr α):∀ (g:List Lg) {x:α} {l:List Lg},AbC S g→(t.at S g).run=some (x,l)→AbC S l:=by
 induction t with
 | ret a=>intro g x l hg h; simp only [Tr.at,Tr.run,Option.some.injEq,Prod.mk.injEq] at h; rw [← h.2]; exact hg
 | fail=>intro g x l _ h; simp [Tr.at,Tr.run] at h
 | br c t e ih1 ih2=>
  intro g x l hg h
  simp only [Tr.at,Tr.run] at h
  split at h
  ·exact ih1 g hg h
  ·exact ih2 g hg h
 | get γ o f ih=>
  intro g x l hg h
  simp only [Tr.at,CY,Option.bind_eq_some_iff] at h
  obtain ⟨b,hb,h⟩:=h
  exact ih b g hg h
 | alt γ δ s f f' ih1 ih2=>
  intro g x l hg h
  cases s with
  | inl b=>exact ih1 b g hg h
  | inr b=>exact ih2 b g hg h
 | rdO k f ih=>intro g x l hg h; exact ih _ _ (fun k' o' x' hx=>by rcases List.mem_cons.1 hx with hx | hx; cases hx; exact hg _ _ _ hx) h
 | rdC k off f ih=>intro g x l hg h; exact ih _ _ (fun k' o' x' hx=>by
   rcases List.mem_cons.1 hx with hx | hx
   ·injection hx with e1 e2 e3; subst e1 e2 e3; rfl
   ·exact hg _ _ _ hx) h
 | rdM k f ih=>intro g x l hg h; exact ih _ _ (fun k' o' x' hx=>by rcases List.mem_cons.1 hx with hx | hx; cases hx; exact hg _ _ _ hx) h
theorem Leaf.kp_kp (c c':List Kl) (l:Leaf):(l.kp c).kp c'=(l.kp c').kp c:=by
 cases l with
 | vw k st win=>
  by_cases h1:c.all (fun x=>x.okV k st)=true <;> by_cases h2:c'.all (fun x=>x.okV k st)=true <;> simp only [Leaf.kp,h1,h2,if_true] <;> rfl
 | p k off=>by_cases h1:c.all (fun x=>x.okM k)=true <;> by_cases h2:c'.all (fun x=>x.okM k)=true <;> simp only [Leaf.kp,h1,h2,if_true] <;> rfl
 | _=>rfl
theorem S1.kp_kp (c c':List Kl) (x:S1):(x.kp c).kp c'=(x.kp c').kp c:=by
 cases x with
 | one l=>simp only [S1.kp,Leaf.kp_kp c c' l]
 | ag ls=>simp only [S1.kp,List.map_map]; congr 1; apply List.map_congr_left; intro l _; exact Leaf.kp_kp c c' l
 | pl k off=>by_cases h1:c.all (fun x=>x.okM k)=true <;> by_cases h2:c'.all (fun x=>x.okM k)=true <;> simp only [S1.kp,h1,h2,if_true] <;> rfl
 | el k st=>by_cases h1:c.all (fun x=>x.okE k st)=true <;> by_cases h2:c'.all (fun x=>x.okE k st)=true <;> simp only [S1.kp,h1,h2,if_true] <;> rfl
 | rp t x off=>rfl
 | fv f cs=>by_cases h1:c.all (fun x=>cs.all fun p=>x.okM p.1)=true <;> by_cases h2:c'.all (fun x=>cs.all fun p=>x.okM p.1)=true <;> simp only [S1.kp,h1,h2,if_true] <;> rfl
theorem SV.kp_kp (c c':List Kl) (x:SV):(x.kp c).kp c'=(x.kp c').kp c:=by
 cases x with
 | s x=>simp only [SV.kp,S1.kp_kp c c' x]
 | tu xs=>simp only [SV.kp,List.map_map]; congr 1; apply List.map_congr_left; intro l _; exact S1.kp_kp c c' l
 | un=>rfl
 | no=>rfl
theorem Leaf.kp_safe {c:List Kl} {l:Leaf} (h:l.safe c=true):l.kp c=l:=by
 cases l with
 | vw k st win=>simp only [Leaf.safe] at h; simp only [Leaf.kp,h,if_true]
 | p k off=>simp only [Leaf.safe] at h; simp only [Leaf.kp,h,if_true]
 | _=>rfl
theorem IV {α:Type} {f:α→α}:∀ {l:List α},(∀ x,x∈l→f x=x)→l.map f=l
 | [],_=>rfl
 | x::l,h=>by rw [List.map_cons,h x (by simp),IV fun y hy=>h y (by simp [hy])]
theorem S1.kp_safe {c:List Kl} {x:S1} (h:x.safe c=true):x.kp c=x:=by
 cases x with
 | one l=>simp only [S1.safe] at h; simp only [S1.kp,Leaf.kp_safe h]
 | ag ls=>simp only [S1.safe,List.all_eq_true] at h; simp only [S1.kp]; rw [IV fun l hl=>Leaf.kp_safe (h l hl)]
 | pl k off=>simp only [S1.safe] at h; simp only [S1.kp,h,if_true]
 | el k st=>simp only [S1.safe] at h; simp only [S1.kp,h,if_true]
 | rp t x off=>rfl
 | fv f cs=>simp only [S1.safe] at h; simp only [S1.kp,h,if_true]
theorem SV.kp_safe {c:List Kl} {x:SV} (h:x.safe c=true):x.kp c=x:=by
 cases x with
 | s x=>simp only [SV.safe] at h; simp only [SV.kp,S1.kp_safe h]
 | tu xs=>simp only [SV.safe,List.all_eq_true] at h; simp only [SV.kp]; rw [IV fun l hl=>S1.kp_safe (h l hl)]
 | un=>rfl
 | no=>rfl
theorem Leaf.kp_whole {c:List Kl} {l:Leaf} (h:(l.kp c).whole=true):l.kp c=l:=by
 cases l with
 | vw k st win=>
  simp only [Leaf.kp] at h ⊢
  split
  ·rfl
  ·rename_i hc; rw [if_neg hc] at h; cases h
 | p k off=>
  simp only [Leaf.kp] at h ⊢
  split
  ·rfl
  ·rename_i hc; rw [if_neg hc] at h; cases h
 | _=>rfl
theorem S1.kp_whole {c:List Kl} {x:S1} (h:(x.kp c).whole=true):x.kp c=x:=by
 cases x with
 | one l=>simp only [S1.kp,S1.whole] at h ⊢; rw [Leaf.kp_whole h]
 | ag ls=>
  simp only [S1.kp,S1.whole,List.all_eq_true] at h ⊢
  rw [IV fun l hl=>Leaf.kp_whole (h (l.kp c) (List.mem_map.2 ⟨l,hl,rfl⟩))]
 | pl k off=>
  simp only [S1.kp] at h ⊢
  split
  ·rfl
  ·rename_i hc; rw [if_neg hc] at h; cases h
 | el k st=>
  simp only [S1.kp] at h ⊢
  split
  ·rfl
  ·rename_i hc; rw [if_neg hc] at h; cases h
 | rp t x off=>rfl
 | fv f cs=>
  simp only [S1.kp] at h ⊢
  split
  ·rfl
  ·rename_i hc; rw [if_neg hc] at h; cases h
theorem SV.kp_whole {c:List Kl} {x:SV} (h:(x.kp c).whole=true):x.kp c=x:=by
 cases x with
 | s x=>simp only [SV.kp,SV.whole] at h ⊢; rw [S1.kp_whole h]
 | tu xs=>
  simp only [SV.kp,SV.whole,List.all_eq_true] at h ⊢
  rw [IV fun l hl=>S1.kp_whole (h (l.kp c) (List.mem_map.2 ⟨l,hl,rfl⟩))]
 | un=>rfl
 | no=>rfl
theorem St.ext' {S S':St} (h1:∀ i,S.sl i=S'.sl i) (h2:∀ k,S.ms k=S'.ms k) (h3:∀ k i,S.mc k i=S'.mc k i) (h4:∀ k,S.ow k=S'.ow k):S=S':=by
 obtain ⟨a,b,c,d⟩:=S
 obtain ⟨a',b',c',d'⟩:=S'
 simp only at h1 h2 h3 h4
 rw [funext h1,funext h2,funext h4,show c=c' from funext fun k=>funext fun i=>h3 k i]
theorem St.kp_kp (S:St) (c c':List Kl):(S.kp c).kp c'=(S.kp c').kp c:=
 St.ext' (fun i=>by simp only [GX,SV.kp_kp c c']) (fun k=>by simp only [Dd]) (fun k i=>by simp only [Dh,Leaf.kp_kp c c']) (fun k=>by simp only [DM])
theorem Aep (S:St) (c:List Kl) {u:U} (h:u.safe c=true):(S.up u).kp c=(S.kp c).up u:=by
 have hsl:∀ i,((S.up u).kp c).sl i=((S.kp c).up u).sl i:=by
  intro i
  rw [GX]
  have e1:(S.up u).sl i=S.sl i:=by cases u <;> rfl
  have e2:((S.kp c).up u).sl i=(S.kp c).sl i:=by cases u <;> rfl
  rw [e1,e2,GX]
 cases u with
 | ow k o=>
  refine St.ext' hsl (fun i=>?_) (fun i j=>?_) (fun i=>?_)
  ·rw [Dd]; show S.ms i=(S.kp c).ms i; rw [Dd]
  ·rw [Dh]; show (S.mc i j).kp c=(S.kp c).mc i j; rw [Dh]
  ·rw [DM]; show (if i=k then o else S.ow i)=(if i=k then o else (S.kp c).ow i); rw [DM]
 | mc k off l=>
  refine St.ext' hsl (fun i=>?_) (fun i j=>?_) (fun i=>?_)
  ·rw [Dd]; show S.ms i=(S.kp c).ms i; rw [Dd]
  ·rw [Dh]
   show (if i=k then (if j=off then l else S.mc i j) else S.mc i j).kp c=(if i=k then (if j=off then l else (S.kp c).mc i j) else (S.kp c).mc i j)
   rw [Dh]
   split
   ·split
    ·exact Leaf.kp_safe h
    ·rfl
   ·rfl
  ·rw [DM]; show S.ow i=(S.kp c).ow i; rw [DM]
 | ms k row=>
  refine St.ext' hsl (fun i=>?_) (fun i j=>?_) (fun i=>?_)
  ·rw [Dd]; show (if i=k then some row.length else S.ms i)=(if i=k then some row.length else (S.kp c).ms i); rw [Dd]
  ·rw [Dh]
   show (if i=k then row.getD j .no else S.mc i j).kp c=(if i=k then row.getD j .no else (S.kp c).mc i j)
   rw [Dh]
   split
   ·simp only [U.safe,List.all_eq_true] at h
    rw [List.getD_eq_getElem?_getD]
    cases hr:row[j]? with
    | none=>rfl
    | some l=>exact Leaf.kp_safe (h l (List.mem_of_getElem? hr))
   ·rfl
  ·rw [DM]; show S.ow i=(S.kp c).ow i; rw [DM]
theorem VE (c:List Kl):∀ (us:List U) (S:St),us.all (U.safe c)=true→(S.ups us).kp c=(S.kp c).ups us
 | [],_,_=>rfl
 | u::us,S,h=>by
  simp only [List.all_cons,Bool.and_eq_true] at h
  show ((S.up u).ups us).kp c=((S.kp c).up u).ups us
  rw [VE c us _ h.2,Aep S c h.1]
theorem Aes (S:St) {u v:U} (h:u.meets v=false):(S.up u).up v=(S.up v).up u:=by
 cases u <;> cases v <;> simp only [U.meets,Bool.and_eq_false_iff,beq_eq_false_iff_ne] at h <;> (refine St.ext' (fun i=>rfl) (fun i=>?_) (fun i j=>?_) (fun i=>?_)) <;> simp only [St.up] <;> (repeat' split) <;> simp_all
theorem Aaa {u:U}:∀ (vs:List U) (S:St),vs.all (fun v=>!u.meets v)=true→(S.up u).ups vs=(S.ups vs).up u
 | [],_,_=>rfl
 | v::vs,S,h=>by
  simp only [List.all_cons,Bool.and_eq_true,Bool.not_eq_true'] at h
  show ((S.up u).up v).ups vs=((S.up v).ups vs).up u
  rw [Aes S h.1,Aaa vs _ (by simpa using h.2)]
theorem XZ:∀ (us vs:List U) (S:St),us.all (fun u=>vs.all fun v=>!u.meets v)=true→(S.ups us).ups vs=(S.ups vs).ups us
 | [],_,_,_=>rfl
 | u::us,vs,S,h=>by
  simp only [List.all_cons,Bool.and_eq_true] at h
  show ((S.up u).ups us).ups vs=((S.ups vs).up u).ups us
  rw [XZ us vs _ (by simpa using h.2),Aaa vs S h.1]
theorem X3 (S:St) (d:Option Nat) (x:SV) (c:List Kl) (h:x.safe c=true):(S.putO d x).kp c=(S.kp c).putO d x:=by
 cases d with
 | none=>rfl
 | some d=>
  refine St.ext' (fun i=>?_) (fun i=>?_) (fun i j=>?_) (fun i=>?_)
  ·rw [GX]
   show (if i=d then x else S.sl i).kp c=(if i=d then x else (S.kp c).sl i)
   rw [GX]
   split
   ·exact SV.kp_safe h
   ·rfl
  ·rw [Dd]; show S.ms i=(S.kp c).ms i; rw [Dd]
  ·rw [Dh]; show (S.mc i j).kp c=(S.kp c).mc i j; rw [Dh]
  ·rw [DM]; show S.ow i=(S.kp c).ow i; rw [DM]
theorem Ac1 (S:St) (d:Option Nat) (x:SV) (u:U):(S.putO d x).up u=(S.up u).putO d x:=by
 cases d <;> cases u <;> rfl
theorem Qr (d:Option Nat) (x:SV):∀ (us:List U) (S:St),(S.putO d x).ups us=(S.ups us).putO d x
 | [],_=>rfl
 | u::us,S=>by
  show ((S.putO d x).up u).ups us=((S.up u).ups us).putO d x
  rw [Ac1,Qr d x us]
theorem Aah (S:St) (d e:Option Nat) (x y:SV) (h:∀ i,d=some i→e≠some i):(S.putO d x).putO e y=(S.putO e y).putO d x:=by
 cases d with
 | none=>rfl
 | some d=>
  cases e with
  | none=>rfl
  | some e=>
   have hne:¬ e=d:=fun he=>h d rfl (by rw [he])
   refine St.ext' (fun i=>?_) (fun _=>rfl) (fun _ _=>rfl) (fun _=>rfl)
   show (if i=e then y else if i=d then x else S.sl i)=(if i=d then x else if i=e then y else S.sl i)
   by_cases h1:i=e
   ·subst h1; rw [if_pos rfl,if_neg hne,if_pos rfl]
   ·rw [if_neg h1,if_neg h1]
theorem AcY (S:St) (d e:Option Nat) (p q:Out) (hd:∀ i,d=some i→e≠some i) (h1:p.x.safe q.ks=true) (h2:q.x.safe p.ks=true) (h3:p.us.all (U.safe q.ks)=true) (h4:q.us.all (U.safe p.ks)=true)
  (h5:p.us.all (fun u=>q.us.all fun v=>!u.meets v)=true):(S.app d p).app e q=(S.app e q).app d p:=by
 simp only [St.app]
 rw [X3 _ _ _ _ h1,VE _ _ _ h3,Qr,X3 _ _ _ _ h2,VE _ _ _ h4,Qr,Aah _ _ _ _ _ hd,XZ _ _ _ h5,St.kp_kp]
end Go.V
namespace Go.V
def Holds (ops:Array Oper) (S:St) (o:Oper) (y:Bool):Prop:=
 match o.guard with
 | none=>y=true
 | some (j,want)=>∃ g,Pw ops j=some g∧((∃ b,S.sl g=.s (.one (.v .bool b))∧y=(b == want))∨(S.sl g=.un∧y=false))
def Stp (E:Env) (N:Nat) (ops:Array Oper) (S:St) (r:Rec):Prop:=
 Pk E N r.o=true∧((Holds ops S r.o true∧(Y5 E N r.o S).run=some (r.out,r.lg)∧r.ins=r.o.op.operands.toList.map (Cw S))∨(Holds ops S r.o false∧r.out=Vg∧r.lg=[]∧r.ins=[]))
theorem VV {S:St} {g:Nat} {x:SV} (h:S.sl g=x):S.put g x=S:=by
 refine St.ext' (fun i=>?_) (fun _=>rfl) (fun _ _=>rfl) (fun _=>rfl)
 show (if i=g then x else S.sl i)=S.sl i
 split
 ·rename_i hi; rw [hi,h]
 ·rfl
section
variable {E:Env} {N:Nat} {ops:Array Oper}
theorem T0 {o:Oper} {S S':St} {r:Rec} (h:(U4 E N ops o S).run=some (S',r)):r.o=o∧Stp E N ops S r∧S'=S.app o.dst r.out:=by
 have yes:Pk E N o=true→Holds ops S o true→(Vu E N o S).run=some (S',r)→r.o=o∧Stp E N ops S r∧S'=S.app o.dst r.out:=by
  intro hd hh h
  simp only [Vu,run_bind,Option.bind_eq_some_iff,Tr.run,Option.some.injEq,Prod.mk.injEq] at h
  obtain ⟨x,hx,h1,h2⟩:=h
  subst h1 h2
  exact ⟨rfl,⟨hd,.inl ⟨hh,hx,rfl⟩⟩,rfl⟩
 have nay:Pk E N o=true→Holds ops S o false→(Wu o S).run=some (S',r)→r.o=o∧Stp E N ops S r∧S'=S.app o.dst r.out:=by
  intro hd hh h
  simp only [Wu,Tr.run,Option.some.injEq,Prod.mk.injEq] at h
  obtain ⟨h1,h2⟩:=h
  subst h1 h2
  exact ⟨rfl,⟨hd,.inr ⟨hh,rfl,rfl,rfl⟩⟩,rfl⟩
 unfold U4 at h
 split at h
 ·rename_i hd
  split at h
  ·rename_i hg
   exact yes hd (by simp [Holds,hg]) h
  ·rename_i j want hg
   split at h
   ·rename_i g hgs
    split at h
    ·rename_i bb hs
     have hold:∀ y,y=(bb == want)→Holds ops S o y:=fun y hy=>by simp only [Holds,hg]; exact ⟨g,hgs,.inl ⟨bb,hs,hy⟩⟩
     simp only [Tr.run] at h
     cases hb:(bb:Bool) with
     | true=>
      rw [hb] at h hs
      simp only [if_true] at h
      rw [VV hs] at h
      cases want with
      | true=>exact yes hd (hold _ (by rw [hb]; rfl)) h
      | false=>exact nay hd (hold _ (by rw [hb]; rfl)) h
     | false=>
      rw [hb] at h hs
      simp only [Bool.false_eq_true,if_false] at h
      rw [VV hs] at h
      cases want with
      | true=>exact nay hd (hold _ (by rw [hb]; rfl)) h
      | false=>exact yes hd (hold _ (by rw [hb]; rfl)) h
    ·rename_i hs
     exact nay hd (by unfold Holds; rw [hg]; exact ⟨g,hgs,.inr ⟨hs,rfl⟩⟩) h
    ·simp [Tr.run] at h
   ·simp [Tr.run] at h
 ·simp [Tr.run] at h
theorem RQ (S:St) (d:Option Nat) (p:Out) {t:Nat} (h:d≠some t):(S.app d p).sl t=(S.sl t).kp p.ks:=by
 have e:((S.kp p.ks).ups p.us).sl t=(S.sl t).kp p.ks:=by rw [Aaw,GX]
 cases d with
 | none=>exact e
 | some d=>
  show (if t=d then p.x else ((S.kp p.ks).ups p.us).sl t)=_
  rw [if_neg (fun ht=>h (by rw [ht])),e]
theorem OA {k:Nat}:∀ (us:List U) (S:St),us.all (fun u=>!u.hits (.o k))=true→(S.ups us).ow k=S.ow k
 | [],_,_=>rfl
 | u::us,S,h=>by
  simp only [List.all_cons,Bool.and_eq_true,Bool.not_eq_true'] at h
  show ((S.up u).ups us).ow k=_
  rw [OA us _ (by simpa using h.2)]
  cases u with
  | ow k' o=>
   have:¬ k=k':=fun hk=>by rw [hk] at h; simp [U.hits] at h
   show (if k=k' then o else S.ow k)=_; rw [if_neg this]
  | mc _ _ _=>rfl
  | ms _ _=>rfl
theorem OU {k:Nat}:∀ (us:List U) (S:St),us.all (fun u=>!u.hits (.m k))=true→(S.ups us).ms k=S.ms k
 | [],_,_=>rfl
 | u::us,S,h=>by
  simp only [List.all_cons,Bool.and_eq_true,Bool.not_eq_true'] at h
  show ((S.up u).ups us).ms k=_
  rw [OU us _ (by simpa using h.2)]
  cases u with
  | ms k' row=>
   have:¬ k=k':=fun hk=>by rw [hk] at h; simp [U.hits] at h
   show (if k=k' then _ else S.ms k)=_; rw [if_neg this]
  | mc _ _ _=>rfl
  | ow _ _=>rfl
theorem NW {k off:Nat} {l:Leaf}:∀ (us:List U) (S:St),us.all (fun u=>!u.hits (.c k off l))=true→(S.ups us).mc k off=S.mc k off
 | [],_,_=>rfl
 | u::us,S,h=>by
  simp only [List.all_cons,Bool.and_eq_true,Bool.not_eq_true'] at h
  show ((S.up u).ups us).mc k off=_
  rw [NW us _ (by simpa using h.2)]
  cases u with
  | mc k' off' l'=>
   show (if k=k' then (if off=off' then l' else S.mc k off) else S.mc k off)=_
   have:=h.1
   simp only [U.hits,Bool.and_eq_false_iff,beq_eq_false_iff_ne] at this
   by_cases h1:k=k'
   ·rw [if_pos h1,if_neg (fun h2=>by rcases this with h3 | h3 <;> simp_all)]
   ·rw [if_neg h1]
  | ms k' row=>
   have:¬ k=k':=fun hk=>by rw [hk] at h; simp [U.hits] at h
   show (if k=k' then _ else S.mc k off)=_; rw [if_neg this]
  | ow _ _=>rfl
theorem Z3 (S:St) (d:Option Nat) (p:Out):(S.app d p).ow=((S.kp p.ks).ups p.us).ow:=by cases d <;> rfl
theorem ZY (S:St) (d:Option Nat) (p:Out):(S.app d p).ms=((S.kp p.ks).ups p.us).ms:=by cases d <;> rfl
theorem Z8 (S:St) (d:Option Nat) (p:Out):(S.app d p).mc=((S.kp p.ks).ups p.us).mc:=by cases d <;> rfl
theorem Ac8 {x:SV} {c:List Kl} {b:Bool} (h:x.kp c=.s (.one (.v .bool b))):x=.s (.one (.v .bool b)):=by
 cases x with
 | s x=>
  cases x with
  | one l=>
   cases l with
   | v t y=>exact h
   | vw k st win=>
    simp only [SV.kp,S1.kp,Leaf.kp,SV.s.injEq,S1.one.injEq] at h
    split at h <;> cases h
   | p k off=>
    simp only [SV.kp,S1.kp,Leaf.kp,SV.s.injEq,S1.one.injEq] at h
    split at h <;> cases h
   | np=>exact h
   | qn e=>exact h
   | nil=>exact h
   | no=>exact h
  | ag ls=>simp [SV.kp,S1.kp] at h
  | pl k off=>
   simp only [SV.kp,S1.kp,SV.s.injEq] at h
   split at h <;> cases h
  | el k st=>
   simp only [SV.kp,S1.kp,SV.s.injEq] at h
   split at h <;> cases h
  | rp t y off=>exact h
  | fv f cs=>
   simp only [SV.kp,S1.kp,SV.s.injEq] at h
   split at h <;> cases h
 | tu xs=>simp [SV.kp] at h
 | un=>exact h
 | no=>exact h
theorem Aee {x:SV} {c:List Kl} (h:x.kp c=.un):x=.un:=by
 cases x <;> simp_all [SV.kp]
theorem AaC {a b:Oper} (h:HG ops a b=true):(∀ d,a.dst=some d→d∉HA ops b)∧(∀ d,a.dst=some d→b.dst≠some d)∧(∀ d,b.dst=some d→d∉HA ops a):=by
 simp only [HG,Bool.and_eq_true] at h
 refine ⟨fun d hd=>?_,fun d hd=>?_,fun d hd=>?_⟩
 ·rw [hd] at h; simp only [Bool.and_eq_true,Bool.not_eq_true'] at h; simpa using h.1.1
 ·rw [hd] at h; simp only [Bool.and_eq_true,Bool.not_eq_true'] at h
  intro he; rw [he] at h; simp at h
 ·rw [hd] at h; simp only [Bool.not_eq_true'] at h; simpa using h.2
theorem AaZ {o:Oper} {t:Nat} (h:Operand.tmp t∈o.op.operands.toList):t∈HA ops o:=
 List.mem_append_left _ (List.mem_filterMap.2 ⟨.tmp t,h,rfl⟩)
theorem Ru {o:Oper} {j:Nat} {want:Bool} {g:Nat} (h:o.guard=some (j,want)) (hg:Pw ops j=some g):g∈HA ops o:=
 List.mem_append_right _ (by rw [h]; simp [hg])
structure Past (a b:Rec):Prop where
 whole:b.out.ks=[]∨((∀ x,x∈a.ins→x.whole=true)∧∀ x,x∈a.lg→x.whole=true)
 ins:∀ x,x∈a.ins→x.safe b.out.ks=true
 x:a.out.x.safe b.out.ks=true
 lg:∀ x,x∈a.lg→x.safe b.out.ks=true
 us:a.out.us.all (U.safe b.out.ks)=true
 hits:∀ x,x∈a.lg→b.out.us.all (fun u=>!u.hits x)=true
theorem TE {a b:Rec} (h:a.past b=true):Past a b:=by
 simp only [Rec.past,Bool.and_eq_true,Bool.or_eq_true,List.isEmpty_iff,List.all_eq_true (p:=SV.whole),List.all_eq_true (p:=Lg.whole),List.all_eq_true (p:=SV.safe b.out.ks),List.all_eq_true (p:=Lg.safe b.out.ks)] at h
 obtain ⟨⟨⟨⟨⟨h1,h2⟩,h3⟩,h4⟩,h5⟩,h6⟩:=h
 rw [List.all_eq_true] at h6
 exact ⟨h1,h2,h3,h4,h5,h6⟩
theorem Stp.move {S S':St} {r:Rec} (h:Stp E N ops S r) (hop:∀ t,t∈HA ops r.o→(∀ x,x∈r.ins→x=S.sl t→S'.sl t=S.sl t)) (hg:∀ t,t∈HA ops r.o→((∃ b,S.sl t=.s (.one (.v .bool b)))∨S.sl t=.un)→S'.sl t=S.sl t)
  (hlg:AbC S r.lg→Ag S S' r.lg):Stp E N ops S' r:=by
 have hold:∀ y,Holds ops S r.o y→Holds ops S' r.o y:=by
  intro y hy
  unfold Holds at hy ⊢
  split
  ·rename_i hgd; rw [hgd] at hy; exact hy
  ·rename_i j want hgd
   rw [hgd] at hy
   obtain ⟨g,h1,⟨bb,h2,h3⟩ | ⟨h2,h3⟩⟩:=hy
   ·exact ⟨g,h1,.inl ⟨bb,by rw [hg g (Ru hgd h1) (.inl ⟨bb,h2⟩),h2],h3⟩⟩
   ·exact ⟨g,h1,.inr ⟨by rw [hg g (Ru hgd h1) (.inr h2),h2],h3⟩⟩
 obtain ⟨hd,h | ⟨h1,h2,h3,h4⟩⟩:=h
 ·obtain ⟨h1,h2,h3⟩:=h
  have hopn:∀ x,x∈r.o.op.operands.toList→Cw S' x=Cw S x:=by
   intro x hx
   cases x with
   | tmp t=>exact hop t (AaZ hx) (S.sl t) (by rw [h3]; exact List.mem_map.2 ⟨.tmp t,hx,rfl⟩) rfl
   | _=>rfl
  refine ⟨hd,.inl ⟨hold _ h1,?_,?_⟩⟩
  ·unfold Y5 at h2 ⊢
   rw [YN E (Cw S') (Cw S) _ _ hopn]
   exact Abm S S' _ [] h2 (hlg (AcQ S _ [] (fun k off x hx=>by cases hx) h2))
  ·rw [h3]; exact List.map_congr_left fun x hx=>(hopn x hx).symm
 ·exact ⟨hd,.inr ⟨hold _ h1,h2,h3,h4⟩⟩
theorem Stp.swap {S:St} {p q:Rec} (hp:Stp E N ops S p) (hq:Stp E N ops (S.app p.o.dst p.out) q) (hs:HG ops p.o q.o=true) (ha:p.apart q=true) :
  Stp E N ops S q∧Stp E N ops (S.app q.o.dst q.out) p∧(S.app p.o.dst p.out).app q.o.dst q.out=(S.app q.o.dst q.out).app p.o.dst p.out:=by
 obtain ⟨s1,s2,s3⟩:=AaC hs
 simp only [Rec.apart,Bool.and_eq_true] at ha
 obtain ⟨⟨ha,hb⟩,hm⟩:=ha
 have pa:=TE ha
 have pb:=TE hb
 refine ⟨?_,?_,AcY S _ _ _ _ s2 pa.x pb.x pa.us pb.us hm⟩
 ·refine hq.move ?_ ?_ ?_
  ·intro t ht x hx hxt
   have e:=RQ S p.o.dst p.out (fun h=>s1 t h ht:p.o.dst≠some t)
   rw [e] at hxt ⊢
   rcases pb.whole with h0 | ⟨h0,_⟩
   ·rw [h0,SV.kp_nil]
   ·have:=h0 x hx
    rw [hxt] at this
    exact (SV.kp_whole this).symm
  ·intro t ht hb
   have e:=RQ S p.o.dst p.out (fun h=>s1 t h ht:p.o.dst≠some t)
   rw [e] at hb ⊢
   rcases hb with ⟨bb,hb⟩ | hb
   ·rw [Ac8 hb]; rfl
   ·rw [Aee hb]; rfl
  ·intro hsee l hl
   have hh:=pb.hits l hl
   cases l with
   | o k=>show (S.app p.o.dst p.out).ow k=S.ow k; rw [Z3,OA _ _ hh,DM]
   | m k=>show (S.app p.o.dst p.out).ms k=S.ms k; rw [ZY,OU _ _ hh,Dd]
   | c k off l=>
    show (S.app p.o.dst p.out).mc k off=S.mc k off
    have h1:=hsee k off l hl
    rw [Z8,NW _ _ hh,Dh] at h1 ⊢
    rcases pb.whole with h0 | ⟨_,h0⟩
    ·rw [h0,Leaf.kp_nil]
    ·have:=h0 _ hl
     simp only [Lg.whole] at this
     rw [← h1] at this
     exact Leaf.kp_whole this
 ·refine hp.move ?_ ?_ ?_
  ·intro t ht x hx hxt
   have e:=RQ S q.o.dst q.out (fun h=>s3 t h ht:q.o.dst≠some t)
   rw [e]
   have:=pa.ins x hx
   rw [hxt] at this
   exact SV.kp_safe this
  ·intro t ht hb
   have e:=RQ S q.o.dst q.out (fun h=>s3 t h ht:q.o.dst≠some t)
   rcases hb with ⟨bb,hb⟩ | hb
   ·rw [e,hb]; rfl
   ·rw [e,hb]; rfl
  ·intro hsee l hl
   have hh:=pa.hits l hl
   cases l with
   | o k=>show S.ow k=(S.app q.o.dst q.out).ow k; rw [Z3,OA _ _ hh,DM]
   | m k=>show S.ms k=(S.app q.o.dst q.out).ms k; rw [ZY,OU _ _ hh,Dd]
   | c k off l=>
    show S.mc k off=(S.app q.o.dst q.out).mc k off
    have h1:=hsee k off l hl
    have h2:=pa.lg _ hl
    simp only [Lg.safe] at h2
    rw [Z8,NW _ _ hh,Dh,h1,Leaf.kp_safe h2]
inductive Runs (E:Env) (N:Nat) (ops:Array Oper):List (Nat×Rec)→St→St→Prop
 | nil {S}:Runs E N ops [] S S
 | cons {i r l S S'}:Stp E N ops S r→Runs E N ops l (S.app r.o.dst r.out) S'→Runs E N ops ((i,r)::l) S S'
theorem Runs.front {q:Nat×Rec} {R2:List (Nat×Rec)}:∀ (R1:List (Nat×Rec)) {S S':St},(∀ p,p∈R1→HG ops p.2.o q.2.o=true∧p.2.apart q.2=true)→Runs E N ops (R1++q::R2) S S'→Runs E N ops (q::(R1++R2)) S S'
 | [],_,_,_,h=>h
 | (i,p)::R1,S,S',ha,h=>by
  obtain ⟨qi,q⟩:=q
  cases h with
  | cons h1 h2=>
   have:=Runs.front R1 (fun p hp=>ha p (by simp [hp])) h2
   cases this with
   | cons h3 h4=>
    obtain ⟨s1,s2⟩:=ha (i,p) (by simp)
    obtain ⟨k1,k2,k3⟩:=h1.swap h3 s1 s2
    rw [k3] at h4
    exact .cons k1 (.cons k2 h4)
theorem Tx:∀ (os:List Oper) (S S':St) (n:Nat),(WG E N ops os S).run=some S'→∃ rs:List Rec,rs.map (·.o)=os∧Runs E N ops (DJ rs n) S S'
 | [],S,S',n,h=>by
  rw [WG] at h
  simp only [Tr.run,Option.some.injEq] at h
  subst h
  exact ⟨[],rfl,.nil⟩
 | o::os,S,S',n,h=>by
  rw [WG] at h
  simp only [run_bind,Option.bind_eq_some_iff] at h
  obtain ⟨⟨S1,r⟩,h1,h2⟩:=h
  obtain ⟨e1,e2,e3⟩:=T0 h1
  subst e3
  obtain ⟨rs,k1,k2⟩:=Tx os _ S' (n+1) h2
  exact ⟨r::rs,by rw [List.map_cons,k1,e1],.cons e2 (by rw [e1]; exact k2)⟩
theorem TQ:∀ (os:List Oper) (S S':St) (acc rs:List Rec) (n:Nat),(V6 E N ops os S acc).run=some (S',rs)→∃ rs':List Rec,rs=acc.reverse++rs'∧rs'.map (·.o)=os∧Runs E N ops (DJ rs' n) S S'
 | [],S,S',acc,rs,n,h=>by
  rw [V6] at h
  simp only [Tr.run,Option.some.injEq,Prod.mk.injEq] at h
  obtain ⟨h1,h2⟩:=h
  subst h1 h2
  exact ⟨[],by simp,rfl,.nil⟩
 | o::os,S,S',acc,rs,n,h=>by
  rw [V6] at h
  simp only [run_bind,Option.bind_eq_some_iff] at h
  obtain ⟨⟨S1,r⟩,h1,h2⟩:=h
  obtain ⟨e1,e2,e3⟩:=T0 h1
  subst e3
  obtain ⟨rs',k0,k1,k2⟩:=TQ os _ S' (r::acc) rs (n+1) h2
  exact ⟨r::rs',by rw [k0]; simp,by rw [List.map_cons,k1,e1],.cons e2 (by rw [e1]; exact k2)⟩
end
end Go.V
namespace Go.V
section
variable {P:Program} {E:Env} {b:Base} {N:Nat} {ops:Array Oper}
theorem Sim.skip {S:St} {a:Act} {w:World} (h:Sim b N S a w) (d:Option Nat) (hd:∀ k,d=some k→k < N) (hdx:∀ k,d=some k→∀ p,p∈b.fx→p.1≠k):Sim b N (S.app d Vg) (a.put d undef) w:=by
 obtain ⟨c,hi,hs,hfx⟩:=h
 exact (Did.same (x:=.un) (v:=undef) hi rfl).sim hs d hd hfx hdx
theorem Stp.runs (hE:EnvOk P E) (hF:∀ p,p∈b.fx→E.fx.contains p.1=true) (hN:N < b.n1) {S:St} {r:Rec} (h:Stp E N ops S r) {a:Act} {w:World} (hs:Sim b N S a w) {K:Act→World→Prop} {Q:Exit→Act→World→Prop} (hK:∀ a' w',Sim b N (S.app r.o.dst r.out) a' w'→K a' w') :
  if Region.wanted r.o (yielded ops a.tmps) then r.o.wp P a w K Q else K (a.put r.o.dst undef) w:=by
 obtain ⟨hd,h⟩:=h
 have hdst:∀ k,r.o.dst=some k→k < N:=by
  intro k hk
  unfold Pk at hd
  rw [hk] at hd
  simp only [Bool.and_eq_true,decide_eq_true_eq] at hd
  exact hd.1
 have hdx:∀ k,r.o.dst=some k→∀ p,p∈b.fx→p.1≠k:=by
  intro k hk p hp he
  unfold Pk at hd
  rw [hk] at hd
  simp only [Bool.and_eq_true,Bool.not_eq_true'] at hd
  have:=hF p hp
  rw [he,hd.2] at this
  cases this
 have hw:∀ y,Holds ops S r.o y→Region.wanted r.o (yielded ops a.tmps)=y:=by
  intro y hy
  unfold Holds at hy
  unfold Region.wanted
  split at hy
  ·rename_i hg; rw [hg]; exact hy.symm
  ·rename_i j want hg
   obtain ⟨g,h1,h2⟩:=hy
   rw [hg]
   simp only
   obtain ⟨c,hi,hsl,_⟩:=hs
   have h4:=hsl.ok g
   rcases h2 with ⟨bb,h2,h3⟩ | ⟨h2,h3⟩
   rotate_left
   ·rw [h2] at h4
    have h5:a.tmps.getD g undef=undef:=h4
    have h7:yielded ops a.tmps j=none:=by
     unfold yielded
     unfold Pw at h1
     rw [h1]
     rw [Array.getD_eq_getD_getElem?] at h5
     cases h8:a.tmps[g]? with
     | none=>simp [h8]
     | some v=>rw [h8] at h5; simp only [Option.getD_some] at h5; subst h5; simp [h8,undef]
    rw [h7,h3]
    rfl
   rw [h2] at h4
   have h5:a.tmps.getD g undef=.bool bb:=D2 (AY h4)
   have h6:a.tmps[g]?=some (.bool bb):=by
    rw [Array.getD_eq_getD_getElem?] at h5
    cases h7:a.tmps[g]? with
    | none=>rw [h7] at h5; cases h5
    | some v=>rw [h7] at h5; simp only [Option.getD_some] at h5; rw [h5]
   have h7:yielded ops a.tmps j=some bb:=by
    unfold yielded
    unfold Pw at h1
    rw [h1]
    simp [h6]
   rw [h7,h3]
   rfl
 rcases h with ⟨h1,h2,_⟩ | ⟨h1,h2,_⟩
 ·rw [hw true h1,if_pos rfl]
  obtain ⟨c,hi,hsl,hfx⟩:=hs
  have hev:=Acn S _ [] h2
  refine Acw hE.ti hi hsl r.o (d:=r.o.dst.getD N) (by
   cases hk:r.o.dst with
   | none=>exact hN
   | some k=>exact Nat.lt_trans (hdst k hk) hN) (fun fo f cs args ts out ho hfo hsz hc=>Aa7 hE hi hsl ho hfo hsz hc) hev K Q fun v w' hdid=>?_
  exact hK _ _ (hdid.sim hsl r.o.dst hdst hfx hdx)
 ·rw [hw false h1]
  simp only [Bool.false_eq_true,if_false]
  refine hK _ _ ?_
  rw [h2]
  exact hs.skip _ hdst hdx
theorem Runs.list (hE:EnvOk P E) (hF:∀ p,p∈b.fx→E.fx.contains p.1=true) (hN:N < b.n1):∀ (rs:List Rec) (n:Nat) {S S':St} {a:Act} {w:World} {Q:Exit→Act→World→Prop},Runs E N ops (DJ rs n) S S'→Sim b N S a w→(∀ a' w',Sim b N S' a' w'→Q .normal a' w')→wpList P ops Q (rs.map (·.o)) a w
 | [],n,S,S',a,w,Q,h,hs,hQ=>by
  cases h
  exact hQ _ _ hs
 | r::rs,n,S,S',a,w,Q,h,hs,hQ=>by
  cases h with
  | cons h1 h2=>
   rw [List.map_cons]
   refine wpList_step fun K hK=>?_
   exact h1.runs hE hF hN hs fun a' w' hs'=>hK _ _ (Runs.list hE hF hN rs (n+1) h2 hs' hQ)
theorem RH:∀ (os:List Oper) (acc:List Nat),(∀ j,j < acc.length→(ahead os acc).getD j 0=acc.getD j 0)∧
  ∀ j o,os[j]?=some o→∀ i,((ahead os acc).getD (acc.length+j) 0).testBit i=true→∃ e,e∈o.after.toList∧Region.binds .any e=true∧(e.on=i∨((ahead os acc).getD e.on 0).testBit i=true)
 | [],acc=>⟨fun _ _=>rfl,fun j o h=>by simp at h⟩
 | o::os,acc=>by
  obtain ⟨h1,h2⟩:=RH os (acc++[JU acc o])
  have e:ahead (o::os) acc=ahead os (acc++[JU acc o]):=rfl
  have hpre:∀ j,j < acc.length→(ahead os (acc++[JU acc o])).getD j 0=acc.getD j 0:=by
   intro j hj
   rw [h1 j (by simp; omega),List.getD_eq_getElem?_getD,List.getElem?_append_left hj,List.getD_eq_getElem?_getD]
  rw [e]
  refine ⟨hpre,fun j o' ho i hi=>?_⟩
  cases j with
  | zero=>
   simp only [List.getElem?_cons_zero,Option.some.injEq] at ho
   subst ho
   have hv:(ahead os (acc++[JU acc o])).getD (acc.length+0) 0=JU acc o:=by
    rw [h1 _ (by simp),List.getD_eq_getElem?_getD]; simp
   rw [hv] at hi
   have key:∀ (es:List Edge) (m:Nat),(es.foldl (fun m e=>if Region.binds .any e then m ||| ((1 <<< e.on) ||| acc.getD e.on 0) else m) m).testBit i=true→
     m.testBit i=true∨∃ e,e∈es∧Region.binds .any e=true∧(e.on=i∨(acc.getD e.on 0).testBit i=true):=by
    intro es
    induction es with
    | nil=>intro m h; exact .inl h
    | cons e es ih=>
     intro m h
     rw [List.foldl_cons] at h
     rcases ih _ h with h | ⟨e',k1,k2,k3⟩
     ·split at h
      ·rename_i hb
       rw [Nat.testBit_or,Nat.testBit_or,Nat.one_shiftLeft,Nat.testBit_two_pow] at h
       simp only [Bool.or_eq_true,decide_eq_true_eq] at h
       rcases h with h | h | h
       ·exact .inl h
       ·exact .inr ⟨e,by simp,hb,.inl h⟩
       ·exact .inr ⟨e,by simp,hb,.inr h⟩
      ·exact .inl h
     ·exact .inr ⟨e',by simp [k1],k2,k3⟩
   rcases key _ 0 hi with h | ⟨e',k1,k2,k3⟩
   ·simp at h
   ·refine ⟨e',k1,k2,k3.imp id fun h=>?_⟩
    by_cases he:e'.on < acc.length
    ·rw [hpre _ he]; exact h
    ·rw [List.getD_eq_getElem?_getD,List.getElem?_eq_none (by omega)] at h; simp at h
  | succ j=>
   have:=h2 j o' (by simpa using ho) i (by rw [List.length_append,List.length_singleton]; rwa [show acc.length+1+j=acc.length+(j+1) by omega])
   exact this
theorem NR:∀ (os:List Oper) (n:Nat),MG os n=true→∀ j o,os[j]?=some o→∀ e,e∈o.after.toList→Region.binds .any e=true→e.on < n+j
 | [],_,_,j,o,h=>by simp at h
 | o::os,n,hb,j,o',ho=>by
  simp only [MG,Bool.and_eq_true,List.all_eq_true] at hb
  cases j with
  | zero=>
   simp only [List.getElem?_cons_zero,Option.some.injEq] at ho
   subst ho
   intro e he hbd
   have:=hb.1 e he
   rw [hbd] at this
   simpa using this
  | succ j=>
   intro e he hbd
   have:=NR os (n+1) hb.2 j o' (by simpa using ho) e he hbd
   omega
theorem Ub {bs:List Nat} {q:Nat×Rec} {R2:List (Nat×Rec)}:∀ (R1:List (Nat×Rec)),HC ops bs (R1++q::R2)=true→
  HC ops bs (R1++R2)=true∧∀ p,p∈R1→(bs.getD q.1 0).testBit p.1=true∨(HG ops p.2.o q.2.o=true∧p.2.apart q.2=true)
 | [],h=>by
  obtain ⟨i,q⟩:=q
  simp only [List.nil_append,HC,Bool.and_eq_true] at h
  exact ⟨h.2,fun p hp=>by cases hp⟩
 | (i,p)::R1,h=>by
  simp only [List.cons_append,HC,Bool.and_eq_true,List.all_eq_true] at h
  obtain ⟨h1,h2⟩:=h
  obtain ⟨k1,k2⟩:=Ub R1 h2
  refine ⟨?_,fun p' hp=>?_⟩
  ·simp only [List.cons_append,HC,Bool.and_eq_true,List.all_eq_true]
   refine ⟨fun x hx=>h1 x ?_,k1⟩
   rcases List.mem_append.1 hx with hx | hx
   ·exact List.mem_append.2 (.inl hx)
   ·exact List.mem_append.2 (.inr (List.mem_cons_of_mem _ hx))
  ·rcases List.mem_cons.1 hp with rfl | hp
   ·have:=h1 q (List.mem_append.2 (.inr (by simp)))
    simp only [Bool.or_eq_true,Bool.and_eq_true] at this
    exact this
   ·exact k2 p' hp
structure Left (ops:Array Oper) (bs:List Nat) (R:List (Nat×Rec)) (listed:Array Bool):Prop where
 size:listed.size=ops.size
 lt:∀ p,p∈R→p.1 < ops.size
 not:∀ i,i < ops.size→(listed[i]?=some false↔i∈R.map (·.1))
 op:∀ p,p∈R→ops[p.1]?=some p.2.o
 asc:(R.map (·.1)).Pairwise (· < ·)
 closed:∀ j,listed[j]?=some true→∀ i,(bs.getD j 0).testBit i=true→listed[i]?=some true
theorem T1 (hE:EnvOk P E) (hF:∀ p,p∈b.fx→E.fx.contains p.1=true) (hN:N < b.n1) (bs:List Nat) (hbs:∀ (j:Nat) o,ops[j]?=some o→∀ i,(bs.getD j 0).testBit i=true→∃ e,e∈o.after.toList∧Region.binds .any e=true∧(e.on=i∨(bs.getD e.on 0).testBit i=true))
  (hbk:∀ (j:Nat) o,ops[j]?=some o→∀ e,e∈o.after.toList→Region.binds .any e=true→e.on < j) {Q:Exit→Act→World→Prop} {S':St} (hQ:∀ a' w',Sim b N S' a' w'→Q .normal a' w') :
  ∀ (fuel:Nat) (R:List (Nat×Rec)) (listed:Array Bool) (S:St) (a:Act) (w:World),R.length=fuel→Runs E N ops R S S'→HC ops bs R=true→Left ops bs R listed→Sim b N S a w→wpAny P .any ops Q fuel listed a w
 | 0,R,listed,S,a,w,hl,hr,_,hL,hs=>by
  obtain rfl:R=[]:=List.eq_nil_of_length_eq_zero hl
  cases hr
  refine ⟨?_,hQ _ _ hs⟩
  unfold Region.ready
  rw [List.filter_eq_nil_iff]
  intro i hi
  have hi':i < ops.size:=by simpa using hi
  have h1:=hL.not i hi'
  have h2:listed[i]?=some true:=by
   have h3:i < listed.size:=by rw [hL.size]; exact hi'
   rw [Array.getElem?_eq_getElem h3] at h1 ⊢
   cases h4:listed[i] with
   | true=>rfl
   | false=>rw [h4] at h1; simp at h1
  have h5:listed.getD i true=true:=by rw [Array.getD_eq_getD_getElem?,h2]; rfl
  rw [h5]; simp
 | fuel+1,R,listed,S,a,w,hl,hr,hp,hL,hs=>by
  refine ⟨fun hnil=>?_,fun i hi=>?_⟩
  ·-- the first that is left is ready
   exfalso
   cases R with
   | nil=>simp at hl
   | cons q R=>
    have hq:=hL.op q (by simp)
    have hqlt:=hL.lt q (by simp)
    have hin:q.1∈Region.ready .any ops listed:=by
     unfold Region.ready
     rw [List.mem_filter]
     refine ⟨by simpa using hqlt,?_⟩
     have h1:=(hL.not q.1 hqlt).2 (by simp)
     rw [Array.getD_eq_getD_getElem?,h1,hq]
     simp only [Option.getD_some,Bool.not_false,Bool.true_and,Option.map_some]
     rw [Array.all_eq_true']
     intro e he
     cases hbd:Region.binds .any e with
     | false=>rfl
     | true=>
      have hlt:=hbk q.1 _ hq e (Array.mem_toList_iff.2 he) hbd
      have h3:e.on < listed.size:=by rw [hL.size]; omega
      have h2:=hL.not e.on (by omega)
      have h4:e.on∉(q::R).map (·.1):=by
       intro hm
       have:=hL.asc
       rw [List.map_cons,List.pairwise_cons] at this
       rcases List.mem_cons.1 hm with hm | hm
       ·have hm':e.on=q.1:=hm
        omega
       ·have h9:q.1 < e.on:=this.1 e.on hm
        omega
      rw [Array.getD_eq_getD_getElem?]
      rw [Array.getElem?_eq_getElem h3] at h2 ⊢
      cases h5:listed[e.on] with
      | true=>rfl
      | false=>rw [h5] at h2; exact absurd (h2.1 rfl) h4
    rw [hnil] at hin
    cases hin
  ·unfold Region.ready at hi
   rw [List.mem_filter] at hi
   obtain ⟨hi1,hi2⟩:=hi
   have hilt:i < ops.size:=by simpa using hi1
   simp only [Bool.and_eq_true,Bool.not_eq_true'] at hi2
   obtain ⟨hn,hpre⟩:=hi2
   have hlt:i < listed.size:=by rw [hL.size]; exact hilt
   have hif:listed[i]?=some false:=by
    rw [Array.getD_eq_getD_getElem?,Array.getElem?_eq_getElem hlt] at hn
    rw [Array.getElem?_eq_getElem hlt]
    simp only [Option.getD_some] at hn
    rw [hn]
   obtain ⟨q,hq,hqi⟩:=List.mem_map.1 ((hL.not i hilt).1 hif)
   subst hqi
   have hop:=hL.op q hq
   rw [hop] at hpre
   simp only [Option.map_some,Option.getD_some] at hpre
   have hpre':∀ e,e∈q.2.o.after.toList→Region.binds .any e=true→listed[e.on]?=some true:=by
    intro e he hbd
    rw [Array.all_eq_true'] at hpre
    have:=hpre e (Array.mem_toList_iff.1 he)
    rw [hbd] at this
    simp only [Bool.not_true,Bool.false_or] at this
    rw [Array.getD_eq_getD_getElem?] at this
    cases h:listed[e.on]? with
    | none=>rw [h] at this; cases this
    | some x=>rw [h] at this; simp only [Option.getD_some] at this; rw [this]
   have hall:∀ j,(bs.getD q.1 0).testBit j=true→listed[j]?=some true:=by
    intro j hj
    obtain ⟨e,k1,k2,k3⟩:=hbs q.1 _ hop j hj
    have:=hpre' e k1 k2
    rcases k3 with k3 | k3
    ·rw [← k3]; exact this
    ·exact hL.closed e.on this j k3
   obtain ⟨R1,R2,rfl⟩:=List.append_of_mem hq
   obtain ⟨p1,p2⟩:=Ub R1 hp
   have hfront:=Runs.front R1 (fun p hp'=>by
    rcases p2 p hp' with h | h
    ·have h1:=hall p.1 h
     have h2:=(hL.not p.1 (hL.lt p (by simp [hp']))).2 (List.mem_map.2 ⟨p,by simp [hp'],rfl⟩)
     rw [h1] at h2; cases h2
    ·exact h) hr
   obtain ⟨qi,r⟩:=q
   cases hfront with
   | cons s1 s2=>
    unfold wpOp
    rw [hop]
    simp only
    have hrec:∀ a' w',Sim b N (S.app r.o.dst r.out) a' w'→wpAny P .any ops Q fuel (listed.setIfInBounds qi true) a' w':=by
     intro a' w' hs'
     refine T1 hE hF hN bs hbs hbk hQ fuel (R1++R2) _ _ a' w' ?_ s2 p1 ?_ hs'
     ·simp only [List.length_append,List.length_cons] at hl ⊢; omega
     ·have hasc:=hL.asc
      rw [List.map_append,List.map_cons,List.pairwise_append,List.pairwise_cons] at hasc
      obtain ⟨g1,⟨g2,g3⟩,g4⟩:=hasc
      refine ⟨by simp [hL.size],fun p hp=>?_,fun i hi=>?_,fun p hp=>?_,?_,?_⟩
      ·rcases List.mem_append.1 hp with h | h
       ·exact hL.lt p (by simp [h])
       ·exact hL.lt p (by simp [h])
      ·by_cases hiq:i=qi
       ·subst hiq
        rw [Array.getElem?_setIfInBounds_self_of_lt hlt]
        simp only [Option.some.injEq,Bool.true_eq_false,false_iff]
        rw [List.map_append]
        intro hm
        rcases List.mem_append.1 hm with hm | hm
        ·have:=g4 i hm i (by simp); omega
        ·have:=g2 i hm; omega
       ·rw [Array.getElem?_setIfInBounds_ne (Ne.symm hiq),hL.not i hi]
        simp [hiq]
      ·rcases List.mem_append.1 hp with h | h
       ·exact hL.op p (by simp [h])
       ·exact hL.op p (by simp [h])
      ·rw [List.map_append,List.pairwise_append]
       exact ⟨g1,g3,fun x hx y hy=>g4 x hx y (List.mem_cons_of_mem _ hy)⟩
      ·intro j hj i hi
       have hsub:∀ m:Nat,listed[m]?=some true→(listed.setIfInBounds qi true)[m]?=some true:=by
        intro m hm
        by_cases hmq:m=qi
        ·subst hmq; rw [Array.getElem?_setIfInBounds_self_of_lt hlt]
        ·rw [Array.getElem?_setIfInBounds_ne (Ne.symm hmq)]; exact hm
       by_cases hjq:j=qi
       ·subst hjq
        exact hsub i (hall i hi)
       ·rw [Array.getElem?_setIfInBounds_ne (Ne.symm hjq)] at hj
        exact hsub i (hL.closed j hj i hi)
    have:=s1.runs (Q:=Q) hE hF hN hs hrec
    split
    ·rename_i hw; rw [if_pos hw] at this; exact .inl this
    ·rename_i hw; rw [if_neg hw] at this; exact this
theorem Sim.drawn {S:St} {a:Act} {w:World} (h:Sim b N S a w):Sim b N S a { w with drawn:=w.drawn+1 }:=by
 obtain ⟨c,hi,hs,hfx⟩:=h
 have hst:Step w { w with drawn:=w.drawn+1 } (fun _=>False):=⟨rfl,rfl,rfl,Nat.le_refl _,fun _ _ _=>rfl⟩
 obtain ⟨c',_,_,h3,h4,_⟩:=hi.many (S':=S) (w':={ w with drawn:=w.drawn+1 }) (fun _=>none) [] [] [] (fun k=>by simp) rfl (fun k i _=>by rw [Leaf.kp_nil]) (fun k o _ hk=>by rcases hk with hk | hk; cases hk; exact absurd rfl hk)
  (hst.mono fun _ h=>h.elim) (fun k n hk=>by cases hk) (fun k n hk=>by cases hk) (fun k n k' n' _ hk=>by cases hk) (fun _ _ _ k n hk=>by cases hk) (fun _ _ _ _ _ _ _ k n hk=>by cases hk)
 have hdid:Did b S c w ⟨.no,[],[]⟩ undef { w with drawn:=w.drawn+1 }:=⟨c',h3,h4,trivial⟩
 exact hdid.sim hs none (fun k hk=>by cases hk) hfx (fun k hk=>by cases hk)
theorem HL:∀ (rs:List Rec) (n:Nat),(DJ rs n).map (·.1)=List.range' n rs.length
 | [],_=>rfl
 | r::rs,n=>by rw [DJ,List.map_cons,HL rs (n+1),List.length_cons,List.range'_succ]
theorem PE:∀ (rs:List Rec) (n:Nat) (p:Nat×Rec),p∈DJ rs n→n≤p.1∧rs[p.1 - n]?=some p.2
 | [],_,p,h=>by cases h
 | r::rs,n,p,h=>by
  rw [DJ] at h
  rcases List.mem_cons.1 h with rfl | h
  ·simp
  ·obtain ⟨h1,h2⟩:=PE rs (n+1) p h
   refine ⟨by omega,?_⟩
   rw [show p.1 - n=(p.1 - (n+1))+1 by omega,List.getElem?_cons_succ]; exact h2
theorem ZT (hE:EnvOk P E) (hF:∀ p,p∈b.fx→E.fx.contains p.1=true) (hN:N < b.n1) {id:Nat} {draw:Bool} {S S':St} (h:(JS E N ops draw S).run=some S') {a:Act} {w:World} (hs:Sim b N S a w) {Q:Exit→Act→World→Prop} (hQ:∀ a' w',Sim b N S' a' w'→Q .normal a' w') :
  (Code.region id ops draw).wp P Q a w:=by
 unfold JS at h
 split at h
 ·rename_i hd
  subst hd
  simp only [run_bind,Option.bind_eq_some_iff] at h
  obtain ⟨⟨S1,rs⟩,h1,h2⟩:=h
  split at h2
  ·rename_i hc
   simp only [Tr.run,Option.some.injEq] at h2
   subst h2
   simp only [Bool.and_eq_true] at hc
   obtain ⟨hc1,hc2⟩:=hc
   obtain ⟨rs',k0,k1,k2⟩:=TQ ops.toList S S1 [] rs 0 h1
   simp only [List.reverse_nil,List.nil_append] at k0
   subst k0
   have hlen:rs.length=ops.size:=by rw [← List.length_map (f:=(·.o)),k1]; simp
   have hat:∀ p,p∈DJ rs 0→ops[p.1]?=some p.2.o:=by
    intro p hp
    obtain ⟨_,h4⟩:=PE rs 0 p hp
    rw [Nat.sub_zero] at h4
    have:(rs.map (·.o))[p.1]?=some p.2.o:=by rw [List.getElem?_map,h4]; rfl
    rw [k1,Array.getElem?_toList] at this
    exact this
   refine wp_region_any hE.mix ?_
   refine T1 hE hF hN (ahead ops.toList []) (fun j o ho i hi=>?_) (fun j o ho e he hb=>?_) hQ ops.size (DJ rs 0) _ S a _ ?_ k2 hc1 ?_ hs.drawn
   ·have:=(RH ops.toList []).2 j o (by rw [Array.getElem?_toList]; exact ho) i (by simpa using hi)
    exact this
   ·have:=NR ops.toList 0 hc2 j o (by rw [Array.getElem?_toList]; exact ho) e he hb
    omega
   ·rw [← List.length_map (f:=(·.1)),HL]; simp [hlen]
   ·refine ⟨by simp,fun p hp=>(Array.getElem?_eq_some_iff.1 (hat p hp)).1,fun i hi=>?_,hat,?_,fun j hj i hi=>?_⟩
    ·rw [HL]
     simp only [List.mem_range'_1,Nat.zero_le,Nat.zero_add,true_and,hlen,hi,iff_true]
     rw [Array.getElem?_eq_getElem (by simpa using hi)]; simp
    ·rw [HL]; exact List.pairwise_lt_range'
    ·have:=(Array.getElem?_eq_some_iff.1 hj)
     obtain ⟨h5,h6⟩:=this
     simp at h6
  ·simp [Tr.run] at h2
 ·rename_i hd
  have hd':draw=false:=by simpa using hd
  subst hd'
  obtain ⟨rs,k1,k2⟩:=Tx ops.toList S S' 0 h
  refine wp_region_list ?_
  rw [← k1]
  exact Runs.list hE hF hN rs 0 k2 hs hQ
end
end Go.V
namespace Go.V
def Ex.out:Ex→Exit
 | .n=>.normal
 | .x id=>.exit id
 | .r=>.ret
section
variable {P:Program} {E:Env} {b:Base} {N:Nat}
theorem Mn {α:Type} {o:Option α} {x:α} (h:(Tr.opt o).run=some x):o=some x:=by
 cases o with
 | none=>simp [Tr.run] at h
 | some a=>simpa [Tr.run] using h
theorem Joins.ok:∀ (J:Joins) {e e':Ex} {S S':St} {x:J.D},J.prj e S=some x→(J.inj x).run=some (e',S')→e=e'∧∀ {a w},Sim b N S a w→Sim b N S' a w
 | [],e,e',S,S',x,_,_=>nomatch x
 | [t],e,e',S,S',x,h,h'=>by
  simp only [Joins.prj] at h
  split at h
  ·rename_i he
   simp only [Joins.inj,Tr.run,Option.some.injEq,Prod.mk.injEq] at h'
   obtain ⟨h1,h2⟩:=h'
   subst h2
   exact ⟨he.trans h1,fun hs=>t.2.ok h hs⟩
  ·cases h
 | t::u::l,e,e',S,S',x,h,h'=>by
  simp only [Joins.prj] at h
  split at h
  ·rename_i y hy
   injection h with h
   subst h
   split at hy
   ·rename_i he
    simp only [Joins.inj,Tr.run,Option.some.injEq,Prod.mk.injEq] at h'
    obtain ⟨h1,h2⟩:=h'
    subst h2
    exact ⟨he.trans h1,fun hs=>t.2.ok hy hs⟩
   ·cases hy
  ·split at h
   ·rename_i y hy
    injection h with h
    subst h
    exact Joins.ok (u::l) hy h'
   ·cases h
theorem KX {J:Joins} {t:Tr (Ex×St)} {e:Ex} {S':St} (h:(J4 J t).run=some (e,S')):∃ S0,t.run=some (e,S0)∧∀ {a w},Sim b N S0 a w→Sim b N S' a w:=by
 cases J with
 | nil=>exact ⟨S',h,fun hs=>hs⟩
 | cons j l=>
  simp only [J4,CY,Option.bind_eq_some_iff] at h
  obtain ⟨x,hx,h⟩:=h
  rw [run_bind,Option.bind_eq_some_iff] at hx
  obtain ⟨⟨e0,S0⟩,h1,h2⟩:=hx
  obtain ⟨k1,k2⟩:=Joins.ok (b:=b) (N:=N) (j::l) (Mn h2) h
  subst k1
  exact ⟨S0,h1,k2⟩
def Bx (P:Program) (b:Base) (N:Nat) (c:Code) (S:St) (e:Ex) (S':St):Prop:=
 ∀ {a:Act} {w:World} {Q:Exit→Act→World→Prop},Sim b N S a w→(∀ a' w',Sim b N S' a' w'→Q e.out a' w')→c.wp P Q a w
theorem Zp {c:Code} {S S0 S':St} {e:Ex} (h:Bx P b N c S e S0) (hw:∀ {a w},Sim b N S0 a w→Sim b N S' a w):Bx P b N c S e S':=
 fun hs hQ=>h hs fun a' w' hs'=>hQ a' w' (hw hs')
theorem then_out {e:Ex} {next:Act→World→Prop} {Q:Exit→Act→World→Prop} {a:Act} {w:World}:Exit.then next Q e.out a w↔(match e with | .n=>next a w | e=>Q e.out a w):=by
 cases e <;> exact Iff.rfl
theorem AaQ {c d:Code} {S:St} {x y:Ann} {e:Ex} {S':St} (ih1:∀ {ann S e S'},(Az E N ann c S).run=some (e,S')→Bx P b N c S e S') (ih2:∀ {ann S e S'},(Az E N ann d S).run=some (e,S')→Bx P b N d S e S')
  (h:((Az E N x c S).bind fun r=>match r.1 with | .n=>Az E N y d r.2 | e=>.ret (e,r.2)).run=some (e,S')):Bx P b N (.seq c d) S e S':=by
 rw [run_bind,Option.bind_eq_some_iff] at h
 obtain ⟨⟨e1,S1⟩,h1,h2⟩:=h
 intro a w Q hs hQ
 refine wp_seq (ih1 h1 hs fun a' w' hs'=>then_out.2 ?_)
 cases e1 with
 | n=>exact ih2 h2 hs' hQ
 | x id=>
  simp only [Tr.run,Option.some.injEq,Prod.mk.injEq] at h2
  obtain ⟨k1,k2⟩:=h2
  subst k1 k2
  exact hQ a' w' hs'
 | r=>
  simp only [Tr.run,Option.some.injEq,Prod.mk.injEq] at h2
  obtain ⟨k1,k2⟩:=h2
  subst k1 k2
  exact hQ a' w' hs'
theorem Yg {o:Operand} {c d:Code} {S:St} {t:Bool} {x y:Ann} {e:Ex} {S':St} (ih1:∀ {ann S e S'},(Az E N ann c S).run=some (e,S')→Bx P b N c S e S') (ih2:∀ {ann S e S'},(Az E N ann d S).run=some (e,S')→Bx P b N d S e S')
  (ho:Cw S o=.s (.one (.v .bool t))) (h:(Tr.br t (Az E N x c S) (Az E N y d S)).run=some (e,S')):Bx P b N (.cond o c d) S e S':=by
 intro a w Q hs hQ
 have hb:a.eval o=.bool t:=by
  obtain ⟨c,_,hsl,_⟩:=hs
  have:=AF hsl o
  rw [ho] at this
  exact D2 (AY this)
 refine wp_cond hb ?_
 simp only [Tr.run] at h
 split at h
 ·rename_i ht; rw [if_pos ht]; exact ih1 h hs hQ
 ·rename_i ht; rw [if_neg ht]; exact ih2 h hs hQ
theorem RT {α:Type} {e:Bool} {x y:Option α} {z:α} (h:H3 e x y=some z):y=some z∧(e=true→x=some z):=by
 unfold H3 at h
 split at h
 ·split at h
  ·rename_i hxy; exact ⟨h,fun _=>by rw [hxy]; exact h⟩
  ·cases h
 ·rename_i he; exact ⟨h,fun h'=>absurd h' he⟩
theorem AbD {o:Operand} {c d:Code} {S:St} {q:Bool} {x y:Ann} {J:Joins} {z:J.D} {e:Ex} {S':St} (ih1:∀ {ann S e S'},(Az E N ann c S).run=some (e,S')→Bx P b N c S e S') (ih2:∀ {ann S e S'},(Az E N ann d S).run=some (e,S')→Bx P b N d S e S')
  (ho:Cw S o=.s (.one (.qn q))) (hz:H3 q ((Az E N x c S).bind fun r=>Tr.opt (Joins.prj J r.1 r.2)).run ((Az E N y d S).bind fun r=>Tr.opt (Joins.prj J r.1 r.2)).run=some z)
  (h:(J.inj z).run=some (e,S')):Bx P b N (.cond o c d) S e S':=by
 obtain ⟨hB,hA⟩:=RT hz
 have side:∀ {k:Code} {v:Ann},(∀ {ann S e S'},(Az E N ann k S).run=some (e,S')→Bx P b N k S e S')→((Az E N v k S).bind fun r=>Tr.opt (Joins.prj J r.1 r.2)).run=some z→Bx P b N k S e S':=by
  intro k v ih hk
  rw [run_bind,Option.bind_eq_some_iff] at hk
  obtain ⟨⟨e1,S1⟩,h1,h2⟩:=hk
  obtain ⟨k1,k2⟩:=Joins.ok (b:=b) (N:=N) J (Mn h2) h
  subst k1
  exact Zp (ih h1) k2
 intro a w Q hs hQ
 obtain ⟨r,hb,hr⟩:∃ r:Bool,a.eval o=.bool r∧(r=true→q=true):=by
  obtain ⟨c,_,hsl,_⟩:=hs
  have:=AF hsl o
  rw [ho] at this
  exact this
 refine wp_cond hb ?_
 split
 ·rename_i hrt; exact side ih1 (hA (hr hrt)) hs hQ
 ·exact side ih2 hB hs hQ
def G4 (P:Program) (E:Env) (b:Base) (N:Nat) (c:Code):Prop:=∀ (ann:Ann) (S:St) (e:Ex) (S':St),(Az E N ann c S).run=some (e,S')→Bx P b N c S e S'
def Aeg (P:Program) (E:Env) (b:Base) (N:Nat) (c:Code):Prop:=match c with
 | .cond _ x y=>G4 P E b N x∧G4 P E b N y
 | .seq r (.cond _ x y)=>G4 P E b N r∧G4 P E b N x∧G4 P E b N y
 | _=>True
theorem Uo {k d:Code} {S:St} {v y:Ann} {J:Joins} {z:J.D} {e:Ex} {S':St} (hk:G4 P E b N k) (hd:G4 P E b N d)
  (hz:(((Az E N v k S).bind fun p=>match p.1 with | .n=>Az E N y d p.2 | e=>.ret (e,p.2)).bind fun t=>Tr.opt (Joins.prj J t.1 t.2)).run=some z) (h:(J.inj z).run=some (e,S'))
  {a:Act} {w:World} {Q:Exit→Act→World→Prop} (hs:Sim b N S a w) (hQ:∀ a' w',Sim b N S' a' w'→Q e.out a' w'):k.wp P (Exit.then (fun a w=>d.wp P Q a w) Q) a w:=by
 rw [run_bind,Option.bind_eq_some_iff] at hz
 obtain ⟨⟨e1,S1⟩,h1,h2⟩:=hz
 obtain ⟨k1,k2⟩:=Joins.ok (b:=b) (N:=N) J (Mn h2) h
 subst k1
 rw [run_bind,Option.bind_eq_some_iff] at h1
 obtain ⟨⟨e3,S3⟩,h3,h4⟩:=h1
 refine hk _ _ _ _ h3 hs fun a' w' hs'=>then_out.2 ?_
 cases e3 with
 | n=>exact hd _ _ _ _ h4 hs' fun a2 w2 hs2=>hQ a2 w2 (k2 hs2)
 | x id=>
  simp only [Tr.run,Option.some.injEq,Prod.mk.injEq] at h4
  obtain ⟨q1,q2⟩:=h4
  subst q1 q2
  exact hQ a' w' (k2 hs')
 | r=>
  simp only [Tr.run,Option.some.injEq,Prod.mk.injEq] at h4
  obtain ⟨q1,q2⟩:=h4
  subst q1 q2
  exact hQ a' w' (k2 hs')
theorem Ac4 {o:Operand} {r c1 c2 d:Code} {S:St} {J:Joins} {xr xa xb y z:Ann} {e:Ex} {S':St} (hr:G4 P E b N r) (h1:G4 P E b N c1) (h2:G4 P E b N c2) (hd:G4 P E b N d)
  (h:(Az E N (.both J xr xa xb y z) (.seq (.seq r (.cond o c1 c2)) d) S).run=some (e,S')):Bx P b N (.seq (.seq r (.cond o c1 c2)) d) S e S':=by
 rw [Az,run_bind,Option.bind_eq_some_iff] at h
 obtain ⟨⟨e1,S1⟩,h3,h4⟩:=h
 intro a w Q hs hQ
 refine wp_seq (wp_seq (hr _ _ _ _ h3 hs fun a' w' hs'=>then_out.2 ?_))
 cases e1 with
 | x id=>
  simp only [Tr.run,Option.some.injEq,Prod.mk.injEq] at h4
  obtain ⟨q1,q2⟩:=h4
  subst q1 q2
  exact then_out (e:=.x id).2 (hQ a' w' hs')
 | r=>
  simp only [Tr.run,Option.some.injEq,Prod.mk.injEq] at h4
  obtain ⟨q1,q2⟩:=h4
  subst q1 q2
  exact then_out (e:=.r).2 (hQ a' w' hs')
 | n=>
  simp only at h4
  split at h4
  ·rename_i q ho
   rw [CY,Option.bind_eq_some_iff] at h4
   obtain ⟨t,ht,h5⟩:=h4
   obtain ⟨hB,hA⟩:=RT ht
   obtain ⟨g,hb,hg⟩:∃ g:Bool,a'.eval o=.bool g∧(g=true→q=true):=by
    obtain ⟨c,_,hsl,_⟩:=hs'
    have:=AF hsl o
    rw [ho] at this
    exact this
   refine wp_cond hb ?_
   split
   ·rename_i hgt; exact Uo h1 hd (hA (hg hgt)) h5 hs' hQ
   ·exact Uo h2 hd hB h5 hs' hQ
  ·simp [Tr.run] at h4
theorem Vt {id:Nat} {c:Code} {S:St} {x:Ann} {e:Ex} {S':St} (ih1:∀ {ann S e S'},(Az E N ann c S).run=some (e,S')→Bx P b N c S e S')
  (h:((Az E N x c S).bind fun r=>.ret (if r.1=.x id then .n else r.1,r.2)).run=some (e,S')):Bx P b N (.block id c) S e S':=by
 rw [run_bind,Option.bind_eq_some_iff] at h
 obtain ⟨⟨e1,S1⟩,h1,h2⟩:=h
 simp only [Tr.run,Option.some.injEq,Prod.mk.injEq] at h2
 obtain ⟨k1,k2⟩:=h2
 subst k2
 intro a w Q hs hQ
 refine wp_block (ih1 h1 hs fun a' w' hs'=>?_)
 have:=hQ a' w' hs'
 cases e1 with
 | n=>simp only [reduceCtorEq,if_false] at k1; subst k1; exact this
 | x id'=>
  by_cases hid:id'=id
  ·subst hid
   simp only [if_true] at k1
   subst k1
   simp only [Ex.out,Exit.inBlock,if_true]
   exact this
  ·have:¬ (Ex.x id'=Ex.x id):=fun h=>hid (by injection h)
   rw [if_neg this] at k1
   subst k1
   simp only [Ex.out,Exit.inBlock,hid,if_false]
   assumption
 | r=>simp only [reduceCtorEq,if_false] at k1; subst k1; exact this
theorem Adf {c:Code} {S:St} {t:Tpl} {J:Joins} {x:Ann} {e:Ex} {S':St} (ih1:∀ {ann S e S'},(Az E N ann c S).run=some (e,S')→Bx P b N c S e S') {x0:t.D} (hx:t.prj S=some x0)
  (h:(Tr.get (Joins.D J) (Ab (fun y:t.D=>((Az E N x c (t.inj y)).bind fun r=>match r.1 with
    | .n=>Tr.opt (match t.prj r.2 with | some z=>some (Sum.inl (β:=Joins.D J) z) | none=>none)
    | e=>Tr.opt (match J.prj e r.2 with | some z=>some (Sum.inr (α:=t.D) z) | none=>none)).run) x0) J.inj).run=some (e,S')):Bx P b N (.loop c) S e S':=by
 rw [CY,Option.bind_eq_some_iff] at h
 obtain ⟨y,hy,h⟩:=h
 obtain ⟨n0,hn0⟩:=(Jq _ _ _).1 hy
 intro a w Q hs hQ
 generalize hf:(fun y:t.D=>((Az E N x c (t.inj y)).bind fun r=>match r.1 with
    | .n=>Tr.opt (match t.prj r.2 with | some z=>some (Sum.inl (β:=Joins.D J) z) | none=>none)
    | e=>Tr.opt (match J.prj e r.2 with | some z=>some (Sum.inr (α:=t.D) z) | none=>none)).run)=f at hn0
 refine wp_loop_ghost (fun n a w=>∃ x,Sim b N (t.inj x) a w∧EW f n x=some y) n0 ⟨x0,t.ok hx hs,hn0⟩ ?_
 rintro n a w ⟨z,hz,hn⟩
 cases n with
 | zero=>simp [EW] at hn
 | succ n=>
  simp only [EW] at hn
  have hfz:f z=((Az E N x c (t.inj z)).bind fun r=>match r.1 with
    | .n=>Tr.opt (match t.prj r.2 with | some z=>some (Sum.inl (β:=Joins.D J) z) | none=>none)
    | e=>Tr.opt (match J.prj e r.2 with | some z=>some (Sum.inr (α:=t.D) z) | none=>none)).run:=by rw [← hf]
  cases hfv:f z with
  | none=>rw [hfv] at hn; cases hn
  | some v=>
   rw [hfv] at hn hfz
   have hfz':=hfz.symm
   rw [run_bind,Option.bind_eq_some_iff] at hfz'
   obtain ⟨⟨e1,S1⟩,h1,h2⟩:=hfz'
   refine ih1 h1 hz fun a' w' hs'=>then_out.2 ?_
   have other:∀ e2,(Tr.opt (match J.prj e2 S1 with | some z=>some (Sum.inr (α:=t.D) z) | none=>none)).run=some v→Q e2.out a' w':=by
    intro e2 h2
    have h3:=Mn h2
    split at h3
    ·rename_i z' hz'
     injection h3 with h3
     subst h3
     simp only [Option.some.injEq] at hn
     subst hn
     obtain ⟨k1,k2⟩:=Joins.ok (b:=b) (N:=N) J hz' h
     subst k1
     exact hQ a' w' (k2 hs')
    ·cases h3
   cases e1 with
   | n=>
    have h3:=Mn h2
    split at h3
    ·rename_i z' hz'
     injection h3 with h3
     subst h3
     exact ⟨n,by omega,z',t.ok hz' hs',hn⟩
    ·cases h3
   | x id=>exact other _ h2
   | r=>exact other _ h2
theorem AbV (hE:EnvOk P E) (hF:∀ p,p∈b.fx→E.fx.contains p.1=true) (hN:N < b.n1) (c:Code):∀ {ann:Ann} {S:St} {e:Ex} {S':St},(Az E N ann c S).run=some (e,S')→Bx P b N c S e S':=by
 have reg:∀ {id:Nat} {ops:Array Oper} {draw:Bool} {S:St} {e:Ex} {S':St},((JS E N ops draw S).bind fun S=>.ret (.n,S)).run=some (e,S')→Bx P b N (.region id ops draw) S e S':=by
  intro id ops draw S e S' h
  rw [run_bind,Option.bind_eq_some_iff] at h
  obtain ⟨S1,h1,h2⟩:=h
  simp only [Tr.run,Option.some.injEq,Prod.mk.injEq] at h2
  obtain ⟨k1,k2⟩:=h2
  subst k1 k2
  intro a w Q hs hQ
  exact ZT hE hF hN h1 hs hQ
 suffices hh:G4 P E b N c∧Aeg P E b N c by
  intro ann S e S' h
  exact hh.1 _ _ _ _ h
 induction c with
 | skip=>
  refine ⟨?_,trivial⟩
  intro ann S e S' h
  have:Az E N ann .skip S=.ret (.n,S):=by cases ann <;> rfl
  rw [this] at h
  simp only [Tr.run,Option.some.injEq,Prod.mk.injEq] at h
  obtain ⟨k1,k2⟩:=h
  subst k1 k2
  intro a w Q hs hQ
  exact wp_skip (hQ a w hs)
 | region id ops draw=>
  refine ⟨?_,trivial⟩
  intro ann S e S' h
  cases ann with
  | reg J=>
   obtain ⟨S0,h1,h2⟩:=KX (b:=b) (N:=N) (show (J4 J ((JS E N ops draw S).bind fun S=>.ret (.n,S))).run=some (e,S') from h)
   exact Zp (reg h1) h2
  | _=>exact reg h
 | seq c d ih1 ih2=>
  have i1:∀ {ann S e S'},(Az E N ann c S).run=some (e,S')→Bx P b N c S e S':=fun h=>ih1.1 _ _ _ _ h
  have i2:∀ {ann S e S'},(Az E N ann d S).run=some (e,S')→Bx P b N d S e S':=fun h=>ih2.1 _ _ _ _ h
  refine ⟨?_,?_⟩
  ·intro ann S e S' h
   cases ann with
   | seq x y=>exact AaQ i1 i2 h
   | nil=>exact AaQ i1 i2 h
   | both J xr xa xb y z=>
    match c,ih1,h with
    | .seq r (.cond o c1 c2),ih1,h=>(intro a w Q hs hQ; exact Ac4 ih1.2.1 ih1.2.2.1 ih1.2.2.2 ih2.1 h hs hQ)
    | .seq _ (.skip),_,h | .seq _ (.region ..),_,h | .seq _ (.seq ..),_,h | .seq _ (.block ..),_,h | .seq _ (.loop ..),_,h | .seq _ (.rangeFunc ..),_,h | .seq _ (.exit ..),_,h | .seq _ (.scope ..),_,h | .seq _ (.label ..),_,h | .seq _ (.goto ..),_,h | .seq _ (.ret),_,h | .seq _ (.refuse ..),_,h=>cases h
    | .skip,_,h | .region ..,_,h | .cond ..,_,h | .block ..,_,h | .loop ..,_,h | .rangeFunc ..,_,h | .exit ..,_,h | .scope ..,_,h | .label ..,_,h | .goto ..,_,h | .ret,_,h | .refuse ..,_,h=>cases h
   | _=>cases h
  ·cases d with
   | cond o c1 c2=>exact ⟨ih1.1,ih2.2.1,ih2.2.2⟩
   | _=>trivial
 | cond o c d ih1' ih2'=>
  have ih1:∀ {ann S e S'},(Az E N ann c S).run=some (e,S')→Bx P b N c S e S':=fun h=>ih1'.1 _ _ _ _ h
  have ih2:∀ {ann S e S'},(Az E N ann d S).run=some (e,S')→Bx P b N d S e S':=fun h=>ih2'.1 _ _ _ _ h
  refine ⟨?_,ih1'.1,ih2'.1⟩
  intro ann S e S' h
  cases ann with
  | cond J x y=>
   simp only [Az] at h
   split at h
   ·rename_i t ho
    obtain ⟨S0,h1,h2⟩:=KX (b:=b) (N:=N) h
    exact Zp (Yg ih1 ih2 ho h1) h2
   ·rename_i e0 ho
    rw [CY,Option.bind_eq_some_iff] at h
    obtain ⟨z,hz,h⟩:=h
    exact AbD ih1 ih2 ho hz h
   ·cases h
  | nil=>
   simp only [Az] at h
   split at h
   ·rename_i t ho
    exact Yg ih1 ih2 ho h
   ·cases h
  | _=>cases h
 | block id c ih1'=>
  have ih1:∀ {ann S e S'},(Az E N ann c S).run=some (e,S')→Bx P b N c S e S':=fun h=>ih1'.1 _ _ _ _ h
  refine ⟨?_,trivial⟩
  intro ann S e S' h
  cases ann with
  | block J x=>
   obtain ⟨S0,h1,h2⟩:=KX (b:=b) (N:=N) h
   exact Zp (Vt ih1 h1) h2
  | nil=>exact Vt ih1 h
  | _=>cases h
 | loop c ih1'=>
  have ih1:∀ {ann S e S'},(Az E N ann c S).run=some (e,S')→Bx P b N c S e S':=fun h=>ih1'.1 _ _ _ _ h
  refine ⟨?_,trivial⟩
  intro ann S e S' h
  cases ann with
  | loop t J x=>
   simp only [Az] at h
   split at h
   ·rename_i x0 hx
    exact Adf ih1 hx h
   ·cases h
  | _=>cases h
 | exit id=>
  refine ⟨?_,trivial⟩
  intro ann S e S' h
  have:Az E N ann (.exit id) S=.ret (.x id,S):=by cases ann <;> rfl
  rw [this] at h
  simp only [Tr.run,Option.some.injEq,Prod.mk.injEq] at h
  obtain ⟨k1,k2⟩:=h
  subst k1 k2
  intro a w Q hs hQ
  exact wp_exit (hQ a w hs)
 | ret=>
  refine ⟨?_,trivial⟩
  intro ann S e S' h
  have:Az E N ann .ret S=.ret (.r,S):=by cases ann <;> rfl
  rw [this] at h
  simp only [Tr.run,Option.some.injEq,Prod.mk.injEq] at h
  obtain ⟨k1,k2⟩:=h
  subst k1 k2
  intro a w Q hs hQ
  exact wp_ret (hQ a w hs)
 | _=>
  refine ⟨?_,trivial⟩
  intro ann S e S' h
  cases ann <;> cases h
end
end Go.V
namespace Go.V
open Go.RowKit
section
variable {P:Program} {E:Env} {b:Base} {S:St} {c:Cc} {w:World}
theorem Nc (hi:Inv b S w c) {t:Ty} {l:Leaf} {v:Value} {y:Ae×List Nat} (hl:LeafOk S c w (Kok b S c) l v) (h:(LU t l).ev S=some y) :
  Ows S y.2∧∃ G,ALOk w (Kok b S c) y.1 v G∧G.Nodup∧B7 c y.2 G:=by
 have hn:Ows S []:=fun k hk=>(by cases hk)
 have hh:B7 c [] []:=fun g hg=>(by cases hg)
 unfold LU at h
 split at h
 ·simp only [Tr.ev,Option.some.injEq] at h
  subst h
  exact ⟨hn,[],⟨hl,fun _=>rfl⟩,by simp,hh⟩
 ·obtain rfl:v=.slice none 0 0:=hl
  split at h
  ·simp only [Tr.ev,Option.some.injEq] at h
   subst h
   refine ⟨hn,[],⟨?_,fun _=>rfl⟩,by simp,hh⟩
   simp only [Rp]; exact .inl ⟨trivial,trivial,trivial⟩
  ·simp [Tr.ev] at h
 ·rename_i k win
  simp only [Ai,Option.bind_eq_some_iff,Tr.ev,Option.some.injEq] at h
  obtain ⟨o,ho,h⟩:=h
  subst h
  obtain ⟨h1,F',h2,h3,h4⟩:=Hq hi hl ho
  exact ⟨fun k' hk'=>(by simp only [List.mem_singleton] at hk'; subst hk'; exact h1),F',⟨h2,fun h=>(by simp [Ty.own] at h)⟩,h4,fun g hg=>⟨k,by simp,h3 g hg⟩⟩
 ·simp [Tr.ev] at h
def Outs (S:St) (c:Cc) (gv G:List Nat):Prop:=Ows S gv∧(AB gv=true→G.Nodup)∧B7 c gv G
theorem Outs.nil:Outs S c [] []:=⟨fun k hk=>(by cases hk),fun _=>by simp,fun g hg=>(by cases hg)⟩
theorem Outs.append (hi:Inv b S w c) {k l G H:List Nat} (h1:Outs S c k G) (h2:Outs S c l H):Outs S c (k++l) (G++H):=by
 refine ⟨CE h1.1 h2.1,fun hu=>?_,fun g hg=>?_⟩
 ·obtain ⟨u1,u2,_⟩:=AJ hu
  exact (CC hi h1.2.2 h2.2.2 h1.1 h2.1 hu (h1.2.1 u1) (h2.2.1 u2)).2
 ·rcases List.mem_append.1 hg with hg | hg
  ·obtain ⟨k,h,h'⟩:=h1.2.2 g hg; exact ⟨k,by simp [h],h'⟩
  ·obtain ⟨k,h,h'⟩:=h2.2.2 g hg; exact ⟨k,by simp [h],h'⟩
theorem OM (hi:Inv b S w c):∀ {ls:List Leaf} {ts:List Ty} {vs:List Value} {y:List Ae×List Nat},All2 (LeafOk S c w (Kok b S c)) ls vs→(FF ts ls).ev S=some y→
  ∃ G,FL (ALOk w (Kok b S c)) y.1 vs G∧Outs S c y.2 G
 | [],[],_,y,.nil,h=>by
  rw [FF] at h
  simp only [Tr.ev,Option.some.injEq] at h
  subst h
  exact ⟨[],⟨rfl,rfl⟩,Outs.nil⟩
 | l::ls,t::ts,_,y,.cons (b:=v) (bs:=vs) h1 h2,h=>by
  rw [FF] at h
  simp only [Ai,Option.bind_eq_some_iff,Tr.ev,Option.some.injEq] at h
  obtain ⟨y1,hy1,y2,hy2,rfl⟩:=h
  obtain ⟨k1,G,k2,k3,k4⟩:=Nc hi h1 hy1
  obtain ⟨H,m2,m3⟩:=OM hi h2 hy2
  exact ⟨G++H,⟨v,vs,G,H,rfl,rfl,k2,m2⟩,Outs.append hi ⟨k1,fun _=>k3,k4⟩ m3⟩
 | [],_::_,_,_,_,h=>by simp [FF,Tr.ev] at h
 | _::_,[],_,_,_,h=>by simp [FF,Tr.ev] at h
theorem T9 (hi:Inv b S w c) {N M:Nat} (hN:b.n1=N+1) (hM:b.ms.length=M) {t:TypeId} {x:SV} {v:Value} {y:A1×List Nat} (hx:AI S c w (Kok b S c) x v) (h:(RG E N M t x).ev S=some y) :
  ∃ G,A1Ok w (Kok b S c) b.ms y.1 v G∧Outs S c y.2 G:=by
 unfold RG at h
 split at h
 ·simp only [Ai,Option.bind_eq_some_iff,Tr.ev,Option.some.injEq] at h
  obtain ⟨z,hz,h⟩:=h
  subst h
  obtain ⟨k1,G,k2,k3,k4⟩:=Nc hi (AY hx) hz
  exact ⟨G,k2,k1,fun _=>k3,k4⟩
 ·simp only [Ai,Option.bind_eq_some_iff,Tr.ev,Option.some.injEq] at h
  obtain ⟨z,hz,h⟩:=h
  subst h
  obtain ⟨vs,rfl,hx⟩:=hx
  obtain ⟨G,k1,k2⟩:=OM hi hx hz
  exact ⟨G,⟨vs,rfl,k1⟩,k2⟩
 ·rename_i k off
  split at h
  ·rename_i hk
   simp only [Tr.ev,Option.some.injEq] at h
   subst h
   obtain ⟨n,hn,rfl⟩:=hx
   have hlt:k - (N+1) < b.ms.length:=by omega
   have han:=hi.an (k - (N+1)) _ (List.getElem?_eq_getElem hlt)
   rw [hN,show N+1+(k - (N+1))=k by omega] at han
   exact ⟨[],⟨rfl,_,List.getElem?_eq_getElem hlt,by rw [han.1,han.2]⟩,Outs.nil⟩
  ·simp [Tr.ev] at h
 ·simp [Tr.ev] at h
theorem XL {t:TypeId} {v u:Value} {w':World} (h:(Instr.loadAt t v).run P w=.ok u w'):(do loadVar t (← asAddr v):Sem Value).run P w=.ok u w':=by
 unfold Instr.loadAt at h
 cases v with
 | pointer o=>
  cases o with
  | some a=>simpa [asAddr,Instr.sureAddr] using h
  | none=>simp [Instr.sureAddr] at h
 | _=>simp [Instr.sureAddr] at h
def Pi (tmps:Array Value):ResultVar→Sem Value
 | .tmp t=>pure (tmps.getD t undef)
 | .cell a t=>do loadVar t (← asAddr (tmps.getD a undef))
theorem Nh (hT:TabOk P E.ti) {N M:Nat} (hN:b.n1=N+1) (hM:b.ms.length=M) {a:Act} (hi:Inv b S w c) (hs:Slots N S c w (Kok b S c) a):∀ (rs:List ResultVar) (ts:List TypeId) {y:List A1×List Nat},(Gq E N M S rs ts).ev S=some y→
  ∃ vs G,(rs.mapM (Pi a.tmps)).run P w=.ok vs w∧FL (A1Ok w (Kok b S c) b.ms) y.1 vs G∧Outs S c y.2 G
 | [],[],y,h=>by
  rw [Gq] at h
  simp only [Tr.ev,Option.some.injEq] at h
  subst h
  exact ⟨[],[],by simp,⟨rfl,rfl⟩,Outs.nil⟩
 | .tmp s::rs,t::ts,y,h=>by
  rw [Gq] at h
  simp only [Ai,Option.bind_eq_some_iff,Tr.ev,Option.some.injEq] at h
  obtain ⟨y1,hy1,y2,hy2,rfl⟩:=h
  obtain ⟨G,k1,k2⟩:=T9 hi hN hM (hs.ok s) hy1
  obtain ⟨vs,H,m1,m2,m3⟩:=Nh hT hN hM hi hs rs ts hy2
  refine ⟨_::vs,G++H,?_,⟨_,vs,G,H,rfl,rfl,k1,m2⟩,Outs.append hi k2 m3⟩
  simp only [List.mapM_cons,Pi,Sem.run_bind,Sem.run_pure,Result.andThen_ok,m1]
 | .cell s t'::rs,t::ts,y,h=>by
  rw [Gq] at h
  split at h
  ·rename_i a1 cs ha hcs
   split at h
   ·simp [Tr.ev] at h
   ·rename_i hne
    rw [Ai,Option.bind_eq_some_iff] at h
    obtain ⟨x,hx,h⟩:=h
    simp only [Ai,Option.bind_eq_some_iff,Tr.ev,Option.some.injEq] at h
    obtain ⟨y1,hy1,y2,hy2,rfl⟩:=h
    have hv:=hs.ok s
    rw [ha] at hv
    have hpos:0 < cs.length:=by
     cases cs with
     | nil=>simp at hne
     | cons _ _=>simp
    obtain ⟨u,k0,k1⟩:=Yq (P:=P) hT hi hv hcs hx hpos
    obtain ⟨G,k2,k3⟩:=T9 hi hN hM k1 hy1
    obtain ⟨vs,H,m1,m2,m3⟩:=Nh hT hN hM hi hs rs ts hy2
    refine ⟨u::vs,G++H,?_,⟨u,vs,G,H,rfl,rfl,k2,m2⟩,Outs.append hi k3 m3⟩
    have hl:=XL k0
    rw [List.mapM_cons,Sem.run_bind]
    show ((do loadVar t' (← asAddr (a.tmps.getD s undef)):Sem Value).run P w).andThen _=_
    rw [hl]
    simp only [Result.andThen_ok,Sem.run_bind,m1,Sem.run_pure]
  ·simp [Tr.ev] at h
 | [],_::_,_,h=>by simp [Gq,Tr.ev] at h
 | _::_,[],_,h=>by
  rename_i r _ _
  cases r <;> simp [Gq,Tr.ev] at h
theorem Za (hi:Inv b S w c) {N M:Nat} (hN:b.n1=N+1) (hM:b.ms.length=M) {t:Ty} {l:Leaf} {v:Value} {y:Ae×List Nat} (hl:LeafOk S c w (Kok b S c) l v) (h:(Ti N M t l).ev S=some y) :
  Ows S y.2∧∃ G,ROk w (Kok b S c) b.ms y.1 v G∧G.Nodup∧B7 c y.2 G:=by
 unfold Ti at h
 split at h
 ·rename_i k off
  split at h
  ·rename_i hk
   simp only [Tr.ev,Option.some.injEq] at h
   subst h
   obtain ⟨n,hn,rfl⟩:=hl
   have hlt:k - (N+1) < b.ms.length:=by omega
   have han:=hi.an (k - (N+1)) _ (List.getElem?_eq_getElem hlt)
   rw [hN,show N+1+(k - (N+1))=k by omega] at han
   refine ⟨fun k hk=>(by cases hk),[],.inr ⟨rfl,_,_,rfl,List.getElem?_eq_getElem hlt,by rw [← han.1,← han.2]⟩,by simp,fun g hg=>(by cases hg)⟩
  ·simp [Tr.ev] at h
 ·obtain ⟨k1,G,k2,k3,k4⟩:=Nc hi hl h
  exact ⟨k1,G,.inl k2,k3,k4⟩
theorem T3 (hi:Inv b S w c) {N M:Nat} (hN:b.n1=N+1) (hM:b.ms.length=M) (k:Nat):∀ (row:List Ae) (i:Nat) (vs:List Value) {y:List Ae×List Nat},vs.length=row.length→(∀ j v,vs[j]?=some v→LeafOk S c w (Kok b S c) (S.mc k (i+j)) v)→(Pa N M k row i).ev S=some y→
  ∃ G,FL (ROk w (Kok b S c) b.ms) y.1 vs G∧Outs S c y.2 G
 | [],i,vs,y,hl,_,h=>by
  rw [Pa] at h
  simp only [Tr.ev,Option.some.injEq] at h
  subst h
  obtain rfl:vs=[]:=List.eq_nil_of_length_eq_zero hl
  exact ⟨[],⟨rfl,rfl⟩,Outs.nil⟩
 | r::row,i,[],y,hl,_,_=>by simp at hl
 | r::row,i,v::vs,y,hl,hc,h=>by
  rw [Pa] at h
  simp only [Tr.ev,Ai,Option.bind_eq_some_iff,Option.some.injEq] at h
  obtain ⟨y1,hy1,y2,hy2,rfl⟩:=h
  obtain ⟨k1,G,k2,k3,k4⟩:=Za hi hN hM (hc 0 v rfl) hy1
  obtain ⟨H,m1,m2⟩:=T3 hi hN hM k row (i+1) vs (by simpa using hl) (fun j v hv=>by
   have:=hc (j+1) v (by simpa using hv)
   rwa [show i+(j+1)=i+1+j by omega] at this) hy2
  exact ⟨G++H,⟨v,vs,G,H,rfl,rfl,k2,m1⟩,Outs.append hi ⟨k1,fun _=>k3,k4⟩ m2⟩
theorem QW (hi:Inv b S w c) {N M:Nat} (hN:b.n1=N+1) (hM:b.ms.length=M):∀ (rows:List (List Ae)) (m:Nat) (gs:List (Nat×Nat)) {y:List (List Ae)×List Nat},gs.length=rows.length→(∀ j g,gs[j]?=some g→b.ms[m+j]?=some g)→(Mo N M rows m).ev S=some y→
  (∀ j r,rows[j]?=some r→S.ms (N+1+m+j)=some r.length)∧y.1.map List.length=rows.map List.length∧∃ G,RowsOk w (Kok b S c) b.ms gs y.1 G∧Outs S c y.2 G
 | [],m,gs,y,hl,_,h=>by
  rw [Mo] at h
  simp only [Tr.ev,Option.some.injEq] at h
  subst h
  obtain rfl:gs=[]:=List.eq_nil_of_length_eq_zero hl
  exact ⟨fun j r hj=>by simp at hj,rfl,[],⟨rfl,rfl⟩,Outs.nil⟩
 | r::rows,m,[],y,hl,_,_=>by simp at hl
 | r::rows,m,g::gs,y,hl,hg,h=>by
  rw [Mo] at h
  simp only [Tr.ev] at h
  split at h
  ·rename_i hn
   simp only [Tr.ev,Ai,Option.bind_eq_some_iff,Option.some.injEq] at h
   obtain ⟨y1,hy1,y2,hy2,rfl⟩:=h
   obtain ⟨cs,e,fr,h1,h2,h3,h4,_⟩:=hi.ms _ _ hn
   have hgm:c.mb (N+1+m)=g.1∧c.mo (N+1+m)=g.2:=by rw [← hN]; exact hi.an m g (by have:=hg 0 g rfl; simpa using this)
   rw [hgm.2] at h2 h4
   have hwl:((cs.toList.drop g.2).take r.length).length=r.length:=by
    rw [List.length_take,List.length_drop,Array.length_toList (xs:=cs)]; omega
   obtain ⟨G,k1,k2⟩:=T3 hi hN hM (N+1+m) r 0 _ hwl (fun j v hv=>by
    have hj:j < r.length:=by rw [← hwl]; exact (List.getElem?_eq_some_iff.1 hv).1
    rw [List.getElem?_take_of_lt hj,List.getElem?_drop,Array.getElem?_toList] at hv
    rw [Nat.zero_add]; exact h4 j v hj hv) hy1
   have hl1:y1.1.length=r.length:=by rw [← hwl]; exact k1.len.symm
   obtain ⟨q1,ql,H,m1,m2⟩:=QW hi hN hM rows (m+1) gs (by simpa using hl) (fun j g' hg'=>by
    have:=hg (j+1) g' (by simpa using hg')
    rwa [show m+(j+1)=m+1+j by omega] at this) hy2
   refine ⟨fun j r' hj=>?_,by simp [hl1,ql],G++H,⟨y1.1,y2.1,cs,e,fr,G,H,rfl,rfl,by rw [← hgm.1]; exact h1,h3,⟨by omega,by rw [hl1]; exact k1⟩,m1⟩,Outs.append hi k2 m2⟩
   cases j with
   | zero=>
    simp only [List.getElem?_cons_zero,Option.some.injEq] at hj
    subst hj
    rw [Nat.add_zero,hn]
   | succ j=>
    have:=q1 j r' (by simpa using hj)
    rwa [show N+1+(m+1)+j=N+1+m+(j+1) by omega] at this
  ·simp [Tr.ev] at h
end
theorem ZZ:∀ (l:List (Nat×List Leaf)) (S:St),(l.map (·.1)).Nodup→(S.ups (l.map fun p=>.ms p.1 p.2)).ow=S.ow∧(S.ups (l.map fun p=>.ms p.1 p.2)).sl=S.sl∧
  (∀ k,(S.ups (l.map fun p=>.ms p.1 p.2)).ms k=match find l k with | some r=>some r.length | none=>S.ms k)∧∀ k i,(S.ups (l.map fun p=>.ms p.1 p.2)).mc k i=match find l k with | some r=>r.getD i .no | none=>S.mc k i
 | [],S,_=>⟨rfl,rfl,fun _=>rfl,fun _ _=>rfl⟩
 | p::l,S,h=>by
  rw [List.map_cons,List.nodup_cons] at h
  obtain ⟨h1,h2,h3,h4⟩:=ZZ l (S.up (.ms p.1 p.2)) h.2
  obtain ⟨i0,row⟩:=p
  refine ⟨h1,h2,fun k=>?_,fun k i=>?_⟩
  ·show ((S.up (.ms i0 row)).ups (l.map fun p=>.ms p.1 p.2)).ms k=_
   rw [h3]
   simp only [find]
   by_cases hk:k=i0
   ·subst hk; rw [HE h.1,if_pos rfl]; simp [St.up]
   ·rw [if_neg hk]
    have:(S.up (.ms i0 row)).ms k=S.ms k:=by show (if k=i0 then _ else S.ms k)=_; rw [if_neg hk]
    rw [this]
  ·show ((S.up (.ms i0 row)).ups (l.map fun p=>.ms p.1 p.2)).mc k i=_
   rw [h4]
   simp only [find]
   by_cases hk:k=i0
   ·subst hk; rw [HE h.1,if_pos rfl]; simp [St.up]
   ·rw [if_neg hk]
    have:(S.up (.ms i0 row)).mc k i=S.mc k i:=by show (if k=i0 then _ else S.mc k i)=_; rw [if_neg hk]
    rw [this]
theorem PY:∀ (xs:List S1) (n:Nat) (S:St),(He xs n S).ow=S.ow∧(He xs n S).ms=S.ms∧(He xs n S).mc=S.mc∧
  ∀ i,(He xs n S).sl i=if n≤i then (match xs[i - n]? with | some x=>.s x | none=>S.sl i) else S.sl i
 | [],n,S=>⟨rfl,rfl,rfl,fun i=>by split <;> rfl⟩
 | x::xs,n,S=>by
  obtain ⟨h1,h2,h3,h4⟩:=PY xs (n+1) (S.put n (.s x))
  refine ⟨h1,h2,h3,fun i=>?_⟩
  show (He xs (n+1) (S.put n (.s x))).sl i=_
  rw [h4]
  by_cases hi:n+1≤i
  ·rw [if_pos hi,if_pos (by omega),show i - n=(i - (n+1))+1 by omega,List.getElem?_cons_succ]
   have:(S.put n (.s x)).sl i=S.sl i:=by show (if i=n then _ else S.sl i)=_; rw [if_neg (by omega)]
   rw [this]
  ·rw [if_neg hi]
   by_cases hin:i=n
   ·subst hin
    rw [if_pos (Nat.le_refl _),Nat.sub_self]
    show (if i=i then SV.s x else S.sl i)=_
    rw [if_pos rfl]; rfl
   ·rw [if_neg (by omega)]
    show (if i=n then _ else S.sl i)=_
    rw [if_neg hin]
theorem RowsOk.len {w:World} {K:Nat→Prop} {mk:List (Nat×Nat)}:∀ {ms:List (Nat×Nat)} {rs F},RowsOk w K mk ms rs F→rs.length=ms.length
 | [],_,_,h=>by rw [h.1]; rfl
 | _::_,_,_,⟨_,_,_,_,_,_,_,e1,_,_,_,_,h⟩=>by rw [e1]; simp [RowsOk.len h]
theorem All2.map_right {α β:Type} {p:α→β→Prop} {as bs} (h:All2 p as bs) {i:Nat} {x:β} (hx:bs[i]?=some x):∃ a,as[i]?=some a∧p a x:=by
 have hlt:i < as.length:=by rw [h.len]; exact (List.getElem?_eq_some_iff.1 hx).1
 obtain ⟨y,hy,hp⟩:=h.get (List.getElem?_eq_getElem hlt)
 rw [hx] at hy
 injection hy with hy
 subst hy
 exact ⟨_,List.getElem?_eq_getElem hlt,hp⟩
theorem Ab0 {N:Nat} {as:List A1} {rows:List (List Ae)} {S:St} (h:YS N as rows=some S) {w:World} {vals:List Value} {Ro:Nat→Prop} {ms:List (Nat×Nat)} {F1 F2:List Nat} (hA:FL (A1Ok w Ro ms) as vals F1) (hR:RowsOk w Ro ms ms rows F2)
  (hnd:(ms.map (·.1)++(F1++F2)).Nodup) (hlt:∀ g,g∈ms.map (·.1)++(F1++F2)→g < w.heap.size∧¬ Ro g) (hN:vals.length≤N) (fx:List (Nat×Value)) (hfx:∀ p,p∈fx→vals[p.1]?=some p.2) (hgb:GlF w∧∀ g,glo g→Ro g∧¬ g∈ms.map (·.1)++(F1++F2)) :
  Sim ⟨w,Ro,fun g=>g∈ms.map (·.1)++(F1++F2),N+1,ms,fx,hgb⟩ N S ⟨vals.toArray++Array.replicate (N - vals.length) undef,[]⟩ w:=by
 unfold YS at h
 split at h
 ·rename_i vs rs hv hr
  split at h
  ·rename_i hu
   injection h with h
   have hlen:=hR.len
   generalize hK:(List.range rows.length).map (fun m=>(N+1+m,0))=K at hv hr
   let mb:Nat→Nat:=fun κ=>(ms.getD (κ - (N+1)) (0,0)).1
   let mo:Nat→Nat:=fun κ=>(ms.getD (κ - (N+1)) (0,0)).2
   have hmb:K.map (loc mb mo)=ms:=by
    rw [← hK,List.map_map,hlen]
    apply List.ext_getElem?
    intro i
    rw [List.getElem?_map]
    by_cases hi:i < ms.length
    ·rw [List.getElem?_range hi]
     simp only [Option.map_some,Function.comp,loc,mb,mo]
     rw [Nat.add_sub_cancel_left,List.getD_eq_getElem?_getD,List.getElem?_eq_getElem hi]; rfl
    ·rw [List.getElem?_eq_none (by simpa using Nat.le_of_not_lt hi),List.getElem?_eq_none (by omega)]; rfl
   have hKn:(K.map (·.1)).Nodup:=by
    rw [← hK,List.map_map]
    exact List.Pairwise.map _ (fun a b h=>by simp only [Function.comp]; omega) List.nodup_range
   have hK0:∀ p,p∈K→p.2=0:=by
    intro p hp
    rw [← hK] at hp
    obtain ⟨m,_,rfl⟩:=List.mem_map.1 hp
    rfl
   rw [← hmb] at hA hR
   obtain ⟨n1,a1,a2⟩:=LN K mb mo as _ hA hv
   obtain ⟨b1,b2,n2,b3,b4⟩:=LO K mb mo K rows _ hR hr
   rw [hmb] at hA hR
   have hall:=a1.append b3
   have hnl:n1.length=vs.2.length:=a1.len
   have hkeys:=BD hu
   have hFn:(F1++F2).Nodup:=(List.nodup_append.1 hnd).2.1
   generalize hl:vs.2++rs.2=l at *
   generalize hns:n1++n2=ns at *
   let news:Nat→Option New:=fun k=>find ((l.map (·.1)).zip ns) k
   let c:Cc:=⟨mb,mo,fun k=>match news k with | some n=>n.h | none=>undef,fun k=>match news k with | some n=>n.F | none=>[]⟩
   obtain ⟨o1,o2,o3,o4⟩:=QM l blank hkeys
   have hq:(rs.1.map fun p=>U.ms p.1.1 p.2)=(rs.1.map fun p=>(p.1.1,p.2)).map fun p=>U.ms p.1 p.2:=by rw [List.map_map]; rfl
   rw [hq] at h
   have hb1:(rs.1.map fun p=>(p.1.1,p.2)).map (·.1)=K.map (·.1):=by rw [← b1,List.map_map,List.map_map]; rfl
   generalize hrs:(rs.1.map fun p=>(p.1.1,p.2))=rs' at *
   obtain ⟨m1,m2,m3,m4⟩:=ZZ rs' (blank.ups (Gr l)) (by rw [hb1]; exact hKn)
   obtain ⟨p1,p2,p3,p4⟩:=PY vs.1 0 ((blank.ups (Gr l)).ups (rs'.map fun p=>.ms p.1 p.2))
   have how:∀ k,S.ow k=match news k with | some n=>some n.o | none=>none:=by
    intro k
    rw [← h,p1,m1,o4]
    have:=OW hall k
    refine Eq.trans ?_ this.symm
    cases find l k <;> rfl
   have hms:∀ k,S.ms k=match find rs' k with | some r=>some r.length | none=>none:=by
    intro k
    rw [← h,p2,m3,o1]; rfl
   have hmc:∀ k i,S.mc k i=match find rs' k with | some r=>r.getD i .no | none=>.no:=by
    intro k i
    rw [← h,p3,m4,o2]; rfl
   have hsl:∀ i,S.sl i=match vs.1[i]? with | some x=>.s x | none=>.no:=by
    intro i
    rw [← h,p4,if_pos (Nat.zero_le _),Nat.sub_zero,m2,o3]; rfl
   have hHv:Hv S c l ns:=by
    intro k n hk
    have hf:news k=some n:=Dj (by rw [List.map_fst_zip (by rw [hall.len]; simp)]; exact hkeys) hk
    refine ⟨by rw [how,hf],?_⟩
    show (match news k with | some n=>n.h | none=>undef)=_
    rw [hf]
   have hmsK:∀ k,k∈K.map (·.1)↔S.ms k≠none:=by
    intro k
    rw [hms]
    constructor
    ·intro hk
     rw [← hb1] at hk
     obtain ⟨p,hp,rfl⟩:=List.mem_map.1 hk
     rw [Dj (by rw [hb1]; exact hKn) hp]; simp
    ·intro hk
     cases hf:find rs' k with
     | none=>rw [hf] at hk; exact absurd rfl hk
     | some r=>rw [← hb1]; exact List.mem_map.2 ⟨_,AG hf,rfl⟩
   have hnw:∀ k,S.ow k≠none→∃ n,news k=some n∧S.ow k=some n.o∧c.hv k=n.h∧c.F k=n.F:=by
    intro k hk
    rw [how] at hk
    cases hf:news k with
    | none=>rw [hf] at hk; exact absurd rfl hk
    | some n=>exact ⟨n,rfl,by rw [how,hf],by show (match news k with | some n=>n.h | none=>undef)=_; rw [hf],by show (match news k with | some n=>n.F | none=>[])=_; rw [hf]⟩
   have hmbms:∀ k,S.ms k≠none→c.mb k∈ms.map (·.1):=fun k hk=>by
    rw [← hmb,List.map_map]
    obtain ⟨p,hp,rfl⟩:=List.mem_map.1 ((hmsK k).2 hk)
    exact List.mem_map.2 ⟨p,hp,rfl⟩
   have hOw:∀ g,Ce S c g→g∈ms.map (·.1)++(F1++F2):=by
    rintro g (⟨k,hk,rfl⟩ | ⟨k,hk,hg⟩)
    ·exact List.mem_append.2 (.inl (hmbms k hk))
    ·obtain ⟨n,k1,k2,k3,k4⟩:=hnw k hk
     rw [k4] at hg
     exact List.mem_append.2 (.inr ((DS hall k n k1).2.1 g hg))
   have hKok:∀ g,g < w.heap.size→Ro g→Kok ⟨w,Ro,fun g=>g∈ms.map (·.1)++(F1++F2),N+1,ms,fx,hgb⟩ S c g:=fun g _ hg=>⟨.inl hg,fun ho=>(hlt g (hOw g ho)).2 hg⟩
   have hmsN:=(List.nodup_append.1 hnd).1
   have hdis:=(List.nodup_append.1 hnd).2.2
   refine ⟨c,⟨?_,?_,?_,?_,?_,?_,?_,fun _ _ _=>rfl,rfl,rfl,rfl,Nat.le_refl _,?_⟩,⟨fun i=>?_,?_,rfl⟩,?_⟩
   ·intro k n hn
    have hk:S.ms k≠none:=by rw [hn]; simp
    rw [hms] at hn
    cases hf:find rs' k with
    | none=>rw [hf] at hn; cases hn
    | some row=>
     rw [hf] at hn
     simp only [Option.some.injEq] at hn
     have hb:=hHv
     rw [← hl,← hns] at hb
     have hfm:=AG hf
     rw [← hrs] at hfm
     obtain ⟨⟨⟨k',o'⟩,row'⟩,hpm,hpe⟩:=List.mem_map.1 hfm
     simp only [Prod.mk.injEq] at hpe
     obtain ⟨rfl,rfl⟩:=hpe
     have ho':o'=0:=hK0 (k',o') (by rw [← b1]; exact List.mem_map.2 ⟨_,hpm,rfl⟩)
     subst ho'
     obtain ⟨cs,e,fr,h1,h2,hw3,h3⟩:=b4 S c (Hv.right hnl hb) (fun k hk=>(hmsK k.1).1 (List.mem_map.2 ⟨k,hk,rfl⟩)) (fun _ _=>⟨rfl,rfl⟩) _ hpm
     simp only [Nat.add_zero] at hw3 h3
     refine ⟨cs,e,fr,h1,by rw [← hn]; exact hw3,h2,fun i u hlt' hu=>?_,?_⟩
     rotate_left
     ·intro cs0 e0 fr0 h0
      have h1':=h1
      rw [show w.heap[mb k']?=_ from h0] at h1'
      injection h1' with h1'
      injection h1' with x1 x2 x3
      subst x1 x2 x3
      exact ⟨rfl,rfl,rfl,fun _ _=>rfl⟩
     obtain ⟨lf,q1,q2⟩:=All2.map_right h3 (i:=i) (x:=u) (by rw [List.getElem?_take_of_lt (by omega),List.getElem?_drop,Array.getElem?_toList]; exact hu)
     rw [hmc,hf]
     simp only
     rw [List.getD_eq_getElem?_getD,q1]
     exact LeafOk.mono hKok q2
   ·intro k o ho
    obtain ⟨n,k1,k2,k3,k4⟩:=hnw k (by rw [ho]; simp)
    rw [ho] at k2
    injection k2 with k2
    subst k2
    rw [k3,k4]
    exact Rp.mono hKok _ _ (DS hall k n k1).2.2.2
   ·intro k hk
    obtain ⟨n,k1,k2,k3,k4⟩:=hnw k hk
    rw [k4]; exact (DS hall k n k1).2.2.1 hFn
   ·intro k k' hne h1 h2 g hg
    obtain ⟨n,k1,_,_,k4⟩:=hnw k h1
    obtain ⟨n',q1,_,_,q4⟩:=hnw k' h2
    rw [k4] at hg
    rw [q4]
    exact QS hall hFn k n k' n' hne k1 q1 g hg
   ·intro k k' hne h1 h2 he
    have h1':=(hmsK k).2 h1
    have h2':=(hmsK k').2 h2
    rw [← hK] at h1' h2'
    rw [List.map_map] at h1' h2'
    obtain ⟨m,hm,rfl⟩:=List.mem_map.1 h1'
    obtain ⟨m',hm',rfl⟩:=List.mem_map.1 h2'
    have hm:=List.mem_range.1 hm
    have hm':=List.mem_range.1 hm'
    have he':(ms.getD (N+1+m - (N+1)) (0,0)).1=(ms.getD (N+1+m' - (N+1)) (0,0)).1:=he
    rw [Nat.add_sub_cancel_left,Nat.add_sub_cancel_left,List.getD_eq_getElem?_getD,List.getD_eq_getElem?_getD,List.getElem?_eq_getElem (by omega),List.getElem?_eq_getElem (by omega)] at he'
    simp only [Option.getD_some] at he'
    have hpw:=List.pairwise_iff_getElem.1 hmsN
    simp only [List.length_map,List.getElem_map] at hpw
    rcases Nat.lt_trichotomy m m' with h | h | h
    ·exact hpw m m' (by omega) (by omega) h he'
    ·exact hne (by simp only [Function.comp,h])
    ·exact hpw m' m (by omega) (by omega) h he'.symm
   ·intro k k' h1 h2 hg
    obtain ⟨n,k1,_,_,k4⟩:=hnw k' h2
    rw [k4] at hg
    exact hdis _ (hmbms k h1) _ ((DS hall k' n k1).2.1 _ hg) rfl
   ·intro g hg
    have:=hOw g hg
    exact ⟨(hlt g this).1,.inr this⟩
   ·intro m g hg
    show (ms.getD (N+1+m - (N+1)) (0,0)).1=g.1∧(ms.getD (N+1+m - (N+1)) (0,0)).2=g.2
    rw [Nat.add_sub_cancel_left,List.getD_eq_getElem?_getD,hg]; exact ⟨rfl,rfl⟩
   ·have hb:=hHv
    rw [← hl,← hns] at hb
    have hsv:=a2 S c (Hv.left hnl hb) (fun k hk=>(hmsK k.1).1 (List.mem_map.2 ⟨k,hk,rfl⟩)) (fun _ _=>⟨rfl,rfl⟩)
    rw [hsl]
    cases hx:vs.1[i]? with
    | none=>trivial
    | some x=>
     obtain ⟨v,hv1,hv2⟩:=hsv.get hx
     have hlt':i < vals.length:=(List.getElem?_eq_some_iff.1 hv1).1
     have:(vals.toArray++Array.replicate (N - vals.length) undef).getD i undef=v:=by
      rw [Array.getD_eq_getD_getElem?,Array.getElem?_append_left (by simpa using hlt'),List.getElem?_toArray,hv1]; rfl
     rw [this]
     exact S1Ok.mono hKok hv2
   ·simp only [Array.size_append,List.size_toArray,Array.size_replicate]; omega
   ·intro p hp
    have hp':=hfx p hp
    rw [Array.getD_eq_getD_getElem?,Array.getElem?_append_left (by simpa using (List.getElem?_eq_some_iff.1 hp').1),List.getElem?_toArray,hp']; rfl
  ·cases h
 ·cases h
theorem P9 {b:Base} {S:St} {c:Cc} {w:World} {N:Nat} {a:Act} (hi:Inv b S w c) (hs:Slots N S c w (Kok b S c) a) {vals:List Value}:∀ (ln:List (Nat×Nat)) {y:List ((Nat×Nat)×Ae)×List Nat},
  (∀ p,p∈ln→vals[p.1]?=some (a.tmps.getD p.1 undef))→(Kf S ln).ev S=some y→∃ G,LentOk w (Kok b S c) vals y.1 G∧Outs S c y.2 G
 | [],y,_,h=>by
  simp only [Kf,Tr.ev,Option.some.injEq] at h
  subst h
  exact ⟨[],rfl,Outs.nil⟩
 | p::ps,y,hv,h=>by
  simp only [Kf] at h
  split at h
  ·rename_i k hlf
   simp only [Ai,Option.bind_eq_some_iff,Tr.ev,Option.some.injEq] at h
   obtain ⟨o,ho,y',hy',rfl⟩:=h
   obtain ⟨G2,h1,h2⟩:=P9 hi hs ps (fun q hq=>hv q (by simp [hq])) hy'
   have hvp:=hv p (by simp)
   obtain ⟨v,hval,hlk⟩:∃ v,Es vals p=some v∧LeafOk S c w (Kok b S c) (.vw k [] none) v:=by
    unfold AaE at hlf
    have hok:=hs.ok p.1
    split at hlf
    ·rename_i l hl
     rw [hl] at hok
     split at hlf
     ·rename_i hp2
      subst hlf
      have hsl:LeafOk S c w (Kok b S c) (.vw k [] none) (a.tmps.getD p.1 undef):=hok
      refine ⟨_,?_,hsl⟩
      obtain ⟨A,n,cap,e⟩:=QR hi hsl
      unfold Es
      rw [hvp,e]
      simp [hp2]
     ·cases hlf
    ·rename_i ls hl
     rw [hl] at hok
     obtain ⟨vs,e,hall⟩:=hok
     rw [List.getD_eq_getElem?_getD] at hlf
     cases hj:ls[p.2]? with
     | none=>rw [hj] at hlf; cases hlf
     | some l=>
      rw [hj] at hlf
      simp only [Option.getD_some] at hlf
      subst hlf
      obtain ⟨v,q1,q2⟩:=hall.get hj
      refine ⟨v,?_,q2⟩
      unfold Es
      rw [hvp,e]
      simpa using q1
    ·cases hlf
   obtain ⟨g1,F',g2,g3,g4⟩:=Hq hi hlk ho
   refine ⟨F'++G2,⟨v,F',G2,rfl,hval,⟨g2,fun h=>by simp [Ty.own] at h⟩,h1⟩,?_⟩
   exact Outs.append hi (k:=[k]) ⟨fun k' hk'=>(by simp only [List.mem_singleton] at hk'; subst hk'; exact g1),fun _=>g4,fun g hg=>⟨k,by simp,g3 g hg⟩⟩ h2
  ·simp [Tr.ev] at h
theorem Ac5 {P : Program} {E : Env} (hE : EnvOk P E) {f : FuncId} {fn : Func} {J : Joins} {ann : Ann} {ln : List (Nat × Nat)} {as : List A1} {rows : List (List Ae)} {r : Res} (hf : P.funcs[f]? = some fn) (hname : (fn.name == "runtime.NumGoroutine") = false)
  (h:(Ab4 E fn J ann ln as rows).run=some r):CN P f as rows r:=by
 unfold Ab4 at h
 split at h
 ·rename_i c hb
  split at h
  ·rename_i hlen
   obtain ⟨hlen,hln⟩:=hlen
   split at h
   ·rename_i S hS
    rw [run_bind,Option.bind_eq_some_iff] at h
    obtain ⟨⟨e,S1⟩,h1,h2⟩:=h
    refine ⟨⟨fn,hf,hname,by rw [hb]; rfl⟩,?_⟩
    intro w vals Ro ms F1 F2 hA hR hnd hlt hgl
    have hgb:GlF w∧∀ g,glo g→Ro g∧¬ g∈ms.map (·.1)++(F1++F2):=⟨hgl.1,fun g hg=>⟨hgl.2 g hg,fun ho=>(hlt g ho).2 (hgl.2 g hg)⟩⟩
    have hvl:=hA.len
    generalize hfx:(vals.zipIdx.filter fun p=>E.fx.contains p.2).map (fun p=>(p.2,p.1))=fx
    have hfx1:∀ i v,(i,v)∈fx↔vals[i]?=some v∧E.fx.contains i=true:=by
     intro i v
     rw [← hfx]
     simp only [List.mem_map,List.mem_filter,Prod.exists,Prod.mk.injEq]
     constructor
     ·rintro ⟨x,j,⟨h1,h2⟩,rfl,rfl⟩
      exact ⟨by simpa using List.mk_mem_zipIdx_iff_getElem?.1 h1,h2⟩
     ·rintro ⟨h1,h2⟩
      exact ⟨v,i,⟨List.mk_mem_zipIdx_iff_getElem?.2 (by simpa using h1),h2⟩,rfl,rfl⟩
    have hF:∀ p,p∈fx→E.fx.contains p.1=true:=fun p hp=>((hfx1 p.1 p.2).1 hp).2
    have hsim:=Ab0 hS hA hR hnd hlt (by omega) fx (fun p hp=>((hfx1 p.1 p.2).1 hp).1) hgb
    have hml:=hR.len
    have hfin:∀ a' w',Sim ⟨w,Ro,fun g=>g∈ms.map (·.1)++(F1++F2),fn.ntmps+1,ms,fx,hgb⟩ fn.ntmps S1 a' w'→(WP E fn.ntmps fn rows ln S1).run=some r→
      a'.defers=[]∧∃ v,(results fn a'.tmps).run P w'=.ok v w'∧∃ v',Ending.returned v=.returned v'∧Im w Ro ms (F1++F2) vals r v' w':=by
     rintro a' w' ⟨c',hi,hsl,hafx⟩ hfi
     refine ⟨hsl.d,?_⟩
     unfold WP at hfi
     rw [run_bind,Option.bind_eq_some_iff] at hfi
     obtain ⟨⟨⟨y1,y2,y3⟩,lg⟩,g1,g2⟩:=hfi
     split at g2
     ·rename_i hu
      simp only [Tr.run,Option.some.injEq] at g2
      subst g2
      have g3:=Acn S1 _ [] g1
      rw [Ai,Option.bind_eq_some_iff] at g3
      obtain ⟨z1,hz1,g3⟩:=g3
      rw [Ai,Option.bind_eq_some_iff] at g3
      obtain ⟨z2,hz2,g3⟩:=g3
      rw [Ai,Option.bind_eq_some_iff] at g3
      obtain ⟨z3,hz3,g3⟩:=g3
      simp only [Tr.ev,Option.some.injEq,Prod.mk.injEq] at g3
      obtain ⟨e1,e2,e3⟩:=g3
      subst e1 e2 e3
      obtain ⟨vs,G1,k1,k2,k3⟩:=Nh (P:=P) hE.ti rfl hml.symm hi hsl _ _ hz1
      obtain ⟨q0,ql,G2,q1,q2⟩:=QW hi rfl hml.symm rows 0 ms hml.symm (fun j g hg=>by rw [Nat.zero_add]; exact hg) hz2
      obtain ⟨G3,r1,r2⟩:=P9 hi hsl (vals:=vals) ln (fun p hp=>by
       have:=List.all_eq_true.1 hln p hp
       simp only [Bool.and_eq_true,decide_eq_true_eq] at this
       have hlv:p.1 < vals.length:=by omega
       have hm:=(hfx1 p.1 vals[p.1]).2 ⟨List.getElem?_eq_getElem hlv,this.1⟩
       rw [hafx _ hm]
       exact List.getElem?_eq_getElem hlv) hz3
      have hout:=Outs.append hi k3 (Outs.append hi q2 r2)
      have hmsO:∀ g,g∈ms.map (·.1)→∃ k,S1.ms k≠none∧c'.mb k=g:=by
       intro g hg
       obtain ⟨p,hp,rfl⟩:=List.mem_map.1 hg
       obtain ⟨m,hm,hmg⟩:=List.getElem_of_mem hp
       have h3:ms[m]?=some p:=by rw [List.getElem?_eq_getElem hm,hmg]
       refine ⟨fn.ntmps+1+m,?_,(hi.an m p h3).1⟩
       have hm':m < rows.length:=by omega
       have:=q0 m _ (List.getElem?_eq_getElem hm')
       rw [Nat.add_zero] at this
       rw [this]; simp
      have hGO:∀ g,g∈G1++(G2++G3)→∃ k,S1.ow k≠none∧g∈c'.F k:=by
       intro g hg
       obtain ⟨k,h3,h4⟩:=hout.2.2 g hg
       exact ⟨k,hout.1 k h3,h4⟩
      have hKK:∀ g,g < w'.heap.size→Kok ⟨w,Ro,fun g=>g∈ms.map (·.1)++(F1++F2),fn.ntmps+1,ms,fx,hgb⟩ S1 c' g→((Ro g∨w.heap.size≤g∨g∈F1++F2)∧g∉ms.map (·.1)++(G1++(G2++G3))):=by
       rintro g _ ⟨h3,h4⟩
       have hnm:g∉ms.map (·.1):=fun hg=>by
        obtain ⟨k,h5,h6⟩:=hmsO g hg
        exact h4 (.inl ⟨k,h5,h6⟩)
       refine ⟨h3.imp id fun h3=>h3.imp id fun h3=>(List.mem_append.1 h3).elim (fun hg=>absurd hg hnm) id,fun hg=>?_⟩
       rcases List.mem_append.1 hg with hg | hg
       ·obtain ⟨k,h5,h6⟩:=hmsO g hg
        exact h4 (.inl ⟨k,h5,h6⟩)
       ·obtain ⟨k,h5,h6⟩:=hGO g hg
        exact h4 (.inr ⟨k,h5,h6⟩)
      have hres:(results fn a'.tmps).run P w'=.ok (Sz vs) w':=by
       have he:results fn a'.tmps=(do let vs ← fn.results.mapM (Pi a'.tmps); pure (if h:vs.size=1 then vs[0] else .tuple vs)):=rfl
       have hm:(fn.results.mapM (Pi a'.tmps)).run P w'=.ok vs.toArray w':=by
        rw [Array.mapM_eq_mapM_toList]
        simp [k1]
       rw [he]
       rw [Sem.run_bind,hm]
       simp only [Result.andThen_ok,Sem.run_pure]
       congr 1
       match vs with
       | []=>rfl
       | [v]=>rfl
       | _::_::_=>rfl
      refine ⟨_,hres,_,rfl,vs,G1,G2,G3,rfl,k2.mono fun _ _ _ h=>A1Ok.mono hKK h,RowsOk.mono hKK q1,LentOk.mono hKK r1,?_,?_,?_,?_⟩
      ·refine List.nodup_append.2 ⟨(List.nodup_append.1 hnd).1,hout.2.1 hu,?_⟩
       rintro g hg g' hg' rfl
       obtain ⟨k,h5,h6⟩:=hmsO g hg
       obtain ⟨k',h7,h8⟩:=hGO g hg'
       exact hi.mo k k' h5 h7 (by rw [h6]; exact h8)
      ·intro g hg
       obtain ⟨k,h5,h6⟩:=hGO g hg
       obtain ⟨h7,h8⟩:=hi.fr g (.inr ⟨k,h5,h6⟩)
       refine ⟨h7,?_⟩
       rcases h8 with h8 | h8
       ·exact .inr h8
       ·rcases List.mem_append.1 h8 with h8 | h8
        ·obtain ⟨k',h9,h10⟩:=hmsO g h8
         exact absurd h6 (h10 ▸ hi.mo k' k h9 h5)
        ·exact .inl h8
      ·exact ⟨hi.os,hi.tape,hi.output,hi.size,fun g hg hn=>hi.fix g hg hn⟩
      ·intro m g row cs e fr hmg hrow hcs
       have hm':m < rows.length:=by have:=(List.getElem?_eq_some_iff.1 hmg).1; omega
       have hms1:=q0 m _ (List.getElem?_eq_getElem hm')
       rw [Nat.add_zero] at hms1
       obtain ⟨cs',e',fr',a1,a2,a3,a4,a5⟩:=hi.ms _ _ hms1
       have han:=hi.an m g hmg
       simp only at han
       rw [han.1] at a1 a5
       rw [han.2] at a5
       obtain ⟨rfl,rfl,x3,x4⟩:=a5 cs e fr hcs
       have hrl:row.length=rows[m].length:=by
        have:=congrArg (·[m]?) ql
        simp only [List.getElem?_map,hrow,Option.map_some,List.getElem?_eq_getElem hm',Option.some.injEq] at this
        exact this
       exact ⟨cs',a1,x3.symm,fun i hio=>x4 i (by omega)⟩
     ·simp [Tr.run] at g2
    refine calls_of_wp hf hb ?_
    rw [List.size_toArray]
    obtain ⟨S0,h0,hw⟩:=KX (b:=⟨w,Ro,fun g=>g∈ms.map (·.1)++(F1++F2),fn.ntmps+1,ms,fx,hgb⟩) (N:=fn.ntmps) h1
    rw [run_bind,Option.bind_eq_some_iff] at h0
    obtain ⟨⟨e0,S00⟩,h0,h00⟩:=h0
    simp only [Tr.run,Option.some.injEq,Prod.mk.injEq] at h00
    obtain ⟨he,rfl⟩:=h00
    refine AbV hE hF (b:=⟨w,Ro,fun g=>g∈ms.map (·.1)++(F1++F2),fn.ntmps+1,ms,fx,hgb⟩) (Nat.lt_succ_self _) c h0 hsim fun a' w' hs''=>?_
    have hs':=hw hs''
    cases e0 with
    | n=>subst he; exact hfin a' w' hs' h2
    | r=>subst he; exact hfin a' w' hs' h2
    | x id=>subst he; simp [Tr.run] at h2
   ·simp [Tr.run] at h
  ·simp [Tr.run] at h
 ·simp [Tr.run] at h
end Go.V
namespace Go.V
open Go.ChangeShapes Go.RowKit
theorem Z1 {P:Program} {f:FuncId} {as:List A1} {vals:List Value} {w:World} (h:CN P f as [] ⟨[.one ⟨.bool,true⟩],[],[]⟩) (ha:FL (A1Ok w (fun _=>True) []) as vals []) (hg:GlF w) :
  Calls P f vals.toArray w fun e w'=>e=.returned (.bool true)∧Below w.heap.size w w':=by
 refine Calls.mono (h.2 w vals (fun _=>True) [] [] [] ha ⟨rfl,rfl⟩ (by simp) (fun g hg=>by simp at hg) ⟨hg,fun _ _=>trivial⟩) ?_
 rintro e w' ⟨v,rfl,vs,F1,F2,F3,rfl,h1,_,_,_,_,h5,_⟩
 obtain ⟨u,us,G1,G2,rfl,_,h6,h7⟩:=h1
 obtain ⟨rfl,_⟩:=h7
 have:u=.bool true:=by
  have:=h6.1
  simp only [Rp] at this
  have h8:=this.1
  injection h8
 subst this
 exact ⟨rfl,h5.os,h5.tape,h5.output,h5.size,fun k hk=>h5.same k hk (by simp)⟩
end Go.V
namespace Go.V
structure Ans where
 β:Type
 o:Option β
 g:β→Res
structure Kn where
 f:FuncId
 mv:List Nat
 ca:List A1→List (List Ae)→Option Ans
 fr:List (List Ty):=[]
def AdE:List Kn→FuncId→List Nat
 | [],_=>[]
 | k::l,g=>if g=k.f then k.mv else AdE l g
def Adp:List Kn→FuncId→List (List Ty)
 | [],_=>[]
 | k::l,g=>if g=k.f then k.fr else Adp l g
def Tq:List Kn→FuncId→List A1→List (List Ae)→Tr Res
 | [],_,_,_=>.fail
 | k::l,g,as,rows=>if g=k.f then match k.ca as rows with
   | some a=>.get a.β a.o fun y=>.ret (a.g y)
   | none=>Tq l g as rows
  else Tq l g as rows
def Zd (ti:TypeId→TI) (l:List Kn) (fx:List Nat) (hn:List (Nat×List Ty):=[]):Env:=⟨ti,AdE l,Adp l,fx,Tq l,hn⟩
def LT (P:Program) (k:Kn):Prop:=∀ as rows a,k.ca as rows=some a→∀ y,a.o=some y→CN P k.f as rows (a.g y)
theorem Ss {P:Program}:∀ (l:List Kn),(∀ k∈l,LT P k)→∀ f as rows S r,(Tq l f as rows).ev S=some r→CN P f as rows r
 | [],_,f,as,rows,S,r,h=>by simp [Tq,Tr.ev] at h
 | k::l,hk,f,as,rows,S,r,h=>by
  rw [Tq] at h
  split at h
  ·rename_i hf
   subst hf
   split at h
   ·rename_i a ha
    simp only [Tr.ev,Option.bind_eq_some_iff,Option.some.injEq] at h
    obtain ⟨y,hy,rfl⟩:=h
    exact hk k (by simp) as rows a ha y hy
   ·exact Ss l (fun k h=>hk k (by simp [h])) _ as rows S r h
  ·exact Ss l (fun k h=>hk k (by simp [h])) f as rows S r h
theorem Abl {P:Program} {ti:TypeId→TI} (ht:TabOk P ti) (hm:P.follows .mixedOrders=true) (l:List Kn) (fx:List Nat) (h:∀ k∈l,LT P k) (hn:List (Nat×List Ty):=[]):EnvOk P (Zd ti l fx hn):=
 ⟨ht,hm,fun f as rows S r hr=>Ss l h f as rows S r hr⟩
def Vc (P:Program):List TI→Nat→Bool
 | [],_=>true
 | x::l,n=>MJ P n x && Vc P l (n+1)
theorem Wy {P:Program}:∀ (l:List TI) (n:Nat),Vc P l n=true→∀ t,MJ P (n+t) (l.getD t .other)=true
 | [],n,_,t=>by simp [MJ]
 | x::l,n,h,t=>by
  simp only [Vc,Bool.and_eq_true] at h
  cases t with
  | zero=>exact h.1
  | succ t=>have:=Wy l (n+1) h.2 t; rw [show n+(t+1)=n+1+t by omega]; exact this
theorem Aef (P:Program) (l:List TI) (h:Vc P l 0=true):TabOk P (fun t=>l.getD t .other):=fun t=>by
 have:=Wy l 0 h t; rwa [Nat.zero_add] at this
inductive Ash where
 | one (t:Ty)
 | ag (ts:List Ty)
 | pl (m off:Nat)
 | rp (t:Ty) (off:Nat)
 | fv (f:FuncId) (cs:List (Nat×Nat))
inductive Esh where
 | v (t:Ty)
 | p (m off:Nat)
def tD:List Ty→Type
 | []=>Unit
 | t::ts=>t.D×tD ts
def cD:List Ty→Type→Type
 | [],R=>R
 | t::ts,R=>t.D→cD ts R
def cAp {R:Type}:(ts:List Ty)→cD ts R→tD ts→R
 | [],f,_=>f
 | _::ts,f,x=>cAp ts (f x.1) x.2
def Ash.D:Ash→Type
 | .one t=>t.D
 | .ag ts=>tD ts
 | .rp t _=>t.D
 | .pl _ _=>Unit
 | .fv _ _=>Unit
def Ash.F:Ash→Type→Type
 | .one t,R=>t.D→R
 | .ag ts,R=>cD ts R
 | .rp t _,R=>t.D→R
 | .pl _ _,R=>R
 | .fv _ _,R=>R
def Ash.ap {R:Type}:(a:Ash)→a.F R→a.D→R
 | .one _,f,x=>f x
 | .ag ts,f,x=>cAp ts f x
 | .rp _ _,f,x=>f x
 | .pl _ _,f,_=>f
 | .fv _ _,f,_=>f
def Esh.D:Esh→Type
 | .v t=>t.D
 | .p _ _=>Unit
def Esh.F:Esh→Type→Type
 | .v t,R=>t.D→R
 | .p _ _,R=>R
def Esh.ap {R:Type}:(a:Esh)→a.F R→a.D→R
 | .v _,f,x=>f x
 | .p _ _,f,_=>f
def aD:List Ash→Type
 | []=>Unit
 | a::as=>a.D×aD as
def aF:List Ash→Type→Type
 | [],R=>R
 | a::as,R=>a.F (aF as R)
def aAp {R:Type}:(as:List Ash)→aF as R→aD as→R
 | [],f,_=>f
 | a::as,f,x=>aAp as (a.ap f x.1) x.2
def eD:List Esh→Type
 | []=>Unit
 | a::as=>a.D×eD as
def eF:List Esh→Type→Type
 | [],R=>R
 | a::as,R=>a.F (eF as R)
def eAp {R:Type}:(as:List Esh)→eF as R→eD as→R
 | [],f,_=>f
 | a::as,f,x=>eAp as (a.ap f x.1) x.2
def rD:List (List Esh)→Type
 | []=>Unit
 | a::as=>eD a×rD as
def rF:List (List Esh)→Type→Type
 | [],R=>R
 | a::as,R=>eF a (rF as R)
def rAp {R:Type}:(as:List (List Esh))→rF as R→rD as→R
 | [],f,_=>f
 | a::as,f,x=>rAp as (eAp a f x.1) x.2
def lB:(ts:List Ty)→tD ts→List Ae
 | [],_=>[]
 | t::ts,x=>⟨t,x.1⟩::lB ts x.2
def Ash.B:(a:Ash)→a.D→A1
 | .one t,x=>.one ⟨t,x⟩
 | .ag ts,x=>.ag (lB ts x)
 | .rp t off,x=>.rp t x off
 | .pl m off,_=>.pl m off
 | .fv f cs,_=>.fv f cs
def aB:(as:List Ash)→aD as→List A1
 | [],_=>[]
 | a::as,x=>a.B x.1::aB as x.2
def Esh.B:(a:Esh)→a.D→Ae
 | .v t,x=>⟨t,x⟩
 | .p m off,_=>⟨.lp,(m,off)⟩
def eB:(as:List Esh)→eD as→List Ae
 | [],_=>[]
 | a::as,x=>a.B x.1::eB as x.2
def rB:(as:List (List Esh))→rD as→List (List Ae)
 | [],_=>[]
 | a::as,x=>eB a x.1::rB as x.2
def mL (t:Ty) (l:Ae):Option t.D:=if h:l.1=t then some (h ▸ l.2) else none
theorem Vh {t:Ty} {l:Ae} {x:t.D} (h:mL t l=some x):l=⟨t,x⟩:=by
 obtain ⟨t',u⟩:=l
 unfold mL at h
 split at h
 ·rename_i ht
  dsimp only at ht
  subst ht
  injection h with h
  subst h; rfl
 ·cases h
def lM:(ts:List Ty)→List Ae→Option (tD ts)
 | [],[]=>some ()
 | t::ts,l::ls=>match mL t l with
  | some y=>match lM ts ls with
   | some x=>some (y,x)
   | none=>none
  | none=>none
 | _,_=>none
def Abu (t:Ty):A1→Option t.D
 | .one l=>mL t l
 | _=>none
def mAg (ts:List Ty):A1→Option (tD ts)
 | .ag ls=>lM ts ls
 | _=>none
def mRp (t:Ty) (off:Nat):A1→Option t.D
 | .rp t' x off'=>if off'=off then mL t ⟨t',x⟩ else none
 | _=>none
def mPl (m off:Nat):A1→Option Unit
 | .pl m' off'=>if m'=m∧off'=off then some () else none
 | _=>none
def mFv (f:FuncId) (cs:List (Nat×Nat)):A1→Option Unit
 | .fv f' cs'=>if f'=f∧cs'=cs then some () else none
 | _=>none
def Ash.M:(a:Ash)→A1→Option a.D
 | .one t=>Abu t
 | .ag ts=>mAg ts
 | .rp t off=>mRp t off
 | .pl m off=>mPl m off
 | .fv f cs=>mFv f cs
def aM:(as:List Ash)→List A1→Option (aD as)
 | [],[]=>some ()
 | a::as,l::ls=>match a.M l with
  | some x=>match aM as ls with
   | some y=>some (x,y)
   | none=>none
  | none=>none
 | _,_=>none
def mP (m off:Nat):Ae→Option Unit
 | ⟨.lp,q⟩=>if q=(m,off) then some () else none
 | _=>none
def Esh.M:(a:Esh)→Ae→Option a.D
 | .v t=>mL t
 | .p m off=>mP m off
def eM:(as:List Esh)→List Ae→Option (eD as)
 | [],[]=>some ()
 | a::as,l::ls=>match a.M l with
  | some x=>match eM as ls with
   | some y=>some (x,y)
   | none=>none
  | none=>none
 | _,_=>none
def rM:(as:List (List Esh))→List (List Ae)→Option (rD as)
 | [],[]=>some ()
 | a::as,l::ls=>match eM a l with
  | some x=>match rM as ls with
   | some y=>some (x,y)
   | none=>none
  | none=>none
 | _,_=>none
theorem Ach:∀ (ts:List Ty) (ls:List Ae) (x:tD ts),lM ts ls=some x→ls=lB ts x
 | [],[],_,_=>rfl
 | t::ts,l::ls,x,h=>by
  unfold lM at h
  split at h
  ·rename_i u hu
   split at h
   ·rename_i y hy
    injection h with h
    subst h
    rw [Vh hu,Ach ts ls y hy]; rfl
   ·cases h
  ·cases h
 | [],_::_,_,h=>by simp [lM] at h
 | _::_,[],_,h=>by simp [lM] at h
theorem Ash.M_ok (a:Ash) (l:A1) (x:a.D) (h:a.M l=some x):l=a.B x:=by
 cases a with
 | one t=>
  replace h:Abu t l=some x:=h
  unfold Abu at h
  split at h
  ·exact congrArg A1.one (Vh h)
  ·cases h
 | ag ts=>
  replace h:mAg ts l=some x:=h
  unfold mAg at h
  split at h
  ·exact congrArg A1.ag (Ach ts _ x h)
  ·cases h
 | rp t off=>
  replace h:mRp t off l=some x:=h
  unfold mRp at h
  split at h
  ·split at h
   ·rename_i ho
    subst ho
    have:=Vh h
    injection this with e1 e2
    subst e1
    obtain rfl:=eq_of_heq e2
    rfl
   ·cases h
  ·cases h
 | pl m off=>
  replace h:mPl m off l=some x:=h
  unfold mPl at h
  split at h
  ·split at h
   ·rename_i hm
    obtain ⟨rfl,rfl⟩:=hm
    rfl
   ·cases h
  ·cases h
 | fv f cs=>
  replace h:mFv f cs l=some x:=h
  unfold mFv at h
  split at h
  ·split at h
   ·rename_i hm
    obtain ⟨rfl,rfl⟩:=hm
    rfl
   ·cases h
  ·cases h
theorem Acc:∀ (as:List Ash) (ls:List A1) (x:aD as),aM as ls=some x→ls=aB as x
 | [],[],_,_=>rfl
 | a::as,l::ls,x,h=>by
  unfold aM at h
  split at h
  ·rename_i y hy
   split at h
   ·rename_i z hz
    injection h with h
    subst h
    rw [a.M_ok l y hy,Acc as ls z hz]; rfl
   ·cases h
  ·cases h
 | [],_::_,_,h=>by simp [aM] at h
 | _::_,[],_,h=>by simp [aM] at h
theorem Esh.M_ok (a:Esh) (l:Ae) (x:a.D) (h:a.M l=some x):l=a.B x:=by
 cases a with
 | v t=>exact Vh h
 | p m off=>
  replace h:mP m off l=some x:=h
  unfold mP at h
  split at h
  ·split at h
   ·rename_i hq
    rw [hq]; rfl
   ·cases h
  ·cases h
theorem Acg:∀ (as:List Esh) (ls:List Ae) (x:eD as),eM as ls=some x→ls=eB as x
 | [],[],_,_=>rfl
 | a::as,l::ls,x,h=>by
  unfold eM at h
  split at h
  ·rename_i y hy
   split at h
   ·rename_i z hz
    injection h with h
    subst h
    rw [a.M_ok l y hy,Acg as ls z hz]; rfl
   ·cases h
  ·cases h
 | [],_::_,_,h=>by simp [eM] at h
 | _::_,[],_,h=>by simp [eM] at h
theorem Ack:∀ (as:List (List Esh)) (ls:List (List Ae)) (x:rD as),rM as ls=some x→ls=rB as x
 | [],[],_,_=>rfl
 | a::as,l::ls,x,h=>by
  unfold rM at h
  split at h
  ·rename_i y hy
   split at h
   ·rename_i z hz
    injection h with h
    subst h
    rw [Acg a l y hy,Ack as ls z hz]; rfl
   ·cases h
  ·cases h
 | [],_::_,_,h=>by simp [rM] at h
 | _::_,[],_,h=>by simp [rM] at h
theorem AbE (t:Ty) (x:t.D):mL t ⟨t,x⟩=some x:=by unfold mL; simp
theorem Ads:∀ (ts:List Ty) (x:tD ts),lM ts (lB ts x)=some x
 | [],_=>rfl
 | t::ts,x=>by
  show (match mL t ⟨t,x.1⟩ with | some y=>(match lM ts (lB ts x.2) with | some x=>some (y,x) | none=>none) | none=>none)=_
  rw [AbE,Ads ts x.2]; rfl
theorem Ash.M_B (a:Ash) (x:a.D):a.M (a.B x)=some x:=by
 cases a with
 | one t=>exact AbE t x
 | ag ts=>exact Ads ts x
 | rp t off=>
  show (if off=off then mL t ⟨t,x⟩ else none)=some x
  rw [if_pos rfl]; exact AbE t x
 | pl m off=>
  show (if m=m∧off=off then some () else none)=some x
  rw [if_pos ⟨rfl,rfl⟩]; rfl
 | fv f cs=>
  show (if f=f∧cs=cs then some () else none)=some x
  rw [if_pos ⟨rfl,rfl⟩]; rfl
theorem AdP:∀ (as:List Ash) (x:aD as),aM as (aB as x)=some x
 | [],_=>rfl
 | a::as,x=>by
  show (match a.M (a.B x.1) with | some y=>(match aM as (aB as x.2) with | some x=>some (y,x) | none=>none) | none=>none)=_
  rw [a.M_B,AdP as x.2]; rfl
def kn {β:Type} (f:FuncId) (mv:List Nat) (as:List Ash) (rs:List (List Esh)) (fr:List (List Ty)) (G:aF as (rF rs (Option β))) (g:β→Res):Kn:=
 ⟨f,mv,fun ls rows=>match aM as ls with
  | some x=>match rM rs rows with
   | some y=>some ⟨β,rAp rs (aAp as G x) y,g⟩
   | none=>none
  | none=>none,fr⟩
theorem Abx {P:Program} {β:Type} {f:FuncId} {mv:List Nat} {as:List Ash} {rs:List (List Esh)} {fr:List (List Ty)} {G:aF as (rF rs (Option β))} {g:β→Res}
  (h:∀ (x:aD as) (y:rD rs) (z:β),rAp rs (aAp as G x) y=some z→CN P f (aB as x) (rB rs y) (g z)):LT P (kn f mv as rs fr G g):=by
 intro args rows a ha z hz
 simp only [kn] at ha
 split at ha
 ·rename_i x hx
  split at ha
  ·rename_i y hy
   injection ha with ha
   subst ha
   rw [Acc as args x hx,Ack rs rows y hy]
   exact h x y z hz
  ·cases ha
 ·cases ha
theorem Ac {P:Program} {E:Env} {β:Type} {f:FuncId} {fn:Func} {J:Joins} {ann:Ann} {ln:List (Nat×Nat)} {mv:List Nat} {as:List Ash} {rs:List (List Esh)} {fr:List (List Ty)} {G:aF as (rF rs (Option β))} {g:β→Res} (hE:EnvOk P E) (hf:P.funcs[f]?=some fn)
  (hn : (fn.name == "runtime.NumGoroutine") = false) (h : ∀ (x : aD as) (y : rD rs), (Ab4 E fn J ann ln (aB as x) (rB rs y)).run = (rAp rs (aAp as G x) y).bind fun z => some (g z)) : LT P (kn f mv as rs fr G g) :=
 Abx fun x y z hz=>Ac5 (J:=J) (ann:=ann) (ln:=ln) hE hf hn (by rw [h x y,hz]; rfl)
theorem Ac2 {P:Program} {f:FuncId} {mv:List Nat} {as:List Ash} {fr:List (List Ty)} {G:aF as (Option Bool)} (h:LT P (kn f mv as [] fr G fun y=>⟨[.one ⟨.bool,y⟩],[],[]⟩)) (x:aD as) (hy:aAp as G x=some true):CN P f (aB as x) [] ⟨[.one ⟨.bool,true⟩],[],[]⟩:=
 h (aB as x) [] ⟨Bool,aAp as G x,fun y=>⟨[.one ⟨.bool,y⟩],[],[]⟩⟩ (by simp only [kn]; rw [AdP]; rfl) true hy
def KnsOk (P:Program):List Kn→Prop
 | []=>True
 | k::l=>LT P k∧KnsOk P l
theorem KnsOk.all {P:Program}:∀ (l:List Kn),KnsOk P l→∀ k∈l,LT P k
 | [],_,_,h=>by cases h
 | k::l,⟨h1,h2⟩,k',h=>by
  rcases List.mem_cons.1 h with rfl | h
  ·exact h1
  ·exact KnsOk.all l h2 k' h
theorem Aec {P:Program} {ti:TypeId→TI} (ht:TabOk P ti) (hm:P.follows .mixedOrders=true) (l:List Kn) (fx:List Nat) (hn:List (Nat×List Ty)) (h:KnsOk P l):EnvOk P (Zd ti l fx hn):=
 Abl ht hm l fx (KnsOk.all l h) hn
end Go.V
namespace Go.V
open Go.ChangeShapes Go.WideShapes Go.ChangeAt Go.RowKit
def ES:(t:Ty)→t.D→Prop
 | .int k,n=>(Lit.int k n).wf=true
 | .str,s=>List.length s≤maxLen
 | .pair a b,x=>ES a x.1∧ES b x.2
 | .sl _ _ r,xs=>List.length xs≤maxLen∧∀ x∈(show List r.D from xs),ES r x
 | _,_=>True
def OC (ti:TypeId→TI):List Field→Option (List Ty)
 | []=>some []
 | f::fs=>match (ti f.type).cells,OC ti fs with
  | some a,some b=>some (a++b)
  | _,_=>none
def U7 (ti:TypeId→TI):List Field→Nat→Bool
 | [],_=>true
 | f::fs,n=>f.offset == n && U7 ti fs (n+(((ti f.type).cells).getD []).length)
def IG (P:Program) (ti:TypeId→TI) (t:TypeId):TI→Bool
 | .slice e ts _=>decide ((ti e).cells=some ts)
 | .struct _ row _=>row.any Ty.isPt || match P.underlying t with
  | some (.struct fields)=>decide (OC ti fields.toList=some row) && U7 ti fields.toList 0
  | _=>false
 | _=>true
def RE (P:Program) (ti:TypeId→TI):List TI→Nat→Bool
 | [],_=>true
 | x::l,n=>IG P ti n x && RE P ti l (n+1)
theorem Um {P:Program} {ti:TypeId→TI}:∀ (l:List TI) (n:Nat),RE P ti l n=true→∀ t,IG P ti (n+t) (l.getD t .other)=true
 | [],n,_,t=>by simp [IG]
 | x::l,n,h,t=>by
  simp only [RE,Bool.and_eq_true] at h
  cases t with
  | zero=>exact h.1
  | succ t=>have:=Um l (n+1) h.2 t; rw [show n+(t+1)=n+1+t by omega]; exact this
theorem Ad5 (P:Program) (l:List TI) (h:RE P (fun t=>l.getD t .other) l 0=true):∀ t,IG P (fun t=>l.getD t .other) t (l.getD t .other)=true:=fun t=>by
 have:=Um l 0 h t; rwa [Nat.zero_add] at this
section
variable {H:Type} {enc:TypeId×Value→H} {P:Program} {w:World} {ti:TypeId→TI}
abbrev Any:Nat→Prop:=fun _=>True
theorem Aam:∀ (ts:List Ty) (ls:List Ae) (cs:List Value),ls.map (·.1)=ts.map Ty.frz→FL (ALOk w Any) ls cs []→(∀ l∈ls,ES l.1 l.2)→
  ∃ x:(AM ts).frz.D,Rp w Any (AM ts).frz x cs []∧ES (AM ts).frz x
 | [],ls,cs,h1,h2,_=>by
  obtain rfl:ls=[]:=by simpa using h1
  obtain ⟨rfl,_⟩:=h2
  exact ⟨(),⟨rfl,rfl⟩,trivial⟩
 | [t],ls,cs,h1,h2,h3=>by
  match ls,h1,h2,h3 with
  | [⟨t',x⟩],h1,h2,h3=>
   simp only [List.map_cons,List.map_nil,List.cons.injEq,and_true] at h1
   subst h1
   obtain ⟨v,vs,F1,F2,rfl,e,k1,rfl,rfl⟩:=h2
   obtain rfl:F1=[]:=by simpa using e.symm
   exact ⟨x,k1.1,h3 ⟨t.frz,x⟩ (by simp)⟩
 | t::u::ts,ls,cs,h1,h2,h3=>by
  match ls,h1,h2,h3 with
  | ⟨t',x⟩::ls,h1,h2,h3=>
   simp only [List.map_cons,List.cons.injEq] at h1
   obtain ⟨e1,e2⟩:=h1
   subst e1
   obtain ⟨v,vs,F1,F2,rfl,e,k1,k2⟩:=h2
   obtain ⟨rfl,rfl⟩:F1=[]∧F2=[]:=by simpa using e.symm
   obtain ⟨y,k3,k4⟩:=Aam (u::ts) ls vs (by simpa using e2) k2 (fun l hl=>h3 l (by simp [hl]))
   exact ⟨(x,y),⟨[v],vs,[],[],rfl,rfl,k1.1,k3⟩,h3 ⟨t.frz,x⟩ (by simp),k4⟩
theorem Uu (hT:TabOk P ti) (hT2:∀ t,IG P ti t (ti t)=true):∀ (fuel:Nat) (t:TypeId) (cs:List Value) (ts:List Ty) {x:DataW H×List MemPlace},(ti t).cells=some ts→
  DataW.trod enc P w 0 (fun _=>true) true fuel t cs=some x→∃ ls:List Ae,ls.map (·.1)=ts.map Ty.frz∧FL (ALOk w Any) ls cs []∧∀ l∈ls,ES l.1 l.2:=by
 intro fuel
 induction fuel with
 | zero=>intro t cs ts x _ h; simp [DataW.trod] at h
 | succ n ih=>
  intro t cs ts x hts h
  cases ht:ti t with
  | cell u=>
   rw [ht] at hts
   simp only [TI.cells,Option.some.injEq] at hts
   subst hts
   obtain ⟨⟨d,hd,hdd⟩,_⟩:=hT.cell ht
   cases u with
   | pt t=>cases d <;> simp [BL] at hdd
   | er=>cases d <;> simp [BL] at hdd
   | lp=>cases d <;> simp [BL] at hdd
   | int k=>
    cases d <;> simp [BL] at hdd
    subst hdd
    obtain ⟨m,rfl,_,hw⟩:=DataW.trod_int hd h
    exact ⟨[⟨.int k,m⟩],rfl,⟨_,[],[],[],rfl,rfl,⟨⟨rfl,rfl⟩,fun _=>rfl⟩,rfl,rfl⟩,fun l hl=>by rw [List.mem_singleton.1 hl]; exact hw⟩
   | bool=>
    cases d <;> simp [BL] at hdd
    obtain ⟨m,rfl,_⟩:=DataW.trod_bool hd h
    exact ⟨[⟨.bool,m⟩],rfl,⟨_,[],[],[],rfl,rfl,⟨⟨rfl,rfl⟩,fun _=>rfl⟩,rfl,rfl⟩,fun l hl=>by rw [List.mem_singleton.1 hl]; exact trivial⟩
   | str=>
    cases d <;> simp [BL] at hdd
    obtain ⟨⟨⟨s⟩⟩,rfl,_,hs⟩:=DataW.trod_string hd h
    exact ⟨[⟨.str,s⟩],rfl,⟨_,[],[],[],rfl,rfl,⟨⟨rfl,rfl⟩,fun _=>rfl⟩,rfl,rfl⟩,fun l hl=>by rw [List.mem_singleton.1 hl]; exact (show List.length s≤maxLen by simpa [ByteArray.size] using hs)⟩
   | unit=>simp [BL] at hdd
   | pair a b=>simp [BL] at hdd
   | sl o e r=>simp [BL] at hdd
  | slice e ts' bytes=>
   rw [ht] at hts
   simp only [TI.cells,Option.some.injEq] at hts
   subst hts
   obtain ⟨hu,_,_,hlen,i,z,hi,hsz,_⟩:=hT.slice ht
   have he:(ti e).cells=some ts':=by have:=hT2 t; rw [ht] at this; simpa [IG] using this
   have hce:P.cellsOf e=ts'.length:=by simp [Program.cellsOf,hi,hsz]
   rcases DataW.trod_slice hu h with ⟨rfl,_⟩ | ⟨a,len,cap,elems,AeD,m,hfm,rfl,_,_,hl,hm,hel,hels,_⟩
   ·refine ⟨[⟨.sl false e (AM ts').frz,[]⟩],rfl,⟨_,[],[],[],rfl,rfl,⟨?_,fun _=>rfl⟩,rfl,rfl⟩,fun l hl=>by rw [List.mem_singleton.1 hl]; exact ⟨Nat.zero_le _,fun _ h=>by cases h⟩⟩
    exact ⟨rfl,none,0,[],rfl,Nat.le_refl _,⟨rfl,rfl⟩,.inl rfl⟩
   ·obtain rfl:n=m:=by omega
    have key:∀ q,q≤len→∃ (xs:List (AM ts').frz.D) (ws:List Value),xs.length=q∧ws.length=q * ts'.length∧RpL (Rp w Any (AM ts').frz) xs ws []∧
      (∀ j,j < ws.length→w.cell? (a.add j)=ws[j]?)∧(∀ x∈xs,ES (AM ts').frz x):=by
     intro q
     induction q with
     | zero=>intro _; exact ⟨[],[],rfl,by simp,⟨rfl,rfl⟩,fun j hj=>by simp at hj,fun _ h=>by cases h⟩
     | succ q ihq=>
      intro hq
      obtain ⟨xs,ws,h1,h2,h3,h4,h5⟩:=ihq (by omega)
      have hq':=hels q (by omega)
      rw [List.getElem?_eq_getElem (by omega),Option.bind_eq_some_iff] at hq'
      obtain ⟨cs',hcs,hy⟩:=hq'
      obtain ⟨ls,k1,k2,k3⟩:=ih e cs' ts' he hy
      obtain ⟨x,k4,k5⟩:=Aam ts' ls cs' k1 k2 k3
      obtain ⟨_,c2,c3⟩:=World.cells?_some hcs
      refine ⟨xs++[x],ws++cs',by simp [h1],?_,?_,?_,?_⟩
      ·rw [List.length_append,h2,c2,hce,Nat.succ_mul]
      ·have:=h3.append (show RpL (Rp w Any (AM ts').frz) [x] cs' [] from ⟨cs',[],[],[],by simp,rfl,k4,rfl,rfl⟩)
       simpa using this
      ·intro j hj
       by_cases hjw:j < ws.length
       ·rw [h4 j hjw,List.getElem?_append_left hjw]
       ·rw [List.getElem?_append_right (by omega)]
        have:=c3 (j - ws.length) (by rw [List.length_append] at hj; omega)
        rw [← this]
        congr 1
        rw [hce,h2,Addr.add_add]
        congr 1; omega
      ·intro y hy
       rcases List.mem_append.1 hy with hy | hy
       ·exact h5 y hy
       ·rw [List.mem_singleton.1 hy]; exact k5
    obtain ⟨xs,ws,h1,h2,h3,h4,h5⟩:=key len (Nat.le_refl _)
    have hxl:List.length xs=len:=h1
    refine ⟨[⟨.sl false e (AM ts').frz,xs⟩],rfl,⟨_,[],[],[],rfl,rfl,⟨?_,fun _=>rfl⟩,rfl,rfl⟩,fun l hl=>by rw [List.mem_singleton.1 hl]; exact ⟨show List.length xs≤maxLen by omega,h5⟩⟩
    refine ⟨rfl,some a,cap,ws,by rw [hxl],by rw [hxl]; exact hl,h3,?_⟩
    rcases Nat.eq_zero_or_pos len with hz | hz
    ·left; exact List.eq_nil_of_length_eq_zero (show List.length xs=0 by omega)
    ·right
     refine ⟨a,rfl,trivial,?_,h4⟩
     have h0:=hels 0 hz
     rw [List.getElem?_eq_getElem (by omega),Option.bind_eq_some_iff] at h0
     obtain ⟨cs',hcs,_⟩:=h0
     have:=World.cells?_block hcs (by rw [hce]; exact hlen)
     rwa [C9] at this
  | struct fs row eq=>
   rw [ht] at hts
   simp only [TI.cells] at hts
   split at hts
   ·cases hts
   rename_i hnp
   simp only [Option.some.injEq] at hts
   subst hts
   obtain ⟨fields,hu,_,_,i,hi,hsz,_⟩:=hT.struct ht
   have h2:=hT2 t
   rw [ht] at h2
   simp only [IG,hu,Bool.or_eq_true,Bool.and_eq_true,decide_eq_true_eq] at h2
   replace h2:=h2.resolve_left hnp
   obtain ⟨hr,ho⟩:=h2
   obtain ⟨xs,m,hfm,_,hcl,hxl,hf⟩:=DataW.trod_struct hu h
   obtain rfl:n=m:=by omega
   have hcl':cs.length=row.length:=by rw [hcl]; simp [Program.cellsOf,hi,hsz]
   have key:∀ (fl:List Field) (off:Nat) (row:List Ty),OC ti fl=some row→U7 ti fl off=true→off+row.length=cs.length→
     (∀ f∈fl,∃ y,DataW.trod enc P w 0 (fun _=>true) true n f.type ((cs.drop f.offset).take (P.cellsOf f.type))=some y)→
     ∃ ls:List Ae,ls.map (·.1)=row.map Ty.frz∧FL (ALOk w Any) ls (cs.drop off) []∧∀ l∈ls,ES l.1 l.2:=by
    intro fl
    induction fl with
    | nil=>
     intro off row h1 _ h3 _
     simp only [OC,Option.some.injEq] at h1
     subst h1
     simp only [List.length_nil,Nat.add_zero] at h3
     exact ⟨[],rfl,⟨by rw [h3]; simp,rfl⟩,fun _ h=>by cases h⟩
    | cons f fl ihf=>
     intro off row h1 h2 h3 h4
     simp only [OC] at h1
     split at h1
     ·rename_i a b ha hb
      injection h1 with h1
      subst h1
      simp only [U7,Bool.and_eq_true,beq_iff_eq,ha,Option.getD_some] at h2
      obtain ⟨ho,h2⟩:=h2
      rw [List.length_append] at h3
      obtain ⟨ls2,q1,q2,q3⟩:=ihf (off+a.length) b hb h2 (by omega) (fun g hg=>h4 g (by simp [hg]))
      obtain ⟨y,hy⟩:=h4 f (by simp)
      obtain ⟨ls1,p1,p2,p3⟩:=ih _ _ a ha hy
      obtain ⟨i',hi',hsz',_⟩:=It hT (TG ha)
      have hc:P.cellsOf f.type=a.length:=by simp [Program.cellsOf,hi',hsz']
      refine ⟨ls1++ls2,by rw [List.map_append,List.map_append,p1,q1],?_,?_⟩
      ·have:=p2.append q2
       rw [ho,hc] at this
       rw [← List.drop_drop,List.take_append_drop] at this
       simpa using this
      ·intro l hl
       rcases List.mem_append.1 hl with hl | hl
       ·exact p3 l hl
       ·exact q3 l hl
     ·cases h1
   have:=key fields.toList 0 row hr ho (by omega) (fun f hfm=>by
    obtain ⟨j,hj⟩:=List.getElem?_of_mem hfm
    have hj':fields[j]?=some f:=by simpa using hj
    have hjl:j < fields.size:=(Array.getElem?_eq_some_iff.1 hj').1
    rw [hf j f hj']
    exact ⟨_,List.getElem?_eq_getElem (by omega)⟩)
   simpa using this
  | ptr e=>rw [ht] at hts; cases hts
  | err=>rw [ht] at hts; cases hts
  | other=>rw [ht] at hts; cases hts
theorem EI {t:Ty} {ts:List Ty}:∀ {ls:List Ae},ls.map (·.1)=t::ts→∃ (x:t.D) (ls':List Ae),ls=⟨t,x⟩::ls'∧ls'.map (·.1)=ts
 | ⟨t',x⟩::ls,h=>by
  simp only [List.map_cons,List.cons.injEq] at h
  obtain ⟨rfl,h⟩:=h
  exact ⟨x,ls,rfl,h⟩
theorem Wa {ls:List Ae} (h:ls.map (·.1)=[]):ls=[]:=by simpa using h
theorem AbS {r:Reach} {b0:Nat} (hT:TabOk P ti) (hT2:∀ t,IG P ti t (ti t)=true) {t:TypeId} {u:Ty} {v:Value} {d:DataW H} {ps:List MemPlace} (hts:(ti t).cells=some [u]) (hag:(ti t).isAgg=false)
  (hval:Value.okWide P w r b0 t v) (h:DataW.Trod enc P w 0 (fun _=>true) true t v d ps):∃ x:u.frz.D,ES u.frz x∧∀ ms,A1Ok w Any ms (.one ⟨u.frz,x⟩) v []:=by
 obtain ⟨fuel,h⟩:=h
 obtain ⟨ls,h1,h2,h3⟩:=Uu hT hT2 fuel t _ _ hts h
 match ls,h1,h2,h3 with
 | [⟨t',x⟩],h1,h2,h3=>
  simp only [List.map_cons,List.map_nil,List.cons.injEq,and_true] at h1
  subst h1
  obtain ⟨v',vs,F1,F2,e1,e,k1,rfl,rfl⟩:=h2
  obtain rfl:F1=[]:=by simpa using e.symm
  refine ⟨x,h3 ⟨u.frz,x⟩ (by simp),fun ms=>?_⟩
  have:v.cells = #[v']:=Array.toList_inj.1 e1
  have hv:v=v':=by
   have h9:v.cells = #[v]:=by
    cases ht:ti t with
    | cell u'=>
     obtain ⟨⟨d',hd',hdd⟩,_⟩:=hT.cell ht
     cases u' <;> cases d' <;> first
      | (simp [BL] at hdd; done)
      | (obtain ⟨n,rfl⟩:=okWide_int hd' hval; rfl)
      | (obtain ⟨n,rfl⟩:=okWide_bool hd' hval; rfl)
      | (obtain ⟨n,rfl⟩:=okWide_string hd' hval; rfl)
    | slice e ts' b=>
     obtain ⟨a,len,cap,rfl⟩:=okWide_slice (hT.slice ht).1 hval
     rfl
    | struct fs row eq=>rw [ht] at hag; cases hag
    | ptr e=>rw [ht] at hts; cases hts
    | err=>rw [ht] at hts; cases hts
    | other=>rw [ht] at hts; cases hts
   rw [h9] at this
   simpa using this
  subst hv
  exact k1
theorem X5 {r:Reach} {b0:Nat} (hT:TabOk P ti) (hT2:∀ t,IG P ti t (ti t)=true) {t:TypeId} {ts:List Ty} {v:Value} {d:DataW H} {ps:List MemPlace} (hts:(ti t).cells=some ts) (hag:(ti t).isAgg=true)
  (hval:Value.okWide P w r b0 t v) (h:DataW.Trod enc P w 0 (fun _=>true) true t v d ps):∃ ls:List Ae,ls.map (·.1)=ts.map Ty.frz∧(∀ l∈ls,ES l.1 l.2)∧∀ ms,A1Ok w Any ms (.ag ls) v []:=by
 obtain ⟨fuel,h⟩:=h
 obtain ⟨ls,h1,h2,h3⟩:=Uu hT hT2 fuel t _ _ hts h
 refine ⟨ls,h1,h3,fun ms=>?_⟩
 obtain ⟨i,_,_,⟨d',hd',hdd⟩,_⟩:=It hT (TG hts)
 rw [hag] at hdd
 have:∃ cs,v=.agg cs:=by
  cases d' <;> simp [GF] at hdd <;> (simp only [Value.okWide,hd'] at hval; obtain ⟨cs,h,_⟩:=hval; exact ⟨cs,h⟩)
 obtain ⟨cs,rfl⟩:=this
 exact ⟨cs.toList,rfl,h2⟩
end
end Go.V
set_option maxRecDepth 100000
namespace Go.V.G
open Go.V
def pre (P:List (List UInt8)) (S:List Bool):Nat→Int
 | 0=>0
 | k+1=>pre P S k+(((P.getD k []).length:Nat):Int)+(if S.getD k false=true then 1 else 0)
theorem Some1.z {p:Prt} (h:Some1 p):0 < p.1→p.2.1=0:=by
 intro h0
 have:=h.ne
 unfold kd at this
 split at this
 ·rename_i h; exact h.2.1
 ·split at this
  ·rename_i h; omega
  ·split at this
   ·rename_i h; omega
   ·exact absurd rfl this
section
variable {B:Nat} {c:List Prt} (h:Sm B c) (hB:B≤1099511627000)
include h hB
end
end Go.V.G
set_option maxRecDepth 100000
namespace Go.V.G
open Go.V
theorem Wb {p:Prt} (h:kd p≠0):(∃ a:Int,0 < a∧p=(a,0,[])∧kd p=1)∨(∃ b:Int,0 < b∧p=(0,b,[])∧kd p=2)∨∃ s:List UInt8,s≠[]∧p=(0,0,s)∧kd p=3:=by
 obtain ⟨a,b,s⟩:=p
 unfold kd at h ⊢
 by_cases h1:0 < a∧b=0∧s=[]
 ·obtain ⟨g1,g2,g3⟩:=h1; subst g2 g3
  left; exact ⟨a,g1,rfl,by simp [g1]⟩
 by_cases h2:0 < b∧a=0∧s=[]
 ·obtain ⟨g1,g2,g3⟩:=h2; subst g2 g3
  right; left; exact ⟨b,g1,rfl,by simp [g1]⟩
 by_cases h3:s≠[]∧a=0∧b=0
 ·obtain ⟨g1,g2,g3⟩:=h3; subst g2 g3
  right; right; exact ⟨s,g1,rfl,by simp [g1]⟩
 rw [if_neg h1,if_neg h2,if_neg h3] at h
 exact absurd rfl h
def AeA (p:Prt):List Int:=[kd p,p.1+p.2.1+p.2.2.length]++AR p.2.2
def enc (c:List Prt):List Int:=c.flatMap AeA
theorem Zg {c:List Prt} (hg:C8 c=true) {p:Prt} (hp:p∈c):p.1+p.2.1+p.2.2.length≤120∧0≤p.1+p.2.1:=by
 obtain ⟨h1,h2,h3⟩:=Fu hg
 have hs:=FH h1
 obtain ⟨i,hi,rfl⟩:=List.getElem_of_mem hp
 have n1:=C6 (l:=c.take i) fun p h=>hs p (Iz h)
 have n2:=C5 (l:=c.take i) fun p h=>hs p (Iz h)
 have n3:=C6 (l:=c.drop (i+1)) fun p h=>hs p (Eh h)
 have n4:=C5 (l:=c.drop (i+1)) fun p h=>hs p (Eh h)
 have a1:=Se hi
 have a2:=R0 hi
 have q:=hs _ hp
 rcases Wb q.ne with ⟨a,ha,e,_⟩ | ⟨b,hb,e,_⟩ | ⟨s,_,e,_⟩ <;> (rw [e] at a1 a2 ⊢; simp only [List.length_nil] at a1 a2 ⊢; omega)
section
variable {B:Nat} {c:List Prt} (h:Sm B c) (hB:B≤1099511627776) (hg:C8 c=true)
include h hB hg
end
def ST (l:List Prt):List Prt:=l.foldl Aey []
theorem V0:∀ {c:List Prt},(∀ p∈c,Some1 p)→((c.length:Nat):Int)≤src c+tgt c
 | [],_=>by simp [src,tgt]
 | p::c,h=>by
  have ih:=V0 (c:=c) fun q hq=>h q (by simp [hq])
  have s:=h p (by simp)
  have k0:=s.k; have d0:=s.d
  simp only [src,tgt,List.length_cons]
  rcases Wb s.ne with ⟨a,ha,e,_⟩ | ⟨b,hb,e,_⟩ | ⟨t,ht,e,_⟩
  ·rw [e]; simp only; omega
  ·rw [e]; simp only; omega
  ·rw [e]; simp only
   have:=List.length_pos_iff.2 ht
   omega
theorem Ut:∀ {c:List Prt},(∀ p∈c,Some1 p)→((Fx c:Nat):Int)≤tgt c
 | [],_=>by simp [Fx,tgt]
 | p::c,h=>by
  have ih:=Ut (c:=c) fun q hq=>h q (by simp [hq])
  have k0:=(h p (by simp)).k
  simp only [Fx,tgt]; omega
theorem SK {c:List Prt} (h:C8 c=true):Sm 240 c:=by
 obtain ⟨h1,h2,h3⟩:=Fu h
 have hs:=FH h1
 have:=V0 hs
 have:=Ut hs
 refine ⟨by omega,by omega,fun p hp=>?_⟩
 have:=Zg h hp
 have k0:=(hs p hp).k; have d0:=(hs p hp).d
 unfold I64
 omega
end Go.V.G
set_option maxRecDepth 100000
namespace Go.V.G
open Go.V
def Fine (p:Prt):Prop:=p=(0,0,[])∨kd p≠0
theorem Fine.put (s:List UInt8):Fine (0,0,s):=by
 by_cases h:s=[]
 ·subst h; exact .inl rfl
 ·exact .inr (by simp [kd,h])
theorem Fine.keep {n:Int} (h:0≤n):Fine (n,0,[]):=by
 by_cases h0:n=0
 ·subst h0; exact .inl rfl
 ·have:0 < n:=by omega
  exact .inr (by simp [kd,this])
theorem Fine.drop {n:Int} (h:0≤n):Fine (0,n,[]):=by
 by_cases h0:n=0
 ·subst h0; exact .inl rfl
 ·have:0 < n:=by omega
  exact .inr (by simp [kd,this])
def AeF (l:List Prt):Prop:=src l≤1000000000∧tgt l≤1000000000
def hd:List Atom→Option Atom
 | []=>none
 | a::_=>some a
end Go.V.G
set_option maxRecDepth 100000
namespace Go.V.G
open Go.V
def comp:List Atom→List Atom→List Atom
 | x,.ins b::y=>.ins b::comp x y
 | .drop::x,[]=>.drop::comp x []
 | .drop::x,.keep::y=>.drop::comp x (.keep::y)
 | .drop::x,.drop::y=>.drop::comp x (.drop::y)
 | .ins b::x,.keep::y=>.ins b::comp x y
 | .ins _::x,.drop::y=>comp x y
 | .keep::x,.keep::y=>.keep::comp x y
 | .keep::x,.drop::y=>.drop::comp x y
 | _,_=>[]
termination_by x y=>x.length+y.length
def ap:List Atom→List UInt8→List UInt8
 | .ins b::l,t=>b::ap l t
 | .keep::l,c::t=>c::ap l t
 | .drop::l,_::t=>ap l t
 | _,_=>[]
end Go.V.G
set_option maxRecDepth 100000
namespace Go.V.G
open Go.V
def AdD:Option (Bool×Bool)→List Prt
 | some (true,true)=>[(1,0,[])]
 | some (false,true)=>[(0,1,[])]
 | _=>[]
def gap (first:Bool) (p q:List UInt8) (st:Option (Bool×Bool)):List Prt:=
 (if first=true then [(0,0,p),(((q.length:Nat):Int),0,[])] else [(((q.length:Nat):Int),0,[]),(0,0,p)])++AdD st
def Adt (first:Bool):List Bool→List (List UInt8)→List Bool→List (List UInt8)→List Prt
 | [],p::_,_,q::_=>gap first p q none
 | sx::Sx,p::Px,sy::Sy,q::Py=>gap first p q (some (sx,sy))++Adt first Sx Px Sy Py
 | _,_,_,_=>[]
def AeD (first:Bool) (Sx:List Bool) (Px:List (List UInt8)) (Sy:List Bool) (Py:List (List UInt8)) (k:Nat):List Prt:=Adt first (Sx.drop k) (Px.drop k) (Sy.drop k) (Py.drop k)
structure Rows (Sx:List Bool) (Px:List (List UInt8)) (Sy:List Bool) (Py:List (List UInt8)):Prop where
 s:Sx.length=Sy.length
 x:Px.length=Sx.length+1
 y:Py.length=Sy.length+1
 n:Sx.length≤1000
 px:∀ p∈Px,p.length≤1000
 py:∀ p∈Py,p.length≤1000
end Go.V.G
set_option maxRecDepth 100000
namespace Go.V.G
open Go.V
def apply (t:List UInt8) (c:List Prt):List UInt8:=ap (Aed c) t
end Go.V.G
set_option maxRecDepth 100000
namespace Go.V.G
open Go.V
def front (be:List UInt8) (l:List Atom):List Bool×List (List UInt8):=(U6 l,(be++(V3 l).headD [])::(V3 l).tail)
end Go.V.G
set_option maxRecDepth 100000
namespace Go.V.G
open Go.V
def tot (P:List (List UInt8)):Nat:=(P.map List.length).sum
def Aco:List Bool→Nat
 | []=>0
 | b::l=>(if b=true then 1 else 0)+Aco l
def rem (S:List Bool) (P:List (List UInt8)):Nat:=tot P+Aco S
structure CR (Sb:List Bool) (Pb:List (List UInt8)) (Sc:List Bool) (Pc:List (List UInt8)):Prop where
 x:Pb.length=Sb.length+1
 y:Pc.length=Sc.length+1
 r:rem Sb Pb=Sc.length
 n:Sb.length≤1000
 m:Sc.length≤1000
 py:tot Pc≤1000
section
variable {Sb:List Bool} {Pb:List (List UInt8)} {Sc:List Bool} {Pc:List (List UInt8)} (h:CR Sb Pb Sc Pc)
include h
end
end Go.V.G
set_option maxRecDepth 100000
namespace Go.V.G
open Go.V
structure PR (S:List Bool) (P:List (List UInt8)):Prop where
 x:P.length=S.length+1
 n:S.length≤1000
 p:∀ q∈P,q.length≤1000
section
variable {Sb:List Bool} {Pb:List (List UInt8)} {Sc:List Bool} {Pc:List (List UInt8)} (h:CR Sb Pb Sc Pc)
include h
end
end Go.V.G
set_option maxRecDepth 100000
namespace Go.V.G
open Go.V
abbrev Rn:=Int×Int
def MU:List Rn→Int
 | []=>0
 | r::l=>r.2+MU l
def alt:Option Int→List Rn→Bool
 | _,[]=>true
 | p,r::l=>!(decide (p=some r.1)) && alt (some r.1) l
def Pos (l:List Rn):Prop:=∀ q∈l,1≤q.2
theorem Pos.nil:Pos []:=fun q h=>by cases h
theorem Pos.tail {r:Rn} {l:List Rn} (h:Pos (r::l)):Pos l:=fun q hq=>h q (by simp [hq])
theorem PC:∀ {l:List Rn},Pos l→0≤MU l
 | [],_=>Int.le_refl _
 | r::l,h=>by
  have:=h r (by simp); have:=PC h.tail
  simp only [MU]; omega
theorem Pu:∀ {l:List Rn},Pos l→((l.length:Nat):Int)≤MU l
 | [],_=>Int.le_refl _
 | r::l,h=>by
  have:=h r (by simp); have:=Pu h.tail
  simp only [MU,List.length_cons]; omega
structure Rs (l:List Rn) (n:Int):Prop where
 pos:Pos l
 sum:MU l=n
 alt:alt none l=true
theorem Rs.nil:Rs [] 0:=⟨Pos.nil,rfl,rfl⟩
def Ve (most:Int) (l:List Rn):Bool:=l.all fun r=>decide (0≤r.1∧r.1≤most)
def grn (most:Int):Option Int→Int→List Rn→Bool
 | _,left,[]=>decide (left=0)
 | p,left,r::l=>(decide (0≤r.1∧r.1≤most) && (decide (1≤r.2∧r.2≤left) && !(decide (p=some r.1)))) && grn most (some r.1) (left - r.2) l
def Bt (l:List Rn) (many most:Int):Bool:=(decide (0≤many∧many≤120) && decide (0≤most∧most≤60)) && grn most none many l
theorem Yk (most:Int):∀ (l:List Rn) (p:Option Int) (left:Int),grn most p left l=true↔(Ve most l=true∧Pos l∧MU l=left∧alt p l=true)
 | [],p,left=>by
  simp only [grn,decide_eq_true_eq,Ve,List.all_nil,MU,G.alt,true_and]
  exact ⟨fun h=>⟨Pos.nil,h.symm,trivial⟩,fun h=>h.2.1.symm⟩
 | r::l,p,left=>by
  have ih:=Yk most l (some r.1) (left - r.2)
  simp only [grn,Bool.and_eq_true,decide_eq_true_eq,ih,Ve,List.all_cons,MU,G.alt]
  constructor
  ·rintro ⟨⟨h1,h2,h3⟩,h4,h5,h6,h7⟩
   refine ⟨⟨h1,h4⟩,fun q hq=>?_,by omega,h3,h7⟩
   rcases List.mem_cons.1 hq with rfl | hq
   ·exact h2.1
   ·exact h5 q hq
  ·rintro ⟨⟨h1,h4⟩,h5,h6,h3,h7⟩
   have h8:=h5 r (by simp)
   have h9:=PC h5.tail
   exact ⟨⟨h1,⟨h8,by omega⟩,h3⟩,h4,h5.tail,by omega,h7⟩
theorem goodRuns_iff {l:List Rn} {many most:Int}:Bt l many most=true↔((0≤many∧many≤120)∧(0≤most∧most≤60))∧Ve most l=true∧Rs l many:=by
 simp only [Bt,Bool.and_eq_true,decide_eq_true_eq,Yk]
 constructor
 ·rintro ⟨h,h1,h2,h3,h4⟩; exact ⟨h,h1,h2,h3,h4⟩
 ·rintro ⟨h,h1,h2⟩; exact ⟨h,h1,h2.pos,h2.sum,h2.alt⟩
end Go.V.G
set_option maxRecDepth 100000
namespace Go.V.G
open Go.V
def chn:Int→List (List Prt)→Bool
 | _,[]=>true
 | n,c::cs=>(C8 c && decide (src c=n)) && chn (tgt c) cs
theorem AbX {n:Int} {c:List Prt} {cs:List (List Prt)} (h:chn n (c::cs)=true):C8 c=true∧src c=n∧chn (tgt c) cs=true:=by
 simp only [chn,Bool.and_eq_true,decide_eq_true_eq] at h
 exact ⟨h.1.1,h.1.2,h.2⟩
theorem Ts:∀ {n:Int} {cs:List (List Prt)},chn n cs=true→∀ c∈cs,C8 c=true
 | n,c::cs,h,x,hx=>by
  obtain ⟨k1,k2,k3⟩:=AbX h
  rcases List.mem_cons.1 hx with rfl | hx
  ·exact k1
  ·exact Ts k3 x hx
def Lq (f:Int) (t:List UInt8) (r:List Rn) (cs:List (List Prt)):Bool:=
 decide (0≤f∧f≤60) && (decide (((t.length:Nat):Int)≤120) && (Bt r ((t.length:Nat):Int) f && (decide (((cs.length:Nat):Int)≤60 - f) && chn ((t.length:Nat):Int) cs)))
structure GH (f:Int) (t:List UInt8) (r:List Rn) (cs:List (List Prt)):Prop where
 hf:0≤f∧f≤60
 ht:((t.length:Nat):Int)≤120
 hr:Bt r ((t.length:Nat):Int) f=true
 hn:((cs.length:Nat):Int)≤60 - f
 hc:chn ((t.length:Nat):Int) cs=true
theorem goodH_iff {f:Int} {t:List UInt8} {r:List Rn} {cs:List (List Prt)}:Lq f t r cs=true↔GH f t r cs:=by
 simp only [Lq,Bool.and_eq_true,decide_eq_true_eq]
 exact ⟨fun ⟨h1,h2,h3,h4,h5⟩=>⟨h1,h2,h3,h4,h5⟩,fun ⟨h1,h2,h3,h4,h5⟩=>⟨h1,h2,h3,h4,h5⟩⟩
structure HB (t:List UInt8) (r:List Rn) (cs:List (List Prt)):Prop where
 ht:t.length≤1099511627776
 hr:r.length≤1099511627776
 hn:cs.length≤1099511627776
 hc:∀ c∈cs,Sm 1099511627776 c
theorem GH.hb {f:Int} {t:List UInt8} {r:List Rn} {cs:List (List Prt)} (h:GH f t r cs):HB t r cs:=by
 have h1:=h.ht; have h2:=h.hn; have h3:=h.hf
 obtain ⟨_,_,h6⟩:=goodRuns_iff.1 h.hr
 have:=Pu h6.pos
 rw [h6.sum] at this
 exact ⟨by omega,by omega,by omega,fun c hc=>(SK (Ts h.hc c hc)).mono (by omega)⟩
end Go.V.G
set_option maxRecDepth 100000
namespace Go.V.G
open Go.V
def prv (l:List Rn) (i:Nat):Option Int:=if i=0 then none else (l[i - 1]?).map (·.1)
theorem Vw {l:List Rn} {i:Nat} (h:i < l.length):prv l (i+1)=some l[i].1:=by simp [prv,List.getElem?_eq_getElem h]
theorem Wn {l:List Rn} {i:Nat} (h:i < l.length) (most left:Int) (p:Option Int):grn most p left (l.drop i)=((decide (0≤l[i].1∧l[i].1≤most) && (decide (1≤l[i].2∧l[i].2≤left) && !(decide (p=some l[i].1)))) && grn most (some l[i].1) (left - l[i].2) (l.drop (i+1))):=by
 rw [List.drop_eq_getElem_cons h]; rfl
theorem UP {l:List Rn} (hl:l.length≤1099511627776) (many most:Int):JH l many most=some (Bt l many most):=by
 unfold JH
 refine Ok.eq (Ok.bind (Q:=fun v=>v=(l,many,most,!(decide (0≤many∧many≤120) && decide (0≤most∧most≤60)))) ?_ ?_)
 ·refine Ok.bind_eq (A5 _ _ _) (Ok.ite (fun h=>Ok.mk ?_) fun h=>Ok.bind_eq (A5 _ _ _) (Ok.mk ?_))
  ·have h':decide (0≤many∧many≤120)=false:=by simpa only [Bool.not_eq_true'] using h
   rw [h']; rfl
  ·have h':decide (0≤many∧many≤120)=true:=by simpa only [Bool.not_eq_true',Bool.not_eq_false] using h
   rw [h',Bool.true_and]
 rintro _ rfl
 dsimp only
 refine Ok.ite (fun hb=>Ok.mk ?_) fun hb=>?_
 ·have hb':(decide (0≤many∧many≤120) && decide (0≤most∧most≤60))=false:=by simpa only [Bool.not_eq_true'] using hb
  unfold Bt; rw [hb']; rfl
 have hb':(decide (0≤many∧many≤120) && decide (0≤most∧most≤60))=true:=by simpa only [Bool.not_eq_true',Bool.not_eq_false] using hb
 have hg:Bt l many most=grn most none many l:=by unfold Bt; rw [hb',Bool.true_and]
 rw [Bool.and_eq_true,decide_eq_true_eq,decide_eq_true_eq] at hb'
 rw [hg]
 refine Ok.bind (Q:=fun r=>match r with | .inl y=>decide (y.2=y.1)=grn most none many l | .inr b=>b=grn most none many l) ?_ (by rintro (y | b) hr <;> exact Ok.mk hr)
 refine Ok.loop (fun y=>y.1=l∧y.2.1=many∧y.2.2.1=most∧(0≤y.2.2.2.1∧y.2.2.2.1≤many)∧y.2.2.2.2.1=l∧y.2.2.2.2.2.1=((l.length:Nat):Int)∧∃ i:Nat,y.2.2.2.2.2.2=((i:Nat):Int)∧i≤l.length∧grn most none many l=grn most (prv l i) (many - y.2.2.2.1) (l.drop i))
  (fun y=>(((l.length:Nat):Int) - y.2.2.2.2.2.2).toNat) ⟨rfl,rfl,rfl,⟨by simp,hb'.1.1⟩,rfl,rfl,0,rfl,Nat.zero_le _,by simp [prv]⟩ ?_
 rintro ⟨l1,m1,s1,all,l2,n,i'⟩ ⟨e1,e2,e3,⟨h0,h1⟩,e4,e5,i,e6,hi,hk⟩
 dsimp only at e1 e2 e3 h0 h1 e4 e5 e6 hk
 subst e1 e2 e3 e4 e5 e6
 unfold NI
 dsimp only
 refine Ok.ite (fun hc=>?_) fun hc=>?_
 ·have hlt:i < l2.length:=by simpa using hc
  have hge:l2[Int.toNat ((i:Nat):Int)]?=some l2[i]:=by simp [hlt]
  refine Ok.yes (by simp) (Ok.bind_eq hge ?_)
  refine Ok.bind (Q:=fun v=>v=(l2,m1,s1,all,l2,((l2.length:Nat):Int),((i:Nat):Int),!(decide (0≤l2[i].1∧l2[i].1≤s1) && (decide (1≤l2[i].2∧l2[i].2≤120) && !(decide (prv l2 i=some l2[i].1)))),l2[i].1,l2[i].2)) ?_ ?_
  ·refine Ok.bind_eq (A5 _ _ _) (Ok.ite (fun h=>Ok.mk ?_) fun h=>Ok.bind_eq (A5 _ _ _) (Ok.ite (fun h2=>Ok.mk ?_) fun h2=>?_))
   ·have h':decide (0≤l2[i].1∧l2[i].1≤s1)=false:=by simpa only [Bool.not_eq_true'] using h
    rw [h']; rfl
   ·have h':decide (1≤l2[i].2∧l2[i].2≤120)=false:=by simpa only [Bool.not_eq_true'] using h2
    rw [h',Bool.false_and,Bool.and_false]; rfl
   ·have h':decide (0≤l2[i].1∧l2[i].1≤s1)=true:=by simpa only [Bool.not_eq_true',Bool.not_eq_false] using h
    have h2':decide (1≤l2[i].2∧l2[i].2≤120)=true:=by simpa only [Bool.not_eq_true',Bool.not_eq_false] using h2
    rw [h',h2',Bool.true_and,Bool.true_and,Bool.not_not]
    refine Ok.ite (fun hp=>?_) fun hp=>Ok.mk ?_
    ·have hp':0 < i:=by simpa using hp
     have e:IntKind.wrap .i64 ((i:Int) - 1)=((i - 1:Nat):Int):=by rw [w64 (by omega) (by omega)]; omega
     have hl1:i - 1 < l2.length:=by omega
     refine Ok.yes (by simp [e]) (Ok.bind_eq (r:=l2[i - 1]) (by simp [e,List.getElem?_eq_getElem hl1]) (Ok.mk ?_))
     have hne:¬ i=0:=by omega
     simp [prv,hne,List.getElem?_eq_getElem hl1]
    ·have:i=0:=by
      have:¬ (0:Int) < (i:Int):=by simpa using hp
      omega
     subst this
     simp [prv]
  rintro _ rfl
  dsimp only
  rw [Wn hlt] at hk
  refine Ok.ite (fun hbad=>Ok.mk ?_) fun hgood=>?_
  ·dsimp only
   rw [hk]
   have hbad':(decide (0≤l2[i].1∧l2[i].1≤s1) && (decide (1≤l2[i].2∧l2[i].2≤120) && !(decide (prv l2 i=some l2[i].1))))=false:=by simpa only [Bool.not_eq_true'] using hbad
   by_cases q1:0≤l2[i].1∧l2[i].1≤s1
   ·by_cases q3:prv l2 i=some l2[i].1
    ·simp [q3]
    ·have q2:¬ (1≤l2[i].2∧l2[i].2≤120):=by simpa [q1,q3] using hbad'
     have:¬ (1≤l2[i].2∧l2[i].2≤m1 - all):=by omega
     simp [this]
   ·simp [q1]
  ·have hgood':(decide (0≤l2[i].1∧l2[i].1≤s1) && (decide (1≤l2[i].2∧l2[i].2≤120) && !(decide (prv l2 i=some l2[i].1))))=true:=by simpa only [Bool.not_eq_true',Bool.not_eq_false] using hgood
   rw [Bool.and_eq_true,Bool.and_eq_true,decide_eq_true_eq,decide_eq_true_eq] at hgood'
   obtain ⟨q1,q2,q3⟩:=hgood'
   have w:IntKind.wrap .i64 (all+l2[i].2)=all+l2[i].2:=w64 (by omega) (by omega)
   rw [w]
   refine Ok.ite (fun hbig=>Ok.mk ?_) fun hfit=>Ok.mk ⟨⟨rfl,rfl,rfl,?_,rfl,rfl,i+1,Bq hl hlt,by omega,?_⟩,?_⟩
   ·dsimp only
    have:m1 < all+l2[i].2:=by simpa using hbig
    have:¬ (1≤l2[i].2∧l2[i].2≤m1 - all):=by omega
    rw [hk]; simp [this]
   ·have:¬ m1 < all+l2[i].2:=by simpa using hfit
    dsimp only; omega
   ·have hf:¬ m1 < all+l2[i].2:=by simpa using hfit
    have q4:1≤l2[i].2∧l2[i].2≤m1 - all:=by omega
    dsimp only
    rw [hk,Vw hlt,q3]
    simp only [q1,q4,and_self,decide_true,Bool.true_and]
    congr 1; omega
   ·rw [Bq hl hlt]; dsimp only; omega
 ·have:i=l2.length:=by
   have:¬ ((i:Int) < ((List.length l2:Nat):Int)):=by simpa using hc
   omega
  subst this
  refine Ok.mk ?_
  dsimp only
  rw [hk,List.drop_length,grn]
  exact decide_eq_decide.2 (by omega)
theorem US {l:List Rn} (hl:l.length≤1099511627776) (many most:Int):Jw l many most=some (Bt l many most):=by
 unfold Jw
 refine Ok.eq (Ok.bind (Q:=fun v=>v=(l,many,most,!(decide (0≤many∧many≤120) && decide (0≤most∧most≤60)))) ?_ ?_)
 ·refine Ok.bind_eq (CL _ _ _) (Ok.ite (fun h=>Ok.mk ?_) fun h=>Ok.bind_eq (CL _ _ _) (Ok.mk ?_))
  ·have h':decide (0≤many∧many≤120)=false:=by simpa only [Bool.not_eq_true'] using h
   rw [h']; rfl
  ·have h':decide (0≤many∧many≤120)=true:=by simpa only [Bool.not_eq_true',Bool.not_eq_false] using h
   rw [h',Bool.true_and]
 rintro _ rfl
 dsimp only
 refine Ok.ite (fun hb=>Ok.mk ?_) fun hb=>?_
 ·have hb':(decide (0≤many∧many≤120) && decide (0≤most∧most≤60))=false:=by simpa only [Bool.not_eq_true'] using hb
  unfold Bt; rw [hb']; rfl
 have hb':(decide (0≤many∧many≤120) && decide (0≤most∧most≤60))=true:=by simpa only [Bool.not_eq_true',Bool.not_eq_false] using hb
 have hg:Bt l many most=grn most none many l:=by unfold Bt; rw [hb',Bool.true_and]
 rw [Bool.and_eq_true,decide_eq_true_eq,decide_eq_true_eq] at hb'
 rw [hg]
 refine Ok.bind (Q:=fun r=>match r with | .inl y=>decide (y.2=y.1)=grn most none many l | .inr b=>b=grn most none many l) ?_ (by rintro (y | b) hr <;> exact Ok.mk hr)
 refine Ok.loop (fun y=>y.1=l∧y.2.1=many∧y.2.2.1=most∧(0≤y.2.2.2.1∧y.2.2.2.1≤many)∧y.2.2.2.2.1=l∧y.2.2.2.2.2.1=((l.length:Nat):Int)∧∃ i:Nat,y.2.2.2.2.2.2=((i:Nat):Int)∧i≤l.length∧grn most none many l=grn most (prv l i) (many - y.2.2.2.1) (l.drop i))
  (fun y=>(((l.length:Nat):Int) - y.2.2.2.2.2.2).toNat) ⟨rfl,rfl,rfl,⟨by simp,hb'.1.1⟩,rfl,rfl,0,rfl,Nat.zero_le _,by simp [prv]⟩ ?_
 rintro ⟨l1,m1,s1,all,l2,n,i'⟩ ⟨e1,e2,e3,⟨h0,h1⟩,e4,e5,i,e6,hi,hk⟩
 dsimp only at e1 e2 e3 h0 h1 e4 e5 e6 hk
 subst e1 e2 e3 e4 e5 e6
 unfold Nt
 dsimp only
 have wm:IntKind.wrap .i64 (m1 - all)=m1 - all:=w64 (by omega) (by omega)
 rw [wm]
 refine Ok.ite (fun hc=>?_) fun hc=>?_
 ·have hlt:i < l2.length:=by simpa using hc
  have hge:l2[Int.toNat ((i:Nat):Int)]?=some l2[i]:=by simp [hlt]
  refine Ok.yes (by simp) (Ok.bind_eq hge ?_)
  refine Ok.bind (Q:=fun v=>v=(l2,m1,s1,all,l2,((l2.length:Nat):Int),((i:Nat):Int),!(decide (0≤l2[i].1∧l2[i].1≤s1) && (decide (1≤l2[i].2∧l2[i].2≤m1 - all) && !(decide (prv l2 i=some l2[i].1)))),l2[i].1,l2[i].2)) ?_ ?_
  ·refine Ok.bind_eq (CL _ _ _) (Ok.ite (fun h=>Ok.mk ?_) fun h=>Ok.bind_eq (CL _ _ _) (Ok.ite (fun h2=>Ok.mk ?_) fun h2=>?_))
   ·have h':decide (0≤l2[i].1∧l2[i].1≤s1)=false:=by simpa only [Bool.not_eq_true'] using h
    rw [h']; rfl
   ·have h':decide (1≤l2[i].2∧l2[i].2≤m1 - all)=false:=by simpa only [Bool.not_eq_true'] using h2
    rw [h',Bool.false_and,Bool.and_false]; rfl
   ·have h':decide (0≤l2[i].1∧l2[i].1≤s1)=true:=by simpa only [Bool.not_eq_true',Bool.not_eq_false] using h
    have h2':decide (1≤l2[i].2∧l2[i].2≤m1 - all)=true:=by simpa only [Bool.not_eq_true',Bool.not_eq_false] using h2
    rw [h',h2',Bool.true_and,Bool.true_and,Bool.not_not]
    refine Ok.ite (fun hp=>?_) fun hp=>Ok.mk ?_
    ·have hp':0 < i:=by simpa using hp
     have e:IntKind.wrap .i64 ((i:Int) - 1)=((i - 1:Nat):Int):=by rw [w64 (by omega) (by omega)]; omega
     have hl1:i - 1 < l2.length:=by omega
     refine Ok.yes (by simp [e]) (Ok.bind_eq (r:=l2[i - 1]) (by simp [e,List.getElem?_eq_getElem hl1]) (Ok.mk ?_))
     have hne:¬ i=0:=by omega
     simp [prv,hne,List.getElem?_eq_getElem hl1]
    ·have:i=0:=by
      have:¬ (0:Int) < (i:Int):=by simpa using hp
      omega
     subst this
     simp [prv]
  rintro _ rfl
  dsimp only
  rw [Wn hlt] at hk
  refine Ok.ite (fun hbad=>Ok.mk ?_) fun hgood=>?_
  ·dsimp only
   rw [hk]
   have hbad':(decide (0≤l2[i].1∧l2[i].1≤s1) && (decide (1≤l2[i].2∧l2[i].2≤m1 - all) && !(decide (prv l2 i=some l2[i].1))))=false:=by simpa only [Bool.not_eq_true'] using hbad
   rw [hbad',Bool.false_and]
  ·have hgood':(decide (0≤l2[i].1∧l2[i].1≤s1) && (decide (1≤l2[i].2∧l2[i].2≤m1 - all) && !(decide (prv l2 i=some l2[i].1))))=true:=by simpa only [Bool.not_eq_true',Bool.not_eq_false] using hgood
   rw [hgood',Bool.true_and] at hk
   rw [Bool.and_eq_true,Bool.and_eq_true,decide_eq_true_eq,decide_eq_true_eq] at hgood'
   obtain ⟨q1,q2,q3⟩:=hgood'
   have w:IntKind.wrap .i64 (all+l2[i].2)=all+l2[i].2:=w64 (by omega) (by omega)
   rw [w]
   refine Ok.mk ⟨⟨rfl,rfl,rfl,by dsimp only; omega,rfl,rfl,i+1,Bq hl hlt,by omega,?_⟩,?_⟩
   ·dsimp only
    rw [hk,Vw hlt]
    congr 1; omega
   ·rw [Bq hl hlt]; dsimp only; omega
 ·have:i=l2.length:=by
   have:¬ ((i:Int) < ((List.length l2:Nat):Int)):=by simpa using hc
   omega
  subst this
  refine Ok.mk ?_
  dsimp only
  rw [hk,List.drop_length,grn]
  exact decide_eq_decide.2 (by omega)
theorem Acj {n m b:Nat} (h:n+m≤1099511627776) (hb:b≤64):Aa (n+m) b=true:=by
 simp only [Aa,decide_eq_true_eq]
 have:(n+m) * b≤1099511627776 * 64:=Nat.mul_le_mul h hb
 omega
end Go.V.G
set_option maxRecDepth 100000
namespace Go.V.G
open Go.V
theorem WU {cs:List (List Prt)} {i:Nat} (h:i < cs.length) (n:Int):chn n (cs.drop i)=((C8 cs[i] && decide (src cs[i]=n)) && chn (tgt cs[i]) (cs.drop (i+1))):=by
 rw [List.drop_eq_getElem_cons h]; rfl
theorem VQ {cs:List (List Prt)} (hn:cs.length≤1099511627776) (hs:∀ c∈cs,Sm 1099511627776 c) (n:Int):Lo n cs=some (chn n cs):=by
 unfold Lo
 refine Ok.eq (Ok.bind (Q:=fun r=>match r with | .inl _=>chn n cs=true | .inr b=>b=chn n cs) ?_ (by
  rintro (y | b) hr
  ·exact Ok.mk hr.symm
  ·exact Ok.mk hr))
 refine Ok.loop (fun y=>y.2.1=cs∧y.2.2.1=((cs.length:Nat):Int)∧∃ i:Nat,y.2.2.2=((i:Nat):Int)∧i≤cs.length∧chn n cs=chn y.1 (cs.drop i)) (fun y=>(((cs.length:Nat):Int) - y.2.2.2).toNat) ⟨rfl,rfl,0,rfl,Nat.zero_le _,rfl⟩ ?_
 rintro ⟨m,cs',l,i'⟩ ⟨e1,e2,i,e3,hi,hk⟩
 dsimp only at e1 e2 e3 hk
 subst e1 e2 e3
 unfold Ob
 dsimp only
 refine Ok.ite (fun hc=>?_) fun hc=>?_
 ·have hlt:i < cs'.length:=by simpa using hc
  have hge:cs'[Int.toNat ((i:Nat):Int)]?=some cs'[i]:=by simp [hlt]
  refine Ok.yes (by simp) (Ok.bind_eq hge (Ok.bind_eq (SY (hs _ (List.getElem_mem hlt)) (by omega)) ?_))
  rw [WU hlt] at hk
  unfold Ww
  cases hg:C8 cs'[i] with
  | false=>
   rw [hg] at hk
   refine Ok.bind_eq (r:=(0,cs',((cs'.length:Nat):Int),((i:Nat):Int),true)) (by simp) (Ok.yes rfl (Ok.mk ?_))
   dsimp only; rw [hk]; simp
  | true=>
   rw [hg] at hk
   refine Ok.bind_eq (r:=(tgt cs'[i],cs',((cs'.length:Nat):Int),((i:Nat):Int),decide (¬ src cs'[i]=m))) (by simp) ?_
   dsimp only
   refine Ok.ite (fun hb=>Ok.mk ?_) fun hb=>Ok.mk ⟨⟨rfl,rfl,i+1,Bq hn hlt,by omega,?_⟩,?_⟩
   ·have:¬ src cs'[i]=m:=by simpa using hb
    dsimp only; rw [hk]; simp [this]
   ·have:src cs'[i]=m:=by simpa using hb
    dsimp only; rw [hk]; simp [this]
   ·rw [Bq hn hlt]; dsimp only; omega
 ·have:i=cs'.length:=by
   have:¬ ((i:Int) < ((List.length cs':Nat):Int)):=by simpa using hc
   omega
  subst this
  refine Ok.mk ?_
  dsimp only
  rw [hk,List.drop_length]; rfl
theorem Hn {t:List UInt8} {r:List Rn} {cs:List (List Prt)} (h:HB t r cs) (f:Int):GT f t r cs=some (Lq f t r cs):=by
 unfold GT Lq
 refine Ok.eq (Ok.bind (Q:=fun b=>b=_) ?_ (fun b hb=>Ok.mk hb))
 refine Ok.bind_eq (A5 _ _ _) (Ok.ite (fun q1=>?_) fun q1=>Ok.mk ?_)
 ·have q1':0≤f∧f≤60:=by simpa using q1
  rw [show decide (0≤f∧f≤60)=true from q1,Bool.true_and]
  refine Ok.ite (fun q2=>Ok.bind_eq (UP h.hr _ _) (Ok.ite (fun q3=>?_) fun q3=>Ok.mk ?_)) fun q2=>Ok.mk ?_
  ·rw [show decide (((t.length:Nat):Int)≤120)=true from q2,q3,Bool.true_and,Bool.true_and]
   rw [w64 (show -9223372036854775808≤60 - f by omega) (by omega)]
   refine Ok.ite (fun q4=>Ok.bind_eq (VQ h.hn h.hc _) (Ok.mk ?_)) fun q4=>Ok.mk ?_
   ·rw [q4,Bool.true_and]
   ·have:decide (((cs.length:Nat):Int)≤60 - f)=false:=by simpa using q4
    rw [this,Bool.false_and]
  ·have:Bt r ((t.length:Nat):Int) f=false:=by simpa using q3
   rw [this]; simp
  ·have:decide (((t.length:Nat):Int)≤120)=false:=by simpa using q2
   rw [this]; simp
 ·have:decide (0≤f∧f≤60)=false:=by simpa using q1
  rw [this]; simp
theorem Hj {t:List UInt8} {r:List Rn} {cs:List (List Prt)} (h:HB t r cs) (f:Int):GY f t r cs=some (Lq f t r cs):=by
 have hn:=h.hn
 unfold GY
 refine Ok.eq (Ok.bind (Q:=fun v=>v=(!(decide (0≤f∧f≤60) && (decide (((t.length:Nat):Int)≤120) && (Bt r ((t.length:Nat):Int) f && decide (((cs.length:Nat):Int)≤60 - f)))),f,t,r,cs)) ?_ ?_)
 ·refine Ok.bind_eq (CL _ _ _) (Ok.ite (fun q1=>Ok.mk ?_) fun q1=>Ok.ite (fun q2=>Ok.mk ?_) fun q2=>Ok.bind_eq (US h.hr _ _) (Ok.ite (fun q3=>Ok.mk ?_) fun q3=>Ok.mk ?_))
  ·have:decide (0≤f∧f≤60)=false:=by simpa only [Bool.not_eq_true'] using q1
   rw [this]; rfl
  ·have:¬ ((t.length:Nat):Int)≤120:=by
     have:(120:Int) < ((t.length:Nat):Int):=by simpa using q2
     omega
   simp [this]
  ·have:Bt r ((t.length:Nat):Int) f=false:=by simpa only [Bool.not_eq_true'] using q3
   rw [this]; simp
  ·have g1:0≤f∧f≤60:=by simpa using q1
   have g2:((t.length:Nat):Int)≤120:=by
    have:¬ (120:Int) < ((t.length:Nat):Int):=by simpa using q2
    omega
   have g3:Bt r ((t.length:Nat):Int) f=true:=by simpa only [Bool.not_eq_true',Bool.not_eq_false] using q3
   rw [w64 (show -9223372036854775808≤60 - f by omega) (by omega),g3]
   simp only [g1,and_self,decide_true,g2,Bool.true_and]
   congr 1
   by_cases hx:60 - f < ((cs.length:Nat):Int)
   ·have:¬ ((cs.length:Nat):Int)≤60 - f:=by omega
    simp [hx,this]
   ·have:((cs.length:Nat):Int)≤60 - f:=by omega
    simp [hx,this]
 rintro _ rfl
 dsimp only
 have split:Lq f t r cs=((decide (0≤f∧f≤60) && (decide (((t.length:Nat):Int)≤120) && (Bt r ((t.length:Nat):Int) f && decide (((cs.length:Nat):Int)≤60 - f)))) && chn ((t.length:Nat):Int) cs):=by
  unfold Lq; simp only [Bool.and_assoc]
 rw [split]
 refine Ok.ite (fun hb=>Ok.mk ?_) fun hb=>?_
 ·have:(decide (0≤f∧f≤60) && (decide (((t.length:Nat):Int)≤120) && (Bt r ((t.length:Nat):Int) f && decide (((cs.length:Nat):Int)≤60 - f))))=false:=by simpa only [Bool.not_eq_true'] using hb
  rw [this]; rfl
 have hb':(decide (0≤f∧f≤60) && (decide (((t.length:Nat):Int)≤120) && (Bt r ((t.length:Nat):Int) f && decide (((cs.length:Nat):Int)≤60 - f))))=true:=by simpa only [Bool.not_eq_true',Bool.not_eq_false] using hb
 rw [hb',Bool.true_and]
 have ht:((t.length:Nat):Int)≤120:=by simp only [Bool.and_eq_true,decide_eq_true_eq] at hb'; exact hb'.2.1
 refine Ok.bind (Q:=fun r=>match r with | .inl _=>chn ((t.length:Nat):Int) cs=true | .inr b=>b=chn ((t.length:Nat):Int) cs) ?_ (by
  rintro (y | b) hr
  ·exact Ok.mk hr.symm
  ·exact Ok.mk hr)
 refine Ok.loop (fun y=>y.2.1=cs∧y.2.2.1=((cs.length:Nat):Int)∧∃ i:Nat,y.2.2.2=((i:Nat):Int)∧i≤cs.length∧chn ((t.length:Nat):Int) cs=chn y.1 (cs.drop i)) (fun y=>(((cs.length:Nat):Int) - y.2.2.2).toNat) ⟨rfl,rfl,0,rfl,Nat.zero_le _,rfl⟩ ?_
 rintro ⟨m,cs',l,i'⟩ ⟨e1,e2,i,e3,hi,hk⟩
 dsimp only at e1 e2 e3 hk
 subst e1 e2 e3
 unfold Ke
 dsimp only
 refine Ok.ite (fun hc=>?_) fun hc=>?_
 ·have hlt:i < cs'.length:=by simpa using hc
  have hge:cs'[Int.toNat ((i:Nat):Int)]?=some cs'[i]:=by simp [hlt]
  have sm:=h.hc _ (List.getElem_mem hlt)
  refine Ok.yes (by simp) (Ok.bind_eq hge ?_)
  rw [WU hlt] at hk
  cases hg:C8 cs'[i] with
  | false=>
   rw [hg] at hk
   refine Ok.bind_eq (r:=(cs',((cs'.length:Nat):Int),((i:Nat):Int),true,cs'[i])) (by rw [TW sm (by omega),hg]; rfl) (Ok.yes rfl (Ok.mk ?_))
   dsimp only; rw [hk]; simp
  | true=>
   rw [hg] at hk
   have ss:=FH (Fu hg).1
   have g2:=(Fu hg).2
   refine Ok.bind_eq (r:=(cs',((cs'.length:Nat):Int),((i:Nat):Int),decide (¬ src cs'[i]=m),cs'[i])) (by rw [TW sm (by omega),hg,Option.bind_some,if_neg (by simp),XK sm (by omega) ss (by omega)]; rfl) ?_
   dsimp only
   refine Ok.ite (fun hb=>Ok.mk ?_) fun hb=>Ok.bind_eq (Xm sm (by omega) ss (by omega)) (Ok.mk ⟨⟨rfl,rfl,i+1,Bq hn hlt,by omega,?_⟩,?_⟩)
   ·have:¬ src cs'[i]=m:=by simpa using hb
    dsimp only; rw [hk]; simp [this]
   ·have:src cs'[i]=m:=by simpa using hb
    dsimp only; rw [hk]; simp [this]
   ·rw [Bq hn hlt]; dsimp only; omega
 ·have:i=cs'.length:=by
   have:¬ ((i:Int) < ((List.length cs':Nat):Int)):=by simpa using hc
   omega
  subst this
  refine Ok.mk ?_
  dsimp only
  rw [hk,List.drop_length]; rfl
section
variable {f:Int} {t:List UInt8} {r:List Rn} {cs:List (List Prt)}
end
end Go.V.G
set_option maxRecDepth 100000
namespace Go.V.G
open Go.V
def QQ (xs:List (Int×Int)):Prop:=xs.length≤maxLen
def Cr (xs:List (Int×Int)):Nat:=xs.length
theorem RM (xs:List (Int×Int)):xs.length≤Cr xs:=by unfold Cr; omega
theorem Adj {xs:List (Int×Int)} (hf:QQ xs) {l:Int} (h0:0≤l) (h1:l≤1048576):Mz xs l=some (lft l (Cr xs)):=by
 have hl:xs.length≤maxLen:=hf
 unfold maxLen at hl
 unfold Mz lft Cr
 rw [w64 (by omega) (by omega)]
 by_cases h:l - ((xs.length:Nat):Int) < 0
 ·rw [if_pos (by simpa using h),if_neg (by omega)]
 ·rw [if_neg (by simpa using h),if_pos (by omega)]
theorem Adk {xs:List (Int×Int)} (h:Cr xs≤1048576):MC xs=some xs:=by
 have hl:=RM xs
 have hr:Aa xs.length 16=true:=by simp only [Aa,decide_eq_true_eq]; omega
 unfold MC
 simp only [Int.toNat_natCast,hr,if_true,Int.le_refl,decide_true,show (0:Int)≤((xs.length:Nat):Int) from by omega]
 rw [Mw IF xs _ (by
  intro ys i hi hy
  have hc:((i:Nat):Int) < ((xs.length:Nat):Int):=by omega
  have hy':i < ys.length:=by omega
  have g1:∀ x,(ys.set i x)[i]?=some x:=fun x=>List.getElem?_set_self hy'
  skip
  unfold IF
  simp only [hy,hc,decide_true,if_true,show (0:Int)≤((i:Nat):Int) from by omega,Int.toNat_natCast,List.getElem?_eq_getElem hi,List.getElem?_eq_getElem hy',Option.bind_some,Nat.zero_add,List.set_set,g1,ixS (show xs.length≤4611686018427387904 by omega) hi,Tk]) (by intro ys; simp [IF])]
 rfl
theorem AdA (x:Int×Int):Po x.1 x.2 x.1 x.2=some true:=by simp [Po]
theorem Acr {xs:List (Int×Int)} (h:Cr xs≤1099511627776):M5 xs xs=some true:=by
 have hl:=RM xs
 unfold M5
 rw [if_neg (by simp),Mg IS xs (by
  intro i hi
  have hc:((i:Nat):Int) < ((xs.length:Nat):Int):=by omega
  skip
  unfold IS
  simp only [hc,decide_true,if_true,show (0:Int)≤((i:Nat):Int) from by omega,Int.toNat_natCast,List.getElem?_eq_getElem hi,Option.bind_some,ixS (show xs.length≤4611686018427387904 by omega) hi,AdA,Bool.not_true,Bool.false_eq_true,if_false,not_true_eq_false,decide_false]) (by simp [IS])]
 rfl
def K8 (xs:List (Int×(Int×List UInt8))):Prop:=xs.length≤maxLen∧∀ x∈xs,x.2.2.length≤maxLen
def Je (x:Int×(Int×List UInt8)):Nat:=x.2.2.length
def A7 (xs:List (Int×(Int×List UInt8))):Nat:=xs.length+Aq Je xs
theorem IK (xs:List (Int×(Int×List UInt8))):xs.length≤A7 xs:=by unfold A7; omega
theorem AcF {x:Int×(Int×List UInt8)} (hf:x.2.2.length≤maxLen) {l:Int} (h0:0≤l) (h1:l≤1048576):M9 x.1 x.2.1 x.2.2 l=some (lft l (Je x)):=by
 unfold maxLen at hf
 unfold M9 lft Je
 rw [w64 (by omega) (by omega)]
 by_cases h:l - ((x.2.2.length:Nat):Int) < 0
 ·rw [if_pos (by simpa using h),if_neg (by omega)]
 ·rw [if_neg (by simpa using h),if_pos (by omega)]
theorem Abp {xs:List (Int×(Int×List UInt8))} (hf:K8 xs) {l:Int} (h0:0≤l) (h1:l≤1048576):Ls xs l=some (lft l (A7 xs)):=by
 obtain ⟨hl,hx⟩:=hf
 unfold maxLen at hl
 unfold Ls
 rw [w64 (by omega) (by omega)]
 by_cases h:l - ((xs.length:Nat):Int) < 0
 ·rw [if_pos (by simpa using h)]; unfold lft A7; rw [if_neg (by omega)]
 ·rw [if_neg (by simpa using h),SJ HX Je xs (by
   intro i hi l h0 h1
   have hc:((i:Nat):Int) < ((xs.length:Nat):Int):=by omega
   have hx:=hx _ (List.getElem_mem hi)
   unfold HX
   simp only [hc,decide_true,if_true,show (0:Int)≤((i:Nat):Int) from by omega,Int.toNat_natCast,List.getElem?_eq_getElem hi,Option.bind_some,AcF (hx) h0 h1,ixS (show xs.length≤4611686018427387904 by omega) hi]
   unfold lft
   by_cases hw:((Je xs[i]:Nat):Int)≤l
   ·have:¬ l - ((Je xs[i]:Nat):Int) < 0:=by omega
    simp [hw,this]
   ·simp [hw]) (by intro l; simp [HX]) (by omega) (by omega),Option.bind_some]
  unfold lft A7
  by_cases hx:((Aq Je xs:Nat):Int)≤l - ((xs.length:Nat):Int)
  ·rw [if_pos hx,if_pos (by omega)]
   show some _=some _
   congr 1; omega
  ·rw [if_neg hx,if_neg (by omega)]
theorem AbH {xs:List (Int×(Int×List UInt8))} (h:A7 xs≤1048576):KY xs=some xs:=by
 have hl:=IK xs
 have hr:Aa xs.length 32=true:=by simp only [Aa,decide_eq_true_eq]; omega
 unfold KY
 simp only [Int.toNat_natCast,hr,if_true,Int.le_refl,decide_true,show (0:Int)≤((xs.length:Nat):Int) from by omega]
 rw [Mw HJ xs _ (by
  intro ys i hi hy
  have hc:((i:Nat):Int) < ((xs.length:Nat):Int):=by omega
  have hy':i < ys.length:=by omega
  have g1:∀ x,(ys.set i x)[i]?=some x:=fun x=>List.getElem?_set_self hy'
  skip
  unfold HJ
  simp only [hy,hc,decide_true,if_true,show (0:Int)≤((i:Nat):Int) from by omega,Int.toNat_natCast,List.getElem?_eq_getElem hi,List.getElem?_eq_getElem hy',Option.bind_some,Nat.zero_add,List.set_set,g1,ixS (show xs.length≤4611686018427387904 by omega) hi,QO]) (by intro ys; simp [HJ])]
 rfl
theorem Acx (x:Int×(Int×List UInt8)):MN x.1 x.2.1 x.2.2 x.1 x.2.1 x.2.2=some true:=by simp [MN]
theorem AbK {xs:List (Int×(Int×List UInt8))} (h:A7 xs≤1099511627776):KR xs xs=some true:=by
 have hl:=IK xs
 unfold KR
 rw [if_neg (by simp),Mg H2 xs (by
  intro i hi
  have hc:((i:Nat):Int) < ((xs.length:Nat):Int):=by omega
  skip
  unfold H2
  simp only [hc,decide_true,if_true,show (0:Int)≤((i:Nat):Int) from by omega,Int.toNat_natCast,List.getElem?_eq_getElem hi,Option.bind_some,ixS (show xs.length≤4611686018427387904 by omega) hi,Acx,Bool.not_true,Bool.false_eq_true,if_false,not_true_eq_false,decide_false]) (by simp [H2])]
 rfl
def LI (xs:List (List (Int×(Int×List UInt8)))):Prop:=xs.length≤maxLen∧∀ x∈xs,K8 x
def AU (xs:List (List (Int×(Int×List UInt8)))):Nat:=xs.length+Aq A7 xs
theorem G6 (xs:List (List (Int×(Int×List UInt8)))):xs.length≤AU xs:=by unfold AU; omega
theorem ZO {x:List (Int×(Int×List UInt8))} (hf:K8 x) {l:Int} (h0:0≤l) (h1:l≤1048576):JD x l=some (lft l (A7 x)):=by
 unfold JD
 rw [Abp hf h0 h1,Option.bind_some]
 by_cases h:lft l (A7 x) < 0
 ·rw [if_pos (by simpa using h)]; unfold lft at h ⊢; split at h
  ·omega
  ·rename_i hn; rw [if_neg hn]
 ·rw [if_neg (by simpa using h)]
theorem YQ {xs:List (List (Int×(Int×List UInt8)))} (hf:LI xs) {l:Int} (h0:0≤l) (h1:l≤1048576):IU xs l=some (lft l (AU xs)):=by
 obtain ⟨hl,hx⟩:=hf
 unfold maxLen at hl
 unfold IU
 rw [w64 (by omega) (by omega)]
 by_cases h:l - ((xs.length:Nat):Int) < 0
 ·rw [if_pos (by simpa using h)]; unfold lft AU; rw [if_neg (by omega)]
 ·rw [if_neg (by simpa using h),SJ Gs A7 xs (by
   intro i hi l h0 h1
   have hc:((i:Nat):Int) < ((xs.length:Nat):Int):=by omega
   have hx:=hx _ (List.getElem_mem hi)
   unfold Gs
   simp only [hc,decide_true,if_true,show (0:Int)≤((i:Nat):Int) from by omega,Int.toNat_natCast,List.getElem?_eq_getElem hi,Option.bind_some,ZO (hx) h0 h1,ixS (show xs.length≤4611686018427387904 by omega) hi]
   unfold lft
   by_cases hw:((A7 xs[i]:Nat):Int)≤l
   ·have:¬ l - ((A7 xs[i]:Nat):Int) < 0:=by omega
    simp [hw,this]
   ·simp [hw]) (by intro l; simp [Gs]) (by omega) (by omega),Option.bind_some]
  unfold lft AU
  by_cases hx:((Aq A7 xs:Nat):Int)≤l - ((xs.length:Nat):Int)
  ·rw [if_pos hx,if_pos (by omega)]
   show some _=some _
   congr 1; omega
  ·rw [if_neg hx,if_neg (by omega)]
theorem Aas {x:List (Int×(Int×List UInt8))} (h:A7 x≤1048576):JG x=some x:=by
 unfold JG; rw [AbH h]; rfl
theorem YW {xs:List (List (Int×(Int×List UInt8)))} (h:AU xs≤1048576):IR xs=some xs:=by
 have hl:=G6 xs
 have hr:Aa xs.length 24=true:=by simp only [Aa,decide_eq_true_eq]; omega
 unfold IR
 simp only [Int.toNat_natCast,hr,if_true,Int.le_refl,decide_true,show (0:Int)≤((xs.length:Nat):Int) from by omega]
 rw [Mw Gn xs _ (by
  intro ys i hi hy
  have hc:((i:Nat):Int) < ((xs.length:Nat):Int):=by omega
  have hy':i < ys.length:=by omega
  have g1:∀ x,(ys.set i x)[i]?=some x:=fun x=>List.getElem?_set_self hy'
  have hb:A7 xs[i]≤1048576:=by have:=EK A7 (List.getElem_mem hi); unfold AU at h; omega
  unfold Gn
  simp only [hy,hc,decide_true,if_true,show (0:Int)≤((i:Nat):Int) from by omega,Int.toNat_natCast,List.getElem?_eq_getElem hi,List.getElem?_eq_getElem hy',Option.bind_some,Nat.zero_add,List.set_set,g1,ixS (show xs.length≤4611686018427387904 by omega) hi,Aas (hb)]) (by intro ys; simp [Gn])]
 rfl
theorem Aau {x:List (Int×(Int×List UInt8))} (h:A7 x≤1099511627776):Jt x x=some true:=by
 unfold Jt; rw [AbK h]; rfl
theorem Zi {xs:List (List (Int×(Int×List UInt8)))} (h:AU xs≤1099511627776):IM xs xs=some true:=by
 have hl:=G6 xs
 unfold IM
 rw [if_neg (by simp),Mg Gl xs (by
  intro i hi
  have hc:((i:Nat):Int) < ((xs.length:Nat):Int):=by omega
  have hb:A7 xs[i]≤1099511627776:=by have:=EK A7 (List.getElem_mem hi); unfold AU at h; omega
  unfold Gl
  simp only [hc,decide_true,if_true,show (0:Int)≤((i:Nat):Int) from by omega,Int.toNat_natCast,List.getElem?_eq_getElem hi,Option.bind_some,ixS (show xs.length≤4611686018427387904 by omega) hi,Aau (hb),Bool.not_true,Bool.false_eq_true,if_false,not_true_eq_false,decide_false]) (by simp [Gl])]
 rfl
end Go.V.G
set_option maxRecDepth 100000
namespace Go.V.G
open Go.V
theorem n2:((2:Nat):Int)=2:=rfl
theorem n3:((3:Nat):Int)=3:=rfl
noncomputable def mt (k:Int):List UInt8:=(Gm k).getD []
theorem Aen {k:Int} (h0:0≤k) (h1:k≤4611686018427387904):Gm k=some (mt k):=by
 have:∃ z,Gm k=some z:=by
  unfold Gm
  by_cases h:k≤0
  ·exact ⟨_,by rw [if_pos (by simpa using h)]⟩
  ·rw [if_neg (by simpa using h)]
   obtain ⟨z,hz,hl⟩:=Wd Jk (fun y=>0≤y.1∧((y.2.length:Nat):Int)+y.1≤4611686018427387904) (fun y=>y.1.toNat) (fun z=>((z.length:Nat):Int)≤4611686018427387904) (by
    rintro ⟨n,s⟩ ⟨q0,q1⟩
    dsimp only at q0 q1
    unfold Jk
    by_cases hp:0 < n
    ·left
     have d1:Int.tdiv n 10=n / 10:=Int.tdiv_eq_ediv_of_nonneg q0
     have w:IntKind.wrap .i64 (Int.tdiv n 10)=n / 10:=by rw [d1,w64 (by omega) (by omega)]
     have hlen:List.length (Bu [IntKind.wrap .u8 (IntKind.wrap .i64 (48+(Int.tmod n 10)))])=1:=by simp [Bu]
     have hs:1+s.length≤9223372036854775807:=by omega
     refine ⟨(n / 10,Bu [IntKind.wrap .u8 (IntKind.wrap .i64 (48+(Int.tmod n 10)))]++s),?_,⟨by dsimp only; omega,?_⟩,by dsimp only; omega⟩
     ·simp only [hp,decide_true,if_true,hlen,hs,w,show decide (¬ (10:Int)=0)=true from rfl]
     ·dsimp only
      rw [List.length_append,hlen]; omega
    ·right
     refine ⟨s,by simp [hp],?_⟩
     omega) (k,[]) ⟨h0,by simpa using h1⟩
   rw [hz,Option.bind_some]
   exact ⟨_,by rw [if_pos]; simp; omega⟩
 obtain ⟨z,hz⟩:=this
 rw [mt,hz]; rfl
def Fs:Int×Int→Nat:=fun _=>2
def RY:Int×Int→Int→Int×Int:=fun _ k=>(k,k+1)
theorem Ya:∀ xs:List (Int×Int),Aq Fs xs=2 * xs.length
 | []=>rfl
 | x::xs=>by simp only [Aq,Ya xs,Fs,List.length_cons]; omega
theorem Aaj {xs:List (Int×Int)} (hl:xs.length≤1099511627776) {k:Int} (h0:0≤k) (h1:k+Aq Fs xs≤4611686018427387904):HZ xs k=some (mks RY Fs xs k,k+Aq Fs xs):=by
 unfold HZ
 rw [I0 Fn RY Fs xs (by
  intro ys i hi k hlen hmem h0 hk
  have hc:((i:Nat):Int) < ((ys.length:Nat):Int):=by omega
  have g1:∀ x,(ys.set i x)[i]?=some x:=fun x=>List.getElem?_set_self hi
  simp only [Fs] at hk
  have w1:IntKind.wrap .i64 (k+1)=k+1:=w64 (by omega) (by omega)
  have w2:IntKind.wrap .i64 (k+1+1)=k+2:=by rw [w64 (by omega) (by omega)]; omega
  unfold Fn
  simp only [List.length_set,hc,decide_true,if_true,show (0:Int)≤((i:Nat):Int) from by omega,Int.toNat_natCast,List.getElem?_eq_getElem hi,Option.bind_some,Nat.zero_add,List.set_set,g1,ixS (show ys.length≤4611686018427387904 by omega) hi,w1,w2,RY,Fs,n2]) (by intro ys k; simp [Fn]) h0 h1]
 rfl
def Ff:Int×(Int×List UInt8)→Nat:=fun _=>3
noncomputable def Pr:Int×(Int×List UInt8)→Int→Int×(Int×List UInt8):=fun _ k=>(k,k+1,mt (k+2))
theorem Wp:∀ xs:List (Int×(Int×List UInt8)),Aq Ff xs=3 * xs.length
 | []=>rfl
 | x::xs=>by simp only [Aq,Wp xs,Ff,List.length_cons]; omega
theorem Y3 {xs:List (Int×(Int×List UInt8))} (hl:xs.length≤1099511627776) {k:Int} (h0:0≤k) (h1:k+Aq Ff xs≤4611686018427387904):G9 xs k=some (mks Pr Ff xs k,k+Aq Ff xs):=by
 unfold G9
 rw [I0 E1 Pr Ff xs (by
  intro ys i hi k hlen hmem h0 hk
  have hc:((i:Nat):Int) < ((ys.length:Nat):Int):=by omega
  have g1:∀ x,(ys.set i x)[i]?=some x:=fun x=>List.getElem?_set_self hi
  simp only [Ff] at hk
  have w1:IntKind.wrap .i64 (k+1)=k+1:=w64 (by omega) (by omega)
  have w2:IntKind.wrap .i64 (k+1+1)=k+2:=by rw [w64 (by omega) (by omega)]; omega
  have w3:IntKind.wrap .i64 (k+2+1)=k+3:=by rw [w64 (by omega) (by omega)]; omega
  have hm:=Aen (k:=k+2) (by omega) (by omega)
  unfold E1
  simp only [List.length_set,hc,decide_true,if_true,show (0:Int)≤((i:Nat):Int) from by omega,Int.toNat_natCast,List.getElem?_eq_getElem hi,Option.bind_some,Nat.zero_add,List.set_set,g1,ixS (show ys.length≤4611686018427387904 by omega) hi,w1,w2,w3,hm,Pr,Ff,n3]) (by intro ys k; simp [E1]) h0 h1]
 rfl
def D8:List (Int×(Int×List UInt8))→Nat:=fun x=>Aq Ff x
noncomputable def Lk:List (Int×(Int×List UInt8))→Int→List (Int×(Int×List UInt8)):=fun x k=>mks Pr Ff x k
theorem Sj:∀ xs:List (List (Int×(Int×List UInt8))),Aq D8 xs≤3 * AU xs
 | []=>Nat.zero_le _
 | x::xs=>by
  have ih:=Sj xs; have hx:=Wp x; have hy:=IK x
  simp only [AU,Aq,List.length_cons,D8] at ih ⊢
  omega
theorem ZH {xs:List (List (Int×(Int×List UInt8)))} (h:AU xs≤1099511627776) {x:List (Int×(Int×List UInt8))} (hx:x∈xs):x.length≤1099511627776:=by
 have:=EK A7 hx; have:=IK x; unfold AU at h; omega
theorem WR {xs:List (List (Int×(Int×List UInt8)))} (h:AU xs≤1099511627776) {k:Int} (h0:0≤k) (h1:k+Aq D8 xs≤4611686018427387904):Fo xs k=some (mks Lk D8 xs k,k+Aq D8 xs):=by
 have hl:=G6 xs
 unfold Fo
 rw [I0 DW Lk D8 xs (by
  intro ys i hi k hlen hmem h0 hk
  have hc:((i:Nat):Int) < ((ys.length:Nat):Int):=by omega
  have hm:=Y3 (ZH h hmem) h0 hk
  unfold DW
  simp only [hc,decide_true,if_true,show (0:Int)≤((i:Nat):Int) from by omega,Int.toNat_natCast,List.getElem?_eq_getElem hi,Option.bind_some,Nat.zero_add,ixS (show ys.length≤4611686018427387904 by omega) hi,hm,Lk,D8]) (by intro ys k; simp [DW]) h0 h1]
 rfl
abbrev Hst:=Int×(List UInt8×(List (Int×Int)×List (List (Int×(Int×List UInt8)))))
def Cu (h:Hst):Nat:=h.2.1.length+Cr h.2.2.1+AU h.2.2.2
def Xh (h:Hst):Prop:=h.2.1.length≤maxLen∧QQ h.2.2.1∧LI h.2.2.2
theorem Ys {l:Int} {n m:Nat} (h:((n:Nat):Int)≤l):lft (l - n) m=lft l (n+m):=by
 unfold lft
 by_cases h1:((m:Nat):Int)≤l - n
 ·rw [if_pos h1,if_pos (by omega)]; omega
 ·rw [if_neg h1,if_neg (by omega)]
theorem Aae {l:Int} {n m:Nat} (h:¬ ((n:Nat):Int)≤l):lft l (n+m) = -1:=by unfold lft; rw [if_neg (by omega)]
theorem Zq {a:Int} {t:List UInt8} {r:List (Int×Int)} {c:List (List (Int×(Int×List UInt8)))} (hf:Xh (a,t,r,c)) {l:Int} (h0:0≤l) (h1:l≤1048576):IE a t r c l=some (lft l (Cu (a,t,r,c))):=by
 obtain ⟨f1,f2,f3⟩:=hf
 unfold maxLen at f1
 dsimp only at f1 f2 f3
 unfold IE Cu
 dsimp only
 rw [w64 (by omega) (by omega)]
 by_cases h:((t.length:Nat):Int)≤l
 ·rw [if_neg (by simp; omega),Adj f2 (by omega) (by omega),Option.bind_some,Ys h]
  by_cases h2:(((t.length+Cr r:Nat)):Int)≤l
  ·have e:lft l (t.length+Cr r)=l - ((t.length+Cr r:Nat):Int):=by unfold lft; rw [if_pos h2]
   rw [e,if_neg (by simp; omega),YQ f3 (by omega) (by omega),Option.bind_some,Ys h2]
   by_cases h3:(((t.length+Cr r+AU c:Nat)):Int)≤l
   ·have e:lft l (t.length+Cr r+AU c)=l - ((t.length+Cr r+AU c:Nat):Int):=by unfold lft; rw [if_pos h3]
    rw [e,if_neg (by simp; omega)]
   ·have e:lft l (t.length+Cr r+AU c) = -1:=by unfold lft; rw [if_neg h3]
    rw [e]; rfl
  ·have e:lft l (t.length+Cr r) = -1:=by unfold lft; rw [if_neg h2]
   rw [e,Aae h2]; rfl
 ·rw [if_pos (by simp; omega),Nat.add_assoc,Aae h]
theorem Y1 {a:Int} {t:List UInt8} {r:List (Int×Int)} {c:List (List (Int×(Int×List UInt8)))} (h:Cu (a,t,r,c)≤1048576):Dz a t r c=some (a,t,r,c):=by
 unfold Cu at h
 dsimp only at h
 unfold Dz
 rw [Adk (by omega),Option.bind_some,YW (by omega)]; rfl
theorem YF {a:Int} {t:List UInt8} {r:List (Int×Int)} {c:List (List (Int×(Int×List UInt8)))} (h:Cu (a,t,r,c)≤1099511627776):GJ a t r c a t r c=some true:=by
 unfold Cu at h
 dsimp only at h
 unfold GJ
 simp [Acr (show Cr r≤1099511627776 by omega),Zi (show AU c≤1099511627776 by omega)]
noncomputable def mkR (r:List (Int×Int)) (k:Int):List (Int×Int):=mks RY Fs r k
noncomputable def mkC (r:List (Int×Int)) (c:List (List (Int×(Int×List UInt8)))) (k:Int):List (List (Int×(Int×List UInt8))):=mks Lk D8 c (k+Aq Fs r)
def YY (r:List (Int×Int)) (c:List (List (Int×(Int×List UInt8)))):Nat:=Aq Fs r+Aq D8 c
theorem Wm {a:Int} {t:List UInt8} {r:List (Int×Int)} {c:List (List (Int×(Int×List UInt8)))} (h:Cu (a,t,r,c)≤1099511627776) {k:Int} (h0:0≤k) (h1:k≤1000000000000000) :
  Ed a t r c k=some (a,t,mkR r k,mkC r c k,k+YY r c):=by
 unfold Cu Cr at h
 dsimp only at h
 have q1:=Ya r
 have q2:=Sj c
 unfold Ed
 rw [Aaj (by omega) h0 (by omega),Option.bind_some,WR (by omega) (by dsimp only; omega) (by dsimp only; omega),Option.bind_some]
 show some (_,_,_,_,_)=some (_,_,_,_,_)
 congr 5
 unfold YY; dsimp only; omega
end Go.V.G
set_option maxRecDepth 100000
namespace Go.V.G
open Go.V
theorem Z0 {n:Int} (h:ES (.int .i64) n):I64 n:=by
 have h2:(Lit.int .i64 n).wf=true:=h
 simp [Lit.wf,IntKind.min,IntKind.max,IntKind.bits,IntKind.signed] at h2
 unfold I64; omega
structure FitP (c:List Prt):Prop where
 l:K8 c
 i:∀ p∈c,I64 p.1∧I64 p.2.1
structure FitH (t:List UInt8) (r:List Rn) (cs:List (List Prt)):Prop where
 ht:t.length≤maxLen
 hr:QQ r
 hc:LI cs
 hi:∀ c∈cs,∀ p∈c,I64 p.1∧I64 p.2.1
theorem X9 {e:TypeId} {c:List Prt} (h:ES (.sl false e (.pair (.int .i64) (.pair (.int .i64) .str))) c):FitP c:=
 ⟨⟨h.1,fun p hp=>(h.2 p hp).2.2⟩,fun p hp=>⟨Z0 (h.2 p hp).1,Z0 (h.2 p hp).2.1⟩⟩
theorem Adb {e1 e2 e3:TypeId} {t:List UInt8} {r:List Rn} {cs:List (List Prt)} (h1:ES .str t) (h2:ES (.sl false e1 (.pair (.int .i64) (.int .i64))) r)
  (h3:ES (.sl false e2 (.sl false e3 (.pair (.int .i64) (.pair (.int .i64) .str)))) cs):FitH t r cs:=
 ⟨h1,h2.1,⟨h3.1,fun c hc=>(X9 (h3.2 c hc)).l⟩,fun c hc=>(X9 (h3.2 c hc)).i⟩
theorem VI:∀ c:List Prt,A7 c=c.length+Fx c
 | []=>rfl
 | p::c=>by
  have ih:=VI c
  simp only [A7,Aq,Je,Fx,List.length_cons] at ih ⊢
  omega
theorem Aeh {c:List Prt} (h:FitP c) {B:Nat} (hw:A7 c≤B):Sm B c:=by
 rw [VI] at hw
 exact ⟨by omega,by omega,h.i⟩
theorem Aea {f:Int} {t:List UInt8} {r:List Rn} {cs:List (List Prt)} (h:FitH t r cs) (hw:Cu (f,t,r,cs)≤1048576):HB t r cs:=by
 unfold Cu Cr at hw
 dsimp only at hw
 have hl:=G6 cs
 refine ⟨by omega,by omega,by omega,fun c hc=>Aeh ⟨h.hc.2 c hc,h.hi c hc⟩ ?_⟩
 have:=EK A7 hc
 unfold AU at hw
 omega
theorem Tj {α:Type} {w:α→Nat} {B:Nat}:∀ {xs:List α},(∀ x∈xs,w x≤B)→Aq w xs≤xs.length * B
 | [],_=>by simp [Aq]
 | x::xs,h=>by
  have ih:=Tj (xs:=xs) fun y hy=>h y (by simp [hy])
  have:=h x (by simp)
  simp only [Aq,List.length_cons,Nat.succ_mul]; omega
theorem Ado {c:List Prt} (h:C8 c=true):A7 c≤480:=by
 have:=SK h
 have:=this.len; have:=(SK h).put
 rw [VI]; omega
theorem Ac6 {cs:List (List Prt)} (h:∀ c∈cs,C8 c=true) (hn:cs.length≤1000):AU cs≤1000000:=by
 have:=Tj (w:=A7) (B:=480) fun c hc=>Ado (h c hc)
 unfold AU
 omega
theorem Adw {l:List Rn} {n m:Int} (h:Bt l n m=true):Cr l≤120:=by
 obtain ⟨h1,_,h6⟩:=goodRuns_iff.1 h
 have:=Pu h6.pos
 rw [h6.sum] at this
 unfold Cr
 omega
theorem GH.w {f:Int} {t:List UInt8} {r:List Rn} {cs:List (List Prt)} (g:GH f t r cs):Cu (f,t,r,cs)≤2000000:=by
 have:=g.ht; have:=g.hn; have:=g.hf
 have h1:=Ac6 (Ts g.hc) (by omega)
 have h2:=Adw g.hr
 unfold Cu
 dsimp only
 omega
end Go.V.G
set_option maxRecDepth 100000
namespace Go.V.G
open Go.V
def Byt (l:List Int):Prop:=∀ x∈l,0≤x∧x≤255
theorem Adx (n:Int):0≤IntKind.wrap .u8 n∧IntKind.wrap .u8 n≤255:=by rw [IntKind.wrap_u8]; omega
theorem Byt.append {a b:List Int} (h:Byt a) (k:Byt b):Byt (a++b):=fun x hx=>(List.mem_append.1 hx).elim (h x) (k x)
def Di (l:List Rn):List Int:=l.flatMap fun r=>[IntKind.wrap .u8 r.1,IntKind.wrap .u8 r.2]
theorem MY:∀ l:List Rn,(Di l).length=2 * l.length
 | []=>rfl
 | r::l=>by
  have:=MY l
  simp only [Di,List.flatMap_cons,List.length_append,List.length_cons,List.length_nil] at this ⊢
  omega
theorem AbP (l:List Rn):Byt (Di l):=fun x hx=>by
 obtain ⟨r,_,h⟩:=List.mem_flatMap.1 hx
 simp only [List.mem_cons,List.not_mem_nil,or_false] at h
 rcases h with rfl | rfl <;> exact Adx _
theorem TF {l:List Rn} {i:Nat} (h:i < l.length):Di (l.take (i+1))=Di (l.take i)++[IntKind.wrap .u8 l[i].1,IntKind.wrap .u8 l[i].2]:=by
 unfold Di; rw [List.take_succ_eq_append_getElem h,List.flatMap_append]; simp
theorem S9 {l:List Rn} (hl:l.length≤1000000):IL l=some (Di l):=by
 unfold IL
 have:=Ap Ey (fun i=>(Di (l.take i),l,((l.length:Nat):Int),((i:Nat):Int))) l.length (Di l) (by
  intro i hi
  have hlt:((i:Nat):Int) < ((l.length:Nat):Int):=by omega
  have hr:∀ x y:Int,Aa (List.length (Di (l.take i))+List.length ([x,y]:List Int)) 1=true:=fun x y=>Acj (by rw [MY,List.length_take]; simp; omega) (by omega)
  unfold Ey
  simp only [hlt,decide_true,if_true,show (0:Int)≤((i:Nat):Int) from by omega,Int.toNat_natCast,List.getElem?_eq_getElem hi,Option.bind_some,hr,Bq (show l.length≤1099511627776 by omega) hi,TF hi]) (by simp [Ey])
 have e:Ab Ey ([],l,((l.length:Nat):Int),0)=some (Di l):=by simpa [Di] using this
 rw [e]; rfl
theorem Xr {l:List Rn} (hl:l.length≤1000000):Lv l=some (Di l):=by
 unfold Lv
 have:=Ap FX (fun i=>(Di (l.take i),l,((l.length:Nat):Int),((i:Nat):Int))) l.length (Di l) (by
  intro i hi
  have hlt:((i:Nat):Int) < ((l.length:Nat):Int):=by omega
  have hr:∀ x y:Int,Aa (List.length (Di (l.take i))+List.length ([x,y]:List Int)) 1=true:=fun x y=>Acj (by rw [MY,List.length_take]; simp; omega) (by omega)
  unfold FX
  simp only [hlt,decide_true,if_true,show (0:Int)≤((i:Nat):Int) from by omega,Int.toNat_natCast,List.getElem?_eq_getElem hi,Option.bind_some,hr,Bq (show l.length≤1099511627776 by omega) hi,TF hi]) (by simp [FX])
 have e:Ab FX ([],l,((l.length:Nat):Int),0)=some (Di l):=by simpa [Di] using this
 rw [e]; rfl
def Qk (h x:Int):Int:=IntKind.wrap .u32 ((IntKind.wrap .u32 (((BitVec.ofInt (IntKind.bits .u32) h ^^^ BitVec.ofInt (IntKind.bits .u32) (IntKind.wrap .u32 x)).toNat:Int))) * 16777619)
theorem Ac0 (h x:Int):0≤Qk h x∧Qk h x < 4294967296:=by unfold Qk; rw [IntKind.wrap_u32]; omega
theorem AcC {h x:Int} (h0:0≤h) (h1:h < 4294967296) (x0:0≤x) (x1:x≤255) :
  Int.tmod (IntKind.wrap .u64 ((IntKind.wrap .u64 (((BitVec.ofInt (IntKind.bits .u64) h ^^^ BitVec.ofInt (IntKind.bits .u64) (IntKind.wrap .u64 x)).toNat:Int))) * 16777619)) 4294967296=Qk h x:=by
 unfold Qk
 obtain ⟨a,rfl⟩:=Int.eq_ofNat_of_zero_le h0
 obtain ⟨b,rfl⟩:=Int.eq_ofNat_of_zero_le x0
 have ha:a < 4294967296:=by omega
 have hb:b < 4294967296:=by omega
 have hx:=Nat.xor_lt_two_pow (n:=32) (show a < 2 ^ 32 by omega) (show b < 2 ^ 32 by omega)
 rw [W2 (n:=((b:Nat):Int)) (by omega) (by omega),IntKind.wrap_u32 ((b:Nat):Int),show ((b:Nat):Int) % 4294967296=((b:Nat):Int) by omega]
 have e64:((BitVec.ofInt (IntKind.bits .u64) ((a:Nat):Int) ^^^ BitVec.ofInt (IntKind.bits .u64) ((b:Nat):Int)).toNat)=a ^^^ b:=by
  rw [BitVec.toNat_xor,BitVec.ofInt_natCast,BitVec.ofInt_natCast,BitVec.toNat_ofNat,BitVec.toNat_ofNat,show IntKind.bits .u64=64 from rfl,Nat.mod_eq_of_lt (by omega),Nat.mod_eq_of_lt (by omega)]
 have e32:((BitVec.ofInt (IntKind.bits .u32) ((a:Nat):Int) ^^^ BitVec.ofInt (IntKind.bits .u32) ((b:Nat):Int)).toNat)=a ^^^ b:=by
  rw [BitVec.toNat_xor,BitVec.ofInt_natCast,BitVec.ofInt_natCast,BitVec.toNat_ofNat,BitVec.toNat_ofNat,show IntKind.bits .u32=32 from rfl,Nat.mod_eq_of_lt (by omega),Nat.mod_eq_of_lt (by omega)]
 rw [e64,e32]
 generalize a ^^^ b=m at hx
 rw [W2 (n:=((m:Nat):Int)) (by omega) (by omega),IntKind.wrap_u32 ((m:Nat):Int),show ((m:Nat):Int) % 4294967296=((m:Nat):Int) by omega,W2 (by omega) (by omega),IntKind.wrap_u32,Int.tmod_eq_emod_of_nonneg (by omega)]
def dig (h:Int) (b:List Int):Int:=b.foldl Qk h
theorem We {b:List Int} {h:Int} {i:Nat} (hi:i < b.length):dig h (b.take (i+1))=Qk (dig h (b.take i)) b[i]:=by
 unfold dig; rw [List.take_succ_eq_append_getElem hi,List.foldl_append]; rfl
theorem VJ:∀ (b:List Int) {h:Int},0≤h∧h < 4294967296→0≤dig h b∧dig h b < 4294967296
 | [],_,h=>h
 | x::b,h,_=>VJ b (Ac0 h x)
theorem P8 {b:List Int} (hl:b.length≤1099511627776) (h:Int):Kc h b=some (dig h b):=by
 unfold Kc
 have:=Ap GP (fun i=>(dig h (b.take i),b,((b.length:Nat):Int),((i:Nat):Int))) b.length (dig h b) (by
  intro i hi
  have hlt:((i:Nat):Int) < ((b.length:Nat):Int):=by omega
  unfold GP
  simp only [hlt,decide_true,if_true,show (0:Int)≤((i:Nat):Int) from by omega,Int.toNat_natCast,List.getElem?_eq_getElem hi,Option.bind_some,Bq hl hi,We hi]
  rfl) (by simp [GP])
 have e:Ab GP (h,b,((b.length:Nat):Int),0)=some (dig h b):=by simpa [dig] using this
 rw [e]; rfl
theorem Nz {b:List Int} (hl:b.length≤1099511627776):H1 b=some (dig 2166136261 b):=by
 unfold H1; rw [P8 hl]; rfl
theorem Nn {b:List Int} (hl:b.length≤1099511627776) (hb:Byt b):Ic b=some (dig 2166136261 b):=by
 unfold Ic
 have:=Ap E8 (fun i=>(dig 2166136261 (b.take i),b,((b.length:Nat):Int),((i:Nat):Int))) b.length (dig 2166136261 b) (by
  intro i hi
  have hlt:((i:Nat):Int) < ((b.length:Nat):Int):=by omega
  have hd:=VJ (b.take i) (h:=2166136261) (by omega)
  have hx:=hb _ (List.getElem_mem hi)
  unfold E8
  simp only [hlt,decide_true,if_true,show (0:Int)≤((i:Nat):Int) from by omega,Int.toNat_natCast,List.getElem?_eq_getElem hi,Option.bind_some,show decide (¬ (4294967296:Int)=0)=true from rfl,Bq hl hi,We hi,AcC hd.1 hd.2 hx.1 hx.2]) (by simp [E8])
 have e:Ab E8 (2166136261,b,((b.length:Nat):Int),0)=some (dig 2166136261 b):=by simpa [dig] using this
 have hd:=VJ b (h:=2166136261) (by omega)
 rw [e,Option.bind_some,IntKind.wrap_u32]
 congr 1; omega
def GE (d:Int):List Int:=[IntKind.wrap .u8 (Int.fdiv d (2 ^ (min (Int.toNat 24) (IntKind.bits .u32)))),IntKind.wrap .u8 (Int.fdiv d (2 ^ (min (Int.toNat 16) (IntKind.bits .u32)))),IntKind.wrap .u8 (Int.fdiv d (2 ^ (min (Int.toNat 8) (IntKind.bits .u32)))),IntKind.wrap .u8 d]
theorem TZ (d:Int):Q8 d=some (GE d):=rfl
section
variable {f:Int} {t:List UInt8} {r:List Rn} {cs:List (List Prt)}
end
end Go.V.G
set_option maxRecDepth 100000
namespace Go.V.G
open Go.V
theorem Xg {b:Bls} {x y z data:List Int} (g:GS b x y z) (h:SB b x y z) (hu:∀ c∈b,U8s c) (hux:U8s x) (hdu:U8s data) (hd':data.length≤1000) :
  (cnt x b.length < nd data.length∧∃ f,BE data b x y z=some (0,false,f))∨
  ∃ (l:List Int) (k0:Int) (b2:Bls) (x2 z2:List Int),l[0]?=some k0∧Lr b.length b x z data l b2 x2 z2∧FY data b x y z=some (k0,b2,x2,y,z2)∧BE data b x y z=some (k0,true,b2,x2,y,z2):=by
 have hb:=g.hb; have hx:=g.hx
 obtain ⟨n1,n2,n3⟩:=YU hd'
 have wk:=g.wk hux
 unfold BE Ez
 rw [O1 hd',Option.bind_some]
 by_cases hc:cnt x b.length < nd data.length
 ·left
  refine ⟨hc,?_⟩
  obtain ⟨l,b1,x1,z1,t1,t2,t3,t4⟩:=ZP (y:=y) wk (by omega) (cnt x b.length) (Nat.le_refl _) (by have:=Ry (x:=x) b.length; omega)
  rw [Aca t1 (by omega) (by omega),An]
  rcases Ta (y:=y) t2 (by have:=Ry (x:=x) b.length; omega) with ⟨_,h0⟩ | ⟨_,_,_,_,_,_,_,_,hcc⟩
  ·unfold Bc
   dsimp only
   rw [if_pos (by simp; omega),h0,Option.bind_some]
   exact ⟨_,rfl⟩
  ·omega
 ·right
  obtain ⟨l,b1,x1,z1,t1,t2,t3,t4⟩:=Yp (y:=y) wk hu (by omega) (nd data.length) (by omega) (by omega)
  have hll:=SP t1
  have hlv:∀ v∈l,33≤v∧v < (b.length:Int):=fun v hv=>by
   obtain ⟨k,rfl,hk,_⟩:=t4.fr v hv
   omega
  have hnxt:∀ i,0≤nxt l i∧nxt l i≤255:=fun i=>by
   unfold nxt
   split
   ·rename_i h1
    have:=hlv _ (List.getElem_mem h1)
    rw [List.getElem?_eq_getElem h1,Option.getD_some]; omega
   ·omega
  have hS:=Aem (data:=data) t1 0 (by omega)
  rw [Nat.add_zero] at hS
  have hx1:=t2.hx
  obtain ⟨r,hr1,hr2,hR⟩:=Ael (f:=DY) (g:=BH) (R:=fun r:List Int×(Bls×(List Int×(List Int×List Int)))=>∃ (b2:Bls) (z2:List Int),r=(l,b2,x1,y,z2)∧Lr b.length b x z data l b2 x1 z2)
   (fun i s=>∃ b2 z2,s=(data,l,((l.length:Nat):Int),((i:Nat):Int),b2,x1,y,z2)∧Wk b.length b2 x1 z2 (127+nd data.length+i)∧(∀ c∈b2,U8s c)∧(∀ v∈z2,v∈z1∨v∈l)∧
    (∀ j,j < i→j < l.length→blk b2 (l[j]?.getD 0).toNat=Fm data l j)∧∀ k,k < 160→((k:Nat):Int)∉l→blk b2 k=blk b1 k) l.length
   (fun i s hi hs=>by
    obtain ⟨b2,z2,rfl,hw,hbu,hzm,hat,hoth⟩:=hs
    obtain ⟨b3,z3,q1,q2,q3,q4,q5⟩:=Abn (y:=y) hd' hll hlv hi hw (by omega)
    obtain ⟨_,_,_,_,m1⟩:=Dt (z:=z2) (by have:=hw.hz; omega) hw.hr l[i]
    have ez:z3=pt z2 l[i]:=by unfold pt; rw [q5]; rfl
    have hli:=hlv _ (List.getElem_mem hi)
    have hb2:=hw.hb
    refine ⟨_,q1,q2,b3,z3,rfl,q3,fun c hc=>?_,fun v hv=>?_,fun j hj hjl=>?_,fun k hk hkl=>?_⟩
    ·rw [q4] at hc
     rcases List.mem_or_eq_of_mem_set hc with hc | rfl
     ·exact hbu c hc
     ·exact Abh hdu (hnxt i)
    ·rw [ez] at hv
     rcases (m1 v).1 hv with hv | rfl
     ·exact hzm v hv
     ·exact .inr (List.getElem_mem hi)
    ·rw [List.getElem?_eq_getElem hjl,Option.getD_some,q4]
     by_cases hji:j=i
     ·subst hji
      exact F9 (by omega)
     ·have hne:=List.pairwise_iff_getElem.1 t4.nd j i hjl hi (by omega)
      have hlj:=hlv _ (List.getElem_mem hjl)
      rw [BS (by omega)]
      have:=hat j (by omega) hjl
      rw [List.getElem?_eq_getElem hjl,Option.getD_some] at this
      exact this
    ·rw [q4,BS]
     ·exact hoth k hk hkl
     ·intro hh
      exact hkl (by rw [← hh,Int.toNat_of_nonneg (by omega)]; exact List.getElem_mem hi))
   (fun s hs=>by
    obtain ⟨b2,z2,rfl,hw,hbu,hzm,hat,hoth⟩:=hs
    refine ⟨(l,b2,x1,y,z2),?_,?_,b2,z2,rfl,⟨⟨hw.hn,hw.hb,hw.hk,hw.hx,hw.hu,hw.hlow,hw.hr,by have:=hw.hz; omega⟩,hbu,hll,t4.nd,fun j hj=>?_,fun i hi hil=>?_,t4.up,fun v hv=>?_,by omega⟩⟩
    ·unfold DY
     dsimp only
     rw [if_neg (by simp)]
    ·unfold BH
     dsimp only
     rw [if_neg (by simp)]
    ·obtain ⟨k,e,hk,p1,p2⟩:=t4.fr _ (List.getElem_mem hj)
     refine ⟨k,by rw [List.getElem?_eq_getElem hj,e],hk,p1,p2,?_⟩
     have:=hat j hj hj
     rw [List.getElem?_eq_getElem hj,Option.getD_some,e,Int.toNat_natCast] at this
     exact this
    ·rw [hoth i hi hil]
     exact t4.oth i hi hil
    ·rcases hzm v hv with hv | hv
     ·exact t4.zm v hv
     ·exact .inr hv)
   (s:=(data,l,((l.length:Nat):Int),0,b1,x1,y,z1)) ⟨b1,z1,rfl,by rw [Nat.add_zero]; exact t2,t4.bu,fun v hv=>.inl hv,fun j hj=>absurd hj (by omega),fun k _ _=>rfl⟩
  obtain ⟨b2,z2,rfl,hL⟩:=hR
  have h0:0 < l.length:=by omega
  have hg0:l[0+Int.toNat 0]?=some l[0]:=List.getElem?_eq_getElem h0
  refine ⟨l,l[0],b2,x1,z2,hg0,hL,?_,?_⟩
  ·unfold FY
   rw [TR hd',Option.bind_some,hS,An]
   have hend:Df (data,l,((0:Nat):Int),b1,x1,y,z1)=some (.inr (data,l,b1,x1,y,z1)):=by
    unfold Df
    dsimp only
    rw [if_neg (by simp)]
   rw [hend]
   dsimp only
   rw [Option.bind_some]
   dsimp only
   rw [hr1,Option.bind_some]
   dsimp only
   rw [if_pos (by simp),if_pos (by simp; omega),hg0]
   rfl
  ·have hI:=Aca t1 (Nat.le_refl _) (by omega)
   rw [hI,An]
   have hend:Bc (l,((nd data.length:Nat):Int),((nd data.length:Nat):Int),b1,x1,y,z1)=some (.inr (.inl (l,b1,x1,y,z1))):=by
    unfold Bc
    dsimp only
    rw [if_neg (by simp)]
   rw [hend]
   dsimp only
   rw [Option.bind_some]
   dsimp only
   rw [Option.bind_some]
   dsimp only
   rw [if_neg (by simp),hr2,Option.bind_some]
   dsimp only
   rw [if_pos (by simp),if_pos (by simp; omega),hg0]
   rfl
def LA (d:List Int):List Int:=d++List.replicate (124 - d.length) 0
theorem Ii {d:List Int} (h:d.length≤124):(LA d).length=124:=by unfold LA; simp; omega
theorem Tz {d:List Int} (h:d.length≤124):CJ d 124=some (LA d):=by
 unfold CJ LA
 rw [w64 (by omega) (by omega),iy (by omega),show Int.toNat ((124:Int) - ((d.length:Nat):Int))=124 - d.length by omega,if_pos (by simp only [Aa,decide_eq_true_eq,List.length_replicate]; omega)]
theorem Tf {d:List Int} (h:U8s d):U8s (LA d):=fun v hv=>by
 unfold LA at hv
 rcases List.mem_append.1 hv with hv | hv
 ·exact h v hv
 ·rw [(List.mem_replicate.1 hv).2]; omega
theorem AcN (d:Int):U8s (GE d):=fun v hv=>by
 simp only [GE,List.mem_cons,List.not_mem_nil,or_false] at hv
 rcases hv with rfl | rfl | rfl | rfl <;> exact Ph _
def sgn (d:List Int):List Int:=d++GE (dig 2166136261 d)
theorem AcT (d:List Int):(sgn d).length=d.length+4:=by unfold sgn GE; simp
def Qw (f hd ev r t:Int):List Int:=[83,84,82,49,f,hd,ev,0,0,r,0,t]
def EX (f hd ev r t:Int):List Int:=sgn (LA (Qw f hd ev r t))
structure SupOk (f hd ev:Int) (r t:Nat):Prop where
 f:0≤f∧f≤hd
 h:hd≤60
 e:1≤ev∧ev≤30
 r:33≤r∧r≤159
 t:33≤t∧t≤159
theorem Qp (f hd ev r t:Int):(EX f hd ev r t).length=128:=by unfold EX; rw [AcT,Ii (by simp [Qw])]
theorem X1 {f hd ev:Int} {r t:Nat} (h:SupOk f hd ev r t):U8s (Qw f hd ev r t):=fun v hv=>by
 have h1:=h.f; have h2:=h.h; have h3:=h.e; have h4:=h.r; have h5:=h.t
 simp only [Qw,List.mem_cons,List.not_mem_nil,or_false] at hv
 rcases hv with rfl | rfl | rfl | rfl | rfl | rfl | rfl | rfl | rfl | rfl | rfl | rfl <;> omega
theorem Sr {f hd ev:Int} {r t:Nat} (h:SupOk f hd ev r t):U8s (EX f hd ev r t):=fun v hv=>by
 unfold EX sgn at hv
 rcases List.mem_append.1 hv with hv | hv
 ·exact Tf (X1 h) v hv
 ·exact AcN _ v hv
theorem YC {f hd ev:Int} {r t:Nat} (h:SupOk f hd ev r t):HQ f hd ev ((r:Nat):Int) ((t:Nat):Int)=some (EX f hd ev r t,true):=by
 have h1:=h.f; have h2:=h.h; have h3:=h.e; have h4:=h.r; have h5:=h.t
 unfold HQ LJ KT
 rw [iy h1.1,iy h1.2,decide_eq_true h2,Option.bind_some,Option.bind_some,if_neg (by simp),A5,decide_eq_true h3,Option.bind_some,if_neg (by simp),A5,decide_eq_true (by omega),Option.bind_some,Option.bind_some,if_neg (by simp),
  A5,decide_eq_true (by omega),Option.bind_some,Option.bind_some,Option.bind_some]
 dsimp only
 rw [if_neg (by simp),Q2 (by omega),Q2 (by omega),Option.bind_some,Option.bind_some,wub (r:=f) (by omega) (by omega),wub (r:=hd) (by omega) (by omega),wub (r:=ev) (by omega) (by omega),
  if_pos (by simp [Aa]),if_pos (by simp [Aa]),Tz (by simp),Option.bind_some,Nz (by rw [Ii (by simp)]; omega),Option.bind_some,TZ,Option.bind_some,if_pos (by
   simp only [Aa,decide_eq_true_eq]; rw [Ii (by simp)]; simp [GE])]
 rfl
theorem Zw {f hd ev:Int} {r t:Nat} (h:SupOk f hd ev r t):JE f hd ev ((r:Nat):Int) ((t:Nat):Int)=some (EX f hd ev r t):=by
 have h1:=h.f; have h2:=h.h; have h3:=h.e; have h4:=h.r; have h5:=h.t
 unfold JE
 simp only [wub (r:=f) (by omega) (by omega),wub (r:=hd) (by omega) (by omega),wub (r:=ev) (by omega) (by omega),wub (r:=((r:Nat):Int)) (by omega) (by omega),wub (r:=((t:Nat):Int)) (by omega) (by omega),w8d (m:=r) (by omega),w8d (m:=t) (by omega)]
 have e:IntKind.wrap .i64 (124 - ((List.length [83,84,82,49,f,hd,ev,0,0,((r:Nat):Int),0,((t:Nat):Int)]:Nat):Int))=112:=by
  simp only [List.length_cons,List.length_nil]; rw [w64 (by omega) (by omega)]; rfl
 rw [e,iy (by decide),iy (by decide),iy (by omega),if_pos (by simp [Aa])]
 have ep:[83,84,82,49,f,hd,ev,0,0,((r:Nat):Int),0,((t:Nat):Int)]++List.replicate (Int.toNat 112) 0=LA (Qw f hd ev r t):=rfl
 rw [ep,Nn (by rw [Ii (by simp [Qw])]; omega) (Tf (X1 h)),Option.bind_some,iy (by omega),iy (by omega),iy (by omega),if_pos (by
  simp only [Aa,decide_eq_true_eq]; rw [Ii (by simp [Qw])]; simp)]
 rfl
end Go.V.G