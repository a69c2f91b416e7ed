import Derived.Test.YtofhefmbioblbaaGreatQEfA
import Derived.Test.YtofhefmbioblbaaGreatQEfB
import Derived.Test.YtofhefmbioblbaaGreatQEfC
import Derived.Test.YtofhefmbioblbaaGreatQEfF
set_option linter.unusedVariables false
set_option linter.unusedSimpArgs false
set_option maxRecDepth 100000
namespace Go.V.G
open Go.V
def prv (l:List Rn) (i:Nat):Option Int:=if i=0 then none else(l[i - 1]?).map (·.1)
theorem XE {l:List Rn} {i:Nat} (h:i < l.length):prv l (i+1)=some l[i].1:=by simp [prv,AlW h]
theorem ZT {l:List Rn} {i:Nat} (h:i < l.length) (most left:Int) (p:Option Int):grn most p left (l.drop i)=((decide (0<=l[i].1/\l[i].1<=most) && (decide (1<=l[i].2/\l[i].2<=left) && !(decide (p=some l[i].1)))) && grn most (some l[i].1) (left - l[i].2) (l.drop (i+1))):=by
 rw [Amx h];rfl
theorem PL {l:List Rn} (hl:l.length<=1099511627776) (many most:Int):Jg l many most=some (AB l many most):=by
 unfold Jg;refine Ok.eq (Ok.bind (Q:=λv=>v=(l,many,most,!(decide (0<=many/\many<=120) && decide (0<=most/\most<=60)))) ?_ ?_)
 .refine Ok.bind_eq (AK _ _ _) (Ok.ite (λh=>Ok.mk ?_) λh=>Ok.bind_eq (AK _ _ _) (Ok.mk ?_))
  .have h':decide (0<=many/\many<=120)=false:=by simpa only [Al9] using h
   rw [h'];rfl
  .have h':decide (0<=many/\many<=120)=true:=by simpa only [Al9,Ank] using h
   rw [h',Amg]
 rintro _ rfl;dsimp only;refine Ok.ite (λhb=>Ok.mk ?_) λhb=>?_
 .have hb':(decide (0<=many/\many<=120) && decide (0<=most/\most<=60))=false:=by simpa only [Al9] using hb
  unfold AB;rw [hb'];rfl
 have hb':(decide (0<=many/\many<=120) && decide (0<=most/\most<=60))=true:=by simpa only [Al9,Ank] using hb
 have hg:AB l many most=grn most none many l:=by unfold AB;rw [hb',Amg]
 rw [Al2,decide_eq_true_eq,decide_eq_true_eq]at hb';rw [hg];refine Ok.bind (Q:=λr=>match r with | .inl y=>decide (y.2=y.1)=grn most none many l | .inr b=>b=grn most none many l) ?_ (by rintro (y | b) hr <;> exact Ok.mk hr);refine Ok.loop (λy=>y.1=l/\y.2.1=many/\y.2.2.1=most/\(0<=y.2.2.2.1/\y.2.2.2.1<=many)/\y.2.2.2.2.1=l/\y.2.2.2.2.2.1=(l.length:Int)/\∃i:Nat,y.2.2.2.2.2.2=(i:Int)/\i<=l.length/\grn most none many l=grn most (prv l i) (many - y.2.2.2.1) (l.drop i))
  (λy=>((l.length:Int) - y.2.2.2.2.2.2).toNat) ⟨rfl,rfl,rfl,⟨Z,hb'.1.1⟩,rfl,rfl,0,rfl,Ane _,by simp [prv]⟩ ?_
 rintro ⟨l1,m1,s1,all,l2,n,i'⟩ ⟨e1,e2,e3,⟨h0,h1⟩,e4,e5,i,e6,hi,hk⟩;dsimp only at e1 e2 e3 h0 h1 e4 e5 e6 hk;subst e1 e2 e3 e4 e5 e6;unfold PG gX wI;dsimp only;refine Ok.ite (λhc=>?_) λhc=>?_
 .have hlt:i < l2.length:=by simpa using hc
  have hge:l2[Int.toNat (i:Int)]?=some l2[i]:=by simp [hlt]
  refine Ok.yes Z (Ok.bind_eq hge ?_);refine Ok.bind (Q:=λv=>v=(l2,m1,s1,all,l2,(l2.length:Int),(i:Int),!(decide (0<=l2[i].1/\l2[i].1<=s1) && (decide (1<=l2[i].2/\l2[i].2<=120) && !(decide (prv l2 i=some l2[i].1)))),l2[i].1,l2[i].2)) ?_ ?_
  .refine Ok.bind_eq (AK _ _ _) (Ok.ite (λh=>Ok.mk ?_) λh=>Ok.bind_eq (AK _ _ _) (Ok.ite (λh2=>Ok.mk ?_) λh2=>?_))
   .have h':decide (0<=l2[i].1/\l2[i].1<=s1)=false:=by simpa only [Al9] using h
    rw [h'];rfl
   .have h':decide (1<=l2[i].2/\l2[i].2<=120)=false:=by simpa only [Al9] using h2
    rw [h',Anm,Aoh];rfl
   .have h':decide (0<=l2[i].1/\l2[i].1<=s1)=true:=by simpa only [Al9,Ank] using h
    have h2':decide (1<=l2[i].2/\l2[i].2<=120)=true:=by simpa only [Al9,Ank] using h2
    rw [h',h2',Amg,Amg,Bool.not_not];refine Ok.ite (λhp=>?_) λhp=>Ok.mk ?_
    .have hp':0 < i:=by simpa using hp
     have e:IntKind.wrap .i64 ((i:Int) - 1)=((i - 1:Nat):Int):=by rw [w64 O O];omega
     have hl1:i - 1 < l2.length:=O
     refine Ok.yes (by simp [e]) (Ok.bind_eq (r:=l2[i - 1]) (by simp [e,AlW hl1]) (Ok.mk ?_));have hne:¬ i=0:=O
     simp [prv,hne,AlW hl1]
    .have:i=0:=by
      have:¬ (0:Int) < (i:Int):=by simpa using hp
      omega
     subst this;simp [prv]
  rintro _ rfl;dsimp only;rw [ZT hlt]at hk;refine Ok.ite (λhbad=>Ok.mk ?_) λhgood=>?_
  .dsimp only;rw [hk];have hbad':(decide (0<=l2[i].1/\l2[i].1<=s1) && (decide (1<=l2[i].2/\l2[i].2<=120) && !(decide (prv l2 i=some l2[i].1))))=false:=by simpa only [Al9] using hbad
   by_cases q1:0<=l2[i].1/\l2[i].1<=s1
   .by_cases q3:prv l2 i=some l2[i].1
    .simp [q3]
    .have q2:¬ (1<=l2[i].2/\l2[i].2<=120):=by simpa [q1,q3] using hbad'
     have:¬ (1<=l2[i].2/\l2[i].2<=m1 - all):=O
     simp [this]
   .simp [q1]
  .have hgood':(decide (0<=l2[i].1/\l2[i].1<=s1) && (decide (1<=l2[i].2/\l2[i].2<=120) && !(decide (prv l2 i=some l2[i].1))))=true:=by simpa only [Al9,Ank] using hgood
   rw [Al2,Al2,decide_eq_true_eq,decide_eq_true_eq]at hgood';obtain ⟨q1,q2,q3⟩:=hgood';have w:IntKind.wrap .i64 (all+l2[i].2)=all+l2[i].2:=w64 O O;rw [w];refine Ok.ite (λhbig=>Ok.mk ?_) λhfit=>Ok.mk ⟨⟨rfl,rfl,rfl,?_,rfl,rfl,i+1,An hl hlt,O,?_⟩,?_⟩
   .dsimp only;have:m1 < all+l2[i].2:=by simpa using hbig
    have:¬ (1<=l2[i].2/\l2[i].2<=m1 - all):=O
    rw [hk];simp [this]
   .have:¬ m1 < all+l2[i].2:=by simpa using hfit
    dsimp only;omega
   .have hf:¬ m1 < all+l2[i].2:=by simpa using hfit
    have q4:1<=l2[i].2/\l2[i].2<=m1 - all:=O
    dsimp only;rw [hk,XE hlt,q3];simp only [q1,q4,and_self,decide_true,Amg]
    congr 1;omega
   .rw [An hl hlt];dsimp only;omega
 .have:i=l2.length:=by
   have:¬ ((i:Int) < (List.length l2:Int)):=by simpa using hc
   omega
  subst this;refine Ok.mk ?_;dsimp only;rw [hk,AnM,grn];exact decide_eq_decide.2 O
theorem PK {l:List Rn} (hl:l.length<=1099511627776) (many most:Int):Je l many most=some (AB l many most):=by
 unfold Je;refine Ok.eq (Ok.bind (Q:=λv=>v=(l,many,most,!(decide (0<=many/\many<=120) && decide (0<=most/\most<=60)))) ?_ ?_)
 .refine Ok.bind_eq (B2 _ _ _) (Ok.ite (λh=>Ok.mk ?_) λh=>Ok.bind_eq (B2 _ _ _) (Ok.mk ?_))
  .have h':decide (0<=many/\many<=120)=false:=by simpa only [Al9] using h
   rw [h'];rfl
  .have h':decide (0<=many/\many<=120)=true:=by simpa only [Al9,Ank] using h
   rw [h',Amg]
 rintro _ rfl;dsimp only;refine Ok.ite (λhb=>Ok.mk ?_) λhb=>?_
 .have hb':(decide (0<=many/\many<=120) && decide (0<=most/\most<=60))=false:=by simpa only [Al9] using hb
  unfold AB;rw [hb'];rfl
 have hb':(decide (0<=many/\many<=120) && decide (0<=most/\most<=60))=true:=by simpa only [Al9,Ank] using hb
 have hg:AB l many most=grn most none many l:=by unfold AB;rw [hb',Amg]
 rw [Al2,decide_eq_true_eq,decide_eq_true_eq]at hb';rw [hg];refine Ok.bind (Q:=λr=>match r with | .inl y=>decide (y.2=y.1)=grn most none many l | .inr b=>b=grn most none many l) ?_ (by rintro (y | b) hr <;> exact Ok.mk hr);refine Ok.loop (λy=>y.1=l/\y.2.1=many/\y.2.2.1=most/\(0<=y.2.2.2.1/\y.2.2.2.1<=many)/\y.2.2.2.2.1=l/\y.2.2.2.2.2.1=(l.length:Int)/\∃i:Nat,y.2.2.2.2.2.2=(i:Int)/\i<=l.length/\grn most none many l=grn most (prv l i) (many - y.2.2.2.1) (l.drop i))
  (λy=>((l.length:Int) - y.2.2.2.2.2.2).toNat) ⟨rfl,rfl,rfl,⟨Z,hb'.1.1⟩,rfl,rfl,0,rfl,Ane _,by simp [prv]⟩ ?_
 rintro ⟨l1,m1,s1,all,l2,n,i'⟩ ⟨e1,e2,e3,⟨h0,h1⟩,e4,e5,i,e6,hi,hk⟩;dsimp only at e1 e2 e3 h0 h1 e4 e5 e6 hk;subst e1 e2 e3 e4 e5 e6;unfold PF gX wI;dsimp only;have wm:IntKind.wrap .i64 (m1 - all)=m1 - all:=w64 O O;rw [wm];refine Ok.ite (λhc=>?_) λhc=>?_
 .have hlt:i < l2.length:=by simpa using hc
  have hge:l2[Int.toNat (i:Int)]?=some l2[i]:=by simp [hlt]
  refine Ok.yes Z (Ok.bind_eq hge ?_);refine Ok.bind (Q:=λv=>v=(l2,m1,s1,all,l2,(l2.length:Int),(i:Int),!(decide (0<=l2[i].1/\l2[i].1<=s1) && (decide (1<=l2[i].2/\l2[i].2<=m1 - all) && !(decide (prv l2 i=some l2[i].1)))),l2[i].1,l2[i].2)) ?_ ?_
  .refine Ok.bind_eq (B2 _ _ _) (Ok.ite (λh=>Ok.mk ?_) λh=>Ok.bind_eq (B2 _ _ _) (Ok.ite (λh2=>Ok.mk ?_) λh2=>?_))
   .have h':decide (0<=l2[i].1/\l2[i].1<=s1)=false:=by simpa only [Al9] using h
    rw [h'];rfl
   .have h':decide (1<=l2[i].2/\l2[i].2<=m1 - all)=false:=by simpa only [Al9] using h2
    rw [h',Anm,Aoh];rfl
   .have h':decide (0<=l2[i].1/\l2[i].1<=s1)=true:=by simpa only [Al9,Ank] using h
    have h2':decide (1<=l2[i].2/\l2[i].2<=m1 - all)=true:=by simpa only [Al9,Ank] using h2
    rw [h',h2',Amg,Amg,Bool.not_not];refine Ok.ite (λhp=>?_) λhp=>Ok.mk ?_
    .have hp':0 < i:=by simpa using hp
     have e:IntKind.wrap .i64 ((i:Int) - 1)=((i - 1:Nat):Int):=by rw [w64 O O];omega
     have hl1:i - 1 < l2.length:=O
     refine Ok.yes (by simp [e]) (Ok.bind_eq (r:=l2[i - 1]) (by simp [e,AlW hl1]) (Ok.mk ?_));have hne:¬ i=0:=O
     simp [prv,hne,AlW hl1]
    .have:i=0:=by
      have:¬ (0:Int) < (i:Int):=by simpa using hp
      omega
     subst this;simp [prv]
  rintro _ rfl;dsimp only;rw [ZT hlt]at hk;refine Ok.ite (λhbad=>Ok.mk ?_) λhgood=>?_
  .dsimp only;rw [hk];have hbad':(decide (0<=l2[i].1/\l2[i].1<=s1) && (decide (1<=l2[i].2/\l2[i].2<=m1 - all) && !(decide (prv l2 i=some l2[i].1))))=false:=by simpa only [Al9] using hbad
   rw [hbad',Anm]
  .have hgood':(decide (0<=l2[i].1/\l2[i].1<=s1) && (decide (1<=l2[i].2/\l2[i].2<=m1 - all) && !(decide (prv l2 i=some l2[i].1))))=true:=by simpa only [Al9,Ank] using hgood
   rw [hgood',Amg]at hk;rw [Al2,Al2,decide_eq_true_eq,decide_eq_true_eq]at hgood';obtain ⟨q1,q2,q3⟩:=hgood';have w:IntKind.wrap .i64 (all+l2[i].2)=all+l2[i].2:=w64 O O;rw [w];refine Ok.mk ⟨⟨rfl,rfl,rfl,AlT,rfl,rfl,i+1,An hl hlt,O,?_⟩,?_⟩
   .dsimp only;rw [hk,XE hlt]
    congr 1;omega
   .rw [An hl hlt];dsimp only;omega
 .have:i=l2.length:=by
   have:¬ ((i:Int) < (List.length l2:Int)):=by simpa using hc
   omega
  subst this;refine Ok.mk ?_;dsimp only;rw [hk,AnM,grn];exact decide_eq_decide.2 O
theorem CW {n m b:Nat} (h:n+m<=1099511627776) (hb:b<=64):Aa (n+m) b=true:=by
 simp only [Aa,decide_eq_true_eq];have:(n+m) * b<=1099511627776 * 64:=Nat.mul_le_mul h hb;omega
theorem M7 {l:List Rn} {i:Nat} (h:i < l.length):AX (l.take (i+1))=AX (l.take i)++List.replicate l[i].2.toNat l[i].1:=by
 rw [Ama h,Ia];simp [AX]
theorem Ii {l:List Rn} (hp:Pos l) (i:Nat):(AX (l.take i)).length<=(Az l).toNat:=by
 have h1:=LY (l:=l.take i) λq hq=>hp q (Am7 hq)
 have h2:Az l=Az (l.take i)+Az (l.drop i):=by rw [<- EI,AmJ]
 have h3:=CY (l:=l.drop i) λq hq=>hp q (AnA hq)
 omega
theorem Ad0 {l:List Rn} (hp:Pos l) (hs:Az l<=1000000000):T4 l=some (AX l):=by
 have hlen:=Gi hp;unfold T4;have:=Ai KC (λi=>(AX (l.take i),l,(l.length:Int),((i:Nat):Int))) l.length (AX l) (by
  intro i hi;have hc:((i:Nat):Int) < (l.length:Int):=O
  have hq:=hp _ (Amc hi);have hm:=J3 hp _ (Amc hi);have hr:=Ii hp i;have hr2:=Ii hp (i+1);rw [M7 hi,Al0,AmM]at hr2;have inner:Ab KK (AX (l.take i),l,(l.length:Int),((i:Nat):Int),l[i].2,0,l[i].1,l[i].2)=some (AX (l.take (i+1)),l,(l.length:Int),((i:Nat):Int)):=by
   have:=Ai KK (λq=>(AX (l.take i)++List.replicate q l[i].1,l,(l.length:Int),((i:Nat):Int),l[i].2,((q:Nat):Int),l[i].1,l[i].2)) l[i].2.toNat (AX (l.take (i+1)),l,(l.length:Int),((i:Nat):Int)) (by
    intro q hq';have h1:((q:Nat):Int) < l[i].2:=O
    have h2:Aa (List.length (AX (l.take i)++List.replicate q l[i].1)+List.length ([l[i].1]:List Int)) 8=true:=CW (by rw [Al0,AmM];simp;omega) O;have h3:IntKind.wrap .i64 (((q:Nat):Int)+1)=((q+1:Nat):Int):=by rw [w64 O O];omega
    unfold KK cK wI;simp only [h1,h2,h3,decide_true,Amd,Al5,Aoe]) (by
     have h1:¬ (((l[i].2.toNat:Nat)):Int) < l[i].2:=O
     unfold KK cK wI;simp only [h1,decide_false,Al8,Amv,M7 hi])
   simpa using this
  unfold KC gX wI;simp only [hc,decide_true,Amd,show(0:Int)<=((i:Nat):Int) from by omega,AlX,AlW hi,AlU,inner,An (O:l.length<=1099511627776) hi]) (by simp [KC,gX,wI])
 simp only [AnY]at this;have e:Ab KC ([],l,(l.length:Int),0)=some (AX l):=this;rw [e];rfl
theorem AdM {l:List Rn} (hp:Pos l) (hs:Az l<=1000000000):OJ l=some (AX l):=by
 have hlen:=Gi hp;unfold OJ;have:=Ai H9 (λi=>(AX (l.take i),l,(l.length:Int),((i:Nat):Int))) l.length (AX l) (by
  intro i hi;have hc:((i:Nat):Int) < (l.length:Int):=O
  have hq:=hp _ (Amc hi);have hm:=J3 hp _ (Amc hi);have hr:=Ii hp i;have hr2:=Ii hp (i+1);rw [M7 hi,Al0,AmM]at hr2;have inner:Ab HR (AX (l.take i),0,l,(l.length:Int),((i:Nat):Int),l[i].1,l[i].2)=some (AX (l.take (i+1)),l,(l.length:Int),((i:Nat):Int)):=by
   have:=Ai HR (λq=>(AX (l.take i)++List.replicate q l[i].1,((q:Nat):Int),l,(l.length:Int),((i:Nat):Int),l[i].1,l[i].2)) l[i].2.toNat (AX (l.take (i+1)),l,(l.length:Int),((i:Nat):Int)) (by
    intro q hq';have h1:((q:Nat):Int) < l[i].2:=O
    have h2:Aa (List.length (AX (l.take i)++List.replicate q l[i].1)+List.length ([l[i].1]:List Int)) 8=true:=CW (by rw [Al0,AmM];simp;omega) O;have h3:IntKind.wrap .i64 (((q:Nat):Int)+1)=((q+1:Nat):Int):=by rw [w64 O O];omega
    unfold HR cK wI;simp only [h1,h2,h3,decide_true,Amd,Al5,Aoe]) (by
     have h1:¬ (((l[i].2.toNat:Nat)):Int) < l[i].2:=O
     unfold HR cK wI;simp only [h1,decide_false,Al8,Amv,M7 hi])
   simpa using this
  unfold H9 gX wI;simp only [hc,decide_true,Amd,show(0:Int)<=((i:Nat):Int) from by omega,AlX,AlW hi,AlU,inner,An (O:l.length<=1099511627776) hi]) (by simp [H9,gX,wI])
 simp only [AnY]at this;have e:Ab H9 ([],l,(l.length:Int),0)=some (AX l):=this;rw [e];rfl
theorem T6 {l:List Rn} (hl:l.length<=1000000000) (v n:Int):N4 l v n=some (E3 l (v,n)):=by
 unfold N4 E3 cK cZ wI;by_cases h0:n=0
 .simp [h0]
 .rw [AlZ (by simpa using h0),AlZ h0];have hroom:Aa (List.length l+List.length ([(v,n)]:List (Int×Int))) 16=true:=CW AlR O;cases hg:l.getLast? with
  | none=>
   obtain rfl:l=[]:=by simpa using hg
   simp [Aa]
  | some q=>
   obtain ⟨m,hm,hq,hset⟩:=Mi hg;have e1:IntKind.wrap .i64 ((l.length:Int) - 1)=(m:Int):=by rw [hm,w64 O O];omega
   have hpos:(0:Int) < (l.length:Int):=O
   have hlt:(m:Int) < (l.length:Int):=O
   have hge:(0:Int)<=(m:Int):=O
   by_cases hk:q.1=v
   .simp only [e1,hpos,hlt,hge,decide_true,Amd,AlX,Amk,hq,AlU,hk,hset]
   .simp only [e1,hpos,hlt,hge,decide_true,Amd,AlX,Amk,hq,AlU,hk,decide_false,Amv,Al8,hroom]
theorem Aa3 {x:List Int} {i:Nat} (h:i < x.length):BG (x.take (i+1))=E3 (BG (x.take i)) (x[i],1):=by
 unfold BG;rw [Ama h,KU];rfl
theorem AeC {x:List Int} (hx:x.length<=1000000):Tm x=some (BG x):=by
 unfold Tm;have:=Ai IT (λi=>(BG (x.take i),x,(x.length:Int),((i:Nat):Int))) x.length (BG x) (by
  intro i hi;have hc:((i:Nat):Int) < (x.length:Int):=O
  obtain ⟨r1,r2⟩:=HX (x.take i) Rs.nil (by rw [Al4];omega);have hlen:=Gi r1.pos;rw [r1.sum,Al4]at hlen;have hstep:IT (BG (x.take i),x,(x.length:Int),((i:Nat):Int))=some (.inl (E3 (BG (x.take i)) (x[i],1),x,(x.length:Int),((i+1:Nat):Int))):=by
   generalize hL:BG (x.take i)=L;have hL':Dj [] (x.take i)=L:=hL;rw [hL']at r1 hlen;have hroom:Aa (List.length L+List.length ([(x[i],1)]:List (Int×Int))) 16=true:=CW AlR O;unfold IT E3 cK cZ gX wI;simp only [hc,decide_true,Amd,show(0:Int)<=((i:Nat):Int) from by omega,AlX,AlW hi,AlU,An (O:x.length<=1099511627776) hi];cases hg:L.getLast? with
   | none=>
    obtain rfl:L=[]:=by simpa using hg
    simp [Aa,An (O:x.length<=1099511627776) hi]
   | some q=>
    obtain ⟨m,hm,hq,hset⟩:=Mi hg;have e1:IntKind.wrap .i64 ((L.length:Int) - 1)=(m:Int):=by rw [hm,w64 O O];omega
    have hpos:(0:Int) < (L.length:Int):=O
    have hlt:(m:Int) < (L.length:Int):=O
    have hge:(0:Int)<=(m:Int):=O
    by_cases hk:q.1=x[i]
    .simp only [e1,hpos,hlt,hge,decide_true,Amd,AlX,Amk,hq,AlU,hk,hset,An (O:x.length<=1099511627776) hi,show ¬ ((1:Int)=0) from by decide,Amv]
    .have hk':decide (q.1=x[i])=false:=by simpa using hk
     simp only [e1,hpos,hlt,hge,decide_true,Amd,AlX,Amk,hq,AlU,hk',Al8,decide_false,Amv,hroom,An (O:x.length<=1099511627776) hi,hk,show ¬ ((1:Int)=0) from by decide]
  rw [hstep,Aa3 hi]) (by simp [IT,cK,cZ,gX,wI])
 have e:Ab IT ([],x,(x.length:Int),0)=some (BG x):=by simpa [BG,Dj] using this
 rw [e];rfl
theorem S5 {rev:Int} {all:List Int} {c:List Prt} (hs:∀p∈c,Some1 p) {i:Nat} (h:i < c.length) :
  brg rev all (c.take (i+1))=(brg rev all (c.take i)++(all.drop (src (c.take i)).toNat).take c[i].1.toNat)++List.replicate c[i].2.2.length rev:=by
 rw [Ama h,Lq rev _ _ _ λp hp=>hs p (B5 hp)];simp [brg]
theorem Vw {l:List Rn} {c:List Prt} {rev:Int} (hg:AA c=true) (hp:Pos l) (hl:Az l=src c):Kc l c rev=some (Mm l c rev):=by
 obtain ⟨g1,g2,g3⟩:=As hg;have hs:=A7 g1;have hsm:=Ci hg;have hclen:=hsm.len;have hall:(((AX l).length:Nat):Int)=src c:=by rw [LY hp,hl]
 have hbl:=Rg rev c (AX l) hs hall;unfold Kc Mm;rw [Ad0 hp O,AlU];generalize AX l=all at hall hbl ⊢;have main:=Ai E7 (λi=>(rev,all,brg rev all (c.take i),src (c.take i),c,(c.length:Int),((i:Nat):Int))) c.length (brg rev all c) (by
  intro i hi;have hc:((i:Nat):Int) < (c.length:Int):=O
  have hpi:=hs _ (Amc hi);have k0:=hpi.k;have d0:=hpi.d;have n1:=AR (l:=c.take i) λp h=>hs p (B5 h)
  have n3:=AR (l:=c.drop (i+1)) λp h=>hs p (Cz h)
  have a1:=Ju hi;have a2:=JS hi;have hput:c[i].2.2.length<=240:=Amw (FK (Amc hi)) hsm.put;have hb1:(brg rev all (c.take i)).length<=120:=by
   have h1:=S5 (rev:=rev) (all:=all) hs hi;have h2:brg rev all c=brg rev all (c.take i)++brg rev (all.drop (src (c.take i)).toNat) (c.drop i):=by
    conv=>lhs;rw [<- AmJ i c]
    exact Lq rev _ _ _ λp hp=>hs p (B5 hp)
   have h3:(brg rev all c).length=(brg rev all (c.take i)).length+(brg rev (all.drop (src (c.take i)).toNat) (c.drop i)).length:=by rw [h2,Al0]
   omega
  have w1:IntKind.wrap .i64 (src (c.take i)+c[i].1)=src (c.take i)+c[i].1:=w64 O O;have w2:IntKind.wrap .i64 (c[i].1+c[i].2.1)=c[i].1+c[i].2.1:=w64 O O;have w3:IntKind.wrap .i64 (src (c.take i)+(c[i].1+c[i].2.1))=src (c.take (i+1)):=by rw [w64 O O];omega
  have e1:(src (c.take i)+c[i].1).toNat - (src (c.take i)).toNat=c[i].1.toNat:=O
  have hle:src (c.take i)+c[i].1<=(all.length:Int):=O
  have hll:src (c.take i)<=src (c.take i)+c[i].1:=O
  have hr:Aa (List.length (brg rev all (c.take i))+List.length ((all.drop (src (c.take i)).toNat).take c[i].1.toNat)) 8=true:=CW (by rw [Al4];omega) O;have inner:Ab Fw (rev,all,brg rev all (c.take i)++(all.drop (src (c.take i)).toNat).take c[i].1.toNat,src (c.take (i+1)),c,(c.length:Int),((i:Nat):Int),(c[i].2.2.length:Int),0) =
    some (rev,all,brg rev all (c.take (i+1)),src (c.take (i+1)),c,(c.length:Int),((i:Nat):Int)):=by
   have:=Ai Fw (λq=>(rev,all,(brg rev all (c.take i)++(all.drop (src (c.take i)).toNat).take c[i].1.toNat)++List.replicate q rev,src (c.take (i+1)),c,(c.length:Int),((i:Nat):Int),(c[i].2.2.length:Int),((q:Nat):Int))) c[i].2.2.length
    (rev,all,brg rev all (c.take (i+1)),src (c.take (i+1)),c,(c.length:Int),((i:Nat):Int)) (by
    intro q hq;have h1:((q:Nat):Int) < (c[i].2.2.length:Int):=O
    have h2:Aa (List.length ((brg rev all (c.take i)++(all.drop (src (c.take i)).toNat).take c[i].1.toNat)++List.replicate q rev)+List.length ([rev]:List Int)) 8=true:=
     CW (by simp only [Al0,Al4,AmM,Amb];omega) O
    unfold Fw cK wI;simp only [h1,h2,decide_true,Amd,An (O:c[i].2.2.length<=1099511627776) hq];simp only [Al5,Aoe]) (by
     have h1:¬ (((c[i].2.2.length:Nat)):Int) < (c[i].2.2.length:Int):=O
     unfold Fw cK wI;simp only [h1,decide_false,Al8,Amv,S5 hs hi])
   simpa using this
  unfold E7 cK gX sX wI;simp only [hc,decide_true,Amd,show(0:Int)<=((i:Nat):Int) from by omega,AlX,AlW hi,AlU,w1,w2,w3,n1,hll,hle,Am6,e1,hr,inner,An (O:c.length<=1099511627776) hi]) (by simp [E7,cK,gX,sX,wI])
 have e:Ab E7 (rev,all,[],0,c,(c.length:Int),0)=some (brg rev all c):=by simpa [brg,src] using main
 rw [e,AlU,AeC O];rfl
theorem Aa7 {l:List Rn} {c:List Prt} {rev:Int} (hg:AA c=true) (hp:Pos l) (hl:Az l=src c):Ng l c rev=some (Mm l c rev):=by
 obtain ⟨g1,g2,g3⟩:=As hg;have hs:=A7 g1;have hsm:=Ci hg;have hclen:=hsm.len;have hall:(((AX l).length:Nat):Int)=src c:=by rw [LY hp,hl]
 have hbl:=Rg rev c (AX l) hs hall;unfold Ng Mm;rw [AdM hp O,AlU];generalize AX l=all at hall hbl ⊢;have main:=Ai G8 (λi=>(rev,all,BG (brg rev all (c.take i)),src (c.take i),c,(c.length:Int),((i:Nat):Int))) c.length (BG (brg rev all c)) (by
  intro i hi;have hc:((i:Nat):Int) < (c.length:Int):=O
  have hpi:=hs _ (Amc hi);have k0:=hpi.k;have d0:=hpi.d;have n1:=AR (l:=c.take i) λp h=>hs p (B5 h)
  have n3:=AR (l:=c.drop (i+1)) λp h=>hs p (Cz h)
  have a1:=Ju hi;have a2:=JS hi;have hput:c[i].2.2.length<=240:=Amw (FK (Amc hi)) hsm.put;have hb1:(brg rev all (c.take (i+1))).length<=120:=by
   have h2:brg rev all c=brg rev all (c.take (i+1))++brg rev (all.drop (src (c.take (i+1))).toNat) (c.drop (i+1)):=by
    conv=>lhs;rw [<- AmJ (i+1) c]
    exact Lq rev _ _ _ λp hp=>hs p (B5 hp)
   have h3:(brg rev all c).length=(brg rev all (c.take (i+1))).length+(brg rev (all.drop (src (c.take (i+1))).toNat) (c.drop (i+1))).length:=by rw [h2,Al0]
   omega
  have hbt:=S5 (rev:=rev) (all:=all) hs hi;have hbt2:(brg rev all (c.take (i+1))).length=((brg rev all (c.take i)).length+((all.drop (src (c.take i)).toNat).take c[i].1.toNat).length)+c[i].2.2.length:=by rw [hbt];simp only [Al0,AmM]
  have w2:IntKind.wrap .i64 (c[i].1+c[i].2.1)=c[i].1+c[i].2.1:=w64 O O;have w3:IntKind.wrap .i64 (src (c.take i)+(c[i].1+c[i].2.1))=src (c.take (i+1)):=by rw [w64 O O];omega
  generalize hX:brg rev all (c.take i)=X at hbt hbt2;have hlt2:((all.drop (src (c.take i)).toNat).take c[i].1.toNat).length=c[i].1.toNat:=by rw [Al4,Amm];omega
  have inner:Ab GO (rev,all,BG X,src (c.take i),0,c,(c.length:Int),((i:Nat):Int),c[i].1,c[i].2.1,c[i].2.2) =
    some (rev,all,BG (X++(all.drop (src (c.take i)).toNat).take c[i].1.toNat),src (c.take i),c,(c.length:Int),((i:Nat):Int),c[i].1,c[i].2.1,c[i].2.2):=by
   have:=Ai GO (λq=>(rev,all,BG (X++(all.drop (src (c.take i)).toNat).take q),src (c.take i),((q:Nat):Int),c,(c.length:Int),((i:Nat):Int),c[i].1,c[i].2.1,c[i].2.2)) c[i].1.toNat
    (rev,all,BG (X++(all.drop (src (c.take i)).toNat).take c[i].1.toNat),src (c.take i),c,(c.length:Int),((i:Nat):Int),c[i].1,c[i].2.1,c[i].2.2) (by
    intro q hq;have h1:((q:Nat):Int) < c[i].1:=O
    have w:IntKind.wrap .i64 (src (c.take i)+((q:Nat):Int))=src (c.take i)+((q:Nat):Int):=w64 O O;have h2:(0:Int)<=src (c.take i)+((q:Nat):Int):=O
    have h3:src (c.take i)+((q:Nat):Int) < (all.length:Int):=O
    have hi2:(src (c.take i)).toNat+q < all.length:=O
    have e2:(src (c.take i)+((q:Nat):Int)).toNat=(src (c.take i)).toNat+q:=O
    obtain ⟨r1,_⟩:=HX (X++(all.drop (src (c.take i)).toNat).take q) Rs.nil (by rw [Al0,Al4];omega);have hln:=Gi r1.pos;rw [r1.sum,Al0,Al4]at hln;have h5:IntKind.wrap .i64 (((q:Nat):Int)+1)=((q+1:Nat):Int):=by rw [w64 O O];omega
    have hd:q < (all.drop (src (c.take i)).toNat).length:=by rw [Amm];omega
    have ht:X++(all.drop (src (c.take i)).toNat).take (q+1)=(X++(all.drop (src (c.take i)).toNat).take q)++[all[(src (c.take i)).toNat+q]]:=by
     rw [Ama hd,Al5,List.getElem_drop]
    unfold GO cK cZ wI;simp only [h1,decide_true,Amd,w,h2,h3,Amk,e2,AlW hi2,AlU,T6 (show(BG (X++(all.drop (src (c.take i)).toNat).take q)).length<=1000000000 from by unfold BG;omega),h5,ht];simp [BG,Dj]) (by
     have h1:¬ (((c[i].1.toNat:Nat)):Int) < c[i].1:=O
     unfold GO cK cZ wI;simp only [h1,decide_false,Al8,Amv])
   simpa using this
  obtain ⟨r1,_⟩:=HX (X++(all.drop (src (c.take i)).toNat).take c[i].1.toNat) Rs.nil (by rw [Al0];omega);have hln:=Gi r1.pos;rw [r1.sum,Al0]at hln;have hadd:E3 (BG (X++(all.drop (src (c.take i)).toNat).take c[i].1.toNat)) (rev,(c[i].2.2.length:Int))=BG (brg rev all (c.take (i+1))):=by
   rw [hbt];unfold BG;rw [Wi r1 rev _ (by rw [Al0];omega),<- KU]
  unfold G8 gX wI;simp only [hc,decide_true,Amd,show(0:Int)<=((i:Nat):Int) from by omega,AlX,AlW hi,AlU,inner,T6 (show(BG (X++(all.drop (src (c.take i)).toNat).take c[i].1.toNat)).length<=1000000000 from by unfold BG;omega),hadd,w2,w3,An (O:c.length<=1099511627776) hi]) (by simp [G8,gX,wI])
 have e:Ab G8 (rev,all,[],0,c,(c.length:Int),0)=some (BG (brg rev all c)):=by simpa [brg,src,BG,Dj] using main
 rw [e];rfl
end Go.V.G
set_option maxRecDepth 100000
namespace Go.V.G
open Go.V
theorem AeX {r:List Rn} (h:r.length<=1099511627776):Ay r=some r:=by
 unfold Ay cK;have hr:Aa (List.length ([]:List Rn)+List.length r) 16=true:=CW (by simpa using h) O;cases r with
 | nil=>simp [Gy,Aa]
 | cons a x=>simp only [Gy,List.isEmpty_cons,Al8,Amv,AlU,hr,Amd,Ams]
theorem ZE {cs:List (List Prt)} {i:Nat} (h:i < cs.length) (n:Int):chn n (cs.drop i)=((AA cs[i] && decide (src cs[i]=n)) && chn (tgt cs[i]) (cs.drop (i+1))):=by
 rw [Amx h];rfl
theorem ZN {cs:List (List Prt)} (hn:cs.length<=1099511627776) (hs:∀c∈cs,Sm 1099511627776 c) (n:Int):M1 n cs=some (chn n cs):=by
 unfold M1;refine Ok.eq (Ok.bind (Q:=λr=>match r with | .inl _=>chn n cs=true | .inr b=>b=chn n cs) ?_ (by
  rintro (y | b) hr
  .exact Ok.mk hr.symm
  .exact Ok.mk hr))
 refine Ok.loop (λy=>y.2.1=cs/\y.2.2.1=(cs.length:Int)/\∃i:Nat,y.2.2.2=(i:Int)/\i<=cs.length/\chn n cs=chn y.1 (cs.drop i)) (λy=>((cs.length:Int) - y.2.2.2).toNat) ⟨rfl,rfl,0,rfl,Ane _,rfl⟩ ?_;rintro ⟨m,cs',l,i'⟩ ⟨e1,e2,i,e3,hi,hk⟩;dsimp only at e1 e2 e3 hk;subst e1 e2 e3;unfold QK gX wI;dsimp only;refine Ok.ite (λhc=>?_) λhc=>?_
 .have hlt:i < cs'.length:=by simpa using hc
  have hge:cs'[Int.toNat (i:Int)]?=some cs'[i]:=by simp [hlt]
  refine Ok.yes Z (Ok.bind_eq hge (Ok.bind_eq (VI (hs _ (Amc hlt)) O) ?_));rw [ZE hlt]at hk;unfold YT;cases hg:AA cs'[i]with
  | false=>
   rw [hg]at hk;refine Ok.bind_eq (r:=(0,cs',(cs'.length:Int),(i:Int),true)) Z (Ok.yes rfl (Ok.mk ?_));dsimp only;rw [hk];simp
  | true=>
   rw [hg]at hk;refine Ok.bind_eq (r:=(tgt cs'[i],cs',(cs'.length:Int),(i:Int),decide (¬ src cs'[i]=m))) Z ?_;dsimp only;refine Ok.ite (λhb=>Ok.mk ?_) λhb=>Ok.mk ⟨⟨rfl,rfl,i+1,An hn hlt,O,?_⟩,?_⟩
   .have:¬ src cs'[i]=m:=by simpa using hb
    dsimp only;rw [hk];simp [this]
   .have:src cs'[i]=m:=by simpa using hb
    dsimp only;rw [hk];simp [this]
   .rw [An hn hlt];dsimp only;omega
 .have:i=cs'.length:=by
   have:¬ ((i:Int) < (List.length cs':Int)):=by simpa using hc
   omega
  subst this;refine Ok.mk ?_;dsimp only;rw [hk,AnM];rfl
theorem Ma {t:List UInt8} {r:List Rn} {cs:List (List Prt)} (h:HB t r cs) (f:Int):F8 f t r cs=some (Ea f t r cs):=by
 unfold F8 Ea wI;refine Ok.eq (Ok.bind (Q:=λb=>b=_) ?_ (λb hb=>Ok.mk hb));refine Ok.bind_eq (AK _ _ _) (Ok.ite (λq1=>?_) λq1=>Ok.mk ?_)
 .have q1':0<=f/\f<=60:=by simpa using q1
  rw [show decide (0<=f/\f<=60)=true from q1,Amg];refine Ok.ite (λq2=>Ok.bind_eq (PL h.hr _ _) (Ok.ite (λq3=>?_) λq3=>Ok.mk ?_)) λq2=>Ok.mk ?_
  .rw [show decide ((t.length:Int)<=120)=true from q2,q3,Amg,Amg];rw [w64 (O:-9223372036854775808<=60 - f) O];refine Ok.ite (λq4=>Ok.bind_eq (ZN h.hn h.hc _) (Ok.mk ?_)) λq4=>Ok.mk ?_
   .rw [q4,Amg]
   .have:decide ((cs.length:Int)<=60 - f)=false:=by simpa using q4
    rw [this,Anm]
  .have:AB r (t.length:Int) f=false:=by simpa using q3
   rw [this];simp
  .have:decide ((t.length:Int)<=120)=false:=by simpa using q2
   rw [this];simp
 .have:decide (0<=f/\f<=60)=false:=by simpa using q1
  rw [this];simp
theorem LV {t:List UInt8} {r:List Rn} {cs:List (List Prt)} (h:HB t r cs) (f:Int):Gf f t r cs=some (Ea f t r cs):=by
 have hn:=h.hn;unfold Gf wI;refine Ok.eq (Ok.bind (Q:=λv=>v=(!(decide (0<=f/\f<=60) && (decide ((t.length:Int)<=120) && (AB r (t.length:Int) f && decide ((cs.length:Int)<=60 - f)))),f,t,r,cs)) ?_ ?_)
 .refine Ok.bind_eq (B2 _ _ _) (Ok.ite (λq1=>Ok.mk ?_) λq1=>Ok.ite (λq2=>Ok.mk ?_) λq2=>Ok.bind_eq (PK h.hr _ _) (Ok.ite (λq3=>Ok.mk ?_) λq3=>Ok.mk ?_))
  .have:decide (0<=f/\f<=60)=false:=by simpa only [Al9] using q1
   rw [this];rfl
  .have:¬ (t.length:Int)<=120:=by
     have:(120:Int) < (t.length:Int):=by simpa using q2
     omega
   simp [this]
  .have:AB r (t.length:Int) f=false:=by simpa only [Al9] using q3
   rw [this];simp
  .have g1:0<=f/\f<=60:=by simpa using q1
   have g2:(t.length:Int)<=120:=by
    have:¬ (120:Int) < (t.length:Int):=by simpa using q2
    omega
   have g3:AB r (t.length:Int) f=true:=by simpa only [Al9,Ank] using q3
   rw [w64 (O:-9223372036854775808<=60 - f) O,g3];simp only [g1,and_self,decide_true,g2,Amg]
   congr 1
   by_cases hx:60 - f < (cs.length:Int)
   .have:¬ (cs.length:Int)<=60 - f:=O
    simp [hx,this]
   .have:(cs.length:Int)<=60 - f:=O
    simp [hx,this]
 rintro _ rfl;dsimp only;have split:Ea f t r cs=((decide (0<=f/\f<=60) && (decide ((t.length:Int)<=120) && (AB r (t.length:Int) f && decide ((cs.length:Int)<=60 - f)))) && chn (t.length:Int) cs):=by
  unfold Ea;simp only [AnW]
 rw [split];refine Ok.ite (λhb=>Ok.mk ?_) λhb=>?_
 .have:(decide (0<=f/\f<=60) && (decide ((t.length:Int)<=120) && (AB r (t.length:Int) f && decide ((cs.length:Int)<=60 - f))))=false:=by simpa only [Al9] using hb
  rw [this];rfl
 have hb':(decide (0<=f/\f<=60) && (decide ((t.length:Int)<=120) && (AB r (t.length:Int) f && decide ((cs.length:Int)<=60 - f))))=true:=by simpa only [Al9,Ank] using hb
 rw [hb',Amg];have ht:(t.length:Int)<=120:=by simp only [Al2,decide_eq_true_eq]at hb';exact hb'.2.1
 refine Ok.bind (Q:=λr=>match r with | .inl _=>chn (t.length:Int) cs=true | .inr b=>b=chn (t.length:Int) cs) ?_ (by
  rintro (y | b) hr
  .exact Ok.mk hr.symm
  .exact Ok.mk hr)
 refine Ok.loop (λy=>y.2.1=cs/\y.2.2.1=(cs.length:Int)/\∃i:Nat,y.2.2.2=(i:Int)/\i<=cs.length/\chn (t.length:Int) cs=chn y.1 (cs.drop i)) (λy=>((cs.length:Int) - y.2.2.2).toNat) ⟨rfl,rfl,0,rfl,Ane _,rfl⟩ ?_;rintro ⟨m,cs',l,i'⟩ ⟨e1,e2,i,e3,hi,hk⟩;dsimp only at e1 e2 e3 hk;subst e1 e2 e3;unfold My gX wI;dsimp only;refine Ok.ite (λhc=>?_) λhc=>?_
 .have hlt:i < cs'.length:=by simpa using hc
  have hge:cs'[Int.toNat (i:Int)]?=some cs'[i]:=by simp [hlt]
  have sm:=h.hc _ (Amc hlt);refine Ok.yes Z (Ok.bind_eq hge ?_);rw [ZE hlt]at hk;cases hg:AA cs'[i]with
  | false=>
   rw [hg]at hk;refine Ok.bind_eq (r:=(cs',(cs'.length:Int),(i:Int),true,cs'[i])) (by rw [MM sm O,hg];rfl) (Ok.yes rfl (Ok.mk ?_));dsimp only;rw [hk];simp
  | true=>
   rw [hg]at hk;have ss:=A7 (As hg).1;have g2:=(As hg).2;refine Ok.bind_eq (r:=(cs',(cs'.length:Int),(i:Int),decide (¬ src cs'[i]=m),cs'[i])) (by rw [MM sm O,hg,AlU,AlZ Z,RW sm O ss O];rfl) ?_;dsimp only;refine Ok.ite (λhb=>Ok.mk ?_) λhb=>Ok.bind_eq (AaO sm O ss O) (Ok.mk ⟨⟨rfl,rfl,i+1,An hn hlt,O,?_⟩,?_⟩)
   .have:¬ src cs'[i]=m:=by simpa using hb
    dsimp only;rw [hk];simp [this]
   .have:src cs'[i]=m:=by simpa using hb
    dsimp only;rw [hk];simp [this]
   .rw [An hn hlt];dsimp only;omega
 .have:i=cs'.length:=by
   have:¬ ((i:Int) < (List.length cs':Int)):=by simpa using hc
   omega
  subst this;refine Ok.mk ?_;dsimp only;rw [hk,AnM];rfl
theorem Afh {t:List UInt8} {r:List Rn} {cs:List (List Prt)} (h:HB t r cs) (f a b:Int):Hq f t r cs a b=some (Ir f t r cs a b):=by
 unfold Hq Ir;rw [Ma h,AlU];cases hg:Ea f t r cs with
 | false=>simp
 | true=>
  have g:=goodH_iff.1 hg;have:=g.hf;have:=g.hn;have w:IntKind.wrap .i64 (f+(cs.length:Int))=f+(cs.length:Int):=w64 O O;simp only [AmN,Al8,Amv,Amd,EZ,wI,AlU,w];by_cases h1:a < f
  .have:¬ (f<=a/\a<=b/\b<=f+(cs.length:Int)):=O
   simp [h1,this]
  .by_cases h2:b < a
   .have:¬ (f<=a/\a<=b/\b<=f+(cs.length:Int)):=O
    simp [h1,h2,this]
   .by_cases h3:f+(cs.length:Int) < b
    .have:¬ (f<=a/\a<=b/\b<=f+(cs.length:Int)):=O
     simp [h1,h2,h3,this]
    .have:(f<=a/\a<=b/\b<=f+(cs.length:Int)):=O
     simp [h1,h2,h3,this]
theorem Ac7 {t:List UInt8} {r:List Rn} {cs:List (List Prt)} (h:HB t r cs) (f a b:Int):Lh f t r cs a b=some (Ir f t r cs a b):=by
 unfold Lh Ir;rw [LV h,AlU];cases hg:Ea f t r cs with
 | false=>simp
 | true=>
  have g:=goodH_iff.1 hg;have:=g.hf;have:=g.hn;have w:IntKind.wrap .i64 (f+(cs.length:Int))=f+(cs.length:Int):=w64 O O;simp only [AmN,Al8,Amv,Amd,KQ,wI,AlU,w,B2];by_cases h1:f<=a/\a<=b
  .by_cases h3:f+(cs.length:Int) < b
   .have:¬ (f<=a/\a<=b/\b<=f+(cs.length:Int)):=O
    simp [h1,h3,this]
   .have:(f<=a/\a<=b/\b<=f+(cs.length:Int)):=O
    simp [h1,h3,this]
  .have:¬ (f<=a/\a<=b/\b<=f+(cs.length:Int)):=O
   simp [h1,this]
theorem Z6:Ms=Hl:=rfl
theorem Ada {c:List Prt} (hg:AA c=true) {t:List UInt8} (ht:(t.length:Int)=src c):Iq t c=some (apply t c,true):=by
 have hs:=A7 (As hg).1;have sm:=Ci hg;have sle:=(As hg).2.1;have ha:=Tp hg ht;unfold Oj at ha;rw [AlY]at ha;obtain ⟨z,hz,he⟩:=ha;obtain rfl:z=apply t c:=Anf he;unfold Iq;rw [MM sm O,hg,AlU,AlZ Z,RW sm O hs O,AlU,AlU,AlZ (by simp [ht]),Z6];rw [hz];rfl
theorem Ze {t:List UInt8} {cs:List (List Prt)} {i:Nat} (h:i < cs.length):txt t (cs.take (i+1))=apply (txt t (cs.take i)) cs[i]:=by
 unfold txt;rw [Ama h,AnD];rfl
theorem Qk {n:Int} {cs:List (List Prt)} (h:chn n cs=true) {i:Nat} (hi:i < cs.length):AA cs[i]=true/\src cs[i]=Dq n (cs.take i)/\Dq n (cs.take (i+1))=tgt cs[i]:=by
 have h2:=(C5 h i).2;rw [Amx hi]at h2;obtain ⟨k1,k2,k3⟩:=EH h2;refine⟨k1,k2,?_⟩;rw [Ama hi,NC];rfl
theorem Aa1 {t:List UInt8} {cs:List (List Prt)} (hn:cs.length<=1099511627776) (hc:chn (t.length:Int) cs=true):Ab DL (t,cs,(cs.length:Int),0)=some (txt t cs):=by
 have:=Ai DL (λi=>(txt t (cs.take i),cs,(cs.length:Int),((i:Nat):Int))) cs.length (txt t cs) (by
  intro i hi;have hlt:((i:Nat):Int) < (cs.length:Int):=O
  obtain ⟨k1,k2,k3⟩:=Qk hc hi;have hl:=Ra (C5 hc i).1;unfold DL gX wI;simp only [hlt,decide_true,Amd,show(0:Int)<=((i:Nat):Int) from by omega,AlX,AlW hi,AlU,Tp k1 (by rw [hl,k2]),An hn hi,Ze hi]) (by simp [DL,gX,wI])
 simpa [txt] using this
theorem AaS {t:List UInt8} {cs:List (List Prt)} (hn:cs.length<=1099511627776) (hc:chn (t.length:Int) cs=true):Ab GA (t,cs,(cs.length:Int),0)=some (txt t cs):=by
 have:=Ai GA (λi=>(txt t (cs.take i),cs,(cs.length:Int),((i:Nat):Int))) cs.length (txt t cs) (by
  intro i hi;have hlt:((i:Nat):Int) < (cs.length:Int):=O
  obtain ⟨k1,k2,k3⟩:=Qk hc hi;have hl:=Ra (C5 hc i).1;unfold GA gX wI;simp only [hlt,decide_true,Amd,show(0:Int)<=((i:Nat):Int) from by omega,AlX,AlW hi,AlU,Ada k1 (by rw [hl,k2]),An hn hi,Ze hi]) (by simp [GA,gX,wI])
 simpa [txt] using this
section
variable {f:Int} {t:List UInt8} {r:List Rn} {cs:List (List Prt)}
theorem Qp (g:GH f t r cs) {x:Int} (h1:f<=x) (h2:x<=f+cs.length):D2 f t r cs x=some (txt t (cs.take (x - f).toNat)):=by
 have:=g.hf;have:=g.hn;have w:IntKind.wrap .i64 (x - f)=x - f:=w64 O O;have hl:=Aa1 (cs:=cs.take (x - f).toNat) (by rw [Al4];omega) (C5 g.hc _).1;unfold D2 sX wI;simp only [w,Am6,decide_true,Amd,show(0:Int)<=x - f from by omega,(O:x - f<=(cs.length:Int)),Int.toNat_zero,AmX,AnE];rw [hl];rfl
theorem WQ (g:GH f t r cs) {x:Int} (h1:f<=x) (h2:x<=f+cs.length):Ku f t r cs x=some (txt t (cs.take (x - f).toNat)):=by
 have:=g.hf;have:=g.hn;have w:IntKind.wrap .i64 (x - f)=x - f:=w64 O O;have hl:=AaS (cs:=cs.take (x - f).toNat) (by rw [Al4];omega) (C5 g.hc _).1;unfold Ku sX wI;simp only [w,Am6,decide_true,Amd,show(0:Int)<=x - f from by omega,(O:x - f<=(cs.length:Int)),Int.toNat_zero,AmX,AnE];rw [hl];rfl
theorem Ab0 (g:GH f t r cs) (k:Nat):(((txt t (cs.take k)).length:Nat):Int)=Dq (t.length:Int) (cs.take k)/\0<=Dq (t.length:Int) (cs.take k)/\Dq (t.length:Int) (cs.take k)<=120:=
 ⟨Ra (C5 g.hc k).1,Vr (C5 g.hc k).1 O g.ht⟩
theorem YI {rev:Int} {l:List Rn} {cs:List (List Prt)} {i:Nat} (h:i < cs.length):blm rev l (cs.take (i+1))=Mm (blm rev l (cs.take i)) cs[i] (rev+i):=by
 rw [Ama h,Uj,Al4,Aoc (Nat.le_of_lt h)];rfl
theorem SL (g:GH f t r cs) (k:Nat):AB (blm (f+1) r (cs.take k)) (Dq (t.length:Int) (cs.take k)) (f+(cs.take k).length)=true:=by
 have:=g.hf;have:=g.hn;have hl:(cs.take k).length<=cs.length:=by rw [Al4];omega
 have:=Yi (rev:=f+1) (C5 g.hc k).1 (by rw [(O:f+1 - 1=f)];exact g.hr) O O
 rwa [(O:f+1 - 1=f)]at this
theorem AcV (g:GH f t r cs) {x:Int} (h1:f<=x) (h2:x<=f+cs.length):Gz f t r cs x=some (blm (f+1) r (cs.take (x - f).toNat)):=by
 have hb:=g.hb;have:=g.hf;have:=g.hn;have w:IntKind.wrap .i64 (x - f)=x - f:=w64 O O;generalize hds:cs.take (x - f).toNat=ds;have hdl:ds.length<=cs.length:=by rw [<- hds,Al4];omega
 have main:=Ai DC (λi=>(blm (f+1) r (ds.take i),ds,(ds.length:Int),((i:Nat):Int),f,t,r,cs)) ds.length (blm (f+1) r ds) (by
  intro i hi;have hlt:((i:Nat):Int) < (ds.length:Int):=O
  have hdc:chn (t.length:Int) ds=true:=by rw [<- hds];exact(C5 g.hc _).1
  obtain ⟨k1,k2,k3⟩:=Qk hdc hi;have hgr:AB (blm (f+1) r (ds.take i)) (Dq (t.length:Int) (ds.take i)) (f+(ds.take i).length)=true:=by
   have:=SL g (min i (x - f).toNat)
   rwa [<- List.take_take,hds]at this
  obtain ⟨_,_,h6⟩:=goodRuns_iff.1 hgr;have w1:IntKind.wrap .i64 (f+((i:Nat):Int))=f+i:=w64 O O;have w2:IntKind.wrap .i64 (f+((i:Nat):Int)+1)=f+1+i:=by rw [w64 O O];omega
  unfold DC gX wI;simp only [hlt,decide_true,Amd,show(0:Int)<=((i:Nat):Int) from by omega,AlX,AlW hi,AlU,w1,w2,Vw k1 h6.pos (by rw [h6.sum,k2]),An (O:ds.length<=1099511627776) hi,YI hi]) (by simp [DC,gX,wI])
 have e:Ab DC (r,ds,(ds.length:Int),0,f,t,r,cs)=some (blm (f+1) r ds):=by simpa [blm] using main
 unfold Gz sX wI;rw [AeX hb.hr,AlU];simp only [w,Am6,decide_true,Amd,show(0:Int)<=x - f from by omega,(O:x - f<=(cs.length:Int)),Int.toNat_zero,AmX,AnE,hds];rw [e];rfl
theorem Adj (g:GH f t r cs) {x:Int} (h1:f<=x) (h2:x<=f+cs.length):K8 f t r cs x=some (blm (f+1) r (cs.take (x - f).toNat)):=by
 have hb:=g.hb;have:=g.hf;have:=g.hn;have w:IntKind.wrap .i64 (x - f)=x - f:=w64 O O;have hr:Aa (List.length ([]:List Rn)+List.length r) 16=true:=CW (by have:=hb.hr;simpa using this) O;generalize hds:cs.take (x - f).toNat=ds;have hdl:ds.length<=cs.length:=by rw [<- hds,Al4];omega
 have main:=Ai F4 (λi=>(blm (f+1) r (ds.take i),ds,(ds.length:Int),((i:Nat):Int),f,t,r,cs)) ds.length (blm (f+1) r ds) (by
  intro i hi;have hlt:((i:Nat):Int) < (ds.length:Int):=O
  have hdc:chn (t.length:Int) ds=true:=by rw [<- hds];exact(C5 g.hc _).1
  obtain ⟨k1,k2,k3⟩:=Qk hdc hi;have hgr:AB (blm (f+1) r (ds.take i)) (Dq (t.length:Int) (ds.take i)) (f+(ds.take i).length)=true:=by
   have:=SL g (min i (x - f).toNat)
   rwa [<- List.take_take,hds]at this
  obtain ⟨_,_,h6⟩:=goodRuns_iff.1 hgr;have w1:IntKind.wrap .i64 (f+((i:Nat):Int))=f+i:=w64 O O;have w2:IntKind.wrap .i64 (f+((i:Nat):Int)+1)=f+1+i:=by rw [w64 O O];omega
  unfold F4 gX wI;simp only [hlt,decide_true,Amd,show(0:Int)<=((i:Nat):Int) from by omega,AlX,AlW hi,AlU,w1,w2,Aa7 k1 h6.pos (by rw [h6.sum,k2]),An (O:ds.length<=1099511627776) hi,YI hi]) (by simp [F4,gX,wI])
 have e:Ab F4 (r,ds,(ds.length:Int),0,f,t,r,cs)=some (blm (f+1) r ds):=by simpa [blm] using main
 unfold K8 cK sX wI;simp only [hr,w,Am6,decide_true,Amd,show(0:Int)<=x - f from by omega,(O:x - f<=(cs.length:Int)),Int.toNat_zero,AmX,AnE,hds,Ams];rw [e];rfl
end
end Go.V.G
set_option maxRecDepth 100000
namespace Go.V.G
open Go.V
def AfW (xs:List (Int×Int)):Prop:=xs.length<=maxLen
def Un (xs:List (Int×Int)):Nat:=xs.length
def WN (xs:List (Int×(Int×List UInt8))):Prop:=xs.length<=maxLen/\∀x∈xs,x.2.2.length<=maxLen
def Aef (x:Int×(Int×List UInt8)):Nat:=x.2.2.length
def NS (xs:List (Int×(Int×List UInt8))):Nat:=xs.length+AP Aef xs
def Aa9 (xs:List (List (Int×(Int×List UInt8)))):Prop:=xs.length<=maxLen/\∀x∈xs,WN x
def QQ (xs:List (List (Int×(Int×List UInt8)))):Nat:=xs.length+AP NS xs
end Go.V.G
set_option maxRecDepth 100000
namespace Go.V.G
open Go.V
theorem n2:((2:Nat):Int)=2:=rfl
theorem n3:((3:Nat):Int)=3:=rfl
abbrev Hst:=Int×(List UInt8×(List (Int×Int)×List (List (Int×(Int×List UInt8)))))
def V0 (h:Hst):Nat:=h.2.1.length+Un h.2.2.1+QQ h.2.2.2
end Go.V.G
set_option maxRecDepth 100000
namespace Go.V.G
open Go.V
structure FitP (c:List Prt):Prop where
 l:WN c
 i:∀p∈c,I64 p.1/\I64 p.2.1
structure FitH (t:List UInt8) (r:List Rn) (cs:List (List Prt)):Prop where
 ht:t.length<=maxLen
 hr:AfW r
 hc:Aa9 cs
 hi:∀c∈cs,∀p∈c,I64 p.1/\I64 p.2.1
theorem AeP:∀c:List Prt,NS c=c.length+B6 c
 | []=>rfl
 | p::c=>by
  have ih:=AeP c;simp only [NS,AP,Aef,B6,Al7]at ih ⊢;omega
theorem Acd {α:Type} {w:α->Nat} {B:Nat}:∀{xs:List α},(∀x∈xs,w x<=B)->AP w xs<=xs.length * B
 | [],_=>by simp [AP]
 | x::xs,h=>by
  have ih:=Acd (xs:=xs) λy hy=>h y (by simp [hy])
  have:=h x Z;simp only [AP,Al7,An4];omega
theorem Aj6 {c:List Prt} (h:AA c=true):NS c<=480:=by
 have:=Ci h;have:=this.len;have:=(Ci h).put;rw [AeP];omega
theorem Aih {cs:List (List Prt)} (h:∀c∈cs,AA c=true) (hn:cs.length<=1000):QQ cs<=1000000:=by
 have:=Acd (w:=NS) (B:=480) λc hc=>Aj6 (h c hc)
 unfold QQ;omega
theorem Afc {l:List Rn} {n m:Int} (h:AB l n m=true):Un l<=120:=by
 obtain ⟨h1,_,h6⟩:=goodRuns_iff.1 h;have:=Gi h6.pos;rw [h6.sum]at this;unfold Un;omega
theorem GH.w {f:Int} {t:List UInt8} {r:List Rn} {cs:List (List Prt)} (g:GH f t r cs):V0 (f,t,r,cs)<=2000000:=by
 have:=g.ht;have:=g.hn;have:=g.hf;have h1:=Aih (Rb g.hc) O;have h2:=Afc g.hr;unfold V0;dsimp only;omega
theorem Ti {f a b:Int} {t:List UInt8} {r:List Rn} {cs:List (List Prt)} (h:Ir f t r cs a b=0):GH f t r cs/\f<=a/\a<=b/\b<=f+cs.length:=by
 unfold Ir at h;split at h
 .rename_i hg;split at h
  .rename_i hx;exact⟨goodH_iff.1 hg,hx⟩
  .cases h
 .cases h
end Go.V.G
set_option maxRecDepth 100000
namespace Go.V.G
open Go.V
abbrev EP (a:List Prt) (cs:List (List Prt)):List Prt:=cs.foldl (λa c=>AO a c) a
theorem Ac6 {a:List Prt} {cs:List (List Prt)} {i:Nat} (h:i < cs.length):EP a (cs.take (i+1))=AO (EP a (cs.take i)) cs[i]:=by
 unfold EP;rw [Ama h,AnD];rfl
theorem AfJ {a:List Prt} {cs:List (List Prt)} (ha:AA a=true) (hc:chn (tgt a) cs=true) {i:Nat} (hi:i < cs.length) :
  AA (EP a (cs.take i))=true/\AA cs[i]=true/\tgt (EP a (cs.take i))=src cs[i]:=by
 obtain ⟨k1,k2,k3⟩:=Qk hc hi;obtain ⟨r1,r2,r3⟩:=Na ha (C5 hc i).1;exact⟨r1,k1,by rw [r3,k2]⟩
theorem AaH {a:List Prt} {cs:List (List Prt)} (hn:cs.length<=1099511627776) (ha:AA a=true) (hc:chn (tgt a) cs=true):Ab F5 (a,cs,(cs.length:Int),0)=some (EP a cs):=by
 have:=Ai F5 (λi=>(EP a (cs.take i),cs,(cs.length:Int),((i:Nat):Int))) cs.length (EP a cs) (by
  intro i hi;have hlt:((i:Nat):Int) < (cs.length:Int):=O
  obtain ⟨k1,k2,k3⟩:=AfJ ha hc hi;unfold F5 gX wI;simp only [hlt,decide_true,Amd,show(0:Int)<=((i:Nat):Int) from by omega,AlX,AlW hi,AlU,Zp k1 k2 k3,An hn hi,Ac6 hi]) (by simp [F5,gX,wI])
 simpa using this
theorem W5 {c:List Prt} {cs:List (List Prt)} (hn:cs.length<=1000000) (ha:AA c=true) (hc:chn (tgt c) cs=true):Lx (c::cs)=some (EP c cs):=by
 obtain ⟨r1,_⟩:=Na ha hc;have hr:Aa (List.length ([]:List Prt)+List.length (EP c cs)) 32=true:=CW (by have:=(Ci r1).len;simpa using Amw this O) O;have hl:=AaH O ha hc;unfold Lx cK gX sX;have e1:Int.toNat (((c::cs).length:Nat):Int) - Int.toNat 1=cs.length:=by simp
 have e2:(List.drop (Int.toNat 1) (c::cs)).take cs.length=cs:=by simp
 rw [e1,e2];exact Ok.eq (Ok.yes Z (Ok.bind_eq (r:=c) Z (Ok.yes Z (Ok.yes AlR (Ok.yes Z (Ok.yes Z (Ok.bind_eq hl (Ok.yes hr (Ok.mk rfl)))))))))
section
variable {f:Int} {t:List UInt8} {r:List Rn} {cs:List (List Prt)}
def seg (cs:List (List Prt)) (a b:Int):List (List Prt):=(cs.drop a.toNat).take (b.toNat - a.toNat)
def Lo (t:List UInt8) (cs:List (List Prt)) (a:Int):Int:=Dq (t.length:Int) (cs.take a.toNat)
def B0 (f:Int) (t:List UInt8) (cs:List (List Prt)) (a b:Int):List Prt:=btw (Lo t cs (a - f)) (seg cs (a - f) (b - f))
theorem Ry (g:GH f t r cs) (a b:Int):chn (Lo t cs a) (seg cs a b)=true:=(C5 (C5 g.hc a.toNat).2 _).1
theorem Ab1 (g:GH f t r cs) {a b:Int} (h0:0<=a) (h1:a<=b):Dq (Lo t cs a) (seg cs a b)=Lo t cs b:=by
 unfold Lo seg;rw [<- NC,<- List.take_add]
 congr 2;omega
theorem ZQ (g:GH f t r cs) (a:Int):0<=Lo t cs a/\Lo t cs a<=120:=Vr (C5 g.hc _).1 O g.ht
theorem Jw (g:GH f t r cs) {a b:Int} (h0:f<=a) (h1:a<=b):AA (B0 f t cs a b)=true/\src (B0 f t cs a b)=Lo t cs (a - f)/\tgt (B0 f t cs a b)=Lo t cs (b - f):=by
 obtain ⟨k1,k2⟩:=ZQ g (a - f);obtain ⟨r1,r2,r3⟩:=ZC (Ry g (a - f) (b - f)) k1 k2;exact⟨r1,r2,by rw [B0,r3,Ab1 g O O]⟩
theorem AeB (n:Int):TH n=some (idc n):=by
 unfold TH idc;by_cases h:n=0 <;> simp [h]
theorem Zb (g:GH f t r cs) {a b:Int} (h0:f<=a) (h1:a<=b) (h2:b<=f+cs.length):EU f t r cs a b=some (B0 f t cs a b):=by
 have:=g.hf;have:=g.hn;have w1:IntKind.wrap .i64 (a - f)=a - f:=w64 O O;have w2:IntKind.wrap .i64 (b - f)=b - f:=w64 O O;unfold EU sX wI;by_cases hab:a=b
 .subst hab;rw [Al1 Z,Qp g h0 h2,AlU,(Ab0 g _).1,AeB,AlU];have e:seg cs (a - f) (a - f)=[]:=by simp [seg]
  rw [B0,e];rfl
 .have hlt:(a - f).toNat < cs.length:=O
  obtain ⟨c,ds,hds⟩:∃c ds,seg cs (a - f) (b - f)=c::ds:=by
   have:(seg cs (a - f) (b - f)).length≠0:=by unfold seg;rw [Al4,Amm];omega
   cases hsg:seg cs (a - f) (b - f)with
   | nil=>rw [hsg]at this;exact absurd rfl this
   | cons c ds=>exact⟨c,ds,rfl⟩
  have hch:=Ry g (a - f) (b - f);have hb:B0 f t cs a b=EP c ds:=by unfold B0;rw [hds]at hch ⊢;exact Tc hch
  have hln:ds.length<=1000000:=by
   have h9:(seg cs (a - f) (b - f)).length<=cs.length:=by unfold seg;rw [Al4,Amm];omega
   rw [hds,Al7]at h9;omega
  rw [hds]at hch;obtain ⟨k1,k2,k3⟩:=EH hch;have hc:=W5 hln k1 k3;rw [AlZ (by simpa using hab),w1,w2,hb];rw [show(List.drop (a - f).toNat cs).take ((b - f).toNat - (a - f).toNat)=c::ds from hds,hc];simp only [AlU,Am6,decide_true,Amd,show(0:Int)<=a - f from by omega,(O:a - f<=b - f),(O:b - f<=(cs.length:Int))]
end
end Go.V.G
set_option maxRecDepth 100000
namespace Go.V.G
open Go.V
section
variable {f:Int} {t:List UInt8} {r:List Rn} {cs:List (List Prt)}
theorem R0 (f a b:Int) (t:List UInt8) (r:List Rn) (cs:List (List Prt)):Ir f t r cs a b=0\/Ir f t r cs a b=1\/Ir f t r cs a b=2:=by
 unfold Ir;split
 .split
  .exact .inl rfl
  .exact .inr (.inr rfl)
 .exact .inr (.inl rfl)
end
end Go.V.G
set_option maxRecDepth 100000
namespace Go.V.G
open Go.V
def Byt (l:List Int):Prop:=∀x∈l,0<=x/\x<=255
theorem P9 (n:Int):0<=IntKind.wrap .u8 n/\IntKind.wrap .u8 n<=255:=by rw [IntKind.wrap_u8];omega
theorem Byt.append {a b:List Int} (h:Byt a) (k:Byt b):Byt (a++b):=λx hx=>(Al3.1 hx).elim (h x) (k x)
theorem Sd (s:List UInt8):Byt (Ar s):=λx hx=>by
 obtain ⟨b,_,rfl⟩:=Aml.1 hx;have:=b.toNat_lt;omega
theorem ED (s:List UInt8):(Ar s).length=s.length:=by simp [Ar]
def EF (l:List Rn):List Int:=l.flatMap λr=>[IntKind.wrap .u8 r.1,IntKind.wrap .u8 r.2]
theorem ID:∀l:List Rn,(EF l).length=2 * l.length
 | []=>rfl
 | r::l=>by
  have:=ID l;simp only [EF,Ana,Al0,Al7,Amp]at this ⊢;omega
theorem Agg (l:List Rn):Byt (EF l):=λx hx=>by
 obtain ⟨r,_,h⟩:=AnK.1 hx;simp only [Ame,AnL,or_false]at h;rcases h with rfl | rfl <;> exact P9 _
theorem WI {l:List Rn} {i:Nat} (h:i < l.length):EF (l.take (i+1))=EF (l.take i)++[IntKind.wrap .u8 l[i].1,IntKind.wrap .u8 l[i].2]:=by
 unfold EF;rw [Ama h,Am9];simp
theorem Vj {l:List Rn} (hl:l.length<=1000000):Ke l=some (EF l):=by
 unfold Ke;have:=Ai Fh (λi=>(EF (l.take i),l,(l.length:Int),((i:Nat):Int))) l.length (EF l) (by
  intro i hi;have hlt:((i:Nat):Int) < (l.length:Int):=O
  have hr:∀x y:Int,Aa (List.length (EF (l.take i))+List.length ([x,y]:List Int)) 1=true:=λx y=>CW (by rw [ID,Al4];simp;omega) O
  unfold Fh cK gX wI;simp only [hlt,decide_true,Amd,show(0:Int)<=((i:Nat):Int) from by omega,AlX,AlW hi,AlU,hr,An (O:l.length<=1099511627776) hi,WI hi]) (by simp [Fh,cK,gX,wI])
 have e:Ab Fh ([],l,(l.length:Int),0)=some (EF l):=by simpa [EF] using this
 rw [e];rfl
theorem AaA {l:List Rn} (hl:l.length<=1000000):MV l=some (EF l):=by
 unfold MV;have:=Ai GG (λi=>(EF (l.take i),l,(l.length:Int),((i:Nat):Int))) l.length (EF l) (by
  intro i hi;have hlt:((i:Nat):Int) < (l.length:Int):=O
  have hr:∀x y:Int,Aa (List.length (EF (l.take i))+List.length ([x,y]:List Int)) 1=true:=λx y=>CW (by rw [ID,Al4];simp;omega) O
  unfold GG cK gX wI;simp only [hlt,decide_true,Amd,show(0:Int)<=((i:Nat):Int) from by omega,AlX,AlW hi,AlU,hr,An (O:l.length<=1099511627776) hi,WI hi]) (by simp [GG,cK,gX,wI])
 have e:Ab GG ([],l,(l.length:Int),0)=some (EF l):=by simpa [EF] using this
 rw [e];rfl
def ST (h x:Int):Int:=IntKind.wrap .u32 ((IntKind.wrap .u32 (((BitVec.ofInt (IntKind.bits .u32) h ^^^ BitVec.ofInt (IntKind.bits .u32) (IntKind.wrap .u32 x)).toNat:Int))) * 16777619)
theorem AiK (h x:Int):0<=ST h x/\ST h x < 4294967296:=by unfold ST;rw [IntKind.wrap_u32];omega
theorem AhH {h x:Int} (h0:0<=h) (h1:h < 4294967296) (x0:0<=x) (x1:x<=255) :
  Int.tmod (IntKind.wrap .u64 ((IntKind.wrap .u64 (((BitVec.ofInt (IntKind.bits .u64) h ^^^ BitVec.ofInt (IntKind.bits .u64) (IntKind.wrap .u64 x)).toNat:Int))) * 16777619)) 4294967296=ST h x:=by
 unfold ST;obtain ⟨a,rfl⟩:=Amq h0;obtain ⟨b,rfl⟩:=Amq x0;have ha:a < 4294967296:=O
 have hb:b < 4294967296:=O
 have hx:=Nat.xor_lt_two_pow (n:=32) (O:a < 2 ^ 32) (O:b < 2 ^ 32);rw [ZB (n:=(b:Int)) O O,IntKind.wrap_u32 (b:Int),show(b:Int) % 4294967296=(b:Int) by omega];have e64:((BitVec.ofInt (IntKind.bits .u64) (a:Int) ^^^ BitVec.ofInt (IntKind.bits .u64) (b:Int)).toNat)=a ^^^ b:=by
  rw [BitVec.toNat_xor,BitVec.ofInt_natCast,BitVec.ofInt_natCast,BitVec.toNat_ofNat,BitVec.toNat_ofNat,show IntKind.bits .u64=64 from rfl,Aoj O,Aoj O]
 have e32:((BitVec.ofInt (IntKind.bits .u32) (a:Int) ^^^ BitVec.ofInt (IntKind.bits .u32) (b:Int)).toNat)=a ^^^ b:=by
  rw [BitVec.toNat_xor,BitVec.ofInt_natCast,BitVec.ofInt_natCast,BitVec.toNat_ofNat,BitVec.toNat_ofNat,show IntKind.bits .u32=32 from rfl,Aoj O,Aoj O]
 rw [e64,e32];generalize a ^^^ b=m at hx;rw [ZB (n:=(m:Int)) O O,IntKind.wrap_u32 (m:Int),show(m:Int) % 4294967296=(m:Int) by omega,ZB O O,IntKind.wrap_u32,Anz O]
def dig (h:Int) (b:List Int):Int:=b.foldl ST h
theorem Zr {b:List Int} {h:Int} {i:Nat} (hi:i < b.length):dig h (b.take (i+1))=ST (dig h (b.take i)) b[i]:=by
 unfold dig;rw [Ama hi,AnD];rfl
theorem X6:∀(b:List Int) {h:Int},0<=h/\h < 4294967296->0<=dig h b/\dig h b < 4294967296
 | [],_,h=>h
 | x::b,h,_=>X6 b (AiK h x)
theorem RM {b:List Int} (hl:b.length<=1099511627776) (h:Int):Mv h b=some (dig h b):=by
 unfold Mv;have:=Ai H3 (λi=>(dig h (b.take i),b,(b.length:Int),((i:Nat):Int))) b.length (dig h b) (by
  intro i hi;have hlt:((i:Nat):Int) < (b.length:Int):=O
  unfold H3 gX wI;simp only [hlt,decide_true,Amd,show(0:Int)<=((i:Nat):Int) from by omega,AlX,AlW hi,AlU,An hl hi,Zr hi];rfl) (by simp [H3,gX,wI])
 have e:Ab H3 (h,b,(b.length:Int),0)=some (dig h b):=by simpa [dig] using this
 rw [e];rfl
theorem KT {b:List Int} (hl:b.length<=1099511627776):Hr b=some (dig 2166136261 b):=by
 unfold Hr;rw [RM hl];rfl
theorem KV {b:List Int} (hl:b.length<=1099511627776) (hb:Byt b):HK b=some (dig 2166136261 b):=by
 unfold HK;have:=Ai Gc (λi=>(dig 2166136261 (b.take i),b,(b.length:Int),((i:Nat):Int))) b.length (dig 2166136261 b) (by
  intro i hi;have hlt:((i:Nat):Int) < (b.length:Int):=O
  have hd:=X6 (b.take i) (h:=2166136261) O;have hx:=hb _ (Amc hi);unfold Gc cK gX wI;simp only [hlt,decide_true,Amd,show(0:Int)<=((i:Nat):Int) from by omega,AlX,AlW hi,AlU,show decide (¬ (4294967296:Int)=0)=true from rfl,An hl hi,Zr hi,AhH hd.1 hd.2 hx.1 hx.2]) (by simp [Gc,cK,gX,wI])
 have e:Ab Gc (2166136261,b,(b.length:Int),0)=some (dig 2166136261 b):=by simpa [dig] using this
 have hd:=X6 b (h:=2166136261) O;rw [e,AlU,IntKind.wrap_u32]
 congr 1;omega
def tw (n:Nat):List Int:=[IntKind.wrap .u8 (((n / 256:Nat)):Int),IntKind.wrap .u8 (n:Int)]
theorem Ael (n:Nat):Byt (tw n):=λx hx=>by
 simp only [tw,Ame,AnL,or_false]at hx;rcases hx with rfl | rfl <;> exact P9 _
theorem Yx (n:Nat):Ic (n:Int)=some (tw n):=by
 unfold Ic tw cZ wB;have e:Int.fdiv (n:Int) (2 ^ (min (Int.toNat 8) (IntKind.bits .i64)))=((n / 256:Nat):Int):=by
  rw [show min (Int.toNat 8) (IntKind.bits .i64)=8 from rfl,AnN _ AlS];omega
 rw [e];rfl
theorem Zi {n:Nat} (h:n<=1099511627776):([IntKind.wrap .u8 (IntKind.wrap .i64 (Int.tdiv (n:Int) 256)),IntKind.wrap .u8 (n:Int)]:List Int)=tw n:=by
 unfold tw;rw [An7 O,w64 O O]
 congr 2
def GL (d:Int):List Int:=[IntKind.wrap .u8 (Int.fdiv d (2 ^ (min (Int.toNat 24) (IntKind.bits .u32)))),IntKind.wrap .u8 (Int.fdiv d (2 ^ (min (Int.toNat 16) (IntKind.bits .u32)))),IntKind.wrap .u8 (Int.fdiv d (2 ^ (min (Int.toNat 8) (IntKind.bits .u32)))),IntKind.wrap .u8 d]
theorem Qn (d:Int):QH d=some (GL d):=rfl
def FN (cs:List (List Prt)):List Int:=cs.flatMap λc=>tw (enc c).length++enc c
theorem Wo {cs:List (List Prt)} {i:Nat} (h:i < cs.length):FN (cs.take (i+1))=(FN (cs.take i)++tw (enc cs[i]).length)++enc cs[i]:=by
 unfold FN;rw [Ama h,Am9];simp
theorem MG {c:List Prt} (h:AA c=true):(enc c).length<=720:=by
 have:=(Ci h).len;have:=(Ci h).put;rw [UB];omega
theorem LT:∀{cs:List (List Prt)},(∀c∈cs,AA c=true)->(FN cs).length<=722 * cs.length
 | [],_=>Ane _
 | c::cs,h=>by
  have:=LT (cs:=cs) λx hx=>h x (by simp [hx])
  have h2:=MG (h c Z);simp only [FN,Ana,Al0,Al7]at this ⊢;have:(tw (enc c).length).length=2:=rfl;omega
theorem VF {c:List Prt} (hg:AA c=true):Byt (enc c):=λx hx=>by
 obtain ⟨p,hp,h⟩:=AnK.1 hx;obtain ⟨q1,q2⟩:=I6 hg hp;have hk:=Ahi p;simp only [FO,Al3,Ame,AnL,or_false]at h;rcases h with(rfl | rfl) | h
 .omega
 .omega
 .exact Sd _ x h
theorem Agq {cs:List (List Prt)} (h:∀c∈cs,AA c=true):Byt (FN cs):=λx hx=>by
 obtain ⟨c,hc,h2⟩:=AnK.1 hx;exact(Ael _).append (VF (h c hc)) x h2
def Vy (a b:Int) (t:List UInt8) (l:List Rn):List Int:=(([66,78,68,49,IntKind.wrap .u8 a,IntKind.wrap .u8 b,IntKind.wrap .u8 (t.length:Int)]++Ar t)++tw (EF l).length)++EF l
theorem AgQ (a b:Int) (t:List UInt8) (l:List Rn):Byt (Vy a b t l):=by
 refine Byt.append (Byt.append (Byt.append (λx hx=>?_) (Sd t)) (Ael _)) (Agg l);simp only [Ame,AnL,or_false]at hx;rcases hx with rfl | rfl | rfl | rfl | rfl | rfl | rfl
 .omega
 .omega
 .omega
 .omega
 .exact P9 _
 .exact P9 _
 .exact P9 _
def bun (a b:Int) (t:List UInt8) (l:List Rn) (cs:List (List Prt)):List Int:=Vy a b t l++FN cs
def Pm (a b:Int) (t:List UInt8) (l:List Rn) (cs:List (List Prt)):List Int:=bun a b t l cs++GL (dig 2166136261 (bun a b t l cs))
section
variable {f:Int} {t:List UInt8} {r:List Rn} {cs:List (List Prt)}
def LO (f:Int) (t:List UInt8) (r:List Rn) (cs:List (List Prt)) (a b:Int):List Int:=
 Pm a b (txt t (cs.take (a - f).toNat)) (blm (f+1) r (cs.take (a - f).toNat)) (seg cs (a - f) (b - f))
theorem Yn (g:GH f t r cs) (a b:Int):∀c∈seg cs a b,AA c=true:=λc hc=>Rb g.hc c (AnA (Am7 hc))
theorem AbD (cs:List (List Prt)) (a b:Int):(seg cs a b).length<=cs.length:=by unfold seg;rw [Al4,Amm];omega
theorem O5 {a b:Int} {t:List UInt8} {l:List Rn}:(Vy a b t l).length=9+t.length+2 * l.length:=by
 unfold Vy;simp only [Al0,ED,ID,Al7,Amp,tw];omega
theorem Xd {b0:List Int} {ds:List (List Prt)} (hb:b0.length<=100000) (hn:ds.length<=1000) (hg:∀c∈ds,AA c=true):Ab HZ (b0,ds,(ds.length:Int),0)=some (b0++FN ds):=by
 have:=Ai HZ (λi=>(b0++FN (ds.take i),ds,(ds.length:Int),((i:Nat):Int))) ds.length (b0++FN ds) (by
  intro i hi;have hlt:((i:Nat):Int) < (ds.length:Int):=O
  have gi:=hg _ (Amc hi);have l1:=LT (cs:=ds.take i) λc hc=>hg c (Am7 hc)
  have l2:=MG gi;rw [Al4]at l1;have ht:(tw (enc ds[i]).length).length=2:=rfl;have r1:Aa (List.length (b0++FN (ds.take i))+List.length (tw (enc ds[i]).length)) 1=true:=CW (by rw [Al0];omega) O;have r2:Aa (List.length ((b0++FN (ds.take i))++tw (enc ds[i]).length)+List.length (enc ds[i])) 1=true:=CW (by rw [Al0,Al0];omega) O;unfold HZ cK gX wI;simp only [hlt,decide_true,Amd,show(0:Int)<=((i:Nat):Int) from by omega,AlX,AlW hi,AlU,AcZ (Ci gi) O gi,Yx,r1,r2,An (O:ds.length<=1099511627776) hi,Wo hi];simp only [Al5]) (by simp [HZ,cK,gX,wI])
 simpa [FN] using this
theorem WY {b0:List Int} {ds:List (List Prt)} (hb:b0.length<=100000) (hn:ds.length<=1000) (hg:∀c∈ds,AA c=true):Ab D8 (b0,ds,(ds.length:Int),0)=some (b0++FN ds):=by
 have:=Ai D8 (λi=>(b0++FN (ds.take i),ds,(ds.length:Int),((i:Nat):Int))) ds.length (b0++FN ds) (by
  intro i hi;have hlt:((i:Nat):Int) < (ds.length:Int):=O
  have gi:=hg _ (Amc hi);have l1:=LT (cs:=ds.take i) λc hc=>hg c (Am7 hc)
  have l2:=MG gi;rw [Al4]at l1;have ht:(tw (enc ds[i]).length).length=2:=rfl;have r1:Aa (List.length (b0++FN (ds.take i))+List.length (tw (enc ds[i]).length)) 1=true:=CW (by rw [Al0];omega) O;have r2:Aa (List.length ((b0++FN (ds.take i))++tw (enc ds[i]).length)+List.length (enc ds[i])) 1=true:=CW (by rw [Al0,Al0];omega) O;unfold D8 cK gX wI wB;simp only [hlt,decide_true,Amd,show(0:Int)<=((i:Nat):Int) from by omega,AlX,AlW hi,AlU,UA (Ci gi) O gi,Zi (show(enc ds[i]).length<=1099511627776 by omega),show decide (¬ (256:Int)=0)=true from rfl,r1,r2,An (O:ds.length<=1099511627776) hi,Wo hi];simp only [Al5]) (by simp [D8,cK,gX,wI,wB])
 simpa [FN] using this
theorem Qw (g:GH f t r cs) {a b:Int} (h1:f<=a) (h2:a<=b) (h3:b<=f+cs.length):(txt t (cs.take (a - f).toNat)).length<=120/\(blm (f+1) r (cs.take (a - f).toNat)).length<=120:=by
 have ht:=Ab0 g (a - f).toNat;have hb:=Afc (SL g (a - f).toNat);unfold Un at hb;omega
theorem Z8 (g:GH f t r cs) {a b:Int} (h1:f<=a) (h2:a<=b) (h3:b<=f+cs.length):ON f t r cs a b=some (LO f t r cs a b):=by
 have:=g.hf;have:=g.hn;have w1:IntKind.wrap .i64 (a - f)=a - f:=w64 O O;have w2:IntKind.wrap .i64 (b - f)=b - f:=w64 O O;obtain ⟨l1,l2⟩:=Qw g h1 h2 h3;unfold ON LO cK sX wI wB;rw [Qp g h1 O,AlU,AcV g h1 O,AlU];generalize txt t (cs.take (a - f).toNat)=tx at l1;generalize blm (f+1) r (cs.take (a - f).toNat)=bl at l2;have sl:=AbD cs (a - f) (b - f);have sg:=Yn g (a - f) (b - f);have lp:=Xd (b0:=Vy a b tx bl) (by rw [O5];omega) (show(seg cs (a - f) (b - f)).length<=1000 by omega) sg;have el:=LT sg;have bl0:=O5 (a:=a) (b:=b) (t:=tx) (l:=bl);have bn:(bun a b tx bl (seg cs (a - f) (b - f))).length<=1000000:=by unfold bun;rw [Al0];omega
 rw [Vj O,AlU,Yx,w1,w2];refine Ok.eq (Ok.yes (CW (by simp only [Al7,Amp,ED];omega) O) (Ok.bind_eq rfl (Ok.yes (CW (by simp only [Al0,Al7,Amp,ED,tw];omega) O) (Ok.yes (CW (by simp only [Al0,Al7,Amp,ED,ID,tw];omega) O)
  (Ok.yes AlR (Ok.yes AlR (Ok.yes AlR (Ok.yes Z (Ok.bind_eq lp (Ok.bind_eq (KT (show(bun a b tx bl (seg cs (a - f) (b - f))).length<=1099511627776 by omega)) (Ok.bind_eq (Qn _) (Ok.yes (CW (show(bun a b tx bl (seg cs (a - f) (b - f))).length+4<=1099511627776 by omega) O) (Ok.mk rfl)))))))))))))
def IK (f:Int) (t:List UInt8) (r:List Rn) (cs:List (List Prt)) (a b:Int):List Int×Int:=
 if Ir f t r cs a b=1 then([],1)else if Ir f t r cs a b=2 then([],2)else if 20000 < (((LO f t r cs a b).length:Nat):Int)then([],6)else(LO f t r cs a b,0)
theorem Aaz (h:HB t r cs) (f a b:Int):Ie f t r cs a b=some (IK f t r cs a b):=by
 unfold Ie IK;rw [Afh h,AlU];rcases R0 f a b t r cs with h0 | h0 | h0
 .obtain ⟨g,h1,h2,h3⟩:=Ti h0;rw [h0,AlZ Z,AlZ Z,AlZ Z,AlZ Z,Z8 g h1 h2 h3,AlU];by_cases hl:20000 < (((LO f t r cs a b).length:Nat):Int)
  .rw [Al1 (by simpa using hl),Al1 hl]
  .rw [AlZ (by simpa using hl),AlZ hl]
 .rw [h0];rfl
 .rw [h0];rfl
theorem Aal (h:HB t r cs) (f a b:Int):Ij f t r cs a b=some (IK f t r cs a b):=by
 unfold Ij IK cK cZ sX wI wB;rw [Ac7 h,AlU];rcases R0 f a b t r cs with h0 | h0 | h0
 .obtain ⟨g,h1,h2,h3⟩:=Ti h0;have:=g.hf;have:=g.hn;have w1:IntKind.wrap .i64 (a - f)=a - f:=w64 O O;have w2:IntKind.wrap .i64 (b - f)=b - f:=w64 O O;obtain ⟨l1,l2⟩:=Qw g h1 h2 h3;rw [h0,AlZ Z,AlZ Z,AlZ Z,AlZ Z,WQ g h1 O,AlU,Adj g h1 O,AlU];unfold LO;generalize txt t (cs.take (a - f).toNat)=tx at l1;generalize blm (f+1) r (cs.take (a - f).toNat)=bl at l2;have sl:=AbD cs (a - f) (b - f);have sg:=Yn g (a - f) (b - f);have lp:=WY (b0:=Vy a b tx bl) (by rw [O5];omega) (show(seg cs (a - f) (b - f)).length<=1000 by omega) sg;have el:=LT sg;have bl0:=O5 (a:=a) (b:=b) (t:=tx) (l:=bl);have bn:(bun a b tx bl (seg cs (a - f) (b - f))).length<=1000000:=by unfold bun;rw [Al0];omega
  have bb:Byt (bun a b tx bl (seg cs (a - f) (b - f))):=(AgQ _ _ _ _).append (Agq sg);rw [AaA O,AlU,Zi (show(EF bl).length<=1099511627776 by rw [ID];omega),w1,w2];refine Ok.eq (Ok.yes (CW (by simp only [Al7,Amp,ED];omega) O) (Ok.yes rfl (Ok.yes (CW (by simp only [Al0,Al7,Amp,ED,tw];omega) O) (Ok.yes (CW (by simp only [Al0,Al7,Amp,ED,ID,tw];omega) O)
   (Ok.yes AlR (Ok.yes AlR (Ok.yes AlR (Ok.yes Z (Ok.bind_eq lp (Ok.bind_eq (KV (show(bun a b tx bl (seg cs (a - f) (b - f))).length<=1099511627776 by omega) bb) (Ok.yes rfl (Ok.yes rfl (Ok.yes rfl (Ok.yes (CW (show(bun a b tx bl (seg cs (a - f) (b - f))).length+4<=1099511627776 by omega) O) ?_))))))))))))))
  show Ok (if decide (20000 < (((Pm a b tx bl (seg cs (a - f) (b - f))).length:Nat):Int))=true then some ([],6)else some (Pm a b tx bl (seg cs (a - f) (b - f)),0)) _;by_cases hl:20000 < (((Pm a b tx bl (seg cs (a - f) (b - f))).length:Nat):Int)
  .rw [Al1 (by simpa using hl),Al1 hl];exact Ok.mk rfl
  .rw [AlZ (by simpa using hl),AlZ hl];exact Ok.mk rfl
 .rw [h0];rfl
 .rw [h0];rfl
theorem Ya (f a b:Int) (t:List UInt8) (r:List Rn) (cs:List (List Prt)):(IK f t r cs a b).1.length<=20000:=by
 unfold IK;split
 .exact Ane _
 .split
  .exact Ane _
  .split
   .exact Ane _
   .rename_i h;dsimp only;omega
end
end Go.V.G
set_option maxRecDepth 100000
namespace Go.V.G
open Go.V
def NA (d:List Int):List Int:=d++List.replicate (124 - d.length) 0
theorem JV {d:List Int} (h:d.length<=124):(NA d).length=124:=by unfold NA;simp;omega
theorem V6 {d:List Int} (h:d.length<=124):LX d 124=some (NA d):=by
 unfold LX NA cK cZ wI;rw [w64 O O,iy O,(O:Int.toNat ((124:Int) - (d.length:Int))=124 - d.length),Al1 (by simp only [Aa,decide_eq_true_eq,AmM];omega)]
theorem VA {d:List Int} (h:U8s d):U8s (NA d):=λv hv=>by
 unfold NA at hv;rcases Al3.1 hv with hv | hv
 .exact h v hv
 .rw [(List.mem_replicate.1 hv).2];omega
theorem AbF (d:Int):U8s (GL d):=λv hv=>by
 simp only [GL,Ame,AnL,or_false]at hv;rcases hv with rfl | rfl | rfl | rfl <;> exact VH _
def sgn (d:List Int):List Int:=d++GL (dig 2166136261 d)
theorem Aik (d:List Int):(sgn d).length=d.length+4:=by unfold sgn GL;simp
def Td (f hd ev r t:Int):List Int:=[83,84,82,49,f,hd,ev,0,0,r,0,t]
def OZ (f hd ev r t:Int):List Int:=sgn (NA (Td f hd ev r t))
structure SupOk (f hd ev:Int) (r t:Nat):Prop where
 f:0<=f/\f<=hd
 h:hd<=60
 e:1<=ev/\ev<=30
 r:33<=r/\r<=159
 t:33<=t/\t<=159
theorem Ahe (f hd ev r t:Int):(OZ f hd ev r t).length=128:=by unfold OZ;rw [Aik,JV (by simp [Td])]
theorem Acl {f hd ev:Int} {r t:Nat} (h:SupOk f hd ev r t):U8s (Td f hd ev r t):=λv hv=>by
 have h1:=h.f;have h2:=h.h;have h3:=h.e;have h4:=h.r;have h5:=h.t;simp only [Td,Ame,AnL,or_false]at hv;rcases hv with rfl | rfl | rfl | rfl | rfl | rfl | rfl | rfl | rfl | rfl | rfl | rfl <;> omega
theorem AhW {f hd ev:Int} {r t:Nat} (h:SupOk f hd ev r t):U8s (OZ f hd ev r t):=λv hv=>by
 unfold OZ sgn at hv;rcases Al3.1 hv with hv | hv
 .exact VA (Acl h) v hv
 .exact AbF _ v hv
theorem Adx {f hd ev:Int} {r t:Nat} (h:SupOk f hd ev r t):E9 f hd ev (r:Int) (t:Int)=some (OZ f hd ev r t,true):=by
 have h1:=h.f;have h2:=h.h;have h3:=h.e;have h4:=h.r;have h5:=h.t;unfold E9 HP KM cK;rw [iy h1.1,iy h1.2,decide_eq_true h2,AlU,AlU,AlZ Z,AK,decide_eq_true h3,AlU,AlZ Z,AK,decide_eq_true O,AlU,AlU,AlZ Z,
  AK,decide_eq_true O,AlU,AlU,AlU]
 dsimp only;rw [AlZ Z,AeS O,AeS O,AlU,AlU,wub (r:=f) O O,wub (r:=hd) O O,wub (r:=ev) O O,
  Al1 (by simp [Aa]),Al1 (by simp [Aa]),V6 Z,AlU,KT (by rw [JV Z];omega),AlU,Qn,AlU,Al1 (by
   simp only [Aa,decide_eq_true_eq];rw [JV Z];simp [GL])]
 rfl
theorem Acp {f hd ev:Int} {r t:Nat} (h:SupOk f hd ev r t):Ln f hd ev (r:Int) (t:Int)=some (OZ f hd ev r t):=by
 have h1:=h.f;have h2:=h.h;have h3:=h.e;have h4:=h.r;have h5:=h.t;unfold Ln cK cZ wI wB;simp only [wub (r:=f) O O,wub (r:=hd) O O,wub (r:=ev) O O,wub (r:=(r:Int)) O O,wub (r:=(t:Int)) O O,w8d (m:=r) O,w8d (m:=t) O];have e:IntKind.wrap .i64 (124 - (List.length [83,84,82,49,f,hd,ev,0,0,(r:Int),0,(t:Int)]:Int))=112:=by
  simp only [Al7,Amp];rw [w64 O O];rfl
 rw [e,iy AlS,iy AlS,iy O,Al1 (by simp [Aa])];have ep:[83,84,82,49,f,hd,ev,0,0,(r:Int),0,(t:Int)]++List.replicate (Int.toNat 112) 0=NA (Td f hd ev r t):=rfl;rw [ep,KV (by rw [JV (by simp [Td])];omega) (VA (Acl h)),AlU,iy O,iy O,iy O,Al1 (by
  simp only [Aa,decide_eq_true_eq];rw [JV (by simp [Td])];simp)]
 rfl
end Go.V.G
set_option maxRecDepth 100000
namespace Go.V.G
open Go.V
abbrev Wr:=Int×List Int
section
variable {b:Bls} {x y z d:List Int}
structure GrOk (n:Nat) (g:List Wr):Prop where
 len:g.length<=2100
 at_:∀w∈g,0<=w.1/\w.1 < (n:Int)
 hd:∀w∈g,w.2.length=128
 u8:∀w∈g,U8s w.2
end
end Go.V.G
set_option maxRecDepth 100000
namespace Go.V.G
open Go.V
def hdA (g:List Wr) (k:Nat):List Int:=[76,79,71,49,(g.length:Int)]++(g.take k).flatMap λw=>Eg w.1
theorem NX (g:List Wr) (k:Nat):(hdA g k).length<=5+2 * k:=by
 unfold hdA;have:((g.take k).flatMap λw=>Eg w.1).length=2 * (g.take k).length:=by
  generalize g.take k=l
  induction l with
  | nil=>rfl
  | cons a l ih=>rw [Ana,Al0,ih];simp [Eg];omega
 rw [Al0,this,Al4];simp only [Al7,Amp];omega
def dat (g:List Wr) (k:Nat):List Int:=(g.take k).flatMap (·.2)
theorem SG {g:List Wr} {k:Nat} {w:Wr} (h:g[k]?=some w):dat g (k+1)=dat g k++w.2:=by
 unfold dat;rw [C9 h,Am9];simp
theorem XK {g:List Wr} {k:Nat} {w:Wr} (h:g[k]?=some w):hdA g (k+1)=hdA g k++Eg w.1:=by
 unfold hdA;rw [C9 h,Am9,Al5];simp
def hdH (g:List Wr):List Int:=NA (hdA g g.length)
def OI (g:List Wr):List Int:=hdH g++GL (dig (dig 2166136261 (hdH g)) (dat g g.length))
theorem Aj0 (n:Int):U8s (Eg n):=λv hv=>by
 simp only [Eg,Ame,AnL,or_false]at hv;rcases hv with rfl | rfl <;> exact VH _
theorem Afy {g:List Wr} (h:g.length<=30):U8s (hdH g):=VA λv hv=>by
 unfold hdA at hv;rcases Al3.1 hv with hv | hv
 .simp only [Ame,AnL,or_false]at hv;rcases hv with rfl | rfl | rfl | rfl | rfl <;> omega
 .obtain ⟨w,_,hw⟩:=AnK.1 hv;exact Aj0 _ v hw
theorem JZ {g:List Wr} (h:g.length<=30):(hdH g).length=124:=JV (by have:=NX g g.length;omega)
theorem Agx {g:List Wr} (h:g.length<=30):(OI g).length=128:=by unfold OI GL;rw [Al0,JZ h];rfl
theorem AhF {g:List Wr} (h:g.length<=30):U8s (OI g):=λv hv=>by
 unfold OI at hv;rcases Al3.1 hv with hv | hv
 .exact Afy h v hv
 .exact AbF _ v hv
theorem Abe (h:Int) (a b:List Int):dig (dig h a) b=dig h (a++b):=by unfold dig;rw [AnD]
def nul:Wr:=(0,[])
def gw (g:List Wr) (k:Nat):Wr:=g[k]?.getD nul
theorem EX {g:List Wr} {k:Nat} (h:k < g.length):g[k]?=some (gw g k):=by unfold gw;rw [AlW h];rfl
theorem UR {n:Nat} {g:List Wr} (h:GrOk n g):∀k,k<=g.length->(dat g k).length=128 * k
 | 0,_=>rfl
 | k+1,hk=>by
  have hg:=EX (g:=g) (k:=k) O;have:=h.hd _ (AmI hg);rw [SG hg,Al0,UR h k O,this];omega
theorem AiU {n:Nat} {g:List Wr} (h:GrOk n g) (k:Nat):U8s (dat g k):=λv hv=>by
 obtain ⟨w,hw,hv⟩:=AnK.1 hv;exact h.u8 w (Am7 hw) v hv
section
variable {n:Nat} {g:List Wr}
theorem AgT (hl:g.length<=30) (d:Int):Aa ((hdH g).length+(GL d).length) 1=true:=by
 rw [JZ hl,show(GL d).length=4 from rfl];rfl
theorem AaP (h:GrOk n g) (hn:n<=160) (hl:g.length<=30):Pu g=some (OI g):=by
 unfold Pu cK wB;have h1:=Ai H5 (λk=>(g,hdA g k,g,(g.length:Int),((k:Nat):Int))) g.length (g,hdA g g.length) (λk hk=>by
   have hg:=EX hk;have ha:=h.at_ _ (AmI hg);have hal:=NX g k;have hr:Aa ((hdA g k).length+(Eg (gw g k).1).length) 1=true:=by
    rw [show(Eg (gw g k).1).length=2 from rfl];simp only [Aa,decide_eq_true_eq];omega
   unfold H5 cK gX wI;dsimp only;rw [iy O,iy O,AlX,hg,AlU,AiM O,AlU,Al1 hr,Am O,XK hg]) (by
   unfold H5 cK gX wI;dsimp only;rw [ino O])
 have e0:hdA g 0=[76,79,71,49,IntKind.wrap .u8 (g.length:Int)]:=by unfold hdA;rw [wub O O];rfl
 rw [<- e0,show Ab H5 (g,hdA g 0,g,(g.length:Int),0)=_ from h1,AlU];dsimp only;rw [V6 (by have:=NX g g.length;omega),AlU,show NA (hdA g g.length)=hdH g from rfl,KT (by rw [JZ hl];omega),AlU];have h2:=Ai HQ (λk=>(hdH g,dig (dig 2166136261 (hdH g)) (dat g k),g,(g.length:Int),((k:Nat):Int))) g.length (hdH g,dig (dig 2166136261 (hdH g)) (dat g g.length)) (λk hk=>by
   have hg:=EX hk;have hd:=h.hd _ (AmI hg);unfold HQ gX wI;dsimp only;rw [iy O,iy O,AlX,hg,AlU,RM O,AlU,Am O,SG hg,Abe]) (by
   unfold HQ gX wI;dsimp only;rw [ino O])
 have e1:dig (dig 2166136261 (hdH g)) (dat g 0)=dig 2166136261 (hdH g):=by
  generalize dig 2166136261 (hdH g)=q;unfold dat;rw [AnY];rfl
 have h3:Ab HQ (hdH g,dig (dig 2166136261 (hdH g)) (dat g 0),g,(g.length:Int),0)=some (hdH g,dig (dig 2166136261 (hdH g)) (dat g g.length)):=h2;rw [e1]at h3;rw [h3,AlU];dsimp only;rw [Qn,AlU,Al1 (AgT hl _)];rfl
theorem AaD (h:GrOk n g) (hn:n<=160) (hl:g.length<=30):K6 g=some (OI g):=by
 have hal':=NX g g.length;unfold K6 cK cZ wI wB;have h1:=Ai Ge (λk=>(g,hdA g k,g,(g.length:Int),((k:Nat):Int))) g.length (g,hdA g g.length) (λk hk=>by
   have hg:=EX hk;have ha:=h.at_ _ (AmI hg);have hal:=NX g k;have hr:Aa ((hdA g k).length+(Eg (gw g k).1).length) 1=true:=by
    rw [show(Eg (gw g k).1).length=2 from rfl];simp only [Aa,decide_eq_true_eq];omega
   unfold Ge cK gX wI wB;dsimp only;rw [iy O,iy O,AlX,hg,AlU,iy O,AlO O,show([IntKind.wrap .u8 ((gw g k).1 / 256),IntKind.wrap .u8 (gw g k).1]:List Int)=Eg (gw g k).1 from rfl,
    Al1 hr,Am O,XK hg]) (by
   unfold Ge cK gX wI wB;dsimp only;rw [ino O])
 have e0:hdA g 0=[76,79,71,49,IntKind.wrap .u8 (g.length:Int)]:=by unfold hdA;rw [wub O O];rfl
 rw [<- e0,show Ab Ge (g,hdA g 0,g,(g.length:Int),0)=_ from h1,AlU];dsimp only;have ew:IntKind.wrap .i64 (124 - (((hdA g g.length).length:Nat):Int))=((124 - (hdA g g.length).length:Nat):Int):=by rw [w64 O O];omega
 rw [ew,iy O,AlX,show hdA g g.length++List.replicate (124 - (hdA g g.length).length) 0=hdH g from rfl,Al1 (by simp only [Aa,decide_eq_true_eq,AmM];omega),
  Al1 (by simp only [Aa,decide_eq_true_eq,Amp];rw [JZ hl];omega),Ams]
 have h2:=Ai F6 (λk=>(hdH g,hdH g++dat g k,g,(g.length:Int),((k:Nat):Int))) g.length (hdH g,hdH g++dat g g.length) (λk hk=>by
   have hg:=EX hk;have hd:=h.hd _ (AmI hg);have hdl:=UR h k O;have hhl:=JZ hl;unfold F6 cK gX wI;dsimp only;rw [iy O,iy O,AlX,hg,AlU,Al1 (by simp only [Aa,decide_eq_true_eq,Al0];omega),Am O,SG hg,Al5]) (by
   unfold F6 cK gX wI;dsimp only;rw [ino O])
 have e1:hdH g++dat g 0=hdH g:=by unfold dat;simp
 rw [e1]at h2;have hdl:=UR h g.length (Amu _);have hhl:=JZ hl;rw [show Ab F6 (hdH g,hdH g,g,(g.length:Int),0)=_ from h2,AlU];dsimp only;rw [KV (by rw [Al0];omega) (λv hv=>by
   rcases Al3.1 hv with hv | hv
   .exact Afy hl v hv
   .exact AiU h _ v hv),AlU,iy O,iy O,iy O,Al1 (by simp only [Aa,decide_eq_true_eq];rw [JZ hl];simp),<- Abe]
 rfl
theorem w3 {k:Nat} (h:k<=1048576):IntKind.wrap .i64 (3+(k:Int))=((3+k:Nat):Int):=by rw [w64 O O];omega
end
end Go.V.G
set_option maxRecDepth 100000
namespace Go.V.G
open Go.V
theorem V1:∀(l:List Int) (k:Nat),k < l.length->(l.flatMap Eg)[2 * k]?=some (IntKind.wrap .u8 (gb l k / 256))/\(l.flatMap Eg)[2 * k+1]?=some (IntKind.wrap .u8 (gb l k))
 | [],k,h=>by simp at h
 | a::l,0,_=>⟨rfl,rfl⟩
 | a::l,k+1,h=>by
  have ih:=V1 l k (by simpa using h);have e:(a::l).flatMap Eg=IntKind.wrap .u8 (a / 256)::IntKind.wrap .u8 a::l.flatMap Eg:=rfl;have g:gb (a::l) (k+1)=gb l k:=rfl;rw [e,g,(O:2 * (k+1)=2 * k+1+1),Am3,Am3,Am3,Am3];exact ih
theorem Wb {kind:Int} {l:List Int} (hl:l.length=32) (hv:V2 l):BW (Dz (pgb kind l))=l:=by
 have key:∀k,k < 32->num (Dz (pgb kind l)) (1+2 * k)=gb l k:=λk hk=>by
  obtain ⟨h1,h2⟩:=V1 l k O;have hf:=Qy l;have e:∀j,j < 64->gb (Dz (pgb kind l)) (1+j)=((l.flatMap Eg)[j]?).getD 0:=λj hj=>by
   unfold Dz pgb gb;rw [AmQ (by rw [Al0,hf,hl];simp;omega),AmE Z];simp
  have hvv:=hv _ (AmI (Aj (O:k < l.length)));unfold num;rw [(O:1+2 * k+1=1+(2 * k+1)),e (2 * k) O,e (2 * k+1) O,h1,h2,AmG,AmG,IntKind.wrap_u8,IntKind.wrap_u8];omega
 unfold BW;rw [show(List.range 32).map (λk=>num (Dz (pgb kind l)) (1+2 * k))=(List.range 32).map (gb l) from AmV λk hk=>key k (AnG.1 hk)];exact AcA hl
theorem VY (kind:Int) (l:List Int):gb (Dz (pgb kind l)) 0=kind:=rfl
theorem Wg {kind:Int} {l:List Int} (hl:l.length=32):rz (Dz (pgb kind l)) 65=true:=AiT 65 (AbE kind hl).symm
structure Lf (b:Bls) (x y top:List Int) (root:Int) (k:Nat):Prop where
 lv:liv b x y (gb top k)=true
 kd:gb (blk b (gb top k).toNat) 0=81
 rz:rz (blk b (gb top k).toNat) 65=true
 nz:nz (BW (blk b (gb top k).toNat))=true
 vs:NO b x (BW (blk b (gb top k).toNat))=false
 un:∀j,j < k->gb top j≠gb top k
 rt:root≠0/\liv b x y root=true/\gb (blk b root.toNat) 0=80
theorem Mk {b:Bls} {x y top:List Int} {root:Int} (h:tre b x y root=some top) {k:Nat} (hk:k < 32) (h0:gb top k≠0):Lf b x y top root k:=by
 have htl:=IU h;unfold tre at h;split at h
 .obtain rfl:=Anf h;exact absurd (Afq k) h0
 .rename_i hr;split at h
  .rename_i hc;obtain rfl:=Anf h;simp only [Al2]at hc;obtain ⟨c1,c2,c3⟩:=hc;have:=all_range.1 c3 k hk;unfold stG at this;rw [decide_eq_false h0,Anh]at this;simp only [Al2,Al9]at this;obtain ⟨p1,p2,p3,p4⟩:=this;unfold pgB at p1 c1;simp only [Al2,decide_eq_true_eq]at p1 c1;refine⟨p1.1,p1.2.1,p1.2.2,p2,p4,λj hj he=>?_,hr,c1.1,c1.2.1⟩;rw [Am4]at p3;have hm:gb (Jb b root) j∈(Jb b root).take k:=by
    have:((Jb b root).take k)[j]?=some (gb (Jb b root) j):=by rw [Ami hj,Aj O]
    exact AmI this
   have:=p3 _ hm;rw [he]at this;simp at this
  .cases h
theorem ZP {b:Bls} {x y top:List Int} {root:Int} (h:tre b x y root=some top) (h0:root≠0):liv b x y root=true/\gb (blk b root.toNat) 0=80:=by
 unfold tre at h;rw [AlZ h0]at h;split at h
 .rename_i hc;simp only [Al2]at hc;have:=hc.1;unfold pgB at this;simp only [Al2,decide_eq_true_eq]at this;exact⟨this.1,this.2.1⟩
 .cases h
theorem Of (top:List Int) (l:List Kv):∀k v,v∈Nx top l k->∃j,j < k/\v=gb top j/\gb top j≠0/\oth l j=true
 | 0,v,h=>by cases h
 | k+1,v,h=>by
  simp only [Nx]at h;split at h
  .rename_i ho;unfold goS at h;split at h
   .obtain ⟨j,h1,h2⟩:=Of top l k v h;exact⟨j,O,h2⟩
   .rename_i hn;rcases Al3.1 h with h | h
    .obtain ⟨j,h1,h2⟩:=Of top l k v h;exact⟨j,O,h2⟩
    .exact⟨k,O,Al6.1 h,hn,ho⟩
  .obtain ⟨j,h1,h2⟩:=Of top l k v h;exact⟨j,O,h2⟩
theorem X9 {b:Bls} {x y:List Int} {m:Nat} (h1:33<=m) (h2:m < b.length) (h3:bit x m=true) (h4:(m:Int)∉y):liv b x y (m:Int)=true:=by
 unfold liv;rw [decide_eq_true O,AlX,h3,decide_eq_false h4];rfl
theorem AjP {b b':Bls} {x x':List Int} {v:Int} (hb:b'.length=b.length) (hl:b.length<=160) (hx:∀i,i < 160->bit x i=true->bit x' i=true) (h:isb b x v=true):isb b' x' v=true:=by
 unfold isb at h ⊢;simp only [Al2,decide_eq_true_eq]at h ⊢;rw [hb];exact⟨h.1,hx _ O h.2⟩
theorem AhL {b:Bls} {x y:List Int} {v:Int} (h:liv b x y v=true):isb b x v=true:=by
 unfold liv at h;unfold isb;simp only [Al2]at h ⊢;exact⟨h.1,h.2.1⟩
theorem bad_no {b:Bls} {x l:List Int}:NO b x l=false↔∀v∈l,v=0\/isb b x v=true:=by
 unfold NO;rw [Am4];constructor
 .intro h v hv;have:=h v hv;by_cases h0:v=0
  .exact .inl h0
  .right;rw [decide_eq_true h0,Amg]at this;simpa using this
 .intro h v hv;rcases h v hv with h0 | h0
  .rw [decide_eq_false (not_not_intro h0)];simp
  .rw [h0];simp
theorem Ah6 {b:Bls} {x y top:List Int} {l:List Kv} {root:Int} (ht:tre b x y root=some top) (hl:∀s∈l,s.2=0\/liv b x y s.2=true) {k:Nat} (hk:k < 32):∀v∈av b top l k,v=0\/isb b x v=true:=by
 have h0:∀v∈lfv b (gb top k),v=0\/isb b x v=true:=by
  unfold lfv;split
  .intro v hv;exact .inl (AnH hv)
  .rename_i hn;exact bad_no.1 (Mk ht hk hn).vs
 unfold av;have key:∀(l:List Kv) (w:List Int),(∀v∈w,v=0\/isb b x v=true)->(∀s∈l,s.2=0\/liv b x y s.2=true)->∀v∈l.foldl (upd k) w,v=0\/isb b x v=true:=by
  intro l
  induction l with
  | nil=>intro w h _;exact h
  | cons s l ih=>
   intro w h hs;rw [Anw];refine ih _ ?_ λs' h'=>hs s' (by simp [h'])
   unfold upd;split
   .intro v hv;rcases Am1 hv with hv | rfl
    .exact h v hv
    .exact(hs s Z).imp id AhL
   .exact h
 exact key l _ h0 hl
structure Tn (b:Bls) (x y z top:List Int) (l:List Kv) (root at_:Int) (b':Bls) (x' y' z':List Int):Prop where
 gs:GS b' x' y' z'
 bu:∀c∈b',U8s c
 bl:b'.length=b.length
 ux:U8s x'
 tr:∃nx,tre b' x' y' at_=some nx/\∀k,k < 32->lfv b' (gb nx k)=av b top l k
 ot:∀i,i < 160->bit x i=true->blk b' i=blk b i
theorem Sk.tn {b b':Bls} {x y z top x' y' z':List Int} {l:List Kv} {root at_:Int} (g:GS b x y z) (hu:∀c∈b,U8s c) (ht:tre b x y root=some top) (hs:Adc b x y l=true) (s:Sk b x y z top l root at_ b' x' y' z'):Tn b x y z top l root at_ b' x' y' z':=by
 obtain ⟨hl64,hk,hlv,_⟩:=Aie hs;have hb:=g.hb;have htl:=IU ht;have htv:=Aj4 hu ht;obtain ⟨hyr,hyl⟩:=g.ylen;obtain ⟨yr',yl',ym'⟩:=s.yl hyr O;have hw:=s.wk;obtain ⟨nx,b1,x1,z1,q1,tv,hq1,_,hnn,hend⟩:=s.ex;have hnl:=tv.nl;have hnv:=Akn hb.2 htv htl tv;have hyb:∀v∈y,∃m:Nat,v=((m:Nat):Int)/\(33<=m/\m < b.length)/\bit x m=true:=λv hv=>by
  obtain ⟨i,hi,rfl⟩:=AmA hv;have:=(GD g.hy).2 i hi;exact⟨(y[i]).toNat,O,O,this.2.2⟩
 have hgone:∀v∈y',∃m:Nat,v=((m:Nat):Int)/\(33<=m/\m < b.length)/\bit x m=true:=λv hv=>by
  rcases (ym' v).1 hv with hv | hv
  .exact hyb v hv
  .rcases Al3.1 hv with hv | hv
   .obtain ⟨j,hj,rfl,hn,_⟩:=Of _ _ _ _ hv;obtain ⟨m,e,h1,h2,h3,_⟩:=Cs (Mk ht hj hn).lv;exact⟨m,e,⟨h1,h2⟩,h3⟩
   .unfold rtL at hv;split at hv
    .cases hv
    .rename_i hr;rw [Al6]at hv;subst hv;obtain ⟨m,e,h1,h2,h3,_⟩:=Cs (ZP ht hr).1;exact⟨m,e,⟨h1,h2⟩,h3⟩
 have hup:(∀i,i < 160->bit x1 i=true->bit x' i=true)/\(∀i,i < 160->bit x1 i=true->blk b' i=blk b1 i)/\(∀c∈b',U8s c)/\(∀v∈z',v∈z1\/∃m:Nat,v=((m:Nat):Int)/\(33<=m/\m < b.length)/\bit x' m=true)/\(∀i,b.length<=i->i < 160->bit x' i=bit x1 i):=by
  rcases hend with⟨_,_,rfl,rfl,rfl⟩ | ⟨_,m,_,hm,hbm,rfl,rfl,rfl,_,_⟩
  .exact⟨λi _ h=>h,λi _ _=>rfl,tv.bu,λv hv=>.inl hv,λi _ _=>rfl⟩
  .have hx1:=tv.wk.hx;have hb1:=tv.wk.hb;have hz1:=tv.wk.hz;have hbit:∀i,i < 160->bit (setB x1 m) i=(decide (i=m) || bit x1 i):=λi hi=>Rj tv.wk.hu O O
   obtain ⟨_,_,z3,z4,z5⟩:=MH (z:=z1) O tv.wk.hr ((m:Nat):Int);obtain ⟨_,_,_,_,y5⟩:=MH (z:=pt z1 ((m:Nat):Int)) O z4 ((m:Nat):Int);refine⟨λi hi h=>by rw [hbit i hi,h,Aoo],λi hi h=>?_,λc hc=>?_,λv hv=>?_,λi h1 h2=>by rw [hbit i h2,decide_eq_false (O:¬ i=m),Anh]⟩
   .have him:m≠i:=by rintro rfl;rw [hbm]at h;cases h
    rw [Lk him,Lk him]
   .rcases Am1 hc with hc | rfl
    .rcases Am1 hc with hc | rfl
     .exact tv.bu c hc
     .exact Y2
    .exact AeU O
   .have key:v∈z1\/v=((m:Nat):Int):=by
     rcases (y5 v).1 hv with hv | hv
     .exact(z5 v).1 hv
     .exact .inr hv
    rcases key with hv | rfl
    .exact .inl hv
    .exact .inr ⟨m,rfl,hm,by rw [hbit m O];simp⟩
 obtain ⟨up1,up2,up3,up4,up5⟩:=hup;have hx':∀i,i < 160->bit x i=true->bit x' i=true:=λi hi h=>up1 i hi (tv.ot i hi h).2
 have hblk:∀i,i < 160->bit x i=true->blk b' i=blk b i:=λi hi h=>by
  have:=tv.ot i hi h;rw [up2 i hi this.2];exact this.1
 have hbl:b'.length=b.length:=hw.hb;have hfree:∀m:Nat,bit x m=false->((m:Nat):Int)∉y':=λm hm hh=>by
  obtain ⟨m',e,_,h⟩:=hgone _ hh;obtain rfl:m=m':=O
  rw [hm]at h;cases h
 have hgs:GS b' x' y' z':=by
  refine⟨by rw [hbl];exact hb,hw.hx,hw.hk,λi hi=>?_,?_,?_⟩
  .rw [hbl];have hg:=g.hbits i hi;unfold bG at hg ⊢;by_cases h33:i < 33
   .have hl:=hw.hlow i h33;rw [hl,decide_eq_false (O:¬ b.length<=i)];simp
   .by_cases hin:b.length<=i
    .rw [up5 i hin hi,tv.hi i hin hi];rw [decide_eq_false h33]at hg ⊢;exact hg
    .rw [decide_eq_false h33,decide_eq_false hin];simp
  .rw [hbl];refine NT yr' λv hv=>?_
   obtain ⟨m,rfl,hm,hbm⟩:=hgone v hv;exact⟨O,O,by rw [AlX];exact hx' m O hbm⟩
  .rw [hbl];refine NT hw.hr λv hv=>?_
   have hnew:∀m:Nat,(33<=m/\m < b.length)->bit x' m=true->33<=((m:Nat):Int)/\((m:Nat):Int)<=(b.length:Int) - 1/\bit x' (((m:Nat):Int)).toNat=true:=λm hm h=>⟨O,O,by rw [AlX];exact h⟩
   rcases up4 v hv with hv | ⟨m,rfl,hm,h⟩
   .rcases tv.zm v hv with hv | ⟨m,rfl,hm,h⟩
    .obtain ⟨i,hi,rfl⟩:=AmA hv;have:=(GD g.hz).2 i hi;exact⟨this.1,this.2.1,hx' _ O this.2.2⟩
    .exact hnew m hm (up1 m O h)
   .exact hnew m hm h
 refine⟨hgs,up3,hbl,hw.hu,?_,hblk⟩;have hleaf:∀k,k < 32->lfv b' (gb nx k)=av b top l k:=λk hk32=>by
  cases ho:oth l k with
  | false=>
   rw [Ahz ho,tv.st k hk32 (.inr ho)];unfold lfv;split
   .rfl
   .rename_i hn;have lf:=Mk ht hk32 hn;obtain ⟨m,e,h1,h2,h3,_⟩:=Cs lf.lv;rw [e,AlX,hblk m O h3]
  | true=>
   cases hz:nz (av b top l k)with
   | false=>
    rw [tv.dz k hk32 ho hz];unfold lfv;rw [Al1 rfl];have hal:=Uv b top l k;have hall:∀v∈av b top l k,v=0:=λv hv=>by
     unfold nz at hz;rw [Am4]at hz;have:=hz v hv;simpa using this
    refine(List.eq_replicate_iff.2 ⟨hal,hall⟩).symm
   | true=>
    obtain ⟨m,e,hm,_,h3,h4⟩:=tv.dn k hk32 ho hz;unfold lfv;rw [e,AlZ O,AlX,up2 m O h3,h4,Wb (Uv b top l k) (AkA hu (λs hs=>Ai2 hb.2 (hlv s hs)) k)]
 have hst:∀k,k < 32->stG b' x' y' nx k=true:=λk hk32=>by
  unfold stG;by_cases h0:gb nx k=0
  .rw [decide_eq_true h0,Bool.true_or]
  rw [decide_eq_false h0,Anh];have hlk:=hleaf k hk32;have hpn:BW (blk b' (gb nx k).toNat)=av b top l k:=by
   rw [<- hlk];unfold lfv;rw [AlZ h0]
  rw [hpn];have hbad:NO b' x' (av b top l k)=false:=bad_no.2 λv hv=>(Ah6 ht hlv hk32 v hv).imp id (AjP hbl hb.2 hx')
  rw [hbad];have hne:∀j,j < k->gb nx j≠gb nx k->True:=λ_ _ _=>trivial
  have hun:(∀j,j < k->gb nx j≠gb nx k)->((nx.take k).any λv=>decide (v=gb nx k))=false:=λh=>by
   rw [Am4];intro v hv;obtain ⟨j,hj,rfl⟩:=AmA hv;rw [Al4]at hj;rw [List.getElem_take];have:=h j O;unfold gb at this;rw [AlW O,AmG]at this;unfold gb;simpa using this
  have hwhat:∀j,j < 32->gb nx j≠0->(∃m:Nat,gb nx j=((m:Nat):Int)/\bit x m=false)\/(gb nx j=gb top j/\gb top j≠0/\oth l j=false):=λj hj hjn=>by
   cases ho:oth l j with
   | false=>
    have:=tv.st j hj (.inr ho);exact .inr ⟨this,by rw [<- this];exact hjn,rfl⟩
   | true=>
    cases hz:nz (av b top l j)with
    | false=>exact absurd (tv.dz j hj ho hz) hjn
    | true=>obtain ⟨m,e,_,hx0,_,_⟩:=tv.dn j hj ho hz;exact .inl ⟨m,e,hx0⟩
  cases ho:oth l k with
  | true=>
   cases hz:nz (av b top l k)with
   | false=>exact absurd (tv.dz k hk32 ho hz) h0
   | true=>
    obtain ⟨m,e,hm,hx0,h3,h4⟩:=tv.dn k hk32 ho hz;have hb4:blk b' m=Dz (pgb 81 (av b top l k)):=by rw [up2 m O h3];exact h4
    have hp:pgB b' x' y' (gb nx k) 81=true:=by
     unfold pgB;rw [e,AlX,hb4,X9 O O (up1 m O h3) (hfree m hx0),decide_eq_true (VY 81 _),Wg (Uv b top l k)];rfl
    have hd:=hun λj hj he=>by
     have hj0:gb nx j≠0:=by rw [he];exact h0
     rcases hwhat j O hj0 with⟨m2,e2,hx2⟩ | ⟨e2,hn2,_⟩
     .cases hoj:oth l j with
      | false=>
       have:=tv.st j O (.inr hoj);rw [this]at hj0;obtain ⟨m3,e3,_,_,h3x,_⟩:=Cs (Mk ht O hj0).lv;rw [this,e3]at e2;obtain rfl:m3=m2:=O
       rw [hx2]at h3x;cases h3x
      | true=>
       cases hzj:nz (av b top l j)with
       | false=>exact absurd (tv.dz j O hoj hzj) hj0
       | true=>exact tv.ds j k hj hk32 hoj ho hzj hz he
     .obtain ⟨m3,e3,_,_,h3x,_⟩:=Cs (Mk ht (O:j < 32) hn2).lv;rw [e2,e3,e]at he;obtain rfl:m3=m:=O
      rw [hx0]at h3x;cases h3x
    rw [hp,hd];rfl
  | false=>
   have e:=tv.st k hk32 (.inr ho);have hn:gb top k≠0:=by rw [<- e];exact h0
   have lf:=Mk ht hk32 hn;obtain ⟨m,em,h1,h2,h3,h4⟩:=Cs lf.lv;have hz:nz (av b top l k)=true:=by rw [Ahz ho];unfold lfv;rw [AlZ hn];exact lf.nz
   have hny:((m:Nat):Int)∉y':=λhh=>by
    rcases (ym' _).1 hh with hh | hh
    .exact h4 hh
    .rcases Al3.1 hh with hh | hh
     .obtain ⟨j,hj,ej,hnj,hoj⟩:=Of _ _ _ _ hh;have hjk:j≠k:=by rintro rfl;rw [ho]at hoj;cases hoj
      rcases Nat.lt_or_gt_of_ne hjk with hl | hl
      .exact lf.un j hl (by rw [<- ej,em])
      .exact(Mk ht hj hnj).un k hl (by rw [<- ej,em])
     .unfold rtL at hh;split at hh
      .cases hh
      .rw [Al6]at hh;have hk80:=lf.rt.2.2;have hk81:=lf.kd;rw [em,AlX]at hk81;rw [<- hh,AlX,hk81]at hk80;omega
   have hbe:=hblk m O h3;have hp:pgB b' x' y' (gb nx k) 81=true:=by
    have hkd:=lf.kd;have hrz:=lf.rz;rw [em,AlX]at hkd hrz;unfold pgB;rw [e,em,AlX,hbe,X9 h1 O (hx' m O h3) hny,decide_eq_true hkd,hrz];rfl
   have hd:=hun λj hj he=>by
    have hj0:gb nx j≠0:=by rw [he];exact h0
    rcases hwhat j O hj0 with⟨m2,e2,hx2⟩ | ⟨e2,hn2,_⟩
    .rw [e2,e,em]at he;obtain rfl:m2=m:=O
     rw [hx2]at h3;cases h3
    .exact lf.un j hj (by rw [<- e2,he,e])
   rw [hp,hz,hd];rfl
 rcases hend with⟨hz,rfl,rfl,rfl,rfl⟩ | ⟨hz,m,rfl,hm,hbm,rfl,rfl,rfl,_,_⟩
 .refine⟨zer,by unfold tre;rw [Al1 rfl],λk hk32=>?_⟩;have hall:∀v∈nx,v=0:=λv hv=>by
   unfold nz at hz;rw [Am4]at hz;have:=hz v hv;simpa using this
  have:nx=zer:=List.eq_replicate_iff.2 ⟨hnl,hall⟩;rw [<- this];exact hleaf k hk32
 .have hb1:=tv.wk.hb;have hbk:blk ((b1.set m Il).set m (Dz (pgb 80 nx))) m=Dz (pgb 80 nx):=Tg (by rw [Am0];omega);have htop:Jb ((b1.set m Il).set m (Dz (pgb 80 nx))) ((m:Nat):Int)=nx:=by
   unfold Jb;rw [AlX,hbk,Wb hnl hnv]
  have hx0:bit x m=false:=by
   cases h:bit x m with
   | false=>rfl
   | true=>have:=(tv.ot m O h).2;rw [hbm]at this;cases this
  have hx1:=tv.wk.hx;have hbit:bit (setB x1 m) m=true:=by rw [Rj tv.wk.hu O O];simp
  refine⟨nx,?_,hleaf⟩;unfold tre;rw [AlZ O,htop];have hp:pgB ((b1.set m Il).set m (Dz (pgb 80 nx))) (setB x1 m) y' ((m:Nat):Int) 80=true:=by
   unfold pgB;rw [AlX,hbk,X9 O O hbit (hfree m hx0),decide_eq_true (VY 80 _),Wg hnl];rfl
  rw [hp,hz,all_range.2 hst];rfl
end Go.V.G
set_option maxRecDepth 100000
namespace Go.V.G
open Go.V
theorem Ahx {b:Bls} (hb:b.length<=160) (hk:∀c∈b,c.length=128):Bd b:=⟨O,λc hc=>by have:=hk c hc;omega⟩
section
variable {b b':Bls} {x y z:List Int} {wr lf f hd ev:Int} {rt tx:Nat}
end
section
variable {b:Bls} {wr lf ev f:Int} {on:Bool} {t:List UInt8} {r:List Rn} {cs:List (List Prt)}
def okM (b:Bls) (wr lf ev f:Int) (t:List UInt8) (r:List Rn) (cs:List (List Prt)):Prop:=gd b wr lf=true/\wr<=999999900/\(1<=ev/\ev<=30)/\Ea f t r cs=true/\cs.length=0
end
end Go.V.G
set_option maxRecDepth 100000
namespace Go.V.G
open Go.V
theorem Kw {b:Bls} {wr lf:Int} (h:gd b wr lf=true):(40<=b.length/\b.length<=160)/\∀c∈b,c.length=128:=by
 unfold gd at h;simp only [Al2,decide_eq_true_eq,Amr,beq_iff_eq]at h;exact⟨h.1,h.2.1⟩
section
variable {b:Bls} {wr lf ev f:Int} {t:List UInt8} {r:List Rn} {cs:List (List Prt)}
end
end Go.V.G
set_option maxRecDepth 100000
namespace Go.V.G
open Go.V
theorem IE {σ τ ρ:Type} (L:σ->Option (σ⊕(τ⊕ρ))) (st:Nat->σ) (p:Nat->Bool) (e:ρ) (z:τ) (n:Nat)
  (step:∀i,i < n->L (st i)=some (if p i=true then .inl (st (i+1))else .inr (.inr e))) (last:L (st n)=some (.inr (.inl z))) :
  Ab L (st 0)=some (if(List.range n).all p=true then .inl z else .inr e):=by
 rcases BT L st p (λ_=>e) z n step last with⟨ha,hlp⟩ | ⟨k,hk,hp,_,hlp⟩
 .rw [hlp,Al1 (all_range.2 ha)]
 .rw [hlp,AlZ (λh=>by rw [all_range.1 h k hk]at hp;cases hp)]
def gG (n:Nat) (g:List Wr) (i:Nat):Bool:=decide ((gw g i).1=0\/(gw g i).1=1\/33<=(gw g i).1/\(gw g i).1<=(n:Int) - 1) && (decide ((gw g i).2.length=128) && (decide (i=0) || decide ((gw g (i - 1)).1 < (gw g i).1)))
def grB (n:Nat) (g:List Wr):Bool:=decide (1<=g.length/\g.length<=30) && (List.range g.length).all (gG n g)
theorem AiC {n:Nat} (hn:n<=1048576) (a:Int):T9 a (n:Int)=some (decide (a=0\/a=1\/33<=a/\a<=(n:Int) - 1)):=by
 unfold T9 wI;rw [w64 O O,B2];by_cases h0:a=0 <;> by_cases h1:a=1 <;> simp [h0,h1]
theorem Adu {n:Nat} {g:List Wr} (hn:n<=1048576) (hg:g.length<=1048576):MI g (n:Int)=some (grB n g):=by
 unfold MI grB;rw [B2,AlU];by_cases hl:1<=g.length/\g.length<=30
 .rw [decide_eq_true (show(1:Int)<=(g.length:Int)/\(g.length:Int)<=30 by omega),decide_eq_true hl];have h:=IE G9 (λi=>(g,(n:Int),g,(g.length:Int),((i:Nat):Int))) (gG n g) false () g.length (λi hi=>by
   unfold G9 gG gX wI;dsimp only;rw [iy O,iy O,AlX,EX hi,AlU,AiC hn,AlU];have hix:=Am (i:=i) O;by_cases h1:(gw g i).1=0\/(gw g i).1=1\/33<=(gw g i).1/\(gw g i).1<=(n:Int) - 1
   .rw [decide_eq_true h1];by_cases h2:(gw g i).2.length=128
    .rw [ino (O:¬ ¬ (((gw g i).2.length:Nat):Int)=128),decide_eq_true h2];by_cases h3:i=0
     .subst h3;simp [show IntKind.wrap .i64 1=1 from w64 O O]
     .rw [iy (show(0:Int) < ((i:Nat):Int) by omega),im1 O O,iy O,AlX,EX O,decide_eq_false h3];by_cases h4:(gw g (i - 1)).1 < (gw g i).1
      .rw [decide_eq_true h4];simp [(O:¬ (gw g i).1<=(gw g (i - 1)).1),hix]
      .rw [decide_eq_false h4];simp [show(gw g i).1<=(gw g (i - 1)).1 by omega]
    .rw [iy (O:¬ (((gw g i).2.length:Nat):Int)=128),decide_eq_false h2];rfl
   .rw [decide_eq_false h1];rfl) (by
   unfold G9 gX wI;dsimp only;rw [ino O])
  rw [show Ab G9 (g,(n:Int),g,(g.length:Int),0)=_ from h];cases (List.range g.length).all (gG n g) <;> rfl
 .rw [decide_eq_false (O:¬ ((1:Int)<=(g.length:Int)/\(g.length:Int)<=30)),decide_eq_false hl];rfl
def gI (g:List Wr) (i:Nat):Bool:=decide (0<=(gw g i).1/\(gw g i).1 < 160/\¬ (1 < (gw g i).1/\(gw g i).1 < 33)) && ((decide (i=0) || decide ((gw g (i - 1)).1 < (gw g i).1)) && decide ((gw g i).2.length=128))
theorem Yt {g:List Wr} (hg:g.length<=1048576):Nf g=some ((List.range g.length).all (gI g) && decide (1<=g.length/\g.length<=30)):=by
 unfold Nf;have h:=IE GZ (λi=>(g,g,(g.length:Int),((i:Nat):Int))) (gI g) false g g.length (λi hi=>by
  unfold GZ gI gX wI;dsimp only;rw [iy O,iy O,AlX,EX hi,AlU];by_cases h1:(gw g i).1 < 0
  .rw [iy h1,decide_eq_false (O:¬ (0<=(gw g i).1/\(gw g i).1 < 160/\¬ (1 < (gw g i).1/\(gw g i).1 < 33)))];rfl
  .rw [ino h1];by_cases h2:(160:Int)<=(gw g i).1
   .rw [iy h2,decide_eq_false (O:¬ (0<=(gw g i).1/\(gw g i).1 < 160/\¬ (1 < (gw g i).1/\(gw g i).1 < 33)))];rfl
   .rw [ino h2];have key:(if decide ((0:Int) < ((i:Nat):Int))=true then
      (if decide ((0:Int)<=IntKind.wrap .i64 (((i:Nat):Int) - 1))=true then
       Option.bind (g[Int.toNat (IntKind.wrap .i64 (((i:Nat):Int) - 1))]?) λr2=>
        if decide ((gw g i).1<=r2.1)=true then some (g,g,(g.length:Int),((i:Nat):Int),true)else some (g,g,(g.length:Int),((i:Nat):Int),decide (¬ (((gw g i).2.length:Nat):Int)=128))
      else none)else some (g,g,(g.length:Int),((i:Nat):Int),decide (¬ (((gw g i).2.length:Nat):Int)=128))) =
      some (g,g,(g.length:Int),((i:Nat):Int),!((decide (i=0) || decide ((gw g (i - 1)).1 < (gw g i).1)) && decide ((gw g i).2.length=128))):=by
     have e:decide (¬ (((gw g i).2.length:Nat):Int)=128) = !decide ((gw g i).2.length=128):=by
      by_cases h:(gw g i).2.length=128 <;> simp [h];omega
     by_cases h3:i=0
     .subst h3;rw [e];simp
     .rw [iy (show(0:Int) < ((i:Nat):Int) by omega),im1 O O,iy O,AlX,EX O,AlU,decide_eq_false h3,e];by_cases h4:(gw g (i - 1)).1 < (gw g i).1
      .rw [decide_eq_true h4,ino O];simp
      .rw [decide_eq_false h4,iy O];simp
    have fin:decide (0<=(gw g i).1/\(gw g i).1 < 160/\¬ (1 < (gw g i).1/\(gw g i).1 < 33)) = !(decide (1 < (gw g i).1) && decide ((gw g i).1 < 33)):=by
     by_cases h3:1 < (gw g i).1 <;> by_cases h4:(gw g i).1 < 33 <;> simp [h3,h4] <;> omega
    rw [fin];by_cases h3:1 < (gw g i).1
    .rw [iy h3,decide_eq_true h3];by_cases h4:(gw g i).1 < 33
     .rw [iy h4,decide_eq_true h4];rfl
     .rw [ino h4,decide_eq_false h4,key,AlU];dsimp only;rw [Am O];cases ((decide (i=0) || decide ((gw g (i - 1)).1 < (gw g i).1)) && decide ((gw g i).2.length=128)) <;> rfl
    .rw [ino h3,decide_eq_false h3,key,AlU];dsimp only;rw [Am O];cases ((decide (i=0) || decide ((gw g (i - 1)).1 < (gw g i).1)) && decide ((gw g i).2.length=128)) <;> rfl) (by
  unfold GZ gX wI;dsimp only;rw [ino O])
 rw [show Ab GZ (g,g,(g.length:Int),0)=_ from h];have e:decide ((1:Int)<=(g.length:Int)/\(g.length:Int)<=30)=decide (1<=g.length/\g.length<=30):=decide_eq_decide.2 O;cases (List.range g.length).all (gI g)with
 | true=>rw [Al1 rfl,AlU];dsimp only;rw [AK,e];rfl
 | false=>rfl
theorem Ako {g:List Wr} {w:Wr} (h:w∈g):∃i,i < g.length/\gw g i=w:=by
 obtain ⟨i,hi,rfl⟩:=AmA h;exact⟨i,hi,by have:=EX hi;rw [AlW hi]at this;injection this with this;exact this.symm⟩
theorem Afx {n:Nat} {g:List Wr} (hn:40<=n) (h:grB n g=true) (hu:∀w∈g,U8s w.2):GrOk n g/\1<=g.length/\g.length<=30:=by
 simp only [grB,Al2,decide_eq_true_eq]at h;obtain ⟨h1,h2⟩:=h;have h3:=all_range.1 h2;have at_:∀w∈g,(0<=w.1/\w.1 < (n:Int))/\w.2.length=128:=λw hw=>by
  obtain ⟨i,hi,rfl⟩:=Ako hw;have:=h3 i hi;simp only [gG,Al2,decide_eq_true_eq]at this;exact⟨O,this.2.1⟩
 exact⟨⟨O,λw hw=>(at_ w hw).1,λw hw=>(at_ w hw).2,hu⟩,h1⟩
theorem Vz {bl:Bls} {wr lf:Int} (on:Bool) {g:List Wr} (hd:gd bl wr lf=true) (hg:g.length<=1048576):Km bl wr on lf g=some (grB bl.length g):=by
 obtain ⟨hb,-⟩:=Kw hd;unfold Km gX wI;rw [JO O,hd,AlU,Al1 rfl,Yt hg,AlU];by_cases hl:1<=g.length/\g.length<=30
 .cases hi:(List.range g.length).all (gI g)with
  | false=>
   rw [Anm];have:grB bl.length g=false:=by
    rw [Bool.eq_false_iff];intro h;simp only [grB,Al2,decide_eq_true_eq]at h;have h3:=all_range.1 h.2;have:(List.range g.length).all (gI g)=true:=all_range.2 λi hi=>by
     have:=h3 i hi;simp only [gG,Al2,decide_eq_true_eq]at this;simp only [gI,Al2,decide_eq_true_eq];exact⟨O,this.2.2,this.2.1⟩
    rw [hi]at this;cases this
   rw [this];rfl
  | true=>
   have h3:=all_range.1 hi;have h4:∀i,i < g.length->(0<=(gw g i).1/\(gw g i).1 < 160/\¬ (1 < (gw g i).1/\(gw g i).1 < 33))/\(i=0\/(gw g (i - 1)).1 < (gw g i).1)/\(gw g i).2.length=128:=λi hi=>by
    have:=h3 i hi;simp only [gI,Al2,Ang,decide_eq_true_eq]at this;exact⟨this.1,this.2.1,this.2.2⟩
   rw [Amg,decide_eq_true hl,Al1 rfl,im1 O O,iy O,AlX,EX O,AlU];unfold OX wI;rw [AK,w64 O O];have up:∀d i,i+d < g.length->(gw g i).1<=(gw g (i+d)).1:=by
    intro d
    induction d with
    | zero=>intro i _;exact Am6 _
    | succ d ih=>
     intro i h;have h5:=ih i O;have h6:=(h4 (i+(d+1)) h).2.1;rw [(O:i+(d+1) - 1=i+d)]at h6;rcases h6 with h6 | h6
     .omega
     .omega
   have e:grB bl.length g=decide (0<=(gw g (g.length - 1)).1/\(gw g (g.length - 1)).1<=(bl.length:Int) - 1):=by
    unfold grB;rw [decide_eq_true hl,Amg];have h0:=h4 (g.length - 1) O;by_cases hlast:(gw g (g.length - 1)).1<=(bl.length:Int) - 1
    .rw [decide_eq_true (show 0<=(gw g (g.length - 1)).1/\(gw g (g.length - 1)).1<=(bl.length:Int) - 1 from⟨h0.1.1,hlast⟩)];refine all_range.2 λi hi=>?_
     have h5:=h4 i hi;have h6:=up (g.length - 1 - i) i O;rw [(O:i+(g.length - 1 - i)=g.length - 1)]at h6;simp only [gG,Al2,Ang,decide_eq_true_eq];exact⟨O,h5.2.2,h5.2.1⟩
    .rw [decide_eq_false (λh=>hlast h.2),Bool.eq_false_iff];intro h;have:=all_range.1 h (g.length - 1) O;simp only [gG,Al2,decide_eq_true_eq]at this;omega
   rw [e];rfl
 .have:grB bl.length g=false:=by unfold grB;rw [decide_eq_false hl,Anm]
  rw [this,decide_eq_false hl,Aoh];rfl
def wGr (bl:Bls):List Wr:=(List.range (gb (blk bl 2) 4).toNat).map λk=>(num (blk bl 2) (5+2 * k),blk bl (3+k))
theorem Ack (bl:Bls):(wGr bl).length=(gb (blk bl 2) 4).toNat:=by simp [wGr]
theorem Afj {bl:Bls} (hu:∀c∈bl,U8s c):∀w∈wGr bl,U8s w.2:=λw hw=>by
 simp only [wGr,Aml]at hw;obtain ⟨k,_,rfl⟩:=hw;intro v hv;by_cases h:3+k < bl.length
 .exact hu _ (BC h) v hv
 .simp only [blk]at hv;rw [Amn O]at hv;simp at hv
def wts (bl:Bls):List Wr:=if(decide (1<=gb (blk bl 2) 4/\gb (blk bl 2) 4<=30) && (grB bl.length (wGr bl) && (OI (wGr bl) == blk bl 2)))=true then wGr bl else []
theorem O4 {α:Type} (f:Nat->α) (k:Nat):(List.range (k+1)).map f=(List.range k).map f++[f k]:=by rw [AnI,AmD];rfl
theorem GB {bl:Bls} {wr lf:Int} (on:Bool) (hd:gd bl wr lf=true) (hu:∀c∈bl,U8s c):Kk bl wr on lf=some (wts bl):=by
 obtain ⟨hb,hk⟩:=Kw hd;have u2:=hu _ (BC (O:2 < bl.length));have l2:=hk _ (BC (O:2 < bl.length));have h4:=DQ u2 4;unfold Kk wts gX;rw [show bl[Int.toNat 2]?=some (blk bl 2) from Bu O,AlU,show(blk bl 2)[Int.toNat 4]?=some (gb (blk bl 2) 4) from Aj O,AlU,B2,w64 O O,AlU];by_cases hn:1<=gb (blk bl 2) 4/\gb (blk bl 2) 4<=30
 .rw [decide_eq_true hn];obtain ⟨n,hn'⟩:=Amq h4.1;have hwl:=Ack bl;rw [hn',AlX]at hwl;have h:=Ai EV (λk=>(blk bl 2,(n:Int),(List.range k).map (λk=>(num (blk bl 2) (5+2 * k),blk bl (3+k))),((k:Nat):Int),bl,wr,on,lf)) n (blk bl 2,wGr bl,bl,wr,on,lf) (λk hk'=>by
   have e1:IntKind.wrap .i64 (5+(IntKind.wrap .i64 (2 * ((k:Nat):Int))))=((5+2 * k:Nat):Int):=by rw [w64 (n:=2 * ((k:Nat):Int)) O O,w64 O O];omega
   have e2:IntKind.wrap .i64 (6+(IntKind.wrap .i64 (2 * ((k:Nat):Int))))=((5+2 * k+1:Nat):Int):=by rw [w64 (n:=2 * ((k:Nat):Int)) O O,w64 O O];omega
   have e3:IntKind.wrap .i64 (3+((k:Nat):Int))=((3+k:Nat):Int):=by rw [w64 O O];omega
   have l3:=hk _ (BC (O:3+k < bl.length));have q1:=DQ u2 (5+2 * k);have q2:=DQ u2 (5+2 * k+1);unfold EV cK gX wI;dsimp only;rw [iy O,e1,e2,e3,iy O,AlX,Aj O,AlU,iy O,AlX,Aj O,AlU,iy O,AlX,Bu O,AlU,
    Al1 (by simp only [Aa,decide_eq_true_eq,Amp];omega),Al1 (by simp only [Aa,decide_eq_true_eq,Amt,List.length_range,Amb];omega),Am O,Uw q1 q2,O4]
   rfl) (by
   unfold EV cK gX wI;dsimp only;rw [ino O];unfold wGr;rw [hn',AlX])
  rw [hn',show Ab EV (blk bl 2,(n:Int),[],0,bl,wr,on,lf)=_ from h];simp only [AmN,Al8,Amv,AlU,Amg];rw [Adu O O,AlU];cases hg:grB bl.length (wGr bl)with
  | false=>rfl
  | true=>
   obtain ⟨g1,g2,g3⟩:=Afx O hg (Afj hu);rw [AaD g1 O g3];simp only [AmN,Al8,Amv,AlU,Amg];rw [SM (AhF g3) u2];cases (OI (wGr bl) == blk bl 2) <;> rfl
 .rw [decide_eq_false hn];rfl
theorem Mg {bl:Bls} {wr lf:Int} (on:Bool) (hd:gd bl wr lf=true) (hu:∀c∈bl,U8s c):HC bl wr on lf=some (wts bl):=by
 obtain ⟨hb,hk⟩:=Kw hd;have u2:=hu _ (BC (O:2 < bl.length));have l2:=hk _ (BC (O:2 < bl.length));have h4:=DQ u2 4;unfold HC wts gX;rw [show bl[Int.toNat 2]?=some (blk bl 2) from Bu O,AlU,show(blk bl 2)[Int.toNat 4]?=some (gb (blk bl 2) 4) from Aj O,AlU,AK,w64 O O,AlU];by_cases hn:1<=gb (blk bl 2) 4/\gb (blk bl 2) 4<=30
 .rw [decide_eq_true hn];obtain ⟨n,hn'⟩:=Amq h4.1;have hwl:=Ack bl;rw [hn',AlX]at hwl;have h:=Ai DO (λk=>(blk bl 2,(List.range k).map (λk=>(num (blk bl 2) (5+2 * k),blk bl (3+k))),(n:Int),((k:Nat):Int),bl,wr,on,lf)) n (blk bl 2,wGr bl,bl,wr,on,lf) (λk hk'=>by
   have e1:IntKind.wrap .i64 (5+(IntKind.wrap .i64 (2 * ((k:Nat):Int))))=((5+2 * k:Nat):Int):=by rw [w64 (n:=2 * ((k:Nat):Int)) O O,w64 O O];omega
   have e3:IntKind.wrap .i64 (3+((k:Nat):Int))=((3+k:Nat):Int):=by rw [w64 O O];omega
   unfold DO cK gX wI;dsimp only;rw [iy O,e1,e3,Gl u2 O O,AlU,iy O,AlX,Bu O,AlU,
    Al1 (by simp only [Aa,decide_eq_true_eq,Amt,List.length_range,Amb];omega),Am O,O4]) (by
   unfold DO cK gX wI;dsimp only;rw [ino O];unfold wGr;rw [hn',AlX])
  rw [hn',show Ab DO (blk bl 2,[],(n:Int),0,bl,wr,on,lf)=_ from h];simp only [AmN,Al8,Amv,AlU,Amg];rw [Vz on hd O,AlU];cases hg:grB bl.length (wGr bl)with
  | false=>rfl
  | true=>
   obtain ⟨g1,g2,g3⟩:=Afx O hg (Afj hu);rw [AaP g1 O g3];simp only [AmN,Al8,Amv,AlU,Amg];rw [V9 (by rw [Agx g3];omega),AlU];cases (OI (wGr bl) == blk bl 2) <;> rfl
 .rw [decide_eq_false hn];rfl
end Go.V.G
set_option maxRecDepth 100000
namespace Go.V.G
open Go.V
def NG (f h e r t:Int):Bool:=decide ((0<=f/\f<=h)/\h<=60) && (decide (1<=e/\e<=30) && (decide (33<=r/\r<=159) && decide (33<=t/\t<=159)))
theorem AbY {f h e r t:Int} (g:NG f h e r t=true):∃(m n:Nat),r=(m:Int)/\t=(n:Int)/\SupOk f h e m n:=by
 simp only [NG,Al2,decide_eq_true_eq]at g;obtain ⟨g1,g2,g3,g4⟩:=g;obtain ⟨m,hm⟩:=Amq (O:0<=r);obtain ⟨n,hn⟩:=Amq (O:0<=t);exact⟨m,n,hm,hn,⟨g1.1,g1.2,g2,O,O⟩⟩
theorem XY (f h e r t:Int):MP f h e r t=some (NG f h e r t):=by
 unfold MP QR NG;simp only [B2,AlU];by_cases h1:0<=f/\f<=h <;> by_cases h2:h<=60 <;> by_cases h3:1<=e/\e<=30 <;> by_cases h4:33<=r/\r<=159 <;> simp [h1,h2,h3,h4]
theorem AaJ (f h:Int):HP f h=some (decide ((0<=f/\f<=h)/\h<=60)):=by
 unfold HP;by_cases h1:0<=f <;> by_cases h2:f<=h <;> simp [h1,h2]
theorem Ag5 {f h e r t:Int} (g:NG f h e r t=false):E9 f h e r t=some ([],false):=by
 unfold E9 KM cK;unfold NG at g;simp only [AaJ,AK,AlU];by_cases h1:(0<=f/\f<=h)/\h<=60
 .rw [decide_eq_true h1]at g ⊢;by_cases h3:1<=e/\e<=30
  .rw [decide_eq_true h3]at g ⊢;by_cases h4:33<=r/\r<=159
   .rw [decide_eq_true h4]at g ⊢;simp only [Amg]at g;rw [g];rfl
   .rw [decide_eq_false h4];rfl
  .rw [decide_eq_false h3];rfl
 .rw [decide_eq_false h1];rfl
abbrev Sup:=Int×(Int×(Int×(Int×Int)))
def UF (c:List Int):Bool:=decide (c.length=128) && (NG (gb c 4) (gb c 5) (gb c 6) (num c 8) (num c 10) && (OZ (gb c 4) (gb c 5) (gb c 6) (num c 8) (num c 10) == c))
def Np (c:List Int):Bool×Sup:=if UF c=true then(true,gb c 4,gb c 5,gb c 6,num c 8,num c 10)else(false,0,0,0,0,0)
theorem I5 {c:List Int} (hu:U8s c):M2 c=some (Np c):=by
 unfold M2 Np UF gX wI;by_cases hl:c.length=128
 .have u:=DQ hu;rw [ino O,iy O,show c[Int.toNat 4]?=some (gb c 4) from Aj O,AlU,iy O,show c[Int.toNat 5]?=some (gb c 5) from Aj O,AlU,iy O,show c[Int.toNat 6]?=some (gb c 6) from Aj O,AlU,
   iy O,show c[Int.toNat 8]?=some (gb c 8) from Aj O,AlU,iy O,show c[Int.toNat 9]?=some (gb c 9) from Aj O,AlU,iy O,show c[Int.toNat 10]?=some (gb c 10) from Aj O,AlU,iy O,show c[Int.toNat 11]?=some (gb c 11) from Aj O,AlU,
   Uw (u 8) (u 9),Uw (u 10) (u 11),w64 (n:=gb c 4) (by have:=u 4;omega) (by have:=u 4;omega),w64 (n:=gb c 5) (by have:=u 5;omega) (by have:=u 5;omega),w64 (n:=gb c 6) (by have:=u 6;omega) (by have:=u 6;omega),XY,AlU,decide_eq_true hl,Amg,
   show gb c 8 * 256+gb c 9=num c 8 from rfl,show gb c 10 * 256+gb c 11=num c 10 from rfl]
  cases hg:NG (gb c 4) (gb c 5) (gb c 6) (num c 8) (num c 10)with
  | false=>rfl
  | true=>
   obtain ⟨m,n,hm,hn,hs⟩:=AbY hg;rw [hm,hn,Acp hs];simp only [AmN,Al8,Amv,AlU,Amg];rw [SM (AhW hs) hu];cases (OZ (gb c 4) (gb c 5) (gb c 6) (m:Int) (n:Int) == c) <;> rfl
 .rw [iy O,decide_eq_false hl];rfl
theorem QM {c:List Int} (hu:U8s c):MD c=some (Np c):=by
 unfold MD Np UF gX;by_cases hl:c.length=128
 .have u:=DQ hu;rw [ino O,iy O,show c[Int.toNat 4]?=some (gb c 4) from Aj O,AlU,iy O,show c[Int.toNat 5]?=some (gb c 5) from Aj O,AlU,iy O,show c[Int.toNat 6]?=some (gb c 6) from Aj O,AlU,
   show CJ c 8=some (num c 8) from Gl (i:=8) hu O O,AlU,show CJ c 10=some (num c 10) from Gl (i:=10) hu O O,AlU,
   w64 (n:=gb c 4) (by have:=u 4;omega) (by have:=u 4;omega),w64 (n:=gb c 5) (by have:=u 5;omega) (by have:=u 5;omega),w64 (n:=gb c 6) (by have:=u 6;omega) (by have:=u 6;omega),decide_eq_true hl,Amg]
  cases hg:NG (gb c 4) (gb c 5) (gb c 6) (num c 8) (num c 10)with
  | false=>rw [Ag5 hg];rfl
  | true=>
   obtain ⟨m,n,hm,hn,hs⟩:=AbY hg;rw [hm,hn,Adx hs];simp only [AmN,Al8,Amv,AlU,Amg];rw [V9 (by rw [Ahe];omega),AlU];cases (OZ (gb c 4) (gb c 5) (gb c 6) (m:Int) (n:Int) == c) <;> rfl
 .rw [iy O,decide_eq_false hl];rfl
def opB (bl:Bls):List Int:=(blk bl 1).take 20
def opG (bl:Bls):Bool:=gsp bl (opB bl) [] [] && rz (blk bl 1) 20
def opD (bl:Bls):Bool×(Bls×List Int):=if opG bl=true then(true,bl,opB bl)else(false,[],[])
theorem Th {bl:Bls} (h1:bl.length<=160) (h2:40<=bl.length):SB bl (opB bl) [] []:=by
 exact⟨O,Z,Z⟩
theorem Vh {bl:Bls} {wr lf:Int} (on:Bool) (hd:gd bl wr lf=true) (hu:∀c∈bl,U8s c):Ki bl wr on lf=some (opD bl):=by
 obtain ⟨hb,hk⟩:=Kw hd;have l1:=hk _ (BC (O:1 < bl.length));unfold Ki opD opG gX sX;rw [JO O,hd,AlU,AlZ Z,iy O,show bl[Int.toNat 1]?=some (blk bl 1) from Bu O,AlU,Xi (Ahx O hk),AlU,iy O,iy O,iy O,iy O,
  show(List.drop (Int.toNat 0) (blk bl 1)).take (Int.toNat 20 - Int.toNat 0)=opB bl from rfl,Wl (by unfold opB;rw [Al4];omega),AlU,Va (Th O O),AlU]
 cases hg:gsp bl (opB bl) [] []with
 | false=>rfl
 | true=>
  simp only [AmN,Al8,Amv,AlU,Amg];rw [iy O,iy O,iy O,iy O];have hcf:∀{l:List Int},l.length<=1048576->Be l=some (l.any λv=>decide (¬ v=0)):=λ{l} hl=>by
   unfold Be BV;obtain ⟨r,hr,h⟩:=JN Bf (λv=>decide (¬ v=0)) l (λk hk=>by
    unfold Bf KY gX wI;dsimp only;rw [iy O,iy O,AlX,Aj hk,AlU,AlU,Am O];by_cases hz:gb l k=0 <;> simp [hz]) (by
    unfold Bf gX wI;dsimp only;rw [ino O])
   rw [hr,AlU];rcases h with⟨rfl,h⟩ | ⟨k,rfl,h⟩
   .rw [h];rfl
   .rw [h];dsimp only;rw [AlU,decide_eq_true O]
  rw [AlX,show Int.toNat 20=20 from rfl,AmK (show(List.drop 20 (blk bl 1)).length<=(blk bl 1).length - 20 by rw [Amm];omega),hcf (by rw [Amm];omega),AlU,Ol];cases rz (blk bl 1) 20 <;> rfl
theorem HE {bl:Bls} {wr lf:Int} (on:Bool) (hd:gd bl wr lf=true) (hu:∀c∈bl,U8s c):Ka bl wr on lf=some (opD bl):=by
 obtain ⟨hb,hk⟩:=Kw hd;have l1:=hk _ (BC (O:1 < bl.length));have e1:bl[0+Int.toNat 1]?=some (blk bl 1):=Bu O;unfold Ka opD opG cK cZ sX;rw [IH O,hd,AlU,AlZ Z,AjF (Ahx O hk),AlU];dsimp only;rw [iy O,iy O,e1,AlU,AlU,iy O,iy O,iy O,iy O,AlU,
  Al1 (by simp only [Aa,decide_eq_true_eq,Al4,Amp];omega),iy O,iy O,AlU,AlU,iy O,iy O,iy O,iy O,AlU,
  Ams,show((blk bl 1).drop (Int.toNat 0)).take (Int.toNat 20 - Int.toNat 0)=opB bl from rfl,AlX,show Int.toNat 20=20 from rfl,AmK (show(List.drop 20 (blk bl 1)).length<=(blk bl 1).length - 20 by rw [Amm];omega)]
 have hdl:(List.drop 20 (blk bl 1)).length=108:=by rw [Amm,l1]
 have h:=SN Fv (λk=>(bl,((0+Int.toNat 1:Nat):Int),((20:Nat):Int),(((blk bl 1).length - 20:Nat):Int),(((List.drop 20 (blk bl 1)).length:Nat):Int),((k:Nat):Int),opB bl)) (List.drop 20 (blk bl 1)) (λv=>decide (¬ v=0)) false (bl,opB bl) (λk hk'=>by
  have e3:(blk bl 1)[20+k]?=some (gb (List.drop 20 (blk bl 1)) k):=by
   have:=Aj hk';rw [AmC]at this;exact this
  unfold Fv cK cZ wI;dsimp only;rw [iy O,iy O,show Int.toNat ((0+Int.toNat 1:Nat):Int)=0+Int.toNat 1 from rfl,e1,AlU,iy (by rw [Al4,show Int.toNat ((20:Nat):Int)=20 from rfl,AlX];omega),AlU,show Int.toNat ((20:Nat):Int)=20 from rfl,AlX k,e3,AlU,Am O];by_cases hz:gb (List.drop 20 (blk bl 1)) k=0 <;> simp [hz]) (by
  unfold Fv cK cZ wI;dsimp only;rw [ino O])
 rw [show Ab Fv (bl,((0+Int.toNat 1:Nat):Int),((20:Nat):Int),(((blk bl 1).length - 20:Nat):Int),(((List.drop 20 (blk bl 1)).length:Nat):Int),0,opB bl)=_ from h,Ol];cases hz:rz (blk bl 1) 20 with
 | false=>simp
 | true=>
  simp only [AmN,Al8,Amv,AlU,Anv];rw [N9 (Th O O),AlU];cases gsp bl (opB bl) [] [] <;> rfl
end Go.V.G
set_option maxRecDepth 100000
namespace Go.V.G
open Go.V
def rcC (b:Bls) (x y:List Int) (a:Int) (ch:List Int):Bool:=
 liv b x y a && (!decide (a∈ch) && (!decide (ch.length=9) && (decide (gb (blk b a.toNat) 0=82) && (!decide (124 < gb (blk b a.toNat) 3) && ((decide (num (blk b a.toNat) 1=0) || !decide (gb (blk b a.toNat) 3 < 124)) &&
  ((!decide (gb (blk b a.toNat) 3=0) || decide (ch.length=0)) && rz (blk b a.toNat) (4+(gb (blk b a.toNat) 3).toNat)))))))
def rcO (b:Bls) (a:Int):List Int:=((blk b a.toNat).drop 4).take (gb (blk b a.toNat) 3).toNat
def rcN (b:Bls) (x y:List Int):Nat->Int->List Int->List Int->Option (List Int×List Int)
 | 0,_,_,_=>none
 | f+1,a,d,ch=>if rcC b x y a ch=true then(if num (blk b a.toNat) 1=0 then some (d++rcO b a,ch++[a])else rcN b x y f (num (blk b a.toNat) 1) (d++rcO b a) (ch++[a]))else none
def rcd (b:Bls) (x y:List Int) (a:Int):Option (List Int×List Int):=rcN b x y 10 a [] []
def rcA (o:Option (List Int×List Int)):List Int×(List Int×Bool):=match o with
 | some p=>(p.1,p.2,true)
 | none=>([],[],false)
theorem AbU {b:Bls} {x y z:List Int} (g:RS b x y) {a:Int} (ch:List Int) (hl:liv b x y a=true):∃m n:Nat,a=(m:Int)/\(33<=m/\m < b.length)/\gb (blk b m) 3=(n:Int)/\n<=255:=by
 obtain ⟨m,rfl,h1,h2,_⟩:=Cs hl;have:=g.u8 h2 3;obtain ⟨n,hn⟩:=Amq this.1;exact⟨m,n,rfl,⟨h1,h2⟩,hn,O⟩
theorem Aed {b:Bls} {x y z:List Int} (g:RS b x y) (a:Int) {d ch:List Int} (hd:d.length<=10000) (hc:ch.length<=9) :
  EQ ((b,x,y,z),a,d,ch)=some (if rcC b x y a ch=true then(if num (blk b a.toNat) 1=0 then .inr (d++rcO b a,ch++[a],true)else .inl ((b,x,y,z),num (blk b a.toNat) 1,d++rcO b a,ch++[a]))else .inr ([],[],false)):=by
 unfold EQ cK gX sX wI;dsimp only;rw [Lu g,AlU];cases hl:liv b x y a with
 | false=>unfold rcC;rw [hl];rfl
 | true=>
  obtain ⟨m,n,rfl,hm,hn,hn2⟩:=AbU (z:=z) g ch hl;have hlen:=g.len hm.2;have hu:=g.hu _ (BC hm.2);have hb:=Bu hm.2;unfold rcC rcO;rw [hl,AlX];rw [Gm O,AlU];by_cases hin:(m:Int)∈ch
  .rw [decide_eq_true hin];rfl
  .rw [decide_eq_false hin];by_cases h9:ch.length=9
   .rw [decide_eq_true (show(ch.length:Int)=9 by omega),decide_eq_true h9];rfl
   .rw [decide_eq_false (O:¬ (ch.length:Int)=9),decide_eq_false h9];have hnum:=Gl hu (i:=1) O O;have hnum':CJ (blk b m) 1=some (num (blk b m) 1):=hnum;have g3:(blk b m)[Int.toNat 3]?=some (n:Int):=by rw [<- hn];exact Aj O
    have g0:(blk b m)[Int.toNat 0]?=some (gb (blk b m) 0):=Aj O;have w5:IntKind.wrap .i64 (n:Int)=(n:Int):=w64 O O;have w4:IntKind.wrap .i64 (4+(n:Int))=((4+n:Nat):Int):=by rw [w64 O O];omega
    rw [hn];simp only [AlU,AmN,Al8,Amv,Amg,AnX];rw [iy (show(0:Int)<=(m:Int) by omega),AlX,hb,AlU,hnum',AlU,iy O,g3,AlU,iy O,g0,AlU,w5,w4,AlX,AlX];by_cases h82:gb (blk b m) 0=82
    .rw [ino (by simp [h82]),decide_eq_true h82];by_cases h124:(124:Int) < (n:Int)
     .rw [iy h124,decide_eq_true h124];rfl
     .rw [ino h124,decide_eq_false h124];have htk:List.take (128 - (4+n)) (List.drop (4+n) (blk b m))=(blk b m).drop (4+n):=AmK (by rw [Amm];omega);have hcf:=Ac4 (l:=(blk b m).drop (4+n)) (by rw [Amm];omega);rw [Ol]at hcf;have hsub:4+n - Int.toNat 4=n:=by rw [show Int.toNat 4=4 from rfl];omega
      have ht:(List.drop (Int.toNat 4) (blk b m)).take (4+n - Int.toNat 4)=((blk b m).drop 4).take n:=by rw [hsub];rfl
      have htl:(((blk b m).drop 4).take n).length=n:=by rw [Al4,Amm];omega
      have hroom:Aa (d.length+(((blk b m).drop 4).take n).length) 1=true:=by rw [htl];simp only [Aa,decide_eq_true_eq];omega
      have hroom2:Aa (ch.length+([(m:Int)]:List Int).length) 8=true:=by simp only [Aa,decide_eq_true_eq,Amb];omega
      have hlc:(((blk b m).length:Nat):Int)=128:=O
      rw [hlen];have j1:(0:Int)<=((4+n:Nat):Int):=O
      have j2:((4+n:Nat):Int)<=((128:Nat):Int):=O
      have j3:((128:Nat):Int)<=((128:Nat):Int):=O
      have j4:(0:Int)<=4:=O
      have j5:(4:Int)<=((4+n:Nat):Int):=O
      have k1:((n:Int) < 124)↔n < 124:=O
      have k2:((n:Int)=0)↔n=0:=O
      have k3:((ch.length:Int)=0)↔ch.length=0:=O
      simp only [iy j1,iy j2,iy j3,iy j4,iy j5,AlX,htk,hcf,AlU,ht,hroom,hroom2,Amd,k1,k2,k3,decide_eq_true h82];have hz3:∀w:Bool,decide (n=0)=w\/decide (n=0) = !w:=by intro w;cases w <;> cases decide (n=0) <;> simp
      rcases hz3 true with hz | hz <;> rcases Aog (decide (ch.length=0))with hch | hch <;> rcases Aog (decide (n < 124))with hq | hq <;> cases hr:rz (blk b m) (4+n) <;> by_cases h0:num (blk b m) 1=0 <;>
       (first
        | (exfalso;simp only [decide_eq_true_eq,decide_eq_false_iff_not,AmN]at hz hq;omega)
        | simp only [h0,hz,hch,hq,hr,w4,iy j1,iy j2,iy j3,iy j4,iy j5,hlen,AlX,AlU,ht,hroom,hroom2,Amd,Amv,AmN,AnX,Amg,Anm,Anv,Aoh,Aoo,Bool.or_false,Bool.true_or,Anh,decide_true,decide_false,not_true_eq_false,not_false_eq_true,Al8])
    .rw [iy h82,decide_eq_false h82];rfl
theorem AeW {b:Bls} {x y z:List Int} (h:SB b x y z) (g:RS b x y) {a:Int} (ha:¬ a=0) {d ch:List Int} (hd:d.length<=10000) (hc:ch.length<=9) :
  DH (a,d,ch,b,x,y,z)=some (if rcC b x y a ch=true then .inl (num (blk b a.toNat) 1,d++rcO b a,ch++[a],b,x,y,z)else .inr (.inr false)):=by
 unfold DH cK gX sX wI;dsimp only;rw [iy ha,ME g,AlU];cases hl:liv b x y a with
 | false=>unfold rcC;rw [hl];rfl
 | true=>
  obtain ⟨m,n,rfl,hm,hn,hn2⟩:=AbU (z:=z) g ch hl;have hlen:=g.len hm.2;have hu:=g.hu _ (BC hm.2);have hb:=Bu hm.2;unfold rcC rcO;rw [hl,AlX];rw [GF O,AlU];by_cases hin:(m:Int)∈ch
  .rw [decide_eq_true hin];rfl
  .rw [decide_eq_false hin];by_cases h9:ch.length=9
   .rw [decide_eq_true (show(ch.length:Int)=9 by omega),decide_eq_true h9];rfl
   .rw [decide_eq_false (O:¬ (ch.length:Int)=9),decide_eq_false h9];have g3:(blk b m)[Int.toNat 3]?=some (n:Int):=by rw [<- hn];exact Aj O
    have g0:(blk b m)[Int.toNat 0]?=some (gb (blk b m) 0):=Aj O;have g1:(blk b m)[Int.toNat 1]?=some (gb (blk b m) 1):=Aj O;have g2:(blk b m)[Int.toNat 2]?=some (gb (blk b m) 2):=Aj O;have u1:=DQ hu 1;have u2:=DQ hu 2;have w1:IntKind.wrap .i64 (IntKind.wrap .i64 (IntKind.wrap .i64 (gb (blk b m) 1) * 256)+IntKind.wrap .i64 (gb (blk b m) 2))=num (blk b m) 1:=by
     rw [w64 (n:=gb (blk b m) 1) O O,w64 (n:=gb (blk b m) 1 * 256) O O,w64 (n:=gb (blk b m) 2) O O,w64 O O];rfl
    have w5:IntKind.wrap .i64 (n:Int)=(n:Int):=w64 O O;have w4:IntKind.wrap .i64 (4+(n:Int))=((4+n:Nat):Int):=by rw [w64 O O];omega
    rw [hn];simp only [AlU,AmN,Al8,Amv,Amg,AnX];rw [iy (show(0:Int)<=(m:Int) by omega),AlX,hb,AlU,iy O,g1,AlU,iy O,g2,AlU,iy O,g3,AlU,iy O,g0,AlU,w1,w5,w4,AlX];by_cases h82:gb (blk b m) 0=82
    .rw [ino (by simp [h82]),decide_eq_true h82];by_cases h124:(124:Int) < (n:Int)
     .rw [iy h124,decide_eq_true h124];rfl
     .rw [ino h124,decide_eq_false h124];have hcf:=PQ (c:=blk b m) (n:=4+n) O O;have hsub:4+n - Int.toNat 4=n:=by rw [show Int.toNat 4=4 from rfl];omega
      have ht:(List.drop (Int.toNat 4) (blk b m)).take (4+n - Int.toNat 4)=((blk b m).drop 4).take n:=by rw [hsub];rfl
      have htl:(((blk b m).drop 4).take n).length=n:=by rw [Al4,Amm];omega
      have hroom:Aa (d.length+(((blk b m).drop 4).take n).length) 1=true:=by rw [htl];simp only [Aa,decide_eq_true_eq];omega
      have hroom2:Aa (ch.length+([(m:Int)]:List Int).length) 8=true:=by simp only [Aa,decide_eq_true_eq,Amb];omega
      rw [hcf];have j2:((4+n:Nat):Int)<=((128:Nat):Int):=O
      have j3:((128:Nat):Int)<=((128:Nat):Int):=O
      have j4:(0:Int)<=4:=O
      have j5:(4:Int)<=((4+n:Nat):Int):=O
      have k1:((n:Int)=124)↔¬ n < 124:=O
      have k4:((n:Int) < 124)↔n < 124:=O
      have k2:((n:Int)=0)↔n=0:=O
      have k3:((0:Int) < (ch.length:Int))↔¬ ch.length=0:=O
      simp only [k1,k2,k3,k4,Classical.not_not,decide_not,decide_eq_true h82];rcases Aog (decide (n=0))with hz | hz <;> rcases Aog (decide (ch.length=0))with hch | hch <;> rcases Aog (decide (n < 124))with hq | hq <;> cases hr:rz (blk b m) (4+n) <;> by_cases h0:num (blk b m) 1=0 <;>
       (first
        | (exfalso;simp only [decide_eq_true_eq,decide_eq_false_iff_not,AmN]at hz hq;omega)
        | simp only [h0,hz,hch,hq,hr,w4,iy j2,iy j3,iy j4,iy j5,hlen,AlX,AlU,ht,hroom,hroom2,Amd,Amv,AmN,AnX,Amg,Anm,Anv,Aoh,Aoo,Bool.or_false,Bool.true_or,Anh,decide_true,decide_false,not_true_eq_false,not_false_eq_true,Al8])
    .rw [iy h82,decide_eq_false h82];rfl
theorem UN {b:Bls} {x y:List Int} {a:Int} {ch:List Int} (h:rcC b x y a ch=true):(rcO b a).length<=124:=by
 unfold rcC at h;simp only [Al2,Al9,decide_eq_false_iff_not]at h;unfold rcO;rw [Al4];have:=h.2.2.2.2.1;omega
theorem Ahs {b:Bls} {x y:List Int} {a:Int} {ch:List Int} (h:rcC b x y a ch=true):¬ a=0:=by
 unfold rcC at h;rw [Al2]at h;obtain ⟨m,rfl,h1,_⟩:=Cs h.1;omega
theorem Abf {b:Bls} {x y:List Int} {a:Int} {ch:List Int} (h:rcC b x y a ch=true):¬ ch.length=9:=by
 unfold rcC at h;simp only [Al2,Al9,decide_eq_false_iff_not]at h;exact h.2.2.1
theorem V7 {b:Bls} {x y z:List Int} (g:RS b x y):∀(f:Nat) (a:Int) (d ch:List Int),d.length<=124 * ch.length->ch.length+f=10->ch.length<=9->
  Ab EQ ((b,x,y,z),a,d,ch)=some (rcA (rcN b x y f a d ch))
 | 0,a,d,ch,hd,hf,hc=>by omega
 | f+1,a,d,ch,hd,hf,hc=>by
  rw [AI,Aed g a O hc];unfold rcN;by_cases h:rcC b x y a ch=true
  .rw [Al1 h,Al1 h];have h9:=Abf h;have h1:=UN h;by_cases h0:num (blk b a.toNat) 1=0
   .rw [Al1 h0,Al1 h0];rfl
   .rw [AlZ h0,AlZ h0];exact V7 g f _ _ _ (by simp only [Al0,Amb];omega) (by simp only [Al0,Amb];omega) (by simp only [Al0,Amb];omega)
  .rw [AlZ h,AlZ h];rfl
theorem AaF {b:Bls} {x y z:List Int} (g:RS b x y) (a:Int):Hn (b,x,y,z) a=some (rcA (rcd b x y a)):=by
 unfold Hn rcd;rw [V7 (z:=z) g 10 a [] [] Z rfl Z];rfl
theorem WA {b:Bls} {x y z:List Int} (h:SB b x y z) (g:RS b x y):∀(f:Nat) (a:Int) (d ch:List Int),d.length<=124 * ch.length->ch.length+f=10->ch.length<=9->¬ a=0->
  Ab DH (a,d,ch,b,x,y,z)=some (match rcN b x y f a d ch with | some p=>.inl p | none=>.inr false)
 | 0,a,d,ch,hd,hf,hc,ha=>by omega
 | f+1,a,d,ch,hd,hf,hc,ha=>by
  rw [AI,AeW h g ha O hc];unfold rcN;by_cases hC:rcC b x y a ch=true
  .rw [Al1 hC,Al1 hC];have h9:=Abf hC;have h1:=UN hC;by_cases h0:num (blk b a.toNat) 1=0
   .rw [Al1 h0,h0];dsimp only;rw [AI];unfold DH cK gX sX wI;dsimp only;rw [ino Z]
   .rw [AlZ h0];exact WA h g f _ _ _ (by simp only [Al0,Amb];omega) (by simp only [Al0,Amb];omega) (by simp only [Al0,Amb];omega) h0
  .rw [AlZ hC,AlZ hC]
theorem AdN {b:Bls} {x y:List Int}:∀(f:Nat) (a:Int) (d ch:List Int) {p:List Int×List Int},rcN b x y f a d ch=some p->ch.length < p.2.length
 | 0,_,_,_,p,h=>by cases h
 | f+1,a,d,ch,p,h=>by
  unfold rcN at h;split at h
  .split at h
   .injection h with h;subst h;simp
   .have:=AdN f _ _ _ h;simp only [Al0,Amb]at this;omega
  .cases h
theorem Aak {b:Bls} {x y z:List Int} (h:SB b x y z) (g:RS b x y) (a:Int):La b x y z a=some (rcA (rcd b x y a)):=by
 unfold La;by_cases ha:a=0
 .subst ha;rw [AI];have e1:DH (0,[],[],b,x,y,z)=some (.inr (.inl ([],[]))):=by
   unfold DH cK gX sX wI;dsimp only;rw [ino Z]
  rw [e1];have:rcd b x y 0=none:=by
   unfold rcd rcN;rw [AlZ (λq=>Ahs q rfl)]
  rw [this];rfl
 .rw [WA h g 10 a [] [] Z rfl Z ha];unfold rcd;cases e:rcN b x y 10 a [] []with
  | none=>rfl
  | some p=>
   have:=AdN _ _ _ _ e;simp only [AlU];rw [decide_eq_true (show(0:Int) < (p.2.length:Int) by simp only [Amp]at this;omega)];rfl
end Go.V.G
set_option maxRecDepth 100000
namespace Go.V.G
open Go.V
def vl (b:Bls) (top:List Int) (k:Nat):Int:=gb (lfv b (gb top (k / 32))) (k % 32)
theorem QS {b:Bls} {top:List Int} (ht:top.length=32) (root:Int) {k:Nat} (hk:k < 1024):Fo root top (top.map (lfv b)) (k:Int)=some (vl b top k):=by
 obtain ⟨e1,e2⟩:=Aiv (n:=(k:Int)) O;obtain ⟨e3,_⟩:=Ah9 (n:=(k:Int)) O;rw [AlX]at e1 e2 e3;unfold Fo cK gX wI;rw [iy O,e1,iy O,AlX,AmB,Aj O,AmS,AlU,iy O,e3,iy O,AlX,Aj (by rw [Ab9];omega),AlU];rfl
def ksT (b:Bls) (top:List Int) (n:Nat):List Kv:=((List.range n).filter λk=>decide (¬ vl b top k=0)).map λk=>(((k:Nat):Int),vl b top k)
theorem Q3 (b:Bls) (top:List Int) (n:Nat):(ksT b top n).length<=n:=by
 unfold ksT;rw [Amt];exact Amw (Anj _ _) Z
theorem Oo (b:Bls) (top:List Int) (n:Nat):ksT b top (n+1)=ksT b top n++(if vl b top n=0 then []else [((n:Int),vl b top n)]):=by
 unfold ksT;rw [AnI,Anu,AmD];by_cases h:vl b top n=0 <;> simp [h]
theorem AcL {b:Bls} {top:List Int} (ht:top.length=32) (root:Int):J7 root top (top.map (lfv b))=some (ksT b top 1024):=by
 unfold J7;have h:=Ai Fp (λk=>(ksT b top k,((k:Nat):Int),root,top,top.map (lfv b))) 1024 (ksT b top 1024) (λk hk=>by
  have hl:=Q3 b top k;unfold Fp cK wI;dsimp only;rw [iy O,QS ht root hk,AlU,Oo];by_cases hz:vl b top k=0
  .rw [ino (by simp [hz]),AlU,Al1 hz,Amf,Am O]
  .rw [iy hz,Al1 (by simp only [Aa,decide_eq_true_eq,Amb];omega),AlU,AlZ hz,Am O]) (by
  unfold Fp cK wI;dsimp only;rw [ino O])
 rw [show Ab Fp ([],0,root,top,top.map (lfv b))=_ from h];rfl
def kL (b:Bls) (top:List Int) (k m:Nat):List Kv:=((List.range m).filter λi=>decide (¬ gb (lfs b (gb top k)) i=0)).map λi=>(((32 * k+i:Nat):Int),gb (lfs b (gb top k)) i)
theorem Vq (b:Bls) (top:List Int) (k m:Nat):kL b top k (m+1)=kL b top k m++(if gb (lfs b (gb top k)) m=0 then []else [(((32 * k+m:Nat):Int),gb (lfs b (gb top k)) m)]):=by
 unfold kL;rw [AnI,Anu,AmD];by_cases h:gb (lfs b (gb top k)) m=0 <;> simp [h]
theorem AeV (b:Bls) (top:List Int) (k m:Nat):(kL b top k m).length<=m:=by
 unfold kL;rw [Amt];exact Amw (Anj _ _) Z
theorem Acc (b:Bls) (a:Int):(lfs b a).length<=32:=by
 unfold lfs;split
 .simp
 .rw [FH];exact Amu _
def kS (b:Bls) (top:List Int) (n:Nat):List Kv:=(List.range n).flatMap λk=>kL b top k (lfs b (gb top k)).length
theorem UU (b:Bls) (top:List Int) (n:Nat):kS b top (n+1)=kS b top n++kL b top n (lfs b (gb top n)).length:=by
 unfold kS;rw [AnI,Am9];simp
theorem Afo (b:Bls) (top:List Int):∀n,(kS b top n).length<=32 * n
 | 0=>by simp [kS]
 | n+1=>by
  rw [UU,Al0];have h1:=Afo b top n;have h2:=AeV b top n (lfs b (gb top n)).length;have h3:=Acc b (gb top n);omega
theorem AiY {b:Bls} {top:List Int} {k i:Nat} (hi:i < 32):vl b top (32 * k+i)=gb (lfs b (gb top k)) i:=by
 unfold vl;rw [show(32 * k+i) / 32=k by omega,show(32 * k+i) % 32=i by omega];unfold lfv lfs;split
 .unfold gb zer;rw [List.getElem?_replicate_of_lt hi];simp
 .rfl
theorem Wt (b:Bls) (top:List Int) (n:Nat):∀m,m<=32->ksT b top (32 * n+m)=ksT b top (32 * n)++kL b top n m
 | 0,_=>by simp [kL]
 | m+1,h=>by
  rw [(O:32 * n+(m+1)=32 * n+m+1),Oo,Wt b top n m O,Vq,Al5,AiY O]
theorem Ah5 (b:Bls) (top:List Int) (k:Nat):kL b top k 32=kL b top k (lfs b (gb top k)).length:=by
 by_cases h:gb top k=0
 .have e:lfs b (gb top k)=[]:=by unfold lfs;rw [Al1 h]
  have:∀m,kL b top k m=[]:=by
   intro m
   induction m with
   | zero=>rfl
   | succ m ih=>rw [Vq,ih,e];simp [gb]
  rw [this,this]
 .have e:(lfs b (gb top k)).length=32:=by unfold lfs;rw [AlZ h,FH]
  rw [e]
theorem AdI (b:Bls) (top:List Int):∀n,kS b top n=ksT b top (32 * n)
 | 0=>rfl
 | n+1=>by rw [UU,AdI b top n,(O:32 * (n+1)=32 * n+32),Wt b top n 32 O,Ah5]
theorem AeM {b:Bls} {x y z top:List Int} {root:Int} (h:SB b x y z) (hg:gsp b x y z=true) (hu:∀c∈b,U8s c) (ht:tre b x y root=some top):OW b x y z root=some (ksT b top 1024,true):=by
 have hl:=IU ht;have gs:=Rq hg;unfold OW;rw [Io h hu,hg,ht,AlU];simp only [Option.isSome_some,Bool.and_self,AmN,Al8,Amv];rw [Qj (gs.rs h hu),ht,AlU];dsimp only [trS];have h2:=Ai HT (λk=>(kS b top k,top.map (lfs b),((32:Nat):Int),((k:Nat):Int))) 32 (kS b top 32) (λk hk=>by
  have hgk:(top.map (lfs b))[k]?=some (lfs b (gb top k)):=by rw [AmB,Aj O];rfl
  have hll:=Acc b (gb top k);have h1:=Ai HW (λi=>(kS b top k++kL b top k i,((k:Nat):Int),top.map (lfs b),((32:Nat):Int),((k:Nat):Int),((0+Int.toNat ((k:Nat):Int):Nat):Int),(((lfs b (gb top k)).length:Nat):Int),((i:Nat):Int))) (lfs b (gb top k)).length (kS b top (k+1),top.map (lfs b),((32:Nat):Int),((k:Nat):Int)) (λi hi=>by
   have hkl:=AeV b top k i;have hks:=Afo b top k;have ew:IntKind.wrap .i64 ((IntKind.wrap .i64 (32 * ((k:Nat):Int)))+((i:Nat):Int))=((32 * k+i:Nat):Int):=by rw [w64 (n:=32 * ((k:Nat):Int)) O O,w64 O O];omega
   unfold HW cK cZ wI;dsimp only;rw [iy O,iy O,AlX,AlX,Amk,hgk,AlU,iy O,AlU,AlX,Amk,Aj hi,AlU,ew,Vq];by_cases hz:gb (lfs b (gb top k)) i=0
   .rw [ino (by simp [hz]),AlU,Al1 hz,Amf];dsimp only;rw [Am O,AlX]
   .rw [iy hz,Al1 (by simp only [Aa,decide_eq_true_eq,Amb,Al0];omega),AlU,AlZ hz];dsimp only;rw [Am O,AlX,Al5]) (by
   unfold HW cK cZ wI;dsimp only;rw [ino O,UU])
  have e0:kS b top k++kL b top k 0=kS b top k:=by simp [kL]
  rw [e0]at h1;unfold HT cK cZ wI;dsimp only;rw [iy O,iy O,iy (by rw [Amt];omega),AlX,Amk,hgk,AlU,AlU];rw [show Ab HW (kS b top k,((k:Nat):Int),top.map (lfs b),((32:Nat):Int),((k:Nat):Int),((k:Nat):Int),(((lfs b (gb top k)).length:Nat):Int),0)=some (kS b top (k+1),top.map (lfs b),((32:Nat):Int),((k:Nat):Int)) by
   rw [AlX,Amk]at h1;exact h1,AlU]
  dsimp only;rw [Am O]) (by
  unfold HT cK cZ wI;dsimp only;rw [ino O])
 rw [Amt,hl,show Ab HT ([],top.map (lfs b),((32:Nat):Int),0)=_ from h2,AlU,AdI]
theorem AfN {l:List Kv} (hl:l.length<=1048576) (key:Int) (a1 a2 a3 a4 a5:Int) (b:Bls) (x y z:List Int) (f:Int) (t:List UInt8) (r:List (Int×Int)) (cs:List (List Prt)) (rc:List Int) :
  DS a1 a2 a3 a4 a5 b x y z l f t r cs rc key=some (((l.find? λp=>decide (p.1=key)).map (·.2)).getD 0):=by
 unfold DS;rcases BT El (λi=>(key,l,(l.length:Int),((i:Nat):Int))) (λi=>!decide ((sg l i).1=key)) (λi=>(sg l i).2) () l.length (λi hi=>by
  unfold El gX wI;dsimp only;rw [iy O,iy O,AlX,J5 hi,AlU,Am O];by_cases h:(sg l i).1=key <;> simp [h]) (by
  unfold El gX wI;dsimp only;rw [ino O])with⟨ha,h⟩ | ⟨k,hk,hp,ha,h⟩
 .rw [show Ab El (key,l,(l.length:Int),0)=_ from h];have:l.find? (λp=>decide (p.1=key))=none:=by
   rw [List.find?_eq_none];intro p hp;obtain ⟨i,hi,rfl⟩:=AmA hp;have h1:=ha i hi;have h2:=J5 hi;rw [AlW hi]at h2;injection h2 with h2
   rw [h2];simpa using h1
  rw [this];rfl
 .rw [show Ab El (key,l,(l.length:Int),0)=_ from h];have:l.find? (λp=>decide (p.1=key))=some (sg l k):=by
   rw [List.find?_eq_some_iff_getElem];have h2:=J5 hk;rw [AlW hk]at h2;injection h2 with h2
   refine⟨by simpa using hp,k,hk,h2,λj hj=>?_⟩;have h3:=J5 (O:j < l.length);rw [AlW (O:j < l.length)]at h3;injection h3 with h3
   rw [h3];exact ha j hj
  rw [this];rfl
theorem X4 (b:Bls) (top:List Int) (key:Nat):∀n,((ksT b top n).find? λp=>decide (p.1=(key:Int)))=if key < n/\¬ vl b top key=0 then some ((key:Int),vl b top key)else none
 | 0=>by simp [ksT]
 | n+1=>by
  rw [Oo,List.find?_append,X4 b top key n];by_cases hn:key=n
  .subst hn;rw [AlZ O];by_cases hz:vl b top key=0
   .rw [Al1 hz,AlZ (λq=>q.2 hz)];rfl
   .rw [AlZ hz,Al1 ⟨O,hz⟩];simp
  .have hne:¬ ((n:Nat):Int)=(key:Int):=O
   have e:List.find? (λp:Kv=>decide (p.1=(key:Int))) (if vl b top n=0 then []else [(((n:Nat):Int),vl b top n)])=none:=by
    split
    .rfl
    .rw [List.find?_cons];simp [hne]
   rw [e,Option.or_none];by_cases hk:key < n/\¬ vl b top key=0
   .rw [Al1 hk,Al1 ⟨O,hk.2⟩]
   .rw [AlZ hk,AlZ (λq=>hk ⟨O,q.2⟩)]
theorem AjB (b:Bls) (top:List Int) {key:Nat} (hk:key < 1024):(((ksT b top 1024).find? λp=>decide (p.1=(key:Int))).map (·.2)).getD 0=vl b top key:=by
 rw [X4];by_cases h:vl b top key=0
 .rw [AlZ (λq=>q.2 h),h];rfl
 .rw [Al1 ⟨hk,h⟩];rfl
end Go.V.G
set_option maxRecDepth 100000
namespace Go.V.G
open Go.V
def skn (f k n:Nat):List (Int×Int):=((List.range n).filter λi=>decide (f<=i * 2 ^ k)).map λi=>((k:Int),((i:Nat):Int))
def stk (f h:Nat):Nat->List (Int×Int)
 | 0=>[]
 | k+1=>stk f h k++skn f k (h / 2 ^ k)
def sts (f h:Nat):List (Int×Int):=stk f h 6
theorem JJ (f k n:Nat):skn f k (n+1)=skn f k n++(if f<=n * 2 ^ k then [((k:Int),(n:Int))]else []):=by
 unfold skn;rw [AnI,Anu,AmD];by_cases h:f<=n * 2 ^ k <;> simp [h]
theorem Vn (f k n:Nat):(skn f k n).length<=n:=by
 unfold skn;rw [Amt];exact Amw (Anj _ _) Z
theorem Rl (f h:Nat):∀k,(stk f h k).length<=k * h
 | 0=>by simp [stk]
 | k+1=>by
  unfold stk;rw [Al0,An4];have h1:=Rl f h k;have h2:=Vn f k (h / 2 ^ k);have h3:=Aom h (2 ^ k);omega
theorem O3 (f k:Nat):∀n,n<=(f+2 ^ k - 1) / 2 ^ k->skn f k n=[]
 | 0,_=>rfl
 | n+1,hn=>by
  rw [JJ,O3 f k n O,AlZ,Amf];have hp:0 < 2 ^ k:=AnB Z;have:=(Nat.le_div_iff_mul_le hp).1 hn;rw [An4]at this;omega
theorem AhY {f k n:Nat} (hn:(f+2 ^ k - 1) / 2 ^ k<=n):f<=n * 2 ^ k:=by
 have hp:0 < 2 ^ k:=AnB Z;have:¬ n+1<=(f+2 ^ k - 1) / 2 ^ k:=O
 rw [Nat.le_div_iff_mul_le hp,An4]at this;omega
theorem AcW:∀{k:Nat},k < 6->(2:Int) ^ (min (Int.toNat (k:Int)) (IntKind.bits .i64))=((2 ^ k:Nat):Int)/\2 ^ k<=32/\(2:Int) ^ (min (Int.toNat (IntKind.wrap .u64 (k:Int))) (IntKind.bits .i64))=((2 ^ k:Nat):Int)/\IntKind.wrap .u64 (k:Int)=(k:Int)
 | 0,_=>by decide
 | 1,_=>by decide
 | 2,_=>by decide
 | 3,_=>by decide
 | 4,_=>by decide
 | 5,_=>by decide
 | k+6,h=>by omega
theorem OF {k i:Nat} (hk:k < 6) (hi:i<=1000):IntKind.wrap .i64 ((i:Int) * (2:Int) ^ (min (Int.toNat (k:Int)) (IntKind.bits .i64)))=((i * 2 ^ k:Nat):Int):=by
 obtain ⟨h1,h2,_⟩:=AcW hk;rw [h1,<- Int.natCast_mul];have:i * 2 ^ k<=1000 * 32:=Nat.mul_le_mul hi h2;rw [w64 O O]
theorem lt_dv {h k i:Nat}:(i+1) * 2 ^ k<=h↔i < h / 2 ^ k:=by
 have hp:0 < 2 ^ k:=AnB Z;rw [<- Nat.le_div_iff_mul_le hp];omega
theorem Ou {f h:Nat} (hh:h<=60):LJ (f:Int) (h:Int)=some (sts f h):=by
 unfold LJ;have h2:=Ai Ji (λk=>((f:Int),(h:Int),stk f h k,((k:Nat):Int))) 6 (sts f h) (λk hk=>by
  obtain ⟨p1,p2,p3,p4⟩:=AcW hk;have hp:0 < 2 ^ k:=AnB Z;have hdl:=Aom h (2 ^ k);have hsk:=Rl f h k;have hkh:k * h<=6 * 60:=Nat.mul_le_mul O hh;have h1:=Ai Jv (λi=>((f:Int),(h:Int),stk f h k++skn f k i,((k:Nat):Int),((i:Nat):Int))) (h / 2 ^ k) ((f:Int),(h:Int),stk f h (k+1),((k:Nat):Int)) (λi hi=>by
   have hl:=Vn f k i;have hm:=(lt_dv (h:=h) (k:=k) (i:=i)).2 hi;unfold Jv cK cZ wI;dsimp only;rw [p4,iy O,Am O,OF hk O,iy O,iy O,OF hk O];by_cases hz:f<=i * 2 ^ k
   .rw [iy O,Al1 (by simp only [Aa,decide_eq_true_eq,Amb,Al0];omega),AlU,JJ,Al1 hz,Al5];dsimp only;rw [Am O]
   .rw [ino O,AlU,JJ,AlZ hz,Amf];dsimp only;rw [Am O]) (by
   have hm:¬ (h / 2 ^ k+1) * 2 ^ k<=h:=λq=>Nat.lt_irrefl _ (lt_dv.1 q)
   unfold Jv cK cZ wI;dsimp only;rw [p4,iy O,Am O,OF hk O,ino O];rfl)
  have e0:stk f h k++skn f k 0=stk f h k:=by simp [skn]
  rw [e0]at h1;unfold Ji wI;dsimp only;rw [iy O,show Ab Jv ((f:Int),(h:Int),stk f h k,((k:Nat):Int),0)=_ from h1,AlU];dsimp only;rw [Am O]) (by
  unfold Ji wI;dsimp only;rw [ino O];rfl)
 rw [show Ab Ji ((f:Int),(h:Int),[],0)=_ from h2];rfl
theorem Vp {f h:Nat} (hf:f<=h) (hh:h<=60):Kd (f:Int) (h:Int)=some (sts f h):=by
 unfold Kd;have h2:=Ai Ff (λk=>((f:Int),(h:Int),stk f h k,((k:Nat):Int))) 6 (sts f h) (λk hk=>by
  obtain ⟨p1,p2,p3,p4⟩:=AcW hk;have hp:0 < 2 ^ k:=AnB Z;have hdl:=Aom h (2 ^ k);have hsk:=Rl f h k;have hkh:k * h<=6 * 60:=Nat.mul_le_mul O hh;have he0:(f+2 ^ k - 1) / 2 ^ k<=f+2 ^ k - 1:=Aom _ _;have h1:=Ai HA (λj=>((f:Int),(h:Int),stk f h k++skn f k ((f+2 ^ k - 1) / 2 ^ k+j),((k:Nat):Int),(((f+2 ^ k - 1) / 2 ^ k+j:Nat):Int),((k:Nat):Int))) (h / 2 ^ k - (f+2 ^ k - 1) / 2 ^ k) ((f:Int),(h:Int),stk f h (k+1),((k:Nat):Int)) (λj hj=>by
   have hl:=Vn f k ((f+2 ^ k - 1) / 2 ^ k+j);have hm:=(lt_dv (h:=h) (k:=k) (i:=(f+2 ^ k - 1) / 2 ^ k+j)).2 O;unfold HA cK cZ wI;dsimp only;rw [iy O,Am O,OF hk O,iy O,Al1 (by simp only [Aa,decide_eq_true_eq,Amb,Al0];omega),<- Ani,JJ,Al1 (AhY O),Al5]) (by
   have hm:¬ ((f+2 ^ k - 1) / 2 ^ k+(h / 2 ^ k - (f+2 ^ k - 1) / 2 ^ k)+1) * 2 ^ k<=h:=λq=>by have:=lt_dv.1 q;omega
   have es:skn f k ((f+2 ^ k - 1) / 2 ^ k+(h / 2 ^ k - (f+2 ^ k - 1) / 2 ^ k))=skn f k (h / 2 ^ k):=by
    by_cases hq:(f+2 ^ k - 1) / 2 ^ k<=h / 2 ^ k
    .rw [show(f+2 ^ k - 1) / 2 ^ k+(h / 2 ^ k - (f+2 ^ k - 1) / 2 ^ k)=h / 2 ^ k by omega]
    .rw [O3 f k _ O,O3 f k _ O]
   unfold HA cK cZ wI;dsimp only;rw [iy O,Am O,OF hk O,ino O,es];rfl)
  rw [Anq,O3 f k _ (Amu _),Amf]at h1;have e1:IntKind.wrap .i64 (1 * ((2 ^ k:Nat):Int))=((2 ^ k:Nat):Int):=by rw [Int.one_mul,w64 O O]
  have e2:IntKind.wrap .i64 ((f:Int)+((2 ^ k:Nat):Int))=((f+2 ^ k:Nat):Int):=by rw [w64 O O];omega
  have e3:IntKind.wrap .i64 (((f+2 ^ k:Nat):Int) - 1)=((f+2 ^ k - 1:Nat):Int):=by rw [w64 O O];omega
  unfold Ff cZ wI;dsimp only;rw [iy O,iy O,iy O,p1,e1,e2,e3,AnN _ O,<- Int.natCast_ediv,h1,AlU];dsimp only;rw [Am O]) (by
  unfold Ff cZ wI;dsimp only;rw [ino O];rfl)
 rw [show Ab Ff ((f:Int),(h:Int),[],0)=_ from h2];rfl
def ky (s:Int×Int):Nat:=64 * s.1.toNat+s.2.toNat
structure St8 (f h:Nat) (s:Int×Int) (k i:Nat):Prop where
 e:s=((k:Int),(i:Int))
 hk:k < 6
 lo:f<=i * 2 ^ k
 hi:(i+1) * 2 ^ k<=h
theorem skn_mem {f k n:Nat} {s:Int×Int}:s∈skn f k n↔∃i,i < n/\f<=i * 2 ^ k/\s=((k:Int),((i:Nat):Int)):=by
 unfold skn;simp only [Aml,AnT,AnG,decide_eq_true_eq];constructor
 .rintro ⟨i,⟨h1,h2⟩,rfl⟩;exact⟨i,h1,h2,rfl⟩
 .rintro ⟨i,h1,h2,rfl⟩;exact⟨i,⟨h1,h2⟩,rfl⟩
theorem Ab6 {f h:Nat} {s:Int×Int}:∀{n:Nat},s∈stk f h n↔∃k i,k < n/\i < h / 2 ^ k/\f<=i * 2 ^ k/\s=(((k:Nat):Int),((i:Nat):Int))
 | 0=>by simp [stk]
 | n+1=>by
  unfold stk;rw [Al3,Ab6,skn_mem];constructor
  .rintro (⟨k,i,h1,h2⟩ | ⟨i,h1,h2⟩)
   .exact⟨k,i,O,h2⟩
   .exact⟨n,i,O,h1,h2⟩
  .rintro ⟨k,i,h1,h2⟩;by_cases hk:k=n
   .subst hk;exact .inr ⟨i,h2⟩
   .exact .inl ⟨k,i,O,h2⟩
theorem sts_mem {f h:Nat} {s:Int×Int}:s∈sts f h↔∃k i,St8 f h s k i:=by
 unfold sts;rw [Ab6];constructor
 .rintro ⟨k,i,h1,h2,h3,h4⟩;exact⟨k,i,h4,h1,h3,lt_dv.2 h2⟩
 .rintro ⟨k,i,h⟩;exact⟨k,i,h.hk,lt_dv.1 h.hi,h.lo,h.e⟩
theorem St8.lt {f h k i:Nat} {s:Int×Int} (g:St8 f h s k i) (hh:h<=60):i < 60/\ky s=64 * k+i/\64 * k+i < 384:=by
 have h1:=lt_dv.1 g.hi;have h2:=Aom h (2 ^ k);have h3:=g.hk;refine⟨O,?_,O⟩;unfold ky;rw [g.e];simp
theorem TR (a b c:Int):Bw a b c=some (decide (b<=a) && decide (a<=c)):=by
 unfold Bw;by_cases h:b<=a <;> simp [h]
theorem Lp {k i:Nat} (hk:k < 6) (hi:i < 64):Gk (k:Int) (i:Int)=some ((64 * k+i:Nat):Int):=by
 unfold Gk wI;rw [TR,AlU,decide_eq_true (show(0:Int)<=(k:Int) by omega),decide_eq_true (show(k:Int)<=5 by omega),TR,AlU,decide_eq_true (show(0:Int)<=(i:Int) by omega),decide_eq_true (show(i:Int)<=63 by omega)];simp only [Bool.and_self,AmN,Al8,Amv,AlU];rw [w64 (n:=64 * (k:Int)) O O,w64 O O]
 congr 1
theorem AcO {k i:Nat} (hk:k < 6) (hi:i < 64):Oe (k:Int) (i:Int)=some ((64 * k+i:Nat):Int):=by
 unfold Oe wI;rw [AK,AlU,decide_eq_true (show(0:Int)<=(k:Int)/\(k:Int)<=5 by omega),AK,AlU,decide_eq_true (show(0:Int)<=(i:Int)/\(i:Int)<=63 by omega)];simp only [Bool.and_self,AmN,Al8,Amv,AlU];rw [w64 (n:=64 * (k:Int)) O O,w64 O O]
 congr 1
theorem Aew {k i:Nat} (hk:k < 6) (hi:i < 64):E8 (k:Int) (i:Int)=some ((i * 2 ^ k:Nat):Int):=by
 unfold E8 cZ wI;rw [iy O,OF hk O]
theorem Aiq {k i:Nat} (hk:k < 6) (hi:i < 64):Hb (k:Int) (i:Int)=some (((i+1) * 2 ^ k:Nat):Int):=by
 unfold Hb cZ wI;rw [iy O,Am O,OF hk O]
def ckn (f e n:Nat):List Nat:=((List.range n).map (f+1 + ·)).filter λr=>decide (r % e=0)
theorem SH (f e n:Nat):ckn f e (n+1)=ckn f e n++(if(f+1+n) % e=0 then [f+1+n]else []):=by
 unfold ckn;rw [AnI,AmD,Anu];by_cases h:(f+1+n) % e=0 <;> simp [h]
theorem Q8 (f e n:Nat):(ckn f e n).length<=n:=by
 unfold ckn;exact Amw (Anj _ _) Z
def cks (f h e:Nat):List Nat:=ckn f e (h - f)
theorem cks_mem {f h e r:Nat}:r∈cks f h e↔f < r/\r<=h/\r % e=0:=by
 unfold cks ckn;simp only [AnT,Aml,AnG,decide_eq_true_eq];constructor
 .rintro ⟨⟨a,h1,rfl⟩,h2⟩;exact⟨O,O,h2⟩
 .rintro ⟨h1,h2,h3⟩;exact⟨⟨r - (f+1),O,O⟩,h3⟩
theorem Zq {a e:Nat}:Int.tmod (a:Int) (e:Int)=((a % e:Nat):Int):=by
 rw [Anz O];rfl
theorem AaW {f h e:Nat} (hf:f<=h) (hh:h<=60) (he:0 < e) (he2:e<=30):Or (f:Int) (h:Int) (e:Int)=some ((cks f h e).map λr=>((r:Nat):Int)):=by
 unfold Or wI;have h2:=Ai HU (λn=>((h:Int),(e:Int),(ckn f e n).map (λr=>((r:Nat):Int)),((f+1+n:Nat):Int))) (h - f) ((cks f h e).map λr=>((r:Nat):Int)) (λn hn=>by
  have hl:=Q8 f e n;unfold HU cK wI;dsimp only;rw [iy O,iy O,Zq,SH];by_cases hz:(f+1+n) % e=0
  .rw [iy O,Al1 (by simp only [Aa,decide_eq_true_eq,Amb,Amt];omega),AlU,Al1 hz,AmD];dsimp only;rw [Am O];rfl
  .rw [ino O,AlU,AlZ hz,Amf];dsimp only;rw [Am O];rfl) (by
  unfold HU cK wI;dsimp only;rw [ino O];rfl)
 rw [Am O,show Ab HU ((h:Int),(e:Int),[],((f+1:Nat):Int))=_ from h2];rfl
end Go.V.G
set_option maxRecDepth 100000
namespace Go.V.G
open Go.V
theorem AiF:Ris ([]:List Int):=by rw [ris_iff];exact List.Pairwise.nil
noncomputable abbrev srt (l:List Int):List Int:=pts [] l
theorem KH {l:List Int} (h:l.length<=1000000):Ris (srt l)/\(srt l).length<=l.length/\∀v,v∈srt l↔v∈l:=by
 obtain ⟨h1,h2,h3⟩:=AfF AiF (l:=l) (by simp only [Amp];omega);refine⟨h1,by simpa using h2,λv=>by rw [h3 v];simp⟩
theorem Gp {l:List Int} (h:l.length<=1000000) (v:Int):Dd (srt l) v=some (srt (l++[v]))/\Iv (srt l) v=some (srt (l++[v])):=by
 obtain ⟨h1,h2,h3⟩:=KH h;obtain ⟨p1,p2,_⟩:=MH (z:=srt l) O h1 v;have e:srt (l++[v])=pt (srt l) v:=Ag3 [] l v;rw [e];exact⟨p1,p2⟩
theorem T0 {l:List Int} {i:Nat} {v:Int} (h:l[i]?=some v):(l.take (i+1)).filter (λv=>decide (¬ v=0))=(l.take i).filter (λv=>decide (¬ v=0))++(if v=0 then []else [v]):=by
 rw [C9 h,Anu];by_cases h0:v=0 <;> simp [h0]
def pgl (top:List Int) (root:Int):List Int:=(top++[root]).filter (λv=>decide (¬ v=0))
theorem AbO {top:List Int} {root:Int} (h:top.length=32):(pgl top root).length<=33:=by
 unfold pgl;have:=Anj (λv=>decide (¬ v=0)) (top++[root]);rw [Al0,Amb,h]at this;omega
theorem AgV {b:Bls} {x y z top:List Int} {root:Int} (h:SB b x y z) (hu:∀c∈b,U8s c) (hg:gsp b x y z=true) (ht:tre b x y root=some top):MR b x y z root=some (srt (pgl top root),true):=by
 have htl:=IU ht;unfold MR pgl cK;rw [Io h hu,hg,ht,AlU,AlZ Z,Qj ((Rq hg).rs h hu),ht,AlU];unfold trS;dsimp only;rw [Al1 (Abw O _)];generalize hL:top++[root]=L;have hLl:L.length=33:=by rw [<- hL];simp [htl]
 have hl:=Ai GE (λi=>(srt ((L.take i).filter (λv=>decide (¬ v=0))),L,(L.length:Int),((i:Nat):Int))) L.length (srt ((L.take L.length).filter (λv=>decide (¬ v=0)))) (λi hi=>by
  have hgi:=Aj hi;have hfl:=Anj (λv=>decide (¬ v=0)) (L.take i);rw [Al4]at hfl;have hput:=(Gp (l:=(L.take i).filter (λv=>decide (¬ v=0))) O (gb L i)).1;unfold GE cK cZ wI;dsimp only;rw [iy O,iy O,iy O,Amk,AlX,hgi,AlU,T0 hgi];by_cases h0:gb L i=0
  .rw [ino (not_not_intro h0),AlU,Al1 h0,Amf];dsimp only;rw [Am O]
  .rw [iy h0,hput,AlU,AlU,AlZ h0];dsimp only;rw [Am O]) (by
  unfold GE cK cZ wI;dsimp only;rw [ino O])
 rw [show Ab GE ([],L,(L.length:Int),0)=_ from hl,AmL];rfl
theorem Ahg {top:List Int} (htl:top.length=32) (root:Int) (v:List (List Int)):Jr root top v=some (srt (pgl top root)):=by
 unfold Jr pgl cK;rw [Ac1 O,AlU,Al1 (Abw O _)];generalize hL:top++[root]=L;have hLl:L.length=33:=by rw [<- hL];simp [htl]
 have hl:=Ai Eu (λi=>(srt ((L.take i).filter (λv=>decide (¬ v=0))),L,(L.length:Int),((i:Nat):Int))) L.length (srt ((L.take L.length).filter (λv=>decide (¬ v=0)))) (λi hi=>by
  have hgi:=Aj hi;have hfl:=Anj (λv=>decide (¬ v=0)) (L.take i);rw [Al4]at hfl;have hput:=(Gp (l:=(L.take i).filter (λv=>decide (¬ v=0))) O (gb L i)).2;unfold Eu cK cZ wI;dsimp only;rw [iy O,iy O,iy O,Amk,AlX,hgi,AlU,T0 hgi];by_cases h0:gb L i=0
  .rw [ino (not_not_intro h0),AlU,Al1 h0,Amf];dsimp only;rw [Am O]
  .rw [iy h0,hput,AlU,AlU,AlZ h0];dsimp only;rw [Am O]) (by
  unfold Eu cK cZ wI;dsimp only;rw [ino O])
 rw [show Ab Eu ([],L,(L.length:Int),0)=_ from hl,AmL];rfl
def kyI (s:Int×Int):Int:=(ky s:Int)
def ckI (r:Nat):Int:=((384+r:Nat):Int)
def JA (f h e:Nat):List Int:=(sts f h).map kyI++((cks f h e).map ckI++[448])
noncomputable def wnt (f h e:Nat):List Int:=srt (JA f h e)
theorem IS {f h:Nat} (hh:h<=60):(sts f h).length<=360:=by
 have:=Rl f h 6;unfold sts;omega
theorem NR {f h e:Nat} (hh:h<=60):(cks f h e).length<=60:=by
 have:=Q8 f e (h - f);unfold cks;omega
theorem AfD {f h e:Nat} (hh:h<=60):(JA f h e).length<=421:=by
 have h1:=IS (f:=f) hh;have h2:=NR (f:=f) (e:=e) hh;unfold JA;simp only [Al0,Amt,Amb];omega
theorem PY {f h:Nat} {i:Nat} (hi:i < (sts f h).length):∃k j,St8 f h (sts f h)[i] k j:=sts_mem.1 (Amc hi)
theorem AaR {f h e:Nat} (hf:f<=h) (hh:h<=60) (he:0 < e) (he2:e<=30):Kh (f:Int) (h:Int) (e:Int)=some (wnt f h e):=by
 have hsl:=IS (f:=f) hh;unfold Kh wI;rw [Ou hh,AlU];have h1:=Ai Fe (λi=>((f:Int),(h:Int),(e:Int),srt (((sts f h).map kyI).take i),sts f h,(((sts f h).length:Nat):Int),((i:Nat):Int))) (sts f h).length ((f:Int),(h:Int),(e:Int),srt ((sts f h).map kyI)) (λi hi=>by
  obtain ⟨k,j,g⟩:=PY hi;obtain ⟨l1,l2,l3⟩:=g.lt hh;have hk:=g.hk;have hget:(sts f h)[i]?=some ((sts f h)[i]):=AlW hi;have hml:((sts f h).map kyI)[i]?=some (((64 * k+j:Nat):Nat):Int):=by rw [AmB,hget];show some (kyI _)=_;unfold kyI;rw [l2]
  have hput:=(Gp (l:=((sts f h).map kyI).take i) (by rw [Al4,Amt];omega) ((64 * k+j:Nat):Int)).1;unfold Fe cK cZ wI;dsimp only;rw [iy O,iy O,iy O,Amk,AlX,hget,AlU,AlU];simp only [g.e];rw [Lp hk O,AlU,hput,AlU,Am O,C9 hml]) (by
  unfold Fe cK cZ wI;dsimp only;rw [ino O,AmK Z])
 rw [show Ab Fe ((f:Int),(h:Int),(e:Int),[],sts f h,(((sts f h).length:Nat):Int),0)=_ from h1,AlU];dsimp only;have h2:=Ai E0 (λn=>((h:Int),(e:Int),srt ((sts f h).map kyI++(ckn f e n).map ckI),((f+1+n:Nat):Int))) (h - f) (srt ((sts f h).map kyI++(cks f h e).map ckI)) (λn hn=>by
  have hl:=Q8 f e n;unfold E0 cK wI;dsimp only;rw [iy O,iy O,Zq,SH];by_cases hz:(f+1+n) % e=0
  .have hput:=(Gp (l:=(sts f h).map kyI++(ckn f e n).map ckI) (by rw [Al0,Amt,Amt];omega) (ckI (f+1+n))).1;have ew:IntKind.wrap .i64 (384+((f+1+n:Nat):Int))=ckI (f+1+n):=by rw [w64 O O];unfold ckI;omega
   rw [iy O,ew,hput,AlU,AlU,Al1 hz,AmD,<- Al5];dsimp only;rw [Am O];rfl
  .rw [ino O,AlU,AlZ hz,Amf];dsimp only;rw [Am O];rfl) (by
  unfold E0 cK wI;dsimp only;rw [ino O];rfl)
 have e0:(sts f h).map kyI++(ckn f e 0).map ckI=(sts f h).map kyI:=by simp [ckn]
 rw [e0]at h2;have hcl:=NR (f:=f) (e:=e) hh;rw [Am O,show Ab E0 ((h:Int),(e:Int),srt ((sts f h).map kyI),((f+1:Nat):Int))=_ from h2,AlU,
  (Gp (l:=(sts f h).map kyI++(cks f h e).map ckI) (by rw [Al0,Amt,Amt];omega) 448).1,Al5]
 rfl
theorem Aft {f h e:Nat} (hh:h<=60):Ris (wnt f h e)/\(wnt f h e).length<=421/\∀v,v∈wnt f h e↔v∈JA f h e:=by
 have hl:=AfD (f:=f) (e:=e) hh;obtain ⟨h1,h2,h3⟩:=KH (l:=JA f h e) O;exact⟨h1,by unfold wnt;omega,h3⟩
theorem AbC (b:Bls) (top:List Int):∀n,((ksT b top n).map (·.1)).Pairwise (· < ·)/\∀v∈(ksT b top n).map (·.1),v < ((n:Nat):Int)
 | 0=>by simp [ksT]
 | n+1=>by
  obtain ⟨h1,h2⟩:=AbC b top n;rw [Oo,AmD];by_cases hz:vl b top n=0
  .rw [Al1 hz];refine⟨by simpa using h1,λv hv=>?_⟩;have:=h2 v (by simpa using hv);omega
  .rw [AlZ hz];refine⟨?_,λv hv=>?_⟩
   .rw [AnJ];refine⟨h1,Z,λa ha c hc=>?_⟩;simp only [AmF,Aof,Al6]at hc;rw [hc];exact h2 a ha
   .rcases Al3.1 hv with hv | hv
    .have:=h2 v hv;omega
    .simp only [AmF,Aof,Al6]at hv;omega
theorem ksT_mem {b:Bls} {top:List Int} {n:Nat} {v:Int}:v∈(ksT b top n).map (·.1)↔∃k:Nat,k < n/\¬ vl b top k=0/\v=(k:Int):=by
 unfold ksT;simp only [AmU,Aml,AnT,AnG,decide_eq_true_eq,Function.comp];constructor
 .rintro ⟨k,⟨h1,h2⟩,rfl⟩;exact⟨k,h1,h2,rfl⟩
 .rintro ⟨k,h1,h2,rfl⟩;exact⟨k,⟨h1,h2⟩,rfl⟩
noncomputable def kok (b:Bls) (top:List Int) (f h e:Nat):Bool:=decide ((ksT b top 1024).map (·.1)=wnt f h e)
theorem Abt {b:Bls} {top:List Int} {f h e:Nat} (hh:h<=60):kok b top f h e=true↔(∀k:Nat,k < 1024->¬ vl b top k=0->((k:Nat):Int)∈JA f h e)/\∀k:Nat,k < 1024->((k:Nat):Int)∈JA f h e->¬ vl b top k=0:=by
 obtain ⟨w1,_,w3⟩:=Aft (f:=f) (e:=e) hh;unfold kok;rw [decide_eq_true_eq];constructor
 .intro q;refine⟨λk hk hv=>?_,λk hk hm=>?_⟩
  .rw [<- w3,<- q];exact ksT_mem.2 ⟨k,hk,hv,rfl⟩
  .rw [<- w3,<- q]at hm;obtain ⟨k',h1,h2,h3⟩:=ksT_mem.1 hm;have:k'=k:=O
   rw [<- this];exact h2
 .rintro ⟨q1,q2⟩;refine Aca (ris_iff.2 (AbC b top 1024).1) w1 λv=>?_
  rw [w3,ksT_mem];constructor
  .rintro ⟨k,h1,h2,rfl⟩;exact q1 k h1 h2
  .intro hm;have hb:∃k:Nat,k < 1024/\v=((k:Nat):Int):=by
    unfold JA at hm;rcases Al3.1 hm with hm | hm
    .obtain ⟨s,hs,rfl⟩:=Aml.1 hm;obtain ⟨k,j,g⟩:=sts_mem.1 hs;obtain ⟨l1,l2,l3⟩:=g.lt hh;exact⟨ky s,O,rfl⟩
    .rcases Al3.1 hm with hm | hm
     .obtain ⟨r,hr,rfl⟩:=Aml.1 hm;have:=cks_mem.1 hr;exact⟨384+r,O,rfl⟩
     .exact⟨448,O,by simpa using hm⟩
   obtain ⟨k,hk,rfl⟩:=hb;exact⟨k,hk,q2 k hk hm,rfl⟩
end Go.V.G
set_option maxRecDepth 100000
namespace Go.V.G
open Go.V
theorem AfX {σ α:Type} {f:σ->α->Option σ} {xs:List α} {x y:σ} (h:∀l:List α,l.Perm xs->l.foldlM f x=some y):Pj f xs x=some y:=by
 have hx:∃y,∀l:List α,l.Perm xs->l.foldlM f x=some y:=⟨y,h⟩
 unfold Pj;rw [dif_pos hx];have h1:=hx.choose_spec xs (List.Perm.refl _);rw [h xs (List.Perm.refl _)]at h1;exact h1.symm
def ndb (l:List Int):Bool:=decide l.Nodup
theorem Ll {l:List Int} {v:Int}:(l++[v]).Nodup↔l.Nodup/\v∉l:=by
 rw [Amj];constructor
 .rintro ⟨h1,_,h3⟩;exact⟨h1,λhv=>h3 v hv v Z rfl⟩
 .rintro ⟨h1,h2⟩;refine⟨h1,Z,λa ha c hc=>?_⟩;rw [Al6.1 hc];rintro rfl;exact h2 ha
theorem Z1 (l:List Int) (v:Int):ndb (l++[v])=(ndb l && !decide (v∈l)):=by
 unfold ndb;by_cases h1:l.Nodup <;> by_cases h2:v∈l <;> simp [Ll,h1,h2]
def bd (fn:Bool) (l:List Int):Bool:=!(fn && ndb l)
theorem AbK (fn:Bool) (l:List Int) (v:Int):bd fn (l++[v])=if bd fn l=true then true else decide (v∈l):=by
 unfold bd;rw [Z1];cases fn <;> cases ndb l <;> simp
structure Led (C P bl:List Int):Prop where
 mem:∀v,v∈bl↔v∈C\/v∈P
 nd:bl.Nodup↔C.Nodup/\∀v∈P,v∉C
theorem Led.nil:Led [] [] []:=⟨Z,Z⟩
theorem Led.claim {C P bl:List Int} (h:Led C P bl) (v:Int):Led (C++[v]) P (bl++[v]):=by
 refine⟨λw=>?_,?_⟩
 .simp only [Al3,Al6,h.mem w];constructor
  .rintro ((h | h) | h)
   .exact .inl (.inl h)
   .exact .inr h
   .exact .inl (.inr h)
  .rintro ((h | h) | h)
   .exact .inl (.inl h)
   .exact .inr h
   .exact .inl (.inr h)
 .rw [Ll,Ll,h.nd,h.mem];constructor
  .rintro ⟨⟨h1,h2⟩,h3⟩;refine⟨⟨h1,λq=>h3 (.inl q)⟩,λw hw hm=>?_⟩;rcases Al3.1 hm with hm | hm
   .exact h2 w hw hm
   .rw [Al6.1 hm]at hw;exact h3 (.inr hw)
  .rintro ⟨⟨h1,h2⟩,h3⟩;refine⟨⟨h1,λw hw hm=>h3 w hw (Anr _ hm)⟩,?_⟩;rintro (q | q)
   .exact h2 q
   .exact h3 v q Z
theorem Led.claims {P:List Int}:∀{l C bl:List Int},Led C P bl->Led (C++l) P (bl++l)
 | [],C,bl,h=>by simpa using h
 | v::l,C,bl,h=>by
  have:=Led.claims (l:=l) (h.claim v);simpa using this
theorem Led.piece {C P bl:List Int} (h:Led C P bl) (v:Int):Led C (P++[v]) (if v∈P then bl else bl++[v]):=by
 by_cases hv:v∈P
 .rw [Al1 hv];refine⟨λw=>?_,?_⟩
  .rw [h.mem w,Al3,Al6];constructor
   .rintro (q | q)
    .exact .inl q
    .exact .inr (.inl q)
   .rintro (q | q | q)
    .exact .inl q
    .exact .inr q
    .exact .inr (by rw [q];exact hv)
  .rw [h.nd];constructor
   .rintro ⟨h1,h2⟩;refine⟨h1,λw hw=>?_⟩;rcases Al3.1 hw with hw | hw
    .exact h2 w hw
    .rw [Al6.1 hw];exact h2 v hv
   .rintro ⟨h1,h2⟩;exact⟨h1,λw hw=>h2 w (Anr _ hw)⟩
 .rw [AlZ hv];refine⟨λw=>?_,?_⟩
  .rw [Al3,h.mem w,Al3,Al6];constructor
   .rintro ((q | q) | q)
    .exact .inl q
    .exact .inr (.inl q)
    .exact .inr (.inr q)
   .rintro (q | q | q)
    .exact .inl (.inl q)
    .exact .inl (.inr q)
    .exact .inr q
  .rw [Ll,h.nd,h.mem];constructor
   .rintro ⟨⟨h1,h2⟩,h3⟩;refine⟨h1,λw hw=>?_⟩;rcases Al3.1 hw with hw | hw
    .exact h2 w hw
    .rw [Al6.1 hw];exact λq=>h3 (.inl q)
   .rintro ⟨h1,h2⟩;refine⟨⟨h1,λw hw=>h2 w (Anr _ hw)⟩,?_⟩;rintro (q | q)
    .exact h2 v Z q
    .exact hv q
def bpn (P bl l:List Int):Nat->List Int
 | 0=>bl
 | i+1=>if gb l i∈P++l.take i then bpn P bl l i else bpn P bl l i++[gb l i]
theorem AbV {C P bl l:List Int} (h:Led C P bl):∀n,n<=l.length->Led C (P++l.take n) (bpn P bl l n)
 | 0,_=>by simpa [bpn] using h
 | n+1,hn=>by
  have h1:=(AbV (l:=l) h n O).piece (gb l n);rw [C9 (Aj (O:n < l.length)),<- Al5];exact h1
theorem Ve (P bl l:List Int):∀n,(bpn P bl l n).length<=bl.length+n
 | 0=>by simp [bpn]
 | n+1=>by
  have:=Ve P bl l n;unfold bpn;split
  .omega
  .rw [Al0,Amb];omega
theorem Ags (m:List (Int×Int)) (k v w:Int):CM (DA m k v) w=if w=k then v else CM m w:=by
 induction m with
 | nil=>
  unfold DA CM CM;by_cases h:k=w
  .subst h;simp
  .rw [AlZ h,AlZ (λq=>h q.symm)]
 | cons p m ih=>
  unfold DA;by_cases h:p.1=k
  .rw [Al1 h];unfold CM;by_cases hw:k=w
   .subst hw;simp
   .rw [AlZ hw,AlZ (λq=>hw q.symm),AlZ (by rw [h];exact hw)]
  .rw [AlZ h];unfold CM;by_cases hw:p.1=w
   .rw [Al1 hw,Al1 hw,AlZ (by rw [<- hw];exact h)]
   .rw [AlZ hw,AlZ hw];exact ih
theorem VO (m:List (Int×Int)) (k v:Int):∀w,w∈(DA m k v).map (·.1)↔w∈m.map (·.1)\/w=k:=by
 induction m with
 | nil=>intro w;simp [DA]
 | cons p m ih=>
  intro w;unfold DA;by_cases h:p.1=k
  .rw [Al1 h];simp only [AmF,Ame,h];constructor
   .rintro (q | q)
    .exact .inr q
    .exact .inl (.inr q)
   .rintro ((q | q) | q)
    .exact .inl q
    .exact .inr q
    .exact .inl q
  .rw [AlZ h];simp only [AmF,Ame,ih w];constructor
   .rintro (q | q | q)
    .exact .inl (.inl q)
    .exact .inl (.inr q)
    .exact .inr q
   .rintro ((q | q) | q)
    .exact .inl q
    .exact .inr (.inl q)
    .exact .inr (.inr q)
theorem AhP (m:List (Int×Int)) (k v:Int) (h:(m.map (·.1)).Nodup):((DA m k v).map (·.1)).Nodup:=by
 induction m with
 | nil=>simp [DA]
 | cons p m ih=>
  rw [AmF,AmP]at h;unfold DA;by_cases hk:p.1=k
  .rw [Al1 hk,AmF,AmP];rw [hk]at h;exact h
  .rw [AlZ hk,AmF,AmP];refine⟨λq=>?_,ih h.2⟩;rcases (VO m k v p.1).1 q with q | q
   .exact h.1 q
   .exact hk q
theorem Za {m:List (Int×Int)} (h:(m.map (·.1)).Nodup):∀p∈m,CM m p.1=p.2:=by
 induction m with
 | nil=>intro p hp;cases hp
 | cons q m ih=>
  intro p hp;rw [AmF,AmP]at h;unfold CM;rcases Ame.1 hp with rfl | hp
  .rw [Al1 rfl]
  .rw [AlZ (λe=>h.1 (by rw [e];exact List.mem_map_of_mem hp))];exact ih h.2 p hp
def std (P:List Int):List (Int×Int):=P.foldl (λm k=>DA m k (CM m k+1)) []
theorem OO (P:List Int) (v:Int):std (P++[v])=DA (std P) v (CM (std P) v+1):=by unfold std;rw [AnD];rfl
theorem AgE {p:List Int->Prop} (h0:p []) (h1:∀l v,p l->p (l++[v])) (l:List Int):p l:=by
 have:∀n,∀l:List Int,l.length=n->p l:=by
  intro n
  induction n with
  | zero=>intro l hl;rw [List.length_eq_zero_iff.1 hl];exact h0
  | succ n ih=>
   intro l hl;have e:=List.dropLast_concat_getLast (l:=l) (by intro q;rw [q]at hl;cases hl);rw [<- e];exact h1 _ _ (ih _ (by rw [List.length_dropLast];omega))
 exact this _ l rfl
theorem X8 (P:List Int):(∀v,CM (std P) v=(P.count v:Int))/\((std P).map (·.1)).Nodup/\∀v,v∈(std P).map (·.1)↔v∈P:=by
 refine AgE (p:=λP=>(∀v,CM (std P) v=(P.count v:Int))/\((std P).map (·.1)).Nodup/\∀v,v∈(std P).map (·.1)↔v∈P) ?_ ?_ P
 .refine⟨λv=>by simp [std,CM],by simp [std],by simp [std]⟩
 .rintro P k ⟨h1,h2,h3⟩;refine⟨λv=>?_,?_,λv=>?_⟩
  .rw [OO,Ags,h1,h1,List.count_append];by_cases h:v=k
   .subst h;rw [Al1 rfl];simp
   .rw [AlZ h];simp [List.count_cons,show ¬ k=v from λq=>h q.symm]
  .rw [OO];exact AhP _ _ _ h2
  .rw [OO,VO,h3,Al3,Al6]
theorem std_zero {P:List Int} {v:Int}:CM (std P) v=0↔v∉P:=by
 rw [(X8 P).1 v];have:=List.count_pos_iff (l:=P) (a:=v);constructor
 .intro h q;have:=this.2 q;omega
 .intro h;have:¬ 0 < P.count v:=λq=>h (this.1 q)
  omega
theorem OY {l bl:List Int} (hl:bl.length+l.length<=100000) (fn:Bool) (ks rs:List Int) (d:Bls) (m:List (Int×Int)) :
  BO l ks bl rs (bd fn bl) d m=some (l,ks,bl++l,rs,bd fn (bl++l),d,m):=by
 unfold BO;have h:=Ai Cp (λi=>(l,(l.length:Int),((i:Nat):Int),ks,bl++l.take i,rs,bd fn (bl++l.take i),d,m)) l.length (l,ks,bl++l,rs,bd fn (bl++l),d,m) (λi hi=>by
  have hg:=Aj hi;unfold Cp cK cZ wI;dsimp only;rw [iy O,iy O,iy O,Amk,AlX,hg,AlU,C9 hg,<- Al5,AbK];have hr:Aa ((bl++l.take i).length+([gb l i]:List Int).length) 8=true:=by simp only [Aa,decide_eq_true_eq,Amb,Al0,Al4];omega
  by_cases hb:bd fn (bl++l.take i)=true
  .rw [Al1 hb,AlU,Al1 hb,Al1 hr,Am O]
  .rw [AlZ hb,Gm (by rw [Al0,Al4];omega),AlU,AlU,AlZ hb,Al1 hr,Am O]) (by
  unfold Cp cK cZ wI;dsimp only;rw [ino O,AmL])
 rw [AnY,Amf]at h;rw [show Ab Cp (l,(l.length:Int),0,ks,bl,rs,bd fn bl,d,m)=_ from h];rfl
theorem Aaj {l bl:List Int} (hl:bl.length+l.length<=100000) (fn:Bool) (ks rs:List Int) (d:Bls) (m:List (Int×Int)) :
  Ey l ks bl rs (bd fn bl) d m=some (ks,bl++l,rs,bd fn (bl++l),d,m):=by
 unfold Ey;have h:=Ai CU (λi=>(l,(l.length:Int),((i:Nat):Int),ks,bl++l.take i,rs,bd fn (bl++l.take i),d,m)) l.length (ks,bl++l,rs,bd fn (bl++l),d,m) (λi hi=>by
  have hg:=Aj hi;unfold CU cK gX wI;dsimp only;rw [iy O,iy O,AlX,hg,AlU,C9 hg,<- Al5,AbK];have hr:Aa ((bl++l.take i).length+([gb l i]:List Int).length) 8=true:=by simp only [Aa,decide_eq_true_eq,Amb,Al0,Al4];omega
  by_cases hb:bd fn (bl++l.take i)=true
  .rw [Al1 hb,AlU,Al1 hb,Al1 hr,Am O]
  .rw [AlZ hb,Gm (by rw [Al0,Al4];omega),AlU,AlU,AlZ hb,Al1 hr,Am O]) (by
  unfold CU cK gX wI;dsimp only;rw [ino O,AmL])
 rw [AnY,Amf]at h;rw [show Ab CU (l,(l.length:Int),0,ks,bl,rs,bd fn bl,d,m)=_ from h];rfl
theorem T5 {b:Bls} {x y z:List Int} (g:RS b x y) (root:Int):I9 (b,x,y,z) root=some (tin b x y root):=by
 unfold I9 tin cK;rw [Aa2 g,AlU];cases hp:ptx b x y root with
 | none=>rfl
 | some l=>
  obtain ⟨⟨hall,hnd,hlen⟩,_⟩:=Jd hp;dsimp only;rw [AlZ Z];have hL:=Ai Ez (λk=>(root,cat b (l.take k),l.take k,l.map (DG b),(l.length:Int),((k:Nat):Int))) l.length (root,cat b l,l) (λk hk=>by
   have hpk:=hall _ (Amc hk);have h1:=Ug (b:=b) (x:=x) (y:=y) (l:=l.take k) λv hv=>hall v (Am7 hv)
   have h2:=Ade b hpk;rw [Al4]at h1;have hg:(l.map (DG b))[k]?=some (DG b l[k]):=by rw [AmB,AlW hk];rfl
   unfold Ez cK cZ wI;dsimp only;rw [iy O,iy O,iy (by rw [Amt];omega),Amk,AlX,hg,AlU,AlU,AlU,
    show(DG b l[k]).2.2=GP b l[k] from rfl,show(DG b l[k]).1=l[k] from rfl,iy O,Al1 (by simp only [Aa,decide_eq_true_eq,Amb,Al4];omega),Am O,YR b hk,Ama hk]) (by
   unfold Ez cK cZ wI;dsimp only;rw [ino O,AmL])
  have hL':Ab Ez (root,([]:List UInt8),[],l.map (DG b),(l.length:Int),0)=_:=hL;rw [Amt,hL',AlU];dsimp only;rw [Al1 (by simp only [Aa,decide_eq_true_eq,Amb];omega)]
theorem Yr {b:Bls} {x y z:List Int} (g:RS b x y) {root:Int} (hp:ptx b x y root=none) (ks bl rs:List Int) (w:Bool) (d:Bls) (a1:Int) (a2:Bool) (a3 a4 a5 a6 a7 a8:Int) (m:List (Int×Int)) :
  Bo root ks bl rs w d a1 a2 a3 a4 a5 a6 a7 a8 b x y z m=some ([],ks,bl,rs,true,d,a1,a2,a3,a4,a5,a6,a7,a8,b,x,y,z,m):=by
 unfold Bo sX wI;rw [T5 g,AlU];unfold tin;rw [hp];rfl
theorem Yo {b:Bls} {x y z:List Int} (g:RS b x y) {root:Int} {l:List Int} (hp:ptx b x y root=some l) {P bl:List Int} (hbl:bl.length<=90000) (hP:P.length<=90000) (fn:Bool) (ks rs:List Int) (d:Bls) (a1:Int) (a2:Bool) (a3 a4 a5 a6 a7 a8:Int) :
  Bo root ks bl rs (bd fn bl) d a1 a2 a3 a4 a5 a6 a7 a8 b x y z (std P) =
   some (cat b l,ks,bpn P (bl++[root]) l l.length,rs,bd fn (bpn P (bl++[root]) l l.length),d,a1,a2,a3,a4,a5,a6,a7,a8,b,x,y,z,std (P++l)):=by
 obtain ⟨⟨hall,hnd,hlen⟩,_⟩:=Jd hp;have hw:IntKind.wrap .i64 (((((l++[root]).length:Nat):Int)) - 1)=(l.length:Int):=by rw [Al0,Amb,w64 O O];omega
 have hle:(l++[root]).length=l.length+1:=by simp
 have e1:(List.drop l.length (l++[root])).take (l.length+1 - l.length)=[root]:=by
  rw [List.drop_left,(O:l.length+1 - l.length=1)];rfl
 have e2:(List.drop (Int.toNat 0) (l++[root])).take (l.length - Int.toNat 0)=l:=by
  rw [show Int.toNat 0=0 from rfl,AmX,AnE,List.take_left]
 unfold Bo sX wI;rw [T5 g,AlU];unfold tin;rw [hp];dsimp only;rw [AlU];dsimp only;rw [AlZ Z,hw,hle,iy O,iy O,iy O,iy O,AlX,AlX,e1,Aaj (by rw [Amb];omega),AlU];dsimp only;rw [iy O,iy O,iy O,iy O,e2];have h:=Ai B7 (λi=>(cat b l,l,(l.length:Int),((i:Nat):Int),ks,bpn P (bl++[root]) l i,rs,bd fn (bpn P (bl++[root]) l i),d,a1,a2,a3,a4,a5,a6,a7,a8,b,x,y,z,std (P++l.take i))) l.length
   (cat b l,ks,bpn P (bl++[root]) l l.length,rs,bd fn (bpn P (bl++[root]) l l.length),d,a1,a2,a3,a4,a5,a6,a7,a8,b,x,y,z,std (P++l)) (λi hi=>by
  have hg:=Aj hi;have hbn:=Ve P (bl++[root]) l i;rw [Al0,Amb]at hbn;have hc:IntKind.wrap .i64 (CM (std (P++l.take i)) (gb l i)+1)=CM (std (P++l.take i)) (gb l i)+1:=by
   rw [(X8 _).1];have:=List.count_le_length (l:=P++l.take i) (a:=gb l i);rw [Al0,Al4]at this;rw [w64 O O]
  have hst:std (P++l.take (i+1))=DA (std (P++l.take i)) (gb l i) (CM (std (P++l.take i)) (gb l i)+1):=by rw [C9 hg,<- Al5,OO]
  unfold B7 gX wI;dsimp only;rw [iy O,iy O,AlX,hg,AlU,hst];by_cases hz:gb l i∈P++l.take i
  .rw [ino (λq=>std_zero.1 q hz),AlU];dsimp only;have e:bpn P (bl++[root]) l (i+1)=bpn P (bl++[root]) l i:=by show(if _ then _ else _)=_;rw [Al1 hz]
   rw [e,hc,Am O]
  .rw [iy (std_zero.2 hz),OY (by rw [Amb];omega),AlU];dsimp only;rw [AlU];dsimp only;have e:bpn P (bl++[root]) l (i+1)=bpn P (bl++[root]) l i++[gb l i]:=by show(if _ then _ else _)=_;rw [AlZ hz]
   rw [e,hc,Am O]) (by
  unfold B7 gX wI;dsimp only;rw [ino O,AmL])
 rw [AnY,Amf]at h;rw [show Ab B7 (cat b l,l,(l.length:Int),0,ks,bl++[root],rs,bd fn (bl++[root]),d,a1,a2,a3,a4,a5,a6,a7,a8,b,x,y,z,std P)=_ from h];rfl
def rkd (b:Bls) (x y top:List Int) (k:Nat):List Int:=(rcA (rcd b x y (vl b top k))).1
def rkc (b:Bls) (x y top:List Int) (k:Nat):List Int:=(rcA (rcd b x y (vl b top k))).2.1
def rko (b:Bls) (x y top:List Int) (k:Nat):Bool:=(rcA (rcd b x y (vl b top k))).2.2
theorem AbW {b:Bls} {x y:List Int}:∀(f:Nat) (a:Int) (d ch:List Int) {p:List Int×List Int},rcN b x y f a d ch=some p->p.2.length<=ch.length+f/\p.1.length<=d.length+124 * f
 | 0,_,_,_,p,h=>by cases h
 | f+1,a,d,ch,p,h=>by
  unfold rcN at h;split at h
  .rename_i hc;have ho:=UN hc;split at h
   .injection h with h;subst h;simp;omega
   .have:=AbW f _ _ _ h;simp only [Al0,Amb]at this;omega
  .cases h
theorem HY (b:Bls) (x y top:List Int) (k:Nat):(rkc b x y top k).length<=10/\(rkd b x y top k).length<=1240:=by
 unfold rkc rkd rcA;split
 .rename_i p hp;have:=AbW _ _ _ _ hp;simp only [Amp]at this;dsimp only;omega
 .simp
theorem Wm {b:Bls} {x y z top:List Int} (g:RS b x y) (ht:top.length=32) {bl ks:List Int} (hbl:bl.length<=90000) (hks:ks.length<=90000) {k:Nat} (hk:k < 1024) (fn:Bool) (rs:List Int) (d:Bls) (a1:Int) (a2:Bool) (a3 a4 a5 a6 a7 a8 rt:Int) (m:List (Int×Int)) :
  Bz (k:Int) ks bl rs (bd fn bl) d a1 a2 a3 a4 a5 a6 a7 a8 b x y z rt top (top.map (lfv b)) m =
   some (rkd b x y top k,ks++[(k:Int)],bl++rkc b x y top k,rs,bd (fn && rko b x y top k) (bl++rkc b x y top k),d,a1,a2,a3,a4,a5,a6,a7,a8,b,x,y,z,rt,top,top.map (lfv b),m):=by
 have hl:=(HY b x y top k).1;unfold Bz cK;rw [Al1 (by simp only [Aa,decide_eq_true_eq,Amb];omega),QS ht rt hk,AlU,AaF g,AlU];have hb:(if bd fn bl=true then true else !(rko b x y top k))=bd (fn && rko b x y top k) bl:=by
  unfold bd;cases fn <;> cases ndb bl <;> cases rko b x y top k <;> rfl
 unfold rkd rkc rko at *;generalize rcA (rcd b x y (vl b top k))=q at *;obtain ⟨q1,q2,q3⟩:=q;dsimp only at *;have hc:=OY (l:=q2) (bl:=bl) O (fn && q3) (ks++[(k:Int)]) rs d m;rw [<- hb]at hc;by_cases hw:bd fn bl=true
 .rw [Al1 hw,AlU];dsimp only;rw [Al1 hw]at hc;rw [hc];rfl
 .rw [AlZ hw,AlU];dsimp only;rw [AlZ hw]at hc;rw [hc];rfl
end Go.V.G
set_option maxRecDepth 100000
namespace Go.V.G
open Go.V
def okb (fn:Bool) (l:List Int):Bool:=fn && ndb l
theorem XJ (fn:Bool) (l:List Int) (v:Int):okb fn (l++[v])=if v∈l then false else okb fn l:=by
 unfold okb;rw [Z1];by_cases h:v∈l <;> simp [h]
def mny (n:Nat) (P:List Int):List Int:=(List.range n).map λk=>(P.count ((k:Nat):Int):Int)
theorem JI (n:Nat) (P:List Int):(mny n P).length=n:=by simp [mny]
theorem Qh {n k:Nat} (P:List Int) (h:k < n):(mny n P)[k]?=some (P.count (k:Int):Int):=by
 unfold mny;rw [AmB,An1 h];rfl
theorem AfZ {n k:Nat} (P:List Int) (h:k < n):mny n (P++[(k:Int)])=(mny n P).set k ((P.count (k:Int):Int)+1):=by
 refine AmT λi=>?_
 rw [Aon,JI];by_cases hi:i < n
 .rw [Qh _ hi,Qh _ hi,List.count_append];by_cases hk:k=i
  .subst hk;rw [Al1 rfl,Al1 h];simp
  .rw [AlZ hk];have:¬ (k:Int)=((i:Nat):Int):=O
   simp [List.count_cons,this]
 .rw [Amn (by rw [JI];omega),Amn (by rw [JI];omega)];by_cases hk:k=i
  .rw [Al1 hk,AlZ O]
  .rw [AlZ hk]
theorem Te {l C:List Int} (hl:C.length+l.length<=100000) (fn:Bool) (b:Bls) (x y z rs m:List Int) :
  B1 l b x y z rs (srt C) m (okb fn C)=some (l,b,x,y,z,rs,srt (C++l),m,okb fn (C++l)):=by
 unfold B1;have h:=Ai Ce (λi=>(l,(l.length:Int),((i:Nat):Int),b,x,y,z,rs,srt (C++l.take i),m,okb fn (C++l.take i))) l.length (l,b,x,y,z,rs,srt (C++l),m,okb fn (C++l)) (λi hi=>by
  have hg:=Aj hi;have hcl:(C++l.take i).length<=1000000:=by rw [Al0,Al4];omega
  obtain ⟨o1,o2,o3⟩:=KH hcl;unfold Ce cK cZ wI;dsimp only;rw [iy O,iy O,iy O,Amk,AlX,hg,AlU,C9 hg,<- Al5,XJ,GF O,AlU];by_cases hb:gb l i∈C++l.take i
  .rw [Al1 hb,decide_eq_true ((o3 _).2 hb),Al1 rfl,AlU];dsimp only;rw [(Gp hcl _).1,AlU,Am O]
  .rw [AlZ hb,decide_eq_false (λq=>hb ((o3 _).1 q)),AlZ Z,AlU];dsimp only;rw [(Gp hcl _).1,AlU,Am O]) (by
  unfold Ce cK cZ wI;dsimp only;rw [ino O,AmL])
 rw [AnY,Amf]at h;rw [show Ab Ce (l,(l.length:Int),0,b,x,y,z,rs,srt C,m,okb fn C)=_ from h];rfl
theorem Aa5 {l C:List Int} (hl:C.length+l.length<=100000) (fn:Bool) (b:Bls) (x y z rs m:List Int) :
  DV l b x y z rs (srt C) m (okb fn C)=some (b,x,y,z,rs,srt (C++l),m,okb fn (C++l)):=by
 unfold DV;have h:=Ai Cw (λi=>(l,(l.length:Int),((i:Nat):Int),b,x,y,z,rs,srt (C++l.take i),m,okb fn (C++l.take i))) l.length (b,x,y,z,rs,srt (C++l),m,okb fn (C++l)) (λi hi=>by
  have hg:=Aj hi;have hcl:(C++l.take i).length<=1000000:=by rw [Al0,Al4];omega
  obtain ⟨o1,o2,o3⟩:=KH hcl;unfold Cw gX wI;dsimp only;rw [iy O,iy O,AlX,hg,AlU,C9 hg,<- Al5,XJ,GF O,AlU];by_cases hb:gb l i∈C++l.take i
  .rw [Al1 hb,decide_eq_true ((o3 _).2 hb),Al1 rfl,AlU];dsimp only;rw [(Gp hcl _).1,AlU,Am O]
  .rw [AlZ hb,decide_eq_false (λq=>hb ((o3 _).1 q)),AlZ Z,AlU];dsimp only;rw [(Gp hcl _).1,AlU,Am O]) (by
  unfold Cw gX wI;dsimp only;rw [ino O,AmL])
 rw [AnY,Amf]at h;rw [show Ab Cw (l,(l.length:Int),0,b,x,y,z,rs,srt C,m,okb fn C)=_ from h];rfl
theorem Yv {b:Bls} {x y z:List Int} (g:RS b x y) {root:Int} (hp:ptx b x y root=none) (rs c m:List Int) (w:Bool) :
  BK root b x y z rs c m w=some ([],b,x,y,z,rs,c,m,false):=by
 unfold BK sX wI;rw [R4 g,AlU];unfold tin;rw [hp];rfl
theorem Z3 {b:Bls} {x y z:List Int} (g:RS b x y) {root:Int} {l:List Int} (hp:ptx b x y root=some l) {P C:List Int} (hC:C.length<=90000) (hP:P.length<=90000) (fn:Bool) (rs:List Int) :
  BK root b x y z rs (srt C) (mny b.length P) (okb fn C)=some (cat b l,b,x,y,z,rs,srt (C++[root]),mny b.length (P++l),okb fn (C++[root])):=by
 obtain ⟨⟨hall,hnd,hlen⟩,_⟩:=Jd hp;have hw:IntKind.wrap .i64 (((((l++[root]).length:Nat):Int)) - 1)=(l.length:Int):=by rw [Al0,Amb,w64 O O];omega
 have hle:(l++[root]).length=l.length+1:=by simp
 have e1:(List.drop l.length (l++[root])).take (l.length+1 - l.length)=[root]:=by
  rw [List.drop_left,(O:l.length+1 - l.length=1)];rfl
 have e2:(List.drop (Int.toNat 0) (l++[root])).take (l.length - Int.toNat 0)=l:=by
  rw [show Int.toNat 0=0 from rfl,AmX,AnE,List.take_left]
 unfold BK sX wI;rw [R4 g,AlU];unfold tin;rw [hp];dsimp only;rw [AlU];dsimp only;rw [AlZ Z,hw,hle,iy O,iy O,iy O,iy O,AlX,AlX,e1,Aa5 (by rw [Amb];omega),AlU];dsimp only;rw [iy O,iy O,iy O,iy O,e2];have h:=Ai CH (λi=>(cat b l,l,(l.length:Int),((i:Nat):Int),b,x,y,z,rs,srt (C++[root]),mny b.length (P++l.take i),okb fn (C++[root]))) l.length
   (cat b l,b,x,y,z,rs,srt (C++[root]),mny b.length (P++l),okb fn (C++[root])) (λi hi=>by
  have hg:=Aj hi;have hmem:gb l i∈l:=by
   have:=Amc hi;rw [AlW hi]at hg;injection hg with hg;rw [<- hg];exact this
  obtain ⟨m,hm1,hm2,hm3,_⟩:=RF (hall _ hmem);have hml:=JI b.length (P++l.take i);have hc:=List.count_le_length (l:=P++l.take i) (a:=(m:Int));rw [Al0,Al4]at hc;unfold CH cK cZ gX wI;dsimp only;rw [iy O,iy O,AlX,hg,AlU,hm1,iy O,iy O,AlX,Amk,Qh _ hm3,AlU,iy O,iy O,AlU,AlU,w64 (n:=(((P++l.take i).count (m:Int):Nat):Int)+1) O O,
   C9 hg,<- Al5,hm1,AfZ _ hm3,Am O]) (by
  unfold CH cK cZ gX wI;dsimp only;rw [ino O,AmL])
 rw [AnY,Amf]at h;rw [show Ab CH (cat b l,l,(l.length:Int),0,b,x,y,z,rs,srt (C++[root]),mny b.length P,okb fn (C++[root]))=_ from h];rfl
theorem Qm {b:Bls} {x y z top:List Int} (h:SB b x y z) (g:RS b x y) {C:List Int} (hC:C.length<=90000) {k:Nat} (fn:Bool) (rs m:List Int) :
  Cj (vl b top k) b x y z rs (srt C) m (okb fn C) =
   some (rkd b x y top k,b,x,y,z,rs,srt (C++rkc b x y top k),m,okb (fn && rko b x y top k) (C++rkc b x y top k)):=by
 have hl:=(HY b x y top k).1;unfold Cj;rw [Aak h g,AlU];have hb:(if okb fn C=true then rko b x y top k else false)=okb (fn && rko b x y top k) C:=by
  unfold okb;cases fn <;> cases ndb C <;> cases rko b x y top k <;> rfl
 unfold rkd rkc rko at *;generalize rcA (rcd b x y (vl b top k))=q at *;obtain ⟨q1,q2,q3⟩:=q;dsimp only at *;have hc:=Te (l:=q2) (C:=C) O (fn && q3) b x y z rs m;rw [<- hb]at hc;by_cases hw:okb fn C=true
 .rw [Al1 hw,AlU];dsimp only;rw [Al1 hw]at hc;rw [hc];rfl
 .rw [AlZ hw,AlU];dsimp only;rw [AlZ hw]at hc;rw [hc];rfl
end Go.V.G
set_option maxRecDepth 100000
namespace Go.V.G
open Go.V
theorem UZ {a b c:List Prt} (ha:AA a=true) (hb:AA b=true) (hc:AA c=true) (h1:tgt a=src b) (h2:tgt b=src c):AO (AO a b) c=AO a (AO b c):=by
 obtain ⟨b1,b2,b3,b4⟩:=DK hb hc h2;obtain ⟨a1,a2,a3,a4⟩:=DK ha hb h1;obtain ⟨p1,p2,_⟩:=DK ha b1 O;obtain ⟨r1,r2,_⟩:=DK a1 hc O;refine Nq (As r1).1 (As p1).1 ?_;rw [p2,r2,a2,b2];exact Adt _ _ _ (LQ hb hc h2).1 (LQ ha hb h1).1
theorem VP:∀{cs:List (List Prt)} {a d:List Prt},AA a=true->AA d=true->tgt a=src d->chn (tgt d) cs=true->EP (AO a d) cs=AO a (EP d cs)
 | [],_,_,_,_,_,_=>rfl
 | c::cs,a,d,ha,hd,ht,hc=>by
  obtain ⟨k1,k2,k3⟩:=EH hc;obtain ⟨q1,q2,q3,q4⟩:=DK hd k1 k2.symm;show EP (AO (AO a d) c) cs=AO a (EP (AO d c) cs);rw [UZ ha hd k1 ht k2.symm];exact VP ha q1 O (by rw [q4];exact k3)
theorem Aiu {n:Int} {xs ys:List (List Prt)} (h:chn n (xs++ys)=true) (h0:0<=n) (h1:n<=120) (hy:ys≠[]):btw n (xs++ys)=AO (btw n xs) (btw (Dq n xs) ys):=by
 rw [Pg,Al2]at h;obtain ⟨b1,b2,b3⟩:=ZC h.1 h0 h1;cases ys with
 | nil=>exact absurd rfl hy
 | cons c cs=>
  obtain ⟨k1,k2,k3⟩:=EH h.2;rw [Tc h.2];have e:btw n (xs++c::cs)=EP (AO (btw n xs) c) cs:=by unfold btw;rw [AnD];rfl
  rw [e];exact VP b1 k1 O k3
section
variable {f:Int} {t:List UInt8} {r:List Rn} {cs:List (List Prt)}
theorem Aai (g:GH f t r cs) {a b c:Int} (h0:f<=a) (h1:a<=b) (h2:b < c) (h3:c<=f+cs.length):B0 f t cs a c=AO (B0 f t cs a b) (B0 f t cs b c):=by
 obtain ⟨k1,k2⟩:=ZQ g (a - f);have es:seg cs (a - f) (c - f)=seg cs (a - f) (b - f)++seg cs (b - f) (c - f):=by
  unfold seg;have:cs.drop (b - f).toNat=(cs.drop (a - f).toNat).drop ((b - f).toNat - (a - f).toNat):=by rw [An8];congr 1;omega
  rw [this,<- List.take_add]
  congr 1;omega
 have hne:seg cs (b - f) (c - f)≠[]:=by
  intro q;have:=congrArg List.length q;unfold seg at this;rw [Al4,Amm,Amp]at this;omega
 have hc:=Ry g (a - f) (c - f);rw [es]at hc;unfold B0;rw [es,Aiu hc k1 k2 hne,Ab1 g O O]
theorem Sg (g:GH f t r cs) {a:Int} (h0:f<=a) (h1:a < f+cs.length):cs[(a - f).toNat]?=some (B0 f t cs a (a+1)):=by
 have hl:(a - f).toNat < cs.length:=O
 have es:seg cs (a - f) (a+1 - f)=[cs[(a - f).toNat]]:=by
  unfold seg;rw [show(a+1 - f).toNat - (a - f).toNat=1 by omega,Amx hl];rfl
 have hc:=Ry g (a - f) (a+1 - f);rw [es]at hc;unfold B0;rw [es,Tc hc,AlW hl];rfl
end
def frS (s:Int×Int):Nat:=s.2.toNat * 2 ^ s.1.toNat
def toS (s:Int×Int):Nat:=(s.2.toNat+1) * 2 ^ s.1.toNat
def bt (f:Int) (t:List UInt8) (cs:List (List Prt)) (s:Int×Int):List Prt:=B0 f t cs (frS s:Int) (toS s:Int)
theorem St8.ft {f h k i:Nat} {s:Int×Int} (g:St8 f h s k i):frS s=i * 2 ^ k/\toS s=(i+1) * 2 ^ k/\f<=frS s/\frS s < toS s/\toS s<=h:=by
 have h1:=g.lo;have h2:=g.hi;have hp:0 < 2 ^ k:=AnB Z;have e1:frS s=i * 2 ^ k:=by unfold frS;rw [g.e];simp
 have e2:toS s=(i+1) * 2 ^ k:=by unfold toS;rw [g.e];simp
 rw [e1,e2];refine⟨rfl,rfl,h1,?_,h2⟩;rw [An4];omega
theorem YP (f k:Nat):∀n,(skn f k n).Pairwise (λa c=>ky a < ky c)/\∀s∈skn f k n,64 * k<=ky s/\ky s < 64 * k+n
 | 0=>by simp [skn]
 | n+1=>by
  obtain ⟨h1,h2⟩:=YP f k n;rw [JJ];by_cases h:f<=n * 2 ^ k
  .rw [Al1 h];have e:ky ((k:Int),((n:Nat):Int))=64 * k+n:=by unfold ky;simp
   refine⟨?_,λs hs=>?_⟩
   .rw [AnJ];refine⟨h1,Z,λa ha c hc=>?_⟩;rw [Al6.1 hc,e];exact(h2 a ha).2
   .rcases Al3.1 hs with hs | hs
    .have:=h2 s hs;omega
    .rw [Al6.1 hs,e];omega
  .rw [AlZ h,Amf];exact⟨h1,λs hs=>by have:=h2 s hs;omega⟩
theorem YZ {f h:Nat} (hh:h<=60):∀k,(stk f h k).Pairwise (λa c=>ky a < ky c)/\∀s∈stk f h k,ky s < 64 * k
 | 0=>by simp [stk]
 | k+1=>by
  obtain ⟨h1,h2⟩:=YZ (f:=f) hh k;obtain ⟨g1,g2⟩:=YP f k (h / 2 ^ k);have hd:=Aom h (2 ^ k);unfold stk;refine⟨?_,λs hs=>?_⟩
  .rw [AnJ];refine⟨h1,g1,λa ha c hc=>?_⟩;have:=h2 a ha;have:=(g2 c hc).1;omega
  .rcases Al3.1 hs with hs | hs
   .have:=h2 s hs;omega
   .have:=g2 s hs;omega
theorem SK {f h:Nat} (hh:h<=60):(sts f h).Pairwise (λa c=>ky a < ky c):=(YZ hh 6).1
theorem T3 {f h:Nat} (hh:h<=60) {i:Nat} (hi:i < (sts f h).length) {s:Int×Int} (hs:s∈sts f h) (hk:ky s < ky (sts f h)[i]):s∈(sts f h).take i:=by
 obtain ⟨j,hj,rfl⟩:=AmA hs;have hp:=SK (f:=f) hh;rw [List.pairwise_iff_getElem]at hp;have:j < i:=by
  rcases Nat.lt_trichotomy j i with q | q | q
  .exact q
  .subst q;omega
  .have:=hp i j hi hj q;omega
 rw [List.mem_take_iff_getElem];exact⟨j,O,rfl⟩
def QP (B:Int×Int->List Prt) (A:List (List Prt)) (L:List (Int×Int)):List (List Prt):=L.foldl (λA s=>A.set (ky s) (B s)) A
theorem Yd (B:Int×Int->List Prt):∀(L:List (Int×Int)) (A:List (List Prt)),(QP B A L).length=A.length
 | [],A=>rfl
 | s::L,A=>by
  show(QP B (A.set (ky s) (B s)) L).length=_;rw [Yd B L,Am0]
theorem Yp (B:Int×Int->List Prt):∀(L:List (Int×Int)) (A:List (List Prt)) (k:Nat),(∀s∈L,ky s≠k)->(QP B A L)[k]?=A[k]?
 | [],A,k,_=>rfl
 | s::L,A,k,h=>by
  show(QP B (A.set (ky s) (B s)) L)[k]?=_;rw [Yp B L _ k (λc hc=>h c (by simp [hc])),List.getElem?_set_ne (h s Z)]
theorem Rx (B:Int×Int->List Prt):∀(L:List (Int×Int)) (A:List (List Prt)),L.Pairwise (λa c=>ky a < ky c)->∀s∈L,ky s < A.length->(QP B A L)[ky s]?=some (B s)
 | [],A,_,s,hs,_=>by cases hs
 | c::L,A,hp,s,hs,hl=>by
  rw [List.pairwise_cons]at hp;show(QP B (A.set (ky c) (B c)) L)[ky s]?=_;rcases Ame.1 hs with rfl | hs
  .rw [Yp B L _ (ky s) (λd hd=>by have:=hp.1 d hd;omega),Ant hl]
  .exact Rx B L _ hp.2 s hs (by rw [Am0];exact hl)
def GC (f:Int) (t:List UInt8) (cs:List (List Prt)) (L:List (Int×Int)):List (List Prt):=QP (bt f t cs) (List.replicate 384 []) L
theorem Afv (f:Int) (t:List UInt8) (cs:List (List Prt)) (L:List (Int×Int)) (s:Int×Int):GC f t cs (L++[s])=(GC f t cs L).set (ky s) (bt f t cs s):=by
 unfold GC QP;rw [AnD];rfl
theorem Y5 (f:Int) (t:List UInt8) (cs:List (List Prt)) (L:List (Int×Int)):(GC f t cs L).length=384:=by unfold GC;rw [Yd,AmM]
theorem AaT {f:Nat} {t:List UInt8} {r:List Rn} {cs:List (List Prt)} (g:GH (f:Int) t r cs) {h:Nat} (hf:h=f+cs.length) (hh:h<=60) :
  OG (f:Int) t r cs=some (GC (f:Int) t cs (sts f h)):=by
 have hsl:=IS (f:=f) hh;unfold OG KQ cK cZ wI;rw [iy O,iy O,Al1 AlS,AlU,w64 O O,show(f:Int)+(cs.length:Int)=(h:Int) by omega,Ou hh,AlU];have hL:=Ai H0 (λi=>(GC (f:Int) t cs ((sts f h).take i),sts f h,(((sts f h).length:Nat):Int),((i:Nat):Int),(f:Int),t,r,cs)) (sts f h).length (GC (f:Int) t cs (sts f h)) (λi hi=>by
  obtain ⟨k,j,g8⟩:=PY hi;obtain ⟨l1,l2,l3⟩:=g8.lt hh;obtain ⟨f1,f2,f3,f4,f5⟩:=g8.ft;have hk:=g8.hk;have hget:(sts f h)[i]?=some ((sts f h)[i]):=AlW hi;have hal:=Y5 (f:Int) t cs ((sts f h).take i);unfold H0 cK cZ gX wI;dsimp only;rw [iy O,iy O,iy O,Amk,AlX,hget,AlU,AlU,Ama hi,Afv,l2];have ebt:bt (f:Int) t cs (sts f h)[i]=B0 (f:Int) t cs ((j * 2 ^ k:Nat):Int) (((j+1) * 2 ^ k:Nat):Int):=by unfold bt;rw [f1,f2]
  rw [ebt];have hlo:=g8.lo;have hhi:=g8.hi;simp only [g8.e,Amk];by_cases h0:k=0
  .subst h0;rw [Nat.pow_zero,Nat.mul_one]at hlo hhi;rw [Nat.pow_zero,Nat.mul_one,Nat.mul_one];have h1:=Sg g (a:=(j:Int)) O O;rw [iy O,w64 O O,iy O,h1,AlU,iy O,iy O,AlX,AlW (O:j < (GC (f:Int) t cs ((sts f h).take i)).length),AlU,AlU,AlU];dsimp only;rw [Am O,Nat.mul_zero,Amk,show(((j+1:Nat)):Int)=(j:Int)+1 by omega]
  .obtain ⟨k',rfl⟩:∃k',k=k' + 1:=⟨k - 1,O⟩
   have hpk:2 ^ (k' + 1)=2 * 2 ^ k':=by rw [Nat.pow_succ];omega
   have hp:0 < 2 ^ k':=AnB Z;have m1:j * 2 ^ (k' + 1)=(2 * j) * 2 ^ k':=by rw [hpk,<- Nat.mul_assoc,Nat.mul_comm j 2]
   have m2:(j+1) * 2 ^ (k' + 1)=(2 * j+1+1) * 2 ^ k':=by rw [hpk,<- Nat.mul_assoc,Nat.mul_comm (j+1) 2];congr 1
   have m3:(2 * j+1) * 2 ^ k'=(2 * j) * 2 ^ k' + 2 ^ k':=An4 _ _;have m4:(2 * j+1+1) * 2 ^ k'=(2 * j+1) * 2 ^ k' + 2 ^ k':=An4 _ _;rw [m1]at hlo;rw [m2]at hhi;have ga:St8 f h (((k':Nat):Int),((2 * j:Nat):Int)) k' (2 * j):=⟨rfl,O,hlo,O⟩
   have gb':St8 f h (((k':Nat):Int),((2 * j+1:Nat):Int)) k' (2 * j+1):=⟨rfl,O,O,hhi⟩
   obtain ⟨a1,a2,a3⟩:=ga.lt hh;obtain ⟨b1,b2,b3⟩:=gb'.lt hh;obtain ⟨fa1,fa2,_⟩:=ga.ft;obtain ⟨fb1,fb2,_⟩:=gb'.ft;generalize hU:2 * j * 2 ^ k'=U at *;generalize hV:(2 * j+1) * 2 ^ k'=V at *;generalize hW:(2 * j+1+1) * 2 ^ k'=W at *;have pw:=(SK (f:=f) hh).sublist (List.take_sublist i _);have ia:=Rx (bt (f:Int) t cs) _ (List.replicate 384 []) pw _ (T3 hh hi (sts_mem.2 ⟨_,_,ga⟩) (by rw [a2,l2];omega)) (by rw [AmM,a2];omega);have ib:=Rx (bt (f:Int) t cs) _ (List.replicate 384 []) pw _ (T3 hh hi (sts_mem.2 ⟨_,_,gb'⟩) (by rw [b2,l2];omega)) (by rw [AmM,b2];omega);rw [a2]at ia;rw [b2]at ib;have wk:IntKind.wrap .i64 (((k' + 1:Nat):Int) - 1)=((k':Nat):Int):=by rw [w64 O O];omega
   have wa:IntKind.wrap .i64 (IntKind.wrap .i64 (64 * ((k':Nat):Int))+IntKind.wrap .i64 (2 * (j:Int)))=((64 * k' + 2 * j:Nat):Int):=by
    rw [w64 (n:=64 * ((k':Nat):Int)) O O,w64 (n:=2 * (j:Int)) O O,w64 O O];omega
   have ga1:=Jw g (a:=(U:Int)) (b:=(V:Int)) O O;have gb1:=Jw g (a:=(V:Int)) (b:=(W:Int)) O O;have hcmp:=ZZ ga1.1 gb1.1 (by rw [ga1.2.2,gb1.2.1]);have eA:bt (f:Int) t cs (((k':Nat):Int),((2 * j:Nat):Int))=B0 (f:Int) t cs (U:Int) (V:Int):=by unfold bt;rw [fa1,fa2]
   have eB:bt (f:Int) t cs (((k':Nat):Int),((2 * j+1:Nat):Int))=B0 (f:Int) t cs (V:Int) (W:Int):=by unfold bt;rw [fb1,fb2]
   rw [eA]at ia;rw [eB]at ib;rw [ino O,Lp hk O,AlU,wk,wa,iy (show(0:Int)<=((64 * k' + 2 * j:Nat):Int) by omega),iy (show((64 * k' + 2 * j:Nat):Int) < (((GC (f:Int) t cs ((sts f h).take i)).length:Nat):Int) by omega),AlX,show(GC (f:Int) t cs ((sts f h).take i))[64 * k' + 2 * j]?=_ from ia,AlU,Am O,iy O,iy O,AlX,
    show(GC (f:Int) t cs ((sts f h).take i))[64 * k' + 2 * j+1]?=_ from ib,AlU,hcmp,AlU,iy O,iy O,AlX,AlW (O:64 * (k' + 1)+j < (GC (f:Int) t cs ((sts f h).take i)).length),AlU,AlU,AlU]
   dsimp only;rw [Am O,m1,m2,Aai g (a:=(U:Int)) (b:=(V:Int)) (c:=(W:Int)) O O O O]) (by
  unfold H0 cK cZ gX wI;dsimp only;rw [ino O,AmL])
 rw [show Ab H0 (List.replicate (Int.toNat 384) ([]:List Prt),sts f h,(((sts f h).length:Nat):Int),0,(f:Int),t,r,cs)=_ from hL];rfl
theorem AhS {f:Int} {t:List UInt8} {cs:List (List Prt)} {f' h:Nat} (hh:h<=60) {s:Int×Int} (hs:s∈sts f' h):(GC f t cs (sts f' h))[ky s]?=some (bt f t cs s):=by
 obtain ⟨k,j,g⟩:=sts_mem.1 hs;obtain ⟨l1,l2,l3⟩:=g.lt hh;exact Rx _ _ _ (SK hh) s hs (by rw [AmM];omega)
end Go.V.G
set_option maxRecDepth 100000
namespace Go.V.G
open Go.V
structure HD (t:List UInt8) (r:List Rn) (cs:List (List Prt)):Prop where
 ht:t.length<=130
 hr:r.length<=30
 hn:cs.length<=60
 hc:∀c∈cs,Sm 2000 c
theorem HD.hb {t:List UInt8} {r:List Rn} {cs:List (List Prt)} (h:HD t r cs):HB t r cs:=
 ⟨by have:=h.ht;omega,by have:=h.hr;omega,by have:=h.hn;omega,λc hc=>(h.hc c hc).mono O⟩
end Go.V.G
set_option maxRecDepth 100000
namespace Go.V.G
open Go.V
theorem WD {l:List Rn} {i:Nat} (h:i < l.length):Az (l.take (i+1))=Az (l.take i)+l[i].2:=by
 rw [Ama h,EI];simp [Az]
theorem QC {l:List Rn} (hp:Pos l) (i:Nat):0<=Az (l.take i)/\Az (l.take i)<=Az l:=by
 have h2:Az l=Az (l.take i)+Az (l.drop i):=by rw [<- EI,AmJ]
 have h3:=CY (l:=l.drop i) λq hq=>hp q (AnA hq)
 have h4:=CY (l:=l.take i) λq hq=>hp q (Am7 hq)
 omega
end Go.V.G
set_option maxRecDepth 100000
namespace Go.V.G
open Go.V
def CP:Nat->List Int->Option (List Prt)
 | 0,x=>if x=[]then some []else none
 | n+1,x=>match x with
  | []=>some []
  | [_]=>none
  | k::m::r=>
   if k=1 then(CP n r).map ((m,0,[]) :: ·)
   else if k=2 then(CP n r).map ((0,m,[]) :: ·)
   else if k=3/\m<=(r.length:Int)then(CP n (r.drop m.toNat)).map ((0,0,AJ (r.take m.toNat)) :: ·)
   else none
theorem Pe:∀n,CP n []=some []
 | 0=>rfl
 | _+1=>rfl
theorem RA:∀(n:Nat) (x:List Int) (c:List Prt),Byt x->CP n x=some c->c.length<=x.length/\B6 c<=x.length/\∀p∈c,(0<=p.1/\p.1<=255)/\(0<=p.2.1/\p.2.1<=255)
 | 0,x,c,hb,h=>by
  unfold CP at h;split at h
  .injection h with h;subst h;simp [B6]
  .cases h
 | n+1,[],c,hb,h=>by
  rw [Pe]at h;injection h with h;subst h;simp [B6]
 | n+1,[a],c,hb,h=>by simp [CP]at h
 | n+1,k::m::r,c,hb,h=>by
  have hm:=hb m Z;have hr:Byt r:=λv hv=>hb v (by simp [hv])
  simp only [CP]at h;split at h
  .obtain ⟨c',h1,rfl⟩:=AmY.1 h;obtain ⟨q1,q2,q3⟩:=RA n r c' hr h1;refine⟨by simp only [Al7];omega,by simp only [B6,Al7,Amp]at q2 ⊢;omega,λp hp=>?_⟩;rcases Ame.1 hp with rfl | hp
   .exact⟨hm,AlT⟩
   .exact q3 p hp
  .split at h
   .obtain ⟨c',h1,rfl⟩:=AmY.1 h;obtain ⟨q1,q2,q3⟩:=RA n r c' hr h1;refine⟨by simp only [Al7];omega,by simp only [B6,Al7,Amp]at q2 ⊢;omega,λp hp=>?_⟩;rcases Ame.1 hp with rfl | hp
    .exact⟨AlT,hm⟩
    .exact q3 p hp
   .split at h
    .rename_i h3;obtain ⟨c',h1,rfl⟩:=AmY.1 h;obtain ⟨q1,q2,q3⟩:=RA n _ c' (λv hv=>hr v (AnA hv)) h1;rw [Amm]at q1 q2;have ht:(AJ (r.take m.toNat)).length=m.toNat:=by unfold AJ;rw [Amt,Al4];omega
     refine⟨by simp only [Al7];omega,by simp only [B6,Al7,ht]at q2 ⊢;omega,λp hp=>?_⟩;rcases Ame.1 hp with rfl | hp
     .exact⟨AlT,AlT⟩
     .exact q3 p hp
    .cases h
theorem Acg {n:Nat} {x:List Int} {c:List Prt} (hb:Byt x) (h:CP n x=some c):Sm x.length c:=by
 obtain ⟨q1,q2,q3⟩:=RA n x c hb h;exact⟨q1,q2,λp hp=>by obtain ⟨⟨a,b⟩,c,d⟩:=q3 p hp;exact⟨by unfold I64;omega,by unfold I64;omega⟩⟩
theorem AbJ {l:List Prt} (h:l.length<=1099511627776) (x:Prt):Aa (List.length l+List.length [x]) 32=true:=by simp [Aa];omega
theorem QG:∀(n:Nat) (rest:List Int) (acc:List Prt),rest.length<=n->Byt rest->n<=1000000000->n+acc.length<=1099511627776->
  Ab AE (rest,acc)=some (match CP n rest with | some c=>.inl (acc++c) | none=>.inr false)
 | n,[],acc,_,_,_,_=>by
  rw [AI,Pe];unfold AE cK gX sX;simp
 | 0,a::r,acc,h,_,_,_=>by simp at h
 | n+1,[a],acc,_,_,_,_=>by
  rw [AI];unfold AE cK gX sX;simp [CP]
 | n+1,k::m::r,acc,h,hb,hn,ha=>by
  have hm:=hb m Z;have hr:Byt r:=λv hv=>hb v (by simp [hv])
  simp only [Al7]at h;have hl2:¬ ((List.length (k::m::r):Int)) < 2:=by simp;omega
  have hl0:(0:Int) < ((List.length (k::m::r):Int)):=by simp;omega
  have hl3:(2:Int)<=((List.length (k::m::r):Int)):=by simp;omega
  have g0:(k::m::r)[Int.toNat 0]?=some k:=rfl;have g1:(k::m::r)[Int.toNat 1]?=some m:=rfl;have w:IntKind.wrap .i64 m=m:=w64 O O;have room:=AbJ (O:acc.length<=1099511627776);have ih:=λp=>QG n r (acc++[p]) O hr O (by simp only [Al0,Al7,Amp];omega)
  rw [AI];by_cases k1:k=1
  .subst k1;have hs:AE (1::m::r,acc)=some (.inl (r,acc++[(m,0,[])])):=by
    unfold AE cK gX sX;dsimp only;rw [OB];simp only [hl0,hl2,hl3,g0,g1,decide_true,decide_false,Amd,Al8,Amv,AlU,Am6,show(0:Int)<=1 from by omega,show(0:Int)<=2 from by omega,w,room]
   rw [hs];dsimp only;rw [ih,CP];simp only [Amd];cases CP n r with
   | none=>rfl
   | some c=>simp
  .by_cases k2:k=2
   .subst k2;have hs:AE (2::m::r,acc)=some (.inl (r,acc++[(0,m,[])])):=by
     unfold AE cK gX sX;dsimp only;rw [OB];simp only [hl0,hl2,hl3,g0,g1,decide_true,decide_false,Amd,Al8,Amv,AlU,Am6,show(0:Int)<=1 from by omega,show(0:Int)<=2 from by omega,(O:¬ (2:Int)=1),w,room]
    rw [hs];dsimp only;rw [ih,CP];simp only [(O:¬ (2:Int)=1),Amd,Amv];cases CP n r with
    | none=>rfl
    | some c=>simp
   .by_cases k3:k=3/\m<=(r.length:Int)
    .obtain ⟨rfl,k4⟩:=k3;have tk:(List.drop (Int.toNat 0) r).take (Int.toNat m - Int.toNat 0)=r.take m.toNat:=rfl;have dr:(List.drop (Int.toNat m) r).take (Int.toNat (List.length r:Int) - Int.toNat m)=r.drop m.toNat:=AmK (by rw [Amm];omega);have hs:AE (3::m::r,acc)=some (.inl (r.drop m.toNat,acc++[(0,0,AJ (r.take m.toNat))])):=by
      unfold AE cK gX sX;dsimp only;rw [OB];simp only [hl0,hl2,hl3,g0,g1,decide_true,decide_false,Amd,Al8,Amv,AlU,Am6,show(0:Int)<=1 from by omega,show(0:Int)<=2 from by omega,(O:¬ (3:Int)=1),(O:¬ (3:Int)=2),w,k4,hm.1,tk,dr,room]
     rw [hs];dsimp only;rw [QG n (r.drop m.toNat) _ (by rw [Amm];omega) (λv hv=>hr v (AnA hv)) O (by simp only [Al0,Al7,Amp];omega),CP];simp only [k4,Amd,Amv,and_self,(O:¬ (3:Int)=1),(O:¬ (3:Int)=2)];cases CP n (r.drop m.toNat)with
     | none=>rfl
     | some c=>simp
    .have hs:AE (k::m::r,acc)=some (.inr (.inr false)):=by
      unfold AE cK gX sX;dsimp only;rw [OB];by_cases k3':k=3
      .subst k3';have:¬ m<=(r.length:Int):=λh=>k3 ⟨rfl,h⟩
       simp only [hl0,hl2,hl3,g0,g1,decide_true,decide_false,Amd,Al8,Amv,AlU,Am6,show(0:Int)<=1 from by omega,show(0:Int)<=2 from by omega,(O:¬ (3:Int)=1),(O:¬ (3:Int)=2),w,this]
      .simp only [hl0,hl2,hl3,g0,g1,k1,k2,k3',decide_true,decide_false,Amd,Al8,Amv,AlU,Am6,show(0:Int)<=1 from by omega,show(0:Int)<=2 from by omega,w]
     rw [hs,CP];simp only [k1,k2,k3,Amv]
def BU (x:List Int):List Prt×Bool:=match CP x.length x with
 | some c=>if AA c=true then(c,true)else([],false)
 | none=>([],false)
theorem SA (x:List Int):Sm 240 (BU x).1:=by
 unfold BU;split
 .split
  .rename_i h;exact Ci h
  .exact Sm.nil _
 .exact Sm.nil _
theorem AbH {x:List Int} (hb:Byt x) (hl:x.length<=1000000000):E4 x=some (BU x):=by
 unfold E4 BU;rw [QG x.length x [] (Amu _) hb hl AlR];cases hd:CP x.length x with
 | none=>rfl
 | some c=>
  simp only [AlU,Ams];rw [P7 (Acg hb hd) O,AlU];cases hg:AA c <;> simp
theorem WW {b:List Int} (hb:Byt b) (hl:b.length<=1000000000):∀(n:Nat) (pos:Nat) (acc:List Prt),pos<=b.length->b.length - pos<=n->acc.length<=500->
  Ab Bq (b,acc,(pos:Int))=some (match CP n (b.drop pos)with | some c=>if acc.length+c.length<=500 then .inl (acc++c)else .inr false | none=>.inr false)
 | n,pos,acc,hp,hn,ha=>by
  by_cases he:pos=b.length
  .subst he;rw [AI,AnM,Pe];unfold Bq cK gX sX wI;simp [ha]
  have hlt:pos < b.length:=O
  obtain ⟨n,rfl⟩:∃n',n=n' + 1:=⟨n - 1,O⟩
  have c0:(pos:Int) < (b.length:Int):=O
  have w1:IntKind.wrap .i64 ((pos:Int)+1)=((pos+1:Nat):Int):=by rw [w64 O O];omega
  by_cases he2:pos+1=b.length
  .have hd:b.drop pos=[b[pos]]:=by rw [Amx hlt,he2,AnM]
   have c1:(b.length:Int)<=((pos+1:Nat):Int):=O
   rw [AI,hd];unfold Bq cK gX sX wI;simp only [w1,c0,c1,decide_true,Amd,CP]
  have hlt2:pos+1 < b.length:=O
  have hd:b.drop pos=b[pos]::b[pos+1]::b.drop (pos+2):=by rw [Amx hlt,Amx hlt2]
  have c1:¬ (b.length:Int)<=((pos+1:Nat):Int):=O
  have g1:b[Int.toNat ((pos+1:Nat):Int)]?=some b[pos+1]:=by rw [AlX];exact AlW hlt2
  have g0:b[Int.toNat (pos:Int)]?=some b[pos]:=by rw [AlX];exact AlW hlt
  have hm:=hb _ (Amc hlt2);have w:IntKind.wrap .i64 b[pos+1]=b[pos+1]:=w64 O O;have room:=AbJ (O:acc.length<=1099511627776);have p0:(0:Int)<=(pos:Int):=O
  have p1:(0:Int)<=((pos+1:Nat):Int):=O
  have w2:IntKind.wrap .i64 ((pos:Int)+2)=((pos+2:Nat):Int):=by rw [w64 O O];omega
  have al:∀p:Prt,(List.length (acc++[p]):Int)=(acc.length:Int)+1:=λp=>by simp
  have nx:∀(p:Prt) (q:Nat),q<=b.length->b.length - q<=n->(if decide ((500:Int) < (List.length (acc++[p]):Int))=true then(some (.inr (.inr false)):Option ((List Int×(List Prt×Int))⊕(List Prt⊕Bool)))else some (.inl (b,acc++[p],(q:Int))))=Bq (b,acc,(pos:Int))->
    Ab Bq (b,acc,(pos:Int))=some (match (CP n (b.drop q)).map (p :: ·)with | some c=>if acc.length+c.length<=500 then .inl (acc++c)else .inr false | none=>.inr false):=by
   intro p q hq hqn hs;rw [AI,<- hs];by_cases h5:acc.length+1<=500
   .have h5':¬ (500:Int) < (List.length (acc++[p]):Int):=by rw [al];omega
    rw [AlZ (by simpa using h5')];dsimp only;rw [WW hb hl n q (acc++[p]) hq hqn AlR];cases CP n (b.drop q)with
    | none=>rfl
    | some c=>
     simp only [AmS,Al0,Al7,Amp,Al5,AmH,Ams,Amk,Ani,Nat.add_comm 1]
   .have h5':(500:Int) < (List.length (acc++[p]):Int):=by rw [al];omega
    rw [Al1 (by simpa using h5')];cases CP n (b.drop q)with
    | none=>rfl
    | some c=>
     have:¬ acc.length+(p::c).length<=500:=by simp only [Al7];omega
     simp only [AmS,this,Amv]
  rw [hd,CP];by_cases k1:b[pos]=1
  .simp only [k1,Amd];refine nx _ (pos+2) O O ?_;unfold Bq cK gX sX wI;simp only [w1,w2,w,c0,c1,g0,g1,p0,p1,k1,decide_true,decide_false,Amd,Al8,Amv,AlU,room]
  .by_cases k2:b[pos]=2
   .simp only [k2,(O:¬ (2:Int)=1),Amd,Amv];refine nx _ (pos+2) O O ?_;unfold Bq cK gX sX wI;simp only [w1,w2,w,c0,c1,g0,g1,p0,p1,k2,decide_true,decide_false,Amd,Al8,Amv,AlU,room,(O:¬ (2:Int)=1)]
   .by_cases k3:b[pos]=3
    .have w3:IntKind.wrap .i64 ((IntKind.wrap .i64 ((b.length:Int) - (pos:Int))) - 2)=((b.length - (pos+2):Nat):Int):=by rw [w64 (n:=(b.length:Int) - (pos:Int)) O O,w64 O O];omega
     have hdl:(b.drop (pos+2)).length=b.length - (pos+2):=Amm;by_cases k4:b[pos+1]<=((b.length - (pos+2):Nat):Int)
     .obtain ⟨m,hme⟩:=Amq hm.1;have k4':b[pos+1]<=(((b.drop (pos+2)).length:Nat):Int):=by rw [hdl];exact k4
      simp only [k3,k4',(O:¬ (3:Int)=1),(O:¬ (3:Int)=2),and_self,Amd,Amv,An8];have hq:pos+2+b[pos+1].toNat<=b.length:=O
      refine nx _ (pos+2+b[pos+1].toNat) hq O ?_;have w4:IntKind.wrap .i64 (((pos+2:Nat):Int)+b[pos+1])=((pos+2+b[pos+1].toNat:Nat):Int):=by rw [w64 O O];omega
      have w5:IntKind.wrap .i64 ((pos:Int)+b[pos+1])=((pos+b[pos+1].toNat:Nat):Int):=by rw [w64 O O];omega
      have w6:IntKind.wrap .i64 (((pos+b[pos+1].toNat:Nat):Int)+2)=((pos+2+b[pos+1].toNat:Nat):Int):=by rw [w64 O O];omega
      have k5:¬ ((b.length - (pos+2):Nat):Int) < b[pos+1]:=O
      have i1:(0:Int)<=((pos+2:Nat):Int):=O
      have i2:((pos+2:Nat):Int)<=((pos+2+b[pos+1].toNat:Nat):Int):=O
      have i3:((pos+2+b[pos+1].toNat:Nat):Int)<=(b.length:Int):=O
      have tk:(List.drop (Int.toNat ((pos+2:Nat):Int)) b).take (Int.toNat ((pos+2+b[pos+1].toNat:Nat):Int) - Int.toNat ((pos+2:Nat):Int))=(b.drop (pos+2)).take b[pos+1].toNat:=by
       rw [AlX,AlX];congr 1;omega
      unfold Bq cK gX sX wI;simp only [w1,w2,w,w3,w4,w5,w6,c0,c1,g0,g1,p0,p1,k3,k5,i1,i2,i3,tk,decide_true,decide_false,Amd,Al8,Amv,AlU,Am6,room,(O:¬ (3:Int)=1),(O:¬ (3:Int)=2)]
     .have k4':¬ b[pos+1]<=(((b.drop (pos+2)).length:Nat):Int):=by rw [hdl];exact k4
      have k5:((b.length - (pos+2):Nat):Int) < b[pos+1]:=O
      simp only [k3,k4',(O:¬ (3:Int)=1),(O:¬ (3:Int)=2),and_false,Amv];rw [AI];unfold Bq cK gX sX wI;simp only [w1,w2,w,w3,c0,c1,g0,g1,p0,p1,k3,k5,decide_true,decide_false,Amd,Al8,Amv,AlU,(O:¬ (3:Int)=1),(O:¬ (3:Int)=2)]
    .simp only [k1,k2,k3,false_and,Amv];rw [AI];unfold Bq cK gX sX wI;simp only [w1,w2,w,c0,c1,g0,g1,p0,p1,k1,k2,k3,decide_true,decide_false,Amd,Al8,Amv,AlU]
theorem Aiz {x:List Int} (hb:Byt x) (hl:x.length<=1000000000):I0 x=some (BU x):=by
 unfold I0 BU;have:=WW hb hl x.length 0 [] (Ane _) Z Z;rw [AmX]at this;rw [show Ab Bq (x,[],0)=_ from this];cases hd:CP x.length x with
 | none=>rfl
 | some c=>
  simp only [Amp,Amk,Ams];by_cases h5:c.length<=500
  .rw [Al1 h5];simp only [AlU];rw [MM (Acg hb hd) O,AlU];cases hg:AA c <;> simp
  .rw [AlZ h5];have hg:¬ AA c=true:=λh=>by have:=(Ci h).len;omega
   simp only [AlU,AlZ hg]
end Go.V.G