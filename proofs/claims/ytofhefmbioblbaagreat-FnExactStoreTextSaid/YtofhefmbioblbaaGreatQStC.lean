import Derived.Test.YtofhefmbioblbaaGreatQStA
import Derived.Test.YtofhefmbioblbaaGreatQStB
import Derived.Below
set_option linter.unusedVariables false
set_option linter.unusedSimpArgs false
set_option maxRecDepth 100000
namespace Go.V.G
open Go.V
def Pg (xs:List (Int)):Prop:=xs.length<=maxLen
def B8 (xs:List (Int)):Nat:=xs.length
theorem Qz (xs:List (Int)):xs.length<=B8 xs:=by unfold B8;omega
theorem Ae8 {xs:List (Int)} (hf:Pg xs) {l:Int} (h0:0<=l) (h1:l<=1048576):L2 xs l=some (lft l (B8 xs)):=by
 have hl:xs.length<=maxLen:=hf;unfold maxLen at hl;unfold L2 lft B8 wI;rw [w64 O O];by_cases h:l - (xs.length:Int) < 0
 .rw [AjS (by simpa using h),AjR O]
 .rw [AjR (by simpa using h),AjS O]
theorem AeR {xs:List (Int)} (h:B8 xs<=1048576):LN xs=some xs:=by
 have hl:=Qz xs;have hr:Aa xs.length 1=true:=by simp only [Aa,decide_eq_true_eq];omega
 unfold LN cK cZ;simp only [AjO,hr,Akh,AkZ,decide_true,show(0:Int)<=(xs.length:Int) from by omega];rw [Aau Ix xs _ (by
  intro ys i hi hy;have hc:(i:Int) < (xs.length:Int):=O
  have hy':i < ys.length:=O
  have g1:∀x,(ys.set i x)[i]?=some x:=λx=>Alh hy'
  skip
  unfold Ix cK cZ gX wI;simp only [hy,hc,decide_true,Akh,show(0:Int)<=(i:Int) from by omega,AjO,AjP hi,AjP hy',AjM,Ake,List.set_set,g1,ixS (O:xs.length<=4611686018427387904) hi]) (by intro ys;simp [Ix,cK,cZ,gX,wI])]
 rfl
theorem AdB {xs:List (Int)} (h:B8 xs<=1099511627776):Lp xs xs=some true:=by
 have hl:=Qz xs;unfold Lp;rw [AjR Z,ZT Is xs (by
  intro i hi;have hc:(i:Int) < (xs.length:Int):=O
  skip
  unfold Is gX wI;simp only [hc,decide_true,Akh,show(0:Int)<=(i:Int) from by omega,AjO,AjP hi,AjM,ixS (O:xs.length<=4611686018427387904) hi,AkF,Aj4,Aku,not_true_eq_false,decide_false]) (by simp [Is,gX,wI])]
 rfl
def Kf (xs:List (List Int)):Prop:=xs.length<=maxLen/\∀x∈xs,Pg x
def CF (xs:List (List Int)):Nat:=xs.length+D4 B8 xs
theorem Lb (xs:List (List Int)):xs.length<=CF xs:=by unfold CF;omega
theorem AcA {xs:List (List Int)} (hf:Kf xs) {l:Int} (h0:0<=l) (h1:l<=1048576):Kb xs l=some (lft l (CF xs)):=by
 obtain ⟨hl,hx⟩:=hf;unfold maxLen at hl;unfold Kb wI;rw [w64 O O];by_cases h:l - (xs.length:Int) < 0
 .rw [AjS (by simpa using h)];unfold lft CF;rw [AjR O]
 .rw [AjR (by simpa using h),Agb HA B8 xs (by
   intro i hi l h0 h1;have hc:(i:Int) < (xs.length:Int):=O
   have hx:=hx _ (Akc hi);unfold HA gX wI;simp only [hc,decide_true,Akh,show(0:Int)<=(i:Int) from by omega,AjO,AjP hi,AjM,Ae8 (hx) h0 h1,ixS (O:xs.length<=4611686018427387904) hi];unfold lft;by_cases hw:(B8 xs[i]:Int)<=l
   .have:¬ l - (B8 xs[i]:Int) < 0:=O
    simp [hw,this]
   .simp [hw]) (by intro l;simp [HA,gX,wI]) O O,AjM]
  unfold lft CF;by_cases hx:(D4 B8 xs:Int)<=l - (xs.length:Int)
  .rw [AjS hx,AjS O];show some _=some _
   congr 1;omega
  .rw [AjR hx,AjR O]
theorem Adj {xs:List (List Int)} (h:CF xs<=1048576):Kg xs=some xs:=by
 have hl:=Lb xs;have hr:Aa xs.length 24=true:=by simp only [Aa,decide_eq_true_eq];omega
 unfold Kg cK cZ;simp only [AjO,hr,Akh,AkZ,decide_true,show(0:Int)<=(xs.length:Int) from by omega];rw [Aau Hx xs _ (by
  intro ys i hi hy;have hc:(i:Int) < (xs.length:Int):=O
  have hy':i < ys.length:=O
  have g1:∀x,(ys.set i x)[i]?=some x:=λx=>Alh hy'
  have hb:B8 xs[i]<=1048576:=by have:=Rl B8 (Akc hi);unfold CF at h;omega
  unfold Hx cK cZ gX wI;simp only [hy,hc,decide_true,Akh,show(0:Int)<=(i:Int) from by omega,AjO,AjP hi,AjP hy',AjM,Ake,List.set_set,g1,ixS (O:xs.length<=4611686018427387904) hi,AeR (hb)]) (by intro ys;simp [Hx,cK,cZ,gX,wI])]
 rfl
theorem AbR {xs:List (List Int)} (h:CF xs<=1099511627776):JY xs xs=some true:=by
 have hl:=Lb xs;unfold JY;rw [AjR Z,ZT Hz xs (by
  intro i hi;have hc:(i:Int) < (xs.length:Int):=O
  have hb:B8 xs[i]<=1099511627776:=by have:=Rl B8 (Akc hi);unfold CF at h;omega
  unfold Hz gX wI;simp only [hc,decide_true,Akh,show(0:Int)<=(i:Int) from by omega,AjO,AjP hi,AjM,ixS (O:xs.length<=4611686018427387904) hi,AdB (hb),AkF,Aj4,Aku,not_true_eq_false,decide_false]) (by simp [Hz,gX,wI])]
 rfl
end Go.V.G
set_option maxRecDepth 100000
namespace Go.V.G
open Go.V
theorem n1:((1:Nat):Int)=1:=rfl
theorem n4:((4:Nat):Int)=4:=rfl
theorem Agm (l:Int) (n:Nat):(if decide (lft l n < 0)=true then(some (-1):Option Int)else some (lft l n))=some (lft l n):=by
 by_cases h:lft l n < 0
 .rw [AjS (by simpa using h)];unfold lft at h ⊢;split at h
  .omega
  .rename_i hn;rw [AjR hn]
 .rw [AjR (by simpa using h)]
theorem AfZ {b:List (List Int)} {x:Int} {y:Bool} {z:Int} (hf:Kf b) {l:Int} (h0:0<=l) (h1:l<=1048576):N9 b x y z l=some (lft l (CF b)):=by
 unfold N9;rw [AcA hf h0 h1,AjM,Agm]
theorem Agd {b:List (List Int)} {x:Int} {y:Bool} {z:Int} (h:CF b<=1048576):HW b x y z=some (b,x,y,z):=by
 unfold HW;rw [Adj h];rfl
theorem Agv {b:List (List Int)} {x:Int} {y:Bool} {z:Int} (h:CF b<=1099511627776):KX b x y z b x y z=some true:=by
 unfold KX;simp [AbR h]
end Go.V.G
set_option maxRecDepth 100000
namespace Go.V.G
open Go.V
abbrev Cl:=Int×(List Int×(Bool×(Int×Int)))
theorem BN {σ τ ρ:Type} (f:σ->Option (σ⊕(τ⊕ρ))) (st:Nat->σ) (p:Nat->Bool) (e:Nat->ρ) (z:τ) (n:Nat)
  (step:∀i,i < n->f (st i)=some (if p i=true then .inl (st (i+1))else .inr (.inr (e i)))) (last:f (st n)=some (.inr (.inl z))) :
  ((∀j,j < n->p j=true)/\Ab f (st 0)=some (.inl z))\/∃k,k < n/\p k=false/\(∀j,j < k->p j=true)/\Ab f (st 0)=some (.inr (e k)):=by
 by_cases h:∃k,k < n/\p k=false
 .have hf:∃k,(k < n/\p k=false)/\∀j,j < k->p j=true:=by
   obtain ⟨k,hk⟩:=h
   induction k using Nat.strongRecOn with
   | _ k ih=>
    by_cases hx:∃j,j < k/\p j=false
    .obtain ⟨j,hj,hp⟩:=hx;exact ih j hj ⟨O,hp⟩
    .refine⟨k,hk,λj hj=>?_⟩;cases hpj:p j with
     | true=>rfl
     | false=>exact absurd ⟨j,hj,hpj⟩ hx
  obtain ⟨k,⟨hk,hp⟩,hall⟩:=hf;refine .inr ⟨k,hk,hp,hall,An f st k _ (λj hj=>?_) ?_⟩
  .rw [step j O,AjS (hall j hj)]
  .rw [step k hk,hp,AjR Z]
 .have hall:∀j,j < n->p j=true:=λj hj=>by
   cases hpj:p j with
   | true=>rfl
   | false=>exact absurd ⟨j,hj,hpj⟩ h
  exact .inl ⟨hall,An f st n _ (λj hj=>by rw [step j hj,AjS (hall j hj)]) last⟩
def AiO (ls:List Cl) (u:Int):Bool:=ls.any λq=>q.2.2.2.2 == u
def gl (x1:Int) (ls:List Cl) (bl:Bls) (i:Nat) (r:Cl):Bool:=
 decide (0<=r.1/\r.1 < bl.length) && (decide (0 < i->(ls[i - 1]?.getD r).1 < r.1) && (decide (r.2.1.length=128) && (decide (0<=r.2.2.2.1/\r.2.2.2.1<=100) && (decide (1<=r.2.2.2.2/\r.2.2.2.2<=x1) &&
  ((r.2.2.1 || r.2.1 == bl[r.1.toNat]?.getD []) && !(AiO (ls.take i) r.2.2.2.2))))))
structure CD (ls:List Cl) (bl:Bls):Prop where
 n:ls.length<=1048576
 m:bl.length<=1048576
 b:∀x∈ls,x.2.1.length<=1048576/\∀y∈x.2.1,0<=y/\y<=255
 k:∀x∈bl,x.length<=1048576/\∀y∈x,0<=y/\y<=255
def gc (x0 x1:Int) (ls:List Cl) (bl:Bls) (wr lf:Int):Bool:=
 gd bl wr lf && (decide (1<=x0/\x0<=8) && (decide (0<=x1/\x1<=1000000) && (decide ((ls.length:Int)<=x0) && (List.range ls.length).all λi=>gl x1 ls bl i (ls[i]?.getD (0,[],false,0,0)))))
theorem RG:∀{a b:List Int},(∀y∈a,0<=y/\y<=255)->(∀y∈b,0<=y/\y<=255)->AF a=AF b->a=b
 | [],[],_,_,_=>rfl
 | [],_::_,_,_,h=>by simp [AF]at h
 | _::_,[],_,_,h=>by simp [AF]at h
 | x::a,y::b,ha,hb,h=>by
  simp only [AF,Akw,AlW]at h;have h1:=ha x Z;have h2:=hb y Z;have h3:x=y:=by
   have:=congrArg UInt8.toNat h.1;simp only [UInt8.toNat_ofNat']at this;omega
  rw [h3,RG (λz hz=>ha z (by simp [hz])) (λz hz=>hb z (by simp [hz])) h.2]
theorem QR {a b:List Int} (ha:∀y∈a,0<=y/\y<=255) (hb:∀y∈b,0<=y/\y<=255):(AF a == AF b)=(a == b):=by
 by_cases h:a=b
 .subst h;simp
 .have:¬ AF a=AF b:=λhh=>h (RG ha hb hh)
  rw [beq_eq_false_iff_ne.2 this,beq_eq_false_iff_ne.2 h]
theorem Ak {i:Nat} (h:i<=1048576):IntKind.wrap .i64 ((i:Int)+1)=((i+1:Nat):Int):=by rw [w64 O O];omega
theorem UZ {a b:List Int} (hn:a.length<=1048576):Cv a b=some (a == b):=by
 unfold Cv;by_cases hl:a.length=b.length
 .rw [AjR (by simp [hl])];rcases BN CM (λk=>(a,b,(a.length:Int),((k:Nat):Int))) (λk=>a[k]? == b[k]?) (λ_=>false) () a.length (λi hi=>by
    unfold CM gX wI;dsimp only;have hib:i < b.length:=O
    rw [AjS AjJ,AjS Z,AjO,AjP hi,AjM,AjS Z,AjP hib,AjM,Ak O];by_cases he:a[i]=b[i]
    .rw [AjR (by simp [he]),AjS (by simp [he])]
    .rw [AjS (by simp [he]),AjR (by simp [he])]) (by
    unfold CM gX wI;dsimp only;rw [AjR Z])with⟨h1,h2⟩ | ⟨k,hk,h1,_,h2⟩
  .rw [show(((0:Nat):Int))=0 from rfl]at h2;rw [h2,AjM];have:a=b:=by
    refine AkK λi=>?_
    by_cases hi:i < a.length
    .simpa using h1 i hi
    .rw [Aka O,Aka O]
   simp [this]
  .rw [show(((0:Nat):Int))=0 from rfl]at h2;rw [h2,AjM];have:¬ a=b:=λh=>by subst h;simp at h1
   rw [beq_eq_false_iff_ne.2 this]
 .rw [AjS AjJ];have:¬ a=b:=λh=>hl (by rw [h])
  rw [beq_eq_false_iff_ne.2 this]
structure Up (ls:List Cl) (m:Nat):Prop where
 up:∀i j (hi:i < ls.length) (hj:j < ls.length),i < j->ls[i].1 < ls[j].1
 b:∀i (hi:i < ls.length),0<=ls[i].1/\ls[i].1 < m
end Go.V.G
set_option maxRecDepth 100000
namespace Go.V.G
open Go.V
def ub (r:Int) (j:Nat):Bool:=decide ((IntKind.wrap .u8 (((BitVec.ofInt (IntKind.bits .u8) (Int.fdiv r (2 ^ (min j (IntKind.bits .u8)))) &&& BitVec.ofInt (IntKind.bits .u8) 1).toNat:Int)):Int)=1)
def sb (r:Int) (j:Nat):Int:=IntKind.wrap .u8 (((BitVec.ofInt (IntKind.bits .u8) r ||| BitVec.ofInt (IntKind.bits .u8) (IntKind.wrap .u8 (1 * 2 ^ (min j (IntKind.bits .u8))))).toNat:Int))
def bit (bits:List Int) (k:Nat):Bool:=ub (bits[k / 8]?.getD 0) (k % 8)
def setB (bits:List Int) (k:Nat):List Int:=bits.set (k / 8) (sb (bits[k / 8]?.getD 0) (k % 8))
theorem dv8 {k:Nat} (h:k<=1048576):IntKind.wrap .i64 (Int.tdiv (k:Int) 8)=((k / 8:Nat):Int):=by
 rw [Int.tdiv_eq_ediv_of_nonneg O,w64 O O];omega
theorem md8 (k:Nat):Int.tmod (k:Int) 8=((k % 8:Nat):Int):=by
 rw [Aln O];omega
theorem AjG (k:Nat):IntKind.wrap .u64 (Int.tmod (k:Int) 8)=((k % 8:Nat):Int):=by
 rw [md8,Yf O O]
theorem JP {bits:List Int} {k:Nat} (h:k<=1048576) (hk:k / 8 < bits.length):GA bits (k:Int)=some (bit bits k):=by
 unfold GA bit cK cZ gX wI wB;rw [dv8 h,AjG,AjS Z,AjS AjJ,AjO,AjP hk,AjM,AjS Z,AjS AjJ];rfl
theorem Uy {bits:List Int} {k:Nat} (h:k<=1048576) (hk:k / 8 < bits.length) (b:Bls) (g t:List Int):DC (k:Int) b bits g t=some (bit bits k,b,bits,g,t):=by
 unfold DC bit cK cZ gX wI wB;rw [dv8 h,md8,AjS Z,AjS AjJ,AjO,AjP hk,AjM,AjS Z,AjS AjJ];rfl
def upG (n:Nat) (bits l:List Int) (i:Nat):Bool:=
 decide (33<=l[i]?.getD 0/\l[i]?.getD 0<=(n:Int) - 1) && (bit bits (l[i]?.getD 0).toNat && decide (0 < i->l[i - 1]?.getD 0 < l[i]?.getD 0))
def upB (n:Nat) (bits l:List Int):Bool:=(List.range l.length).all λi=>upG n bits l i
def bG (n:Nat) (bits:List Int) (k:Nat):Bool:=!((decide (k < 33) && !(bit bits k)) || (decide (n<=k) && bit bits k))
def gsp (b:Bls) (bits g t:List Int):Bool:=
 (decide (40<=b.length/\b.length<=160) && (decide (bits.length=20) && b.all (λx=>x.length == 128))) && (((List.range 160).all λk=>bG b.length bits k) && (upB b.length bits g && upB b.length bits t))
theorem all_range {p:Nat->Bool} {n:Nat}:(List.range n).all p=true↔∀i,i < n->p i=true:=by
 rw [Aki];exact⟨λh i hi=>h i (Als.2 hi),λh i hi=>h i (Als.1 hi)⟩
theorem VZ (n:Nat) (bits l:List Int) (i:Nat) (hi:i < l.length):upG n bits l i =
  if ¬ (33<=l[i]/\l[i]<=(n:Int) - 1)then false else if bit bits l[i].toNat=false then false else if 0 < i/\l[i]<=l[i - 1]?.getD 0 then false else true:=by
 unfold upG;rw [AjP hi,Akx];by_cases h1:33<=l[i]/\l[i]<=(n:Int) - 1
 .rw [decide_eq_true h1,AjR (not_not_intro h1),Aj3];by_cases h2:bit bits l[i].toNat=false
  .rw [h2,AjS rfl];rfl
  .rw [AjR h2];have h2':bit bits l[i].toNat=true:=by simpa using h2
   rw [h2',Aj3];by_cases h3:0 < i/\l[i]<=l[i - 1]?.getD 0
   .rw [AjS h3];simp;exact h3
   .rw [AjR h3];simp;omega
 .rw [decide_eq_false h1,AjS h1];rfl
theorem AfB {b:Bls} {bits l:List Int} (hb:b.length<=160) (h40:40<=b.length) (hx:bits.length=20) (hl:l.length<=1048576) (a1:Bls) (a1':List (List Int)) (a2 a3:Int) (g t:List Int) :
  Ab E5 ((b.length:Int),l,a1',a2,a3,l,(l.length:Int),0,a1,bits,g,t)=some (if upB b.length bits l=true then .inl ((b.length:Int),a1',a2,a3,a1,bits,g,t)else .inr false):=by
 rcases BN E5 (λk=>((b.length:Int),l,a1',a2,a3,l,(l.length:Int),((k:Nat):Int),a1,bits,g,t)) (λk=>upG b.length bits l k) (λ_=>false) ((b.length:Int),a1',a2,a3,a1,bits,g,t) l.length (λi hi=>by
   unfold E5 gX wI;dsimp only;rw [AjS AjJ,AjS Z,AjO,AjP hi,AjM,VZ _ _ _ _ hi,Ca,w64 (n:=(b.length:Int) - 1) O O,AjM];generalize hr:l[i]=r;by_cases h1:33<=r/\r<=(b.length:Int) - 1
   .obtain ⟨m,rfl⟩:=Akg (O:0<=r);rw [decide_eq_true h1,AjR Z,JP O O,AjM,AjR (not_not_intro h1),AjO];cases h2:bit bits m with
    | false=>rw [AjS rfl];rfl
    | true=>
     rw [AjR (show ¬ (!true)=true by simp),AjR (show ¬ true=false by simp)];by_cases h0:0 < i
     .have e1:IntKind.wrap .i64 (((i:Nat):Int) - 1)=((i - 1:Nat):Int):=by rw [w64 O O];omega
      have hp:l[i - 1]?=some l[i - 1]:=AjP O;rw [AjS AjJ,e1,AjS Z,AjO,hp,AjM,AjM,Akx];dsimp only;by_cases h3:(m:Int)<=l[i - 1]
      .rw [AjS (by simpa using h3),AjS (⟨h0,h3⟩:0 < i/\(m:Int)<=l[i - 1])];rfl
      .rw [AjR (by simpa using h3),AjR (show ¬ (0 < i/\(m:Int)<=l[i - 1]) from λhh=>h3 hh.2),Ak O];rfl
     .rw [AjR AjJ,AjM];dsimp only;rw [AjR Z,AjR (show ¬ (0 < i/\(m:Int)<=l[i - 1]?.getD 0) from λhh=>h0 hh.1),Ak O];rfl
   .rw [decide_eq_false h1,AjS Z,AjM,AjS h1];rfl) (by
   unfold E5 gX wI;dsimp only;rw [AjR Z])with⟨h1,h2⟩ | ⟨k,hk,h1,_,h2⟩
 .rw [show(((0:Nat):Int))=0 from rfl]at h2;rw [h2,show upB b.length bits l=true from all_range.2 h1];rfl
 .rw [show(((0:Nat):Int))=0 from rfl]at h2;have:upB b.length bits l=false:=by
   cases hu:upB b.length bits l with
   | false=>rfl
   | true=>have:=all_range.1 hu k hk;rw [h1]at this;cases this
  rw [h2,this];rfl
theorem Aag {b:Bls} {bits l:List Int} (hb:b.length<=160) (h40:40<=b.length) (hx:bits.length=20) (hl:l.length<=1048576) (g t:List Int) :
  CT l b bits g t=some (upB b.length bits l,b,bits,g,t):=by
 unfold CT;rcases BN C7 (λk=>(l,l,(l.length:Int),((k:Nat):Int),b,bits,g,t)) (λk=>upG b.length bits l k) (λ_=>(false,b,bits,g,t)) (b,bits,g,t) l.length (λi hi=>by
   unfold C7 Fr gX wI;dsimp only;rw [AjS AjJ,AjS Z,AjO,AjP hi,AjM,VZ _ _ _ _ hi,AH,w64 (n:=(b.length:Int) - 1) O O,AjM];generalize hr:l[i]=r;by_cases h1:33<=r/\r<=(b.length:Int) - 1
   .obtain ⟨m,rfl⟩:=Akg (O:0<=r);rw [decide_eq_true h1,AjS rfl,Uy O O,AjM,AjM,AjM,AjR (not_not_intro h1),AjO];dsimp only;cases h2:bit bits m with
    | false=>rw [AjS rfl];rfl
    | true=>
     rw [AjR (show ¬ (!true)=true by simp),AjR (show ¬ true=false by simp)];by_cases h0:0 < i
     .have e1:IntKind.wrap .i64 (((i:Nat):Int) - 1)=((i - 1:Nat):Int):=by rw [w64 O O];omega
      have hp:l[i - 1]?=some l[i - 1]:=AjP O;rw [AjS AjJ,e1,AjS Z,AjO,hp,AjM,AjM,Akx];dsimp only;by_cases h3:(m:Int)<=l[i - 1]
      .rw [AjS (by simpa using h3),AjS (⟨h0,h3⟩:0 < i/\(m:Int)<=l[i - 1])];rfl
      .rw [AjR (by simpa using h3),AjR (show ¬ (0 < i/\(m:Int)<=l[i - 1]) from λhh=>h3 hh.2),Ak O];rfl
     .rw [AjR AjJ,AjM];dsimp only;rw [AjR Z,AjR (show ¬ (0 < i/\(m:Int)<=l[i - 1]?.getD 0) from λhh=>h0 hh.1),Ak O];rfl
   .rw [decide_eq_false h1,AjR Z,AjM,AjM,AjS h1];rfl) (by
   unfold C7 gX wI;dsimp only;rw [AjR Z])with⟨h1,h2⟩ | ⟨k,hk,h1,_,h2⟩
 .rw [show(((0:Nat):Int))=0 from rfl]at h2;rw [h2,show upB b.length bits l=true from all_range.2 h1];rfl
 .rw [show(((0:Nat):Int))=0 from rfl]at h2;have:upB b.length bits l=false:=by
   cases hu:upB b.length bits l with
   | false=>rfl
   | true=>have:=all_range.1 hu k hk;rw [h1]at this;cases this
  rw [h2,this];rfl
theorem AcF {n:Nat} {bits:List Int} (k:Nat):bG n bits k=if k < 33 then(if bit bits k=false then false else if n<=k then !(bit bits k)else true)else if n<=k then !(bit bits k)else true:=by
 unfold bG;by_cases h1:k < 33 <;> by_cases h2:n<=k <;> cases bit bits k <;> simp [h1,h2]
theorem Ab8 {b:Bls} {bits:List Int} (hb:b.length<=160) (hx:bits.length=20) (g t:List Int) :
  Ab E9 ((b.length:Int),0,b,bits,g,t)=some (if((List.range 160).all λk=>bG b.length bits k)=true then .inl ((b.length:Int),b,bits,g,t)else .inr false):=by
 rcases BN E9 (λk=>((b.length:Int),((k:Nat):Int),b,bits,g,t)) (λk=>bG b.length bits k) (λ_=>false) ((b.length:Int),b,bits,g,t) 160 (λi hi=>by
   unfold E9 wI;dsimp only;rw [AjS AjJ,JP O O,AjM,AcF];by_cases h1:i < 33
   .rw [AjS AjJ,AjS h1];cases h2:bit bits i with
    | false=>rw [AjS (show(!false)=true from rfl),AjS rfl];rfl
    | true=>
     rw [AjR (show ¬ (!true)=true by simp),AjR (show ¬ true=false by simp)];by_cases h3:b.length<=i
     .rw [AjS AjJ,AjS h3];rfl
     .rw [AjR AjJ,AjR h3,AjM];dsimp only;rw [AjR Z,Ak O];rfl
   .rw [AjR AjJ,AjR h1];by_cases h3:b.length<=i
    .rw [AjS AjJ,AjS h3,AjM];dsimp only;cases h2:bit bits i with
     | false=>rw [AjR Z,Ak O];rfl
     | true=>rw [AjS rfl];rfl
    .rw [AjR AjJ,AjR h3,AjM];dsimp only;rw [AjR Z,Ak O];rfl) (by
   unfold E9 wI;dsimp only;rw [AjR Z])with⟨h1,h2⟩ | ⟨k,hk,h1,_,h2⟩
 .rw [show(((0:Nat):Int))=0 from rfl]at h2;rw [h2,all_range.2 h1];rfl
 .rw [show(((0:Nat):Int))=0 from rfl]at h2;have:((List.range 160).all λk=>bG b.length bits k)=false:=by
   cases hu:((List.range 160).all λk=>bG b.length bits k)with
   | false=>rfl
   | true=>have:=all_range.1 hu k hk;rw [h1]at this;cases this
  rw [h2,this];rfl
theorem Ab6 {b:Bls} {bits:List Int} (hb:b.length<=160) (hx:bits.length=20) (g t:List Int) :
  Ab E1 (0,b,bits,g,t)=some (if((List.range 160).all λk=>bG b.length bits k)=true then .inl (b,bits,g,t)else .inr false):=by
 rcases BN E1 (λk=>(((k:Nat):Int),b,bits,g,t)) (λk=>bG b.length bits k) (λ_=>false) (b,bits,g,t) 160 (λi hi=>by
   unfold E1 wI;dsimp only;rw [AjS AjJ,Uy O O,AjM,AcF];dsimp only;by_cases h1:i < 33
   .rw [AjS AjJ,AjS h1];cases h2:bit bits i with
    | false=>rw [AjS (show(!false)=true from rfl),AjS rfl];rfl
    | true=>
     rw [AjR (show ¬ (!true)=true by simp),AjR (show ¬ true=false by simp)];by_cases h3:b.length<=i
     .rw [AjS AjJ,AjS h3];rfl
     .rw [AjR AjJ,AjR h3,AjM];dsimp only;rw [AjR Z,Ak O];rfl
   .rw [AjR AjJ,AjR h1];by_cases h3:b.length<=i
    .rw [AjS AjJ,AjS h3,AjM];dsimp only;cases h2:bit bits i with
     | false=>rw [AjR Z,Ak O];rfl
     | true=>rw [AjS rfl];rfl
    .rw [AjR AjJ,AjR h3,AjM];dsimp only;rw [AjR Z,Ak O];rfl) (by
   unfold E1 wI;dsimp only;rw [AjR Z])with⟨h1,h2⟩ | ⟨k,hk,h1,_,h2⟩
 .rw [show(((0:Nat):Int))=0 from rfl]at h2;rw [h2,all_range.2 h1];rfl
 .rw [show(((0:Nat):Int))=0 from rfl]at h2;have:((List.range 160).all λk=>bG b.length bits k)=false:=by
   cases hu:((List.range 160).all λk=>bG b.length bits k)with
   | false=>rfl
   | true=>have:=all_range.1 hu k hk;rw [h1]at this;cases this
  rw [h2,this];rfl
theorem Yy {b:Bls} {bits:List Int} (hb:b.length<=1048576) (n:Int) (a:Bls) (g t:List Int) :
  Ab EW (n,b,(b.length:Int),0,a,bits,g,t)=some (if b.all (λx=>x.length == 128)=true then .inl (n,a,bits,g,t)else .inr false):=by
 rcases BN EW (λk=>(n,b,(b.length:Int),((k:Nat):Int),a,bits,g,t)) (λk=>(b[k]?.getD []).length == 128) (λ_=>false) (n,a,bits,g,t) b.length (λi hi=>by
   unfold EW gX wI;dsimp only;rw [AjS AjJ,AjS Z,AjO,AjP hi,AjM,Akx];by_cases h1:b[i].length=128
   .rw [AjR AjJ,AjS (by simpa using h1),Ak O]
   .rw [AjS AjJ,AjR (by simpa using h1)]) (by
   unfold EW gX wI;dsimp only;rw [AjR Z])with⟨h1,h2⟩ | ⟨k,hk,h1,_,h2⟩
 .rw [show(((0:Nat):Int))=0 from rfl]at h2;have:b.all (λx=>x.length == 128)=true:=by
   rw [Aki];intro x hx;obtain ⟨j,hj,rfl⟩:=Akq hx;have:=h1 j hj;rw [AjP hj]at this;exact this
  rw [h2,this];rfl
 .rw [show(((0:Nat):Int))=0 from rfl]at h2;have:b.all (λx=>x.length == 128)=false:=by
   rw [List.all_eq_false];refine⟨b[k],Akc hk,?_⟩;rw [AjP hk]at h1;simpa using h1
  rw [h2,this];rfl
structure SB (b:Bls) (x y z:List Int):Prop where
 b:b.length<=1048576
 y:y.length<=1048576
 z:z.length<=1048576
theorem MY {b:Bls} {x y z:List Int} (h:SB b x y z):Hs b x y z=some (gsp b x y z):=by
 have hb:=h.b;unfold Hs gsp;rw [Ca,AjM];by_cases h1:(40:Int)<=(b.length:Int)/\(b.length:Int)<=160
 .have h1':40<=b.length/\b.length<=160:=O
  rw [decide_eq_true h1,decide_eq_true h1',AjR Z,AjM,Aj3];dsimp only;by_cases h2:x.length=20
  .rw [AjR AjJ,decide_eq_true h2,Aj3,Yy hb,AjM];cases h3:b.all (λx=>x.length == 128)with
   | false=>rfl
   | true=>
    rw [AjS rfl,Aj3];dsimp only;rw [Ab8 O h2,AjM];cases h4:((List.range 160).all λk=>bG b.length x k)with
    | false=>rfl
    | true=>
     rw [AjS rfl,Aj3];dsimp only;have step:∀(i:Nat) (l:List Int),[y,z][i]?=some l->l.length<=1048576->GJ ((b.length:Int),[y,z],2,(i:Int),b,x,y,z) =
       some (if upB b.length x l=true then .inl ((b.length:Int),[y,z],2,((i+1:Nat):Int),b,x,y,z)else .inr (.inr false)):=by
      intro i l hl hll;have hi:i < 2:=(Akn.1 hl).1;unfold GJ cK cZ wI;dsimp only;rw [AjS AjJ,AjS Z,AjS AjJ,Ake,AjO,hl,AjM,AfB h1'.2 h1'.1 h2 hll,AjM];cases upB b.length x l with
      | true=>rw [AjS rfl,AjS rfl];dsimp only;rw [Ak O]
      | false=>rfl
     have e2:((List.length [y,z]:Int))=2:=rfl;rw [e2,Ar,show(0:Int)=((0:Nat):Int) from rfl,step 0 y rfl h.y];cases h5:upB b.length x y with
     | false=>rfl
     | true=>
      rw [AjS rfl,Aj3];dsimp only;rw [Ar,step 1 z rfl h.z];cases h6:upB b.length x z with
      | false=>rfl
      | true=>
       rw [AjS rfl];dsimp only;rw [Ar];unfold GJ cK cZ wI;dsimp only;rw [AjR Z];rfl
  .rw [AjS AjJ,decide_eq_false h2];rfl
 .have h1':¬ (40<=b.length/\b.length<=160):=O
  rw [decide_eq_false h1,decide_eq_false h1'];rfl
theorem Tw {b:Bls} (hb:b.length<=1048576):Et b=some (decide (40<=b.length/\b.length<=160) && b.all (λx=>x.length == 128)):=by
 unfold Et;refine Ok.eq (Ok.bind (Q:=λr=>r=_) ?_ (λr hr=>Ok.mk hr));refine Ok.bind_eq (AH _ _ _) ?_;refine Ok.ite (λhc=>?_) λhc=>Ok.mk ?_
 .refine Ok.bind (Q:=λr=>r = !(b.all (λb=>b.length == 128))) ?_ (λr hr=>Ok.mk ?_)
  .unfold Ba;refine(VY hb).bind λr hr=>Ok.mk ?_
   cases ha:b.all (λb=>b.length == 128)with
   | true=>rw [ha]at hr;simpa using hr
   | false=>rw [ha]at hr;simpa using hr
  .have hc':40<=b.length/\b.length<=160:=by simp at hc;omega
   rw [hr];simp [hc']
 .have hc':¬ (40<=b.length/\b.length<=160):=by simp at hc;omega
  simp [hc']
theorem Tf {b:Bls} {x y z:List Int} (h:SB b x y z):Jw b x y z=some (gsp b x y z):=by
 have hb:=h.b;unfold Jw gsp;rw [Tw hb,AjM];by_cases h1:40<=b.length/\b.length<=160
 .rw [decide_eq_true h1,Aj3,Aj3];cases h3:b.all (λx=>x.length == 128)with
  | false=>rw [AlY,Alc];rfl
  | true=>
   rw [AjR Z,AjM,Alm];dsimp only;by_cases h2:x.length=20
   .rw [AjR AjJ,decide_eq_true h2,Aj3,Ab6 h1.2 h2,AjM];cases h4:((List.range 160).all λk=>bG b.length x k)with
    | false=>rfl
    | true=>
     rw [AjS rfl,Aj3];dsimp only;rw [Aag h1.2 h1.1 h2 h.y,AjM];dsimp only;cases h5:upB b.length x y with
     | false=>rfl
     | true=>rw [AjS rfl,Aag h1.2 h1.1 h2 h.z,AjM];rfl
   .rw [AjS AjJ,decide_eq_false h2];rfl
 .rw [decide_eq_false h1];rfl
end Go.V.G
set_option maxRecDepth 100000
namespace Go.V.G
open Go.V
def WK (xs:List (Int)):Prop:=xs.length<=maxLen
def VN (xs:List (Int)):Nat:=xs.length
end Go.V.G
set_option maxRecDepth 100000
namespace Go.V.G
open Go.V
structure FitS (b:List (List Int)) (x y z:List Int):Prop where
 b:Kf b
 x:Pg x
 y:WK y
 z:WK z
def ZY (b:List (List Int)) (x y z:List Int):Nat:=CF b+B8 x+VN y+VN z
end Go.V.G
set_option maxRecDepth 100000
namespace Go.V.G
open Go.V
def Ris (l:List Int):Prop:=∀i j (hi:i < l.length) (hj:j < l.length),i < j->l[i] < l[j]
theorem Gl {n:Nat} {bits l:List Int} (h:upB n bits l=true):Ris l/\∀i (hi:i < l.length),33<=l[i]/\l[i]<=(n:Int) - 1/\bit bits l[i].toNat=true:=by
 have hg:∀i (hi:i < l.length),(33<=l[i]/\l[i]<=(n:Int) - 1)/\bit bits l[i].toNat=true/\(0 < i->l[i - 1]?.getD 0 < l[i]):=λi hi=>by
  have:=all_range.1 h i hi;unfold upG at this;rw [AjP hi,Akx]at this;simp only [AjT,decide_eq_true_eq]at this;exact this
 refine⟨λi j hi hj hij=>?_,λi hi=>⟨(hg i hi).1.1,(hg i hi).1.2,(hg i hi).2.1⟩⟩
 induction j with
 | zero=>omega
 | succ j ih=>
  have h1:=(hg (j+1) hj).2.2 O;rw [show j+1 - 1=j from rfl,AjP O,Akx]at h1;by_cases hjj:i=j
  .subst hjj;exact h1
  .have:=ih O O;omega
structure Spot (l:List Int) (n:Int) (k:Nat):Prop where
 le:k<=l.length
 lo:∀j (h:j < l.length),j < k->l[j] < n
 hi:∀j (h:j < l.length),k<=j->n<=l[j]
theorem Spot.one {l:List Int} {n:Int} {k m:Nat} (h:Spot l n k) (h':Spot l n m):k=m:=by
 rcases Nat.lt_trichotomy k m with hl | hl | hl
 .have h1:=h.hi k (by have:=h'.le;omega) (Akk _);have h2:=h'.lo k (by have:=h'.le;omega) hl;omega
 .exact hl
 .have h1:=h'.hi m (by have:=h.le;omega) (Akk _);have h2:=h.lo m (by have:=h.le;omega) hl;omega
def PA (l:List Int) (n:Int) (k:Nat):List Int:=if l[k]?=some n then l else l.take k++([n]++l.drop k)
theorem Ado {l:List Int} (hl:l.length<=1048576) (hr:Ris l) (n:Int):∃k,Spot l n k/\C3 l n=some (PA l n k):=by
 unfold C3 cK cZ sX;have hloop:Ok (Ab NO (l,n,0)) λv=>∃k:Nat,Spot l n k/\v=(l,n,((k:Nat):Int)):=by
  refine Ok.loop (λy=>∃k:Nat,k<=l.length/\(∀j (h:j < l.length),j < k->l[j] < n)/\y=(l,n,((k:Nat):Int))) (λy=>((l.length:Int) - y.2.2).toNat) ⟨0,O,λj h hj=>absurd hj O,rfl⟩ ?_;rintro _ ⟨k,hk,hlo,rfl⟩;unfold NO cK cZ wI;dsimp only;by_cases hlt:k < l.length
  .rw [AjS AjJ,AjS Z,AjS AjJ,Ake,AjO,AjP hlt,AjM,AjM];dsimp only;by_cases hc:l[k] < n
   .rw [AjS (by simpa using hc),Ak O];refine Ok.mk ⟨⟨k+1,O,λj h hj=>?_,rfl⟩,AjL⟩;by_cases hjk:j=k
    .subst hjk;exact hc
    .exact hlo j h O
   .rw [AjR (by simpa using hc)];refine Ok.mk ⟨k,⟨hk,hlo,λj h hj=>?_⟩,rfl⟩;by_cases hjk:j=k
    .subst hjk;omega
    .have:=hr k j hlt h O;omega
  .rw [AjR AjJ,AjM];exact Ok.mk ⟨k,⟨hk,hlo,λj h hj=>absurd h O⟩,rfl⟩
 obtain ⟨v,hv,k,hs,rfl⟩:=hloop;refine⟨k,hs,?_⟩;have hk:=hs.le;rw [hv,AjM];dsimp only;have ins:∀(c:Bool),c=false->(if c=true then some l else
   if(decide ((0:Int)<=0))=true then
   if(decide ((0:Int)<=((k:Nat):Int)))=true then
   if(decide ((((k:Nat):Int):Int)<=(List.length l:Int)))=true then
   if(decide (((List.length l:Int):Int)<=(List.length l:Int)))=true then
   if(Aa (List.length ([]:List Int)+List.length ((l.drop (Int.toNat 0)).take (Int.toNat ((k:Nat):Int) - Int.toNat 0))) 8)=true then
   if(Aa (List.length (([]:List Int)++((l.drop (Int.toNat 0)).take (Int.toNat ((k:Nat):Int) - Int.toNat 0)))+List.length ([n]:List Int)) 8)=true then
   if(decide ((0:Int)<=((k:Nat):Int)))=true then
   if(decide ((((k:Nat):Int):Int)<=(List.length l:Int)))=true then
   if(decide (((List.length l:Int):Int)<=(List.length l:Int)))=true then
   if(decide (((List.length l:Int):Int)<=(List.length l:Int)))=true then
   if(Aa (List.length ((([]:List Int)++((l.drop (Int.toNat 0)).take (Int.toNat ((k:Nat):Int) - Int.toNat 0)))++([n]:List Int))+List.length ((l.drop (Int.toNat ((k:Nat):Int))).take (Int.toNat (List.length l:Int) - Int.toNat ((k:Nat):Int)))) 8)=true then
   some (((([]:List Int)++((l.drop (Int.toNat 0)).take (Int.toNat ((k:Nat):Int) - Int.toNat 0)))++([n]:List Int))++((l.drop (Int.toNat ((k:Nat):Int))).take (Int.toNat (List.length l:Int) - Int.toNat ((k:Nat):Int))))
   else none else none else none else none else none else none else none else none else none else none else none)=some (l.take k++([n]++l.drop k)):=by
  rintro c rfl;have r1:∀m:Nat,m<=1048577->Aa m 8=true:=λm hm=>by simp only [Aa,decide_eq_true_eq];omega
  rw [AjR Z,AjS Z,AjS Z,AjS AjJ,AjS Z,AjS (r1 _ AjJ),AjS (r1 _ AjJ),AjS Z,AjS AjJ,AjS Z,AjS Z,AjS (r1 _ AjJ)];refine congrArg some ?_;simp only [AjO,Akm,AjY];rw [show Int.toNat 0=0 from rfl,AkR,AlD,AkA (l:=l.drop k) Z]
 unfold PA;by_cases hlt:k < l.length
 .rw [AjS AjJ,AjS Z,AjS AjJ,Ake,AjO,AjP hlt,AjM,AjM];dsimp only;by_cases hc:l[k]=n
  .rw [AjS (by simpa using hc),AjS (by rw [hc])]
  .rw [AjR (show ¬ (some l[k]=some n) by simpa using hc)];exact ins _ (by simpa using hc)
 .rw [AjR AjJ,AjM,AjR (show ¬ (l[k]?=some n) by rw [Aka O];simp)];exact ins false rfl
theorem Afx (a b:Int):IL a b=some (decide (a < b)):=by
 unfold IL HI;simp
theorem Ah8 {l:List Int} (hl:l.length<=1048576) (hr:Ris l) (n:Int):∃k,Spot l n k/\Cr l n=some (((k:Nat):Int),decide (l[k]?=some n)):=by
 unfold Cr gX;have hloop:Ok (Ab CZ (l,n,(l.length:Int),0,(l.length:Int))) (λr=>∃k,Spot l n k/\r=(l,n,(l.length:Int),((k:Nat):Int))):=by
  refine Ok.loop (λy=>∃a b:Nat,a<=b/\b<=l.length/\(∀j (h:j < l.length),j < a->l[j] < n)/\(∀j (h:j < l.length),b<=j->n<=l[j])/\y=(l,n,(l.length:Int),(a:Int),(b:Int)))
   (λy=>(y.2.2.2.2 - y.2.2.2.1).toNat) ⟨0,l.length,O,O,λj h h2=>absurd h2 O,λj h h2=>absurd h2 O,rfl⟩ ?_
  rintro _ ⟨a,b,hab,hb,h1,h2,rfl⟩;unfold CZ cZ gX wI;dsimp only;refine Ok.ite (λhc=>?_) λhc=>?_
  .have hlt:a < b:=by simpa using hc
   have e1:IntKind.wrap .i64 (Int.fdiv (IntKind.wrap .u64 (IntKind.wrap .i64 ((a:Int)+(b:Int)))) (2 ^ (min (Int.toNat 1) (IntKind.bits .u64))))=(((a+b) / 2:Nat):Int):=by
    rw [w64 (n:=(a:Int)+(b:Int)) O O,Yf O O,show(2:Int) ^ (min (Int.toNat 1) (IntKind.bits .u64))=2 from rfl,AlR _ O,w64 O O];omega
   rw [e1];have hk:(a+b) / 2 < l.length:=O
   refine Ok.yes Z (Ok.yes AjJ ?_);rw [AjO];refine Ok.bind_eq (AjP hk) (Ok.bind_eq (Afx _ _) ?_);by_cases hlt2:l[(a+b) / 2] < n
   .refine Ok.bind_eq (AjS (by simpa using hlt2)) (Ok.mk ⟨⟨(a+b) / 2+1,b,O,hb,λj h hj=>?_,h2,?_⟩,?_⟩)
    .by_cases hjj:j=(a+b) / 2
     .subst hjj;exact hlt2
     .have:=hr j _ h hk O;omega
    .rw [Ak O]
    .dsimp only;rw [Ak O];omega
   .refine Ok.bind_eq (AjR (by simpa using hlt2)) (Ok.mk ⟨⟨a,(a+b) / 2,O,O,h1,λj h hj=>?_,rfl⟩,?_⟩)
    .by_cases hjj:j=(a+b) / 2
     .subst hjj;omega
     .have:=hr _ j hk h O;omega
    .dsimp only;omega
  .have hlt:a=b:=by simp at hc;omega
   subst hlt;exact Ok.mk ⟨a,⟨hb,h1,h2⟩,rfl⟩
 obtain ⟨r,hr',k,hs,rfl⟩:=hloop;refine⟨k,hs,?_⟩;rw [hr',AjM];dsimp only;by_cases hlt:k < l.length
 .rw [AjS AjJ,AjS Z,AjO,AjP hlt,AjM];by_cases hc:l[k]=n
  .rw [AjS (by simpa using hc),AjM,hc];simp
  .rw [AjR (by simpa using hc),AjS Z,AjM];unfold Fm;simp [hc]
 .rw [AjR AjJ,AjM,Aka O];simp
theorem YT {l:List Int} (hl:l.length<=1048576) (hr:Ris l) (n:Int):∃k,Spot l n k/\HY l n=some (PA l n k):=by
 obtain ⟨k,hs,hb⟩:=Ah8 hl hr n;refine⟨k,hs,?_⟩;have hk:=hs.le;unfold HY PA;rw [hb,AjM];dsimp only;by_cases hc:l[k]?=some n
 .rw [AjS (by simpa using hc),AjS hc]
 .rw [AjR (by simpa using hc),AjR hc];unfold EP;rw [AjS ⟨O,by rw [AjO];exact hk,Z,AjJ⟩,AjM,AjO]
theorem Aba {x:List Int} (h:x.length<=1048576):DG x=some x:=by
 unfold DG cK;have hr:Aa (List.length ([]:List Int)+List.length x) 8=true:=by
  simp only [Akl,Aa,decide_eq_true_eq];omega
 cases x with
 | nil=>simp [Ij,Aa]
 | cons a x=>simp only [Ij,List.isEmpty_cons,Aj4,Aku,AjM,hr,Akh,Akm]
structure GS (b:Bls) (x y z:List Int):Prop where
 hb:40<=b.length/\b.length<=160
 hx:x.length=20
 hk:∀c∈b,c.length=128
 hbits:∀i,i < 160->bG b.length x i=true
 hy:upB b.length x y=true
 hz:upB b.length x z=true
theorem Qe {b:Bls} {x y z:List Int} (h:gsp b x y z=true):GS b x y z:=by
 unfold gsp at h;simp only [AjT,decide_eq_true_eq]at h;obtain ⟨⟨h1,h2,h3⟩,h4,h5,h6⟩:=h;refine⟨h1,h2,λc hc=>?_,all_range.1 h4,h5,h6⟩;have:=Aki.1 h3 c hc;simpa using this
theorem GS.bd {b:Bls} {x y z:List Int} (g:GS b x y z):Bd b:=⟨by have:=g.hb;omega,λc hc=>by have:=g.hk c hc;omega⟩
def Hy:List Int:=List.replicate 128 0
end Go.V.G
set_option maxRecDepth 100000
namespace Go.V.G
open Go.V
theorem R3 {r:Int} (h0:0<=r) (h1:r<=255):(BitVec.ofInt (IntKind.bits .u8) r).toNat=r.toNat:=by
 obtain ⟨n,rfl⟩:=Akg h0;show(BitVec.ofInt (IntKind.bits .u8) (n:Int)).toNat=Int.toNat (n:Int);rw [BitVec.ofInt_natCast,BitVec.toNat_ofNat,show IntKind.bits .u8=8 from rfl,AjO];omega
theorem wub {r:Int} (h0:0<=r) (h1:r<=255):IntKind.wrap .u8 r=r:=by rw [IntKind.wrap_u8];omega
theorem ZG {r:Int} (h0:0<=r) (h1:r<=255) {j:Nat} (hj:j < 8):ub r j=r.toNat.testBit j:=by
 obtain ⟨n,rfl⟩:=Akg h0;have hn:n<=255:=O
 unfold ub;rw [show min j (IntKind.bits .u8)=j from by show min j 8=j;omega,AlR _ (by exact Int.le_of_lt (Int.pow_pos AjK))];have hp:(2:Int) ^ j=((2 ^ j:Nat):Int):=by norm_cast
 rw [hp];have hq:(n:Int) / ((2 ^ j:Nat):Int)=((n / 2 ^ j:Nat):Int):=by norm_cast
 rw [hq];have hle:n / 2 ^ j<=255:=Ako (Al6 _ _) hn;show _=Nat.testBit (Int.toNat (n:Int)) j;rw [AjO,Nat.testBit_eq_decide_div_mod_eq];generalize n / 2 ^ j=q at hle;rw [BitVec.toNat_and,R3 O O,R3 O O,AjO,show(1:Int).toNat=1 from rfl,Nat.and_one_is_mod,wub O O];by_cases h:q % 2=1
 .rw [decide_eq_true h,decide_eq_true O]
 .rw [decide_eq_false h,decide_eq_false O]
theorem Ads {r:Int} (h0:0<=r) (h1:r<=255) {j:Nat} (hj:j < 8):sb r j=((r.toNat ||| 2 ^ j:Nat):Int)/\r.toNat ||| 2 ^ j<=255:=by
 have hr:r.toNat < 2 ^ 8:=O
 have hj2:2 ^ j < 2 ^ 8:=Nat.pow_lt_pow_right AjK hj;have hor:r.toNat ||| 2 ^ j < 2 ^ 8:=Nat.or_lt_two_pow hr hj2;have hp:(2:Int) ^ j=((2 ^ j:Nat):Int):=by norm_cast
 unfold sb;rw [show min j (IntKind.bits .u8)=j from by show min j 8=j;omega,Int.one_mul,hp];clear hp;generalize 2 ^ j=p at hj2 hor ⊢;rw [wub (r:=(p:Int)) O O,BitVec.toNat_or,R3 h0 h1,R3 O O,AjO,wub O O];exact⟨rfl,O⟩
def U8s (x:List Int):Prop:=∀v∈x,0<=v/\v<=255
theorem P9 {x:List Int} (hu:U8s x) {k j:Nat} (hk:k / 8 < x.length) (hj:j / 8 < x.length):bit (setB x k) j=(decide (j=k) || bit x j):=by
 unfold bit setB;have hgk:x[k / 8]?=some x[k / 8]:=AjP hk;have hgj:x[j / 8]?=some x[j / 8]:=AjP hj;have uk:=hu _ (Akc hk);have uj:=hu _ (Akc hj);rw [hgk,Akx];by_cases hd:j / 8=k / 8
 .rw [hd,Alh hk,Akx,hgk,Akx];obtain ⟨e1,e2⟩:=Ads uk.1 uk.2 (Nat.mod_lt k AjK);rw [e1,ZG O O (Nat.mod_lt j AjK),ZG uk.1 uk.2 (Nat.mod_lt j AjK),AjO,Nat.testBit_or,Nat.testBit_two_pow];by_cases hjk:j=k
  .subst hjk;simp
  .have:¬ (k % 8=j % 8):=O
   rw [decide_eq_false hjk,decide_eq_false this];simp
 .have hjk:¬ j=k:=by rintro rfl;exact hd rfl
  rw [List.getElem?_set_ne (Ne.symm hd),decide_eq_false hjk,Ak3]
theorem Ahp {x:List Int} (hu:U8s x) {k:Nat} (hk:k / 8 < x.length):U8s (setB x k):=by
 intro v hv;unfold setB at hv;rcases AkS hv with hv | rfl
 .exact hu v hv
 .have uk:=hu _ (Akc hk);rw [AjP hk,Akx];obtain ⟨e1,e2⟩:=Ads uk.1 uk.2 (Nat.mod_lt k AjK);rw [e1];omega
def cnt (x:List Int):Nat->Nat
 | 0=>0
 | n+1=>cnt x n+(if bit x n=true then 0 else 1)
theorem ris_iff {l:List Int}:Ris l↔l.Pairwise (· < ·):=by
 rw [List.pairwise_iff_getElem];exact⟨λh i j hi hj hij=>h i j hi hj hij,λh i j hi hj hij=>h i j hi hj hij⟩
theorem Agw {l:List Int} (hr:Ris l) {n:Int} {k:Nat} (hs:Spot l n k):Ris (PA l n k):=by
 unfold PA;split
 .exact hr
 .rename_i hne;rw [ris_iff]at hr ⊢;have hlo:∀v∈l.take k,v < n:=by
   intro v hv;obtain ⟨j,hj,rfl⟩:=Akq hv;rw [AjW]at hj;rw [List.getElem_take];exact hs.lo j O O
  have hhi:∀v∈l.drop k,n < v:=by
   intro v hv;obtain ⟨j,hj,rfl⟩:=Akq hv;rw [Akf]at hj;rw [List.getElem_drop];have hkj:k+j < l.length:=O
   have h1:=hs.hi (k+j) hkj O;by_cases hj0:j=0
   .subst hj0;have:l[k]?=some l[k]:=AjP O;have hne':¬ l[k]=n:=λhh=>hne (by rw [this,hh])
    simp only [Alf]at h1 ⊢;omega
   .have hk0:k < l.length:=O
    have h2:=hs.hi k hk0 (Akk _);have h3:=(ris_iff.2 hr) k (k+j) hk0 hkj O;omega
  rw [Alv];refine⟨hr.sublist (List.take_sublist _ _),?_,?_⟩
  .rw [Alv];refine⟨Z,hr.sublist (List.drop_sublist _ _),?_⟩;intro a ha b hb;simp only [AjX]at ha;subst ha;exact hhi b hb
  .intro a ha b hb;have h1:=hlo a ha;rcases AjV.1 hb with hb | hb
   .simp only [AjX]at hb;subst hb;exact h1
   .have:=hhi b hb;omega
structure Wk (n:Nat) (b:Bls) (x z:List Int) (lz:Nat):Prop where
 hn:40<=n/\n<=160
 hb:b.length=n
 hk:∀c∈b,c.length=128
 hx:x.length=20
 hu:U8s x
 hlow:∀k,k < 33->bit x k=true
 hr:Ris z
 hz:z.length<=lz
end Go.V.G
set_option maxRecDepth 100000
namespace Go.V.G
open Go.V
def nd (n:Nat):Nat:=if n=0 then 1 else(n+123) / 124
def Aim (data list:List Int) (i:Nat):List Int:=
 let own:=(data.drop (124 * i)).take 124
 let next:=if i+1 < list.length then list[i+1]?.getD 0 else 0
 let hd:=[82,IntKind.wrap .u8 (next / 256),IntKind.wrap .u8 next,IntKind.wrap .u8 (own.length:Int)]++own
 hd++List.replicate (128 - hd.length) 0
theorem PW {l:List Int} (hr:Ris l) (hb:∀i (h:i < l.length),33<=l[i]/\l[i]<=159):l.length<=127:=by
 have key:∀i (h:i < l.length),33+(i:Int)<=l[i]:=by
  intro i
  induction i with
  | zero=>intro h;have:=hb 0 h;omega
  | succ i ih=>intro h;have h1:=ih O;have h2:=hr i (i+1) O h O;omega
 refine Classical.byContradiction λhn=>?_
 have h1:=key 127 O;have h2:=hb 127 O;omega
end Go.V.G
set_option maxRecDepth 100000
namespace Go.V.G
open Go.V
theorem PC {l:List Int} (hl:l.length<=1048576) (hr:Ris l) (n:Int):∃z,C3 l n=some z/\HY l n=some z/\z.length<=l.length+1/\Ris z/\∀v,v∈z↔v∈l\/v=n:=by
 obtain ⟨k,hs,h1⟩:=Ado hl hr n;obtain ⟨m,ht,h2⟩:=YT hl hr n;obtain rfl:=hs.one ht;refine⟨_,h1,h2,?_,Agw hr hs,λv=>?_⟩
 .unfold PA;split
  .omega
  .have:=hs.le;simp;omega
 .unfold PA;split
  .rename_i h;have hm:=Akz h;exact⟨.inl,λh'=>h'.elim id λe=>by rw [e];exact hm⟩
  .have e:v∈l↔v∈l.take k\/v∈l.drop k:=by
    rw [<- AjV,AkH]
   rw [e];simp only [AjV,AjX];constructor
   .rintro (h | h | h)
    .exact .inl (.inl h)
    .exact .inr h
    .exact .inl (.inr h)
   .rintro ((h | h) | h)
    .exact .inl h
    .exact .inr (.inr h)
    .exact .inr (.inl h)
structure Wq (b:Bls) (x z:List Int) (lz:Nat):Prop where
 hb:39<=b.length/\b.length<=160
 hx:x.length=20
 hu:U8s x
 hr:Ris z
 hz:z.length<=lz
theorem Wq.take {b:Bls} {x z:List Int} {lz:Nat} (h:Wq b x z lz) (hlz:lz<=1048000) {k:Nat} (hk:k < b.length) {z':List Int} (hz':C3 z (k:Int)=some z'):Wq (b.set k Hy) (setB x k) z' (lz+1):=by
 have hbl:=h.hb;have hx:=h.hx;have hz:=h.hz;obtain ⟨z2,e1,_,e2,e3,_⟩:=PC O h.hr (k:Int);rw [e1]at hz';obtain rfl:=Ak7 hz';exact⟨by rw [AkQ];exact hbl,by unfold setB;rw [AkQ];exact hx,Ahp h.hu O,e3,O⟩
theorem SU (n:Int):0<=IntKind.wrap .u8 n/\IntKind.wrap .u8 n<=255:=by rw [IntKind.wrap_u8];omega
end Go.V.G
set_option maxRecDepth 100000
namespace Go.V.G
open Go.V
theorem Rh {l:List Int} {n:Int} (hl:l.length<=1048576):Ok (DI l n) λr=>(0<=r↔n∈l):=by
 unfold DI;refine Ok.bind (Q:=λr=>(r=.inl ()/\n∉l)\/∃k:Int,r=.inr k/\0<=k/\n∈l) ?_ ?_
 .refine Ok.loop (λy=>∃k:Nat,k<=l.length/\y=(l,n,(l.length:Int),(k:Int))/\∀j (h:j < l.length),j < k->l[j]≠n) (λy=>(y.2.2.1 - y.2.2.2).toNat) ⟨0,O,rfl,λj _ h=>by omega⟩ ?_;rintro _ ⟨k,hk,rfl,hn⟩;unfold G8 gX wI;dsimp only;refine Ok.ite (λhc=>?_) λhc=>Ok.mk (.inl ⟨rfl,λhm=>?_⟩)
  .have hlt:k < l.length:=by simpa using hc
   have hg:l[Int.toNat (k:Int)]?=some l[k]:=by simp [hlt]
   have e1:=Ak (i:=k) O;refine Ok.yes Z (Ok.bind_eq hg (Ok.ite (λhe=>Ok.mk (.inr ⟨_,rfl,O,?_⟩)) λhe=>Ok.mk ⟨⟨k+1,O,by rw [e1],λj hj hjk=>?_⟩,?_⟩))
   .have he':n=l[k]:=by simpa using he
    rw [he'];exact Akc _
   .by_cases hjk':j=k
    .subst hjk';intro hh;exact he (by simp [hh])
    .exact hn j hj O
   .dsimp only;rw [e1];omega
  .obtain ⟨j,hj,he⟩:=Akq hm;have:¬ k < l.length:=by simpa using hc
   exact hn j hj O he
 .rintro r (⟨rfl,h⟩ | ⟨k,rfl,h0,h⟩)
  .exact Ok.mk (by simp [h])
  .exact Ok.mk ⟨λ_=>h,λ_=>h0⟩
theorem YA {l:List Int} {n:Int} (hl:l.length<=1048576):Ok (AK l n) λr=>(r=true↔n∈l):=by
 unfold AK;exact(Rh hl).bind λr hr=>Ok.mk (by rw [<- hr];simp)
theorem MR {n:Nat} {bits l:List Int} (hr:Ris l) (h:∀v∈l,33<=v/\v<=(n:Int) - 1/\bit bits v.toNat=true):upB n bits l=true:=by
 refine all_range.2 λi hi=>?_
 rw [VZ n bits l i hi];have hm:=h l[i] (Akc _);rw [AjR (λhn=>hn ⟨hm.1,hm.2.1⟩),AjR (by rw [hm.2.2];simp),AjR];rintro ⟨h0,h1⟩;rw [AjP O,Akx]at h1;have:=hr (i - 1) i O hi O;omega
theorem RH {n:Nat} {bits l:List Int} (h:upB n bits l=true):∀v∈l,33<=v/\v<=(n:Int) - 1/\bit bits v.toNat=true:=by
 intro v hv;obtain ⟨i,hi,rfl⟩:=Akq hv;exact(Gl h).2 i hi
theorem GS.take {b:Bls} {x y z:List Int} (g:GS b x y z) (hu:U8s x) {k:Nat} (hk:33<=k/\k < b.length) {z':List Int} (hzl:z.length<=1048000) (hz':C3 z (k:Int)=some z'):GS (b.set k Hy) (setB x k) y z'/\(k:Int)∈z'/\z'.length<=z.length+1/\bit (setB x k) k=true:=by
 have hb:=g.hb;have hx:=g.hx;obtain ⟨z2,e1,_,e2,e3,e4⟩:=PC O (Gl g.hz).1 (k:Int);rw [e1]at hz';obtain rfl:=Ak7 hz';have hs:∀j,j < 160->bit (setB x k) j=(decide (j=k) || bit x j):=λj hj=>P9 hu O O
 have hup:∀v:Int,33<=v/\v<=(b.length:Int) - 1/\bit x v.toNat=true->33<=v/\v<=((b.set k Hy).length:Int) - 1/\bit (setB x k) v.toNat=true:=λv ⟨h1,h2,h3⟩=>
  ⟨h1,by rw [AkQ];exact h2,by rw [hs _ O,h3,Al8]⟩
 refine⟨⟨by rw [AkQ];exact hb,by unfold setB;rw [AkQ];exact hx,λc hc=>?_,λi hi=>?_,?_,?_⟩,(e4 _).2 (.inr rfl),e2,by rw [hs k O];simp⟩
 .rcases AkS hc with hc | rfl
  .exact g.hk c hc
  .rfl
 .rw [AkQ];have:=g.hbits i hi;unfold bG at this ⊢;rw [hs i hi];by_cases hik:i=k
  .subst hik;simp;omega
  .simpa [hik] using this
 .exact MR (Gl g.hy).1 λv hv=>hup v (RH g.hy v hv)
 .refine MR e3 λv hv=>?_
  rcases (e4 v).1 hv with hv | rfl
  .exact hup v (RH g.hz v hv)
  .exact⟨O,by rw [AkQ];omega,by rw [hs _ O];simp⟩
end Go.V.G
set_option maxRecDepth 100000
namespace Go.V.G
open Go.V
theorem Aco {x:List Int} {n:Nat} (hx:x.length<=1048576) (hn:n<=x.length):Ok (DY x (n:Int)) λr=>(r=true↔∀v∈x.drop n,v=0):=by
 unfold DY sX;refine Ok.yes Z (Ok.yes AjJ (Ok.yes Z (Ok.yes Z ?_)));have e:(List.drop (Int.toNat (n:Int)) x).take (Int.toNat (List.length x:Int) - Int.toNat (n:Int))=x.drop n:=by
  rw [AjO,AjO];exact AkA (by rw [Akf];omega)
 rw [e];have hl:(x.drop n).length<=1048576:=by rw [Akf];omega
 generalize x.drop n=l at hl;refine Ok.bind (Q:=λr=>(r=.inl ()/\∀v∈l,v=0)\/(r=.inr false/\¬ ∀v∈l,v=0)) ?_ ?_
 .refine Ok.loop (λy=>∃k:Nat,k<=l.length/\y=(l,(l.length:Int),(k:Int))/\∀j (h:j < l.length),j < k->l[j]=0) (λy=>(y.2.1 - y.2.2).toNat) ⟨0,O,rfl,λj _ h=>by omega⟩ ?_;rintro _ ⟨k,hk,rfl,hz⟩;unfold QO gX wI;dsimp only;refine Ok.ite (λhc=>?_) λhc=>Ok.mk (.inl ⟨rfl,λv hv=>?_⟩)
  .have hlt:k < l.length:=by simpa using hc
   have hg:l[Int.toNat (k:Int)]?=some l[k]:=by simp [hlt]
   have e1:=Ak (i:=k) O;refine Ok.yes Z (Ok.bind_eq hg (Ok.ite (λhe=>Ok.mk (.inr ⟨rfl,λhall=>?_⟩)) λhe=>Ok.mk ⟨⟨k+1,O,by rw [e1],λj hj hjk=>?_⟩,?_⟩))
   .have:¬ l[k]=0:=by simpa using he
    exact this (hall _ (Akc _))
   .by_cases hjk':j=k
    .subst hjk';simpa using he
    .exact hz j hj O
   .dsimp only;rw [e1];omega
  .obtain ⟨j,hj,rfl⟩:=Akq hv;have:¬ k < l.length:=by simpa using hc
   exact hz j hj O
 .rintro r (⟨rfl,h⟩ | ⟨rfl,h⟩)
  .exact Ok.mk (by simpa using h)
  .exact Ok.mk ⟨λhh=>(by cases hh),λhh=>absurd hh h⟩
end Go.V.G
set_option maxRecDepth 100000
namespace Go.V.G
open Go.V
def gb (c:List Int) (i:Nat):Int:=c[i]?.getD 0
def blk (b:Bls) (i:Nat):List Int:=b[i]?.getD []
theorem Ai {c:List Int} {i:Nat} (h:i < c.length):c[i]?=some (gb c i):=by unfold gb;rw [AjP h];rfl
theorem Bp {b:Bls} {i:Nat} (h:i < b.length):b[i]?=some (blk b i):=by unfold blk;rw [AjP h];rfl
theorem iy {α:Type} {p:Prop} [Decidable p] {a b:α} (h:p):(if decide p=true then a else b)=a:=by rw [AjS (by simpa using h)]
theorem ino {α:Type} {p:Prop} [Decidable p] {a b:α} (h:¬ p):(if decide p=true then a else b)=b:=by rw [AjR (by simpa using h)]
structure RS (b:Bls) (x y:List Int):Prop where
 hn:40<=b.length/\b.length<=160
 hk:∀c∈b,c.length=128
 hu:∀c∈b,U8s c
 hx:x.length=20
 hy:y.length<=1048576
theorem BA {b:Bls} {i:Nat} (h:i < b.length):blk b i∈b:=Akz (Bp h)
theorem RS.len {b:Bls} {x y:List Int} (g:RS b x y) {i:Nat} (h:i < b.length):(blk b i).length=128:=g.hk _ (BA h)
theorem DH {c:List Int} (h:U8s c) (j:Nat):0<=gb c j/\gb c j<=255:=by
 by_cases hj:j < c.length
 .exact h _ (Akz (Ai hj))
 .unfold gb;rw [Aka O];simp
theorem RS.u8 {b:Bls} {x y:List Int} (g:RS b x y) {i:Nat} (h:i < b.length) (j:Nat):0<=gb (blk b i) j/\gb (blk b i) j<=255:=DH (g.hu _ (BA h)) j
def liv (b:Bls) (x y:List Int) (a:Int):Bool:=decide (33<=a/\a<=(b.length:Int) - 1) && (bit x a.toNat && !decide (a∈y))
theorem Cn {b:Bls} {x y:List Int} {a:Int} (h:liv b x y a=true):∃m:Nat,a=(m:Int)/\33<=m/\m < b.length/\bit x m=true/\(m:Int)∉y:=by
 unfold liv at h;simp only [AjT,decide_eq_true_eq,Aj0,decide_eq_false_iff_not]at h;obtain ⟨⟨h1,h2⟩,h3,h4⟩:=h;obtain ⟨m,rfl⟩:=Akg (O:0<=a);exact⟨m,rfl,O,O,by simpa using h3,h4⟩
theorem Gp {l:List Int} {n:Int} (hl:l.length<=1048576):FU l n=some (decide (n∈l)):=by
 unfold FU;refine Ok.eq (Ok.bind (Q:=λr=>(r=.inl ()/\n∉l)\/(r=.inr true/\n∈l)) ?_ ?_)
 .refine Ok.loop (λy=>∃k:Nat,k<=l.length/\y=(n,l,(l.length:Int),(k:Int))/\∀j (h:j < l.length),j < k->l[j]≠n) (λy=>(y.2.2.1 - y.2.2.2).toNat) ⟨0,O,rfl,λj _ h=>by omega⟩ ?_;rintro _ ⟨k,hk,rfl,hn⟩;unfold SK gX wI;dsimp only;refine Ok.ite (λhc=>?_) λhc=>Ok.mk (.inl ⟨rfl,λhm=>?_⟩)
  .have hlt:k < l.length:=by simpa using hc
   have hg:l[Int.toNat (k:Int)]?=some l[k]:=by simp [hlt]
   have e1:=Ak (i:=k) O;refine Ok.yes Z (Ok.bind_eq hg (Ok.ite (λhe=>Ok.mk (.inr ⟨rfl,?_⟩)) λhe=>Ok.mk ⟨⟨k+1,O,by rw [e1],λj hj hjk=>?_⟩,?_⟩))
   .have he':l[k]=n:=by simpa using he
    rw [<- he'];exact Akc _
   .by_cases hjk':j=k
    .subst hjk';intro hh;exact he (by simp [hh])
    .exact hn j hj O
   .dsimp only;rw [e1];omega
  .obtain ⟨j,hj,he⟩:=Akq hm;have:¬ k < l.length:=by simpa using hc
   exact hn j hj O he
 .rintro r (⟨rfl,h⟩ | ⟨rfl,h⟩)
  .exact Ok.mk (by simp [h])
  .exact Ok.mk (by simp [h])
theorem FX {l:List Int} {n:Int} (hl:l.length<=1048576):AK l n=some (decide (n∈l)):=by
 refine Ok.eq ((YA hl).mono λr hr=>?_);by_cases h:n∈l
 .rw [decide_eq_true h];exact hr.2 h
 .rw [decide_eq_false h];cases r with
  | false=>rfl
  | true=>exact absurd (hr.1 rfl) h
theorem LD {b:Bls} {x y z:List Int} (g:RS b x y) (a:Int):HV b x y z a=some (liv b x y a):=by
 have hn:=g.hn;have hx:=g.hx;unfold HV liv wI;rw [Ca,w64 O O,AjM];by_cases h1:33<=a/\a<=(b.length:Int) - 1
 .obtain ⟨m,rfl⟩:=Akg (O:0<=a);rw [decide_eq_true h1,AjS rfl,JP O O,AjM,AjO];cases bit x m with
  | false=>rfl
  | true=>rw [AjS rfl,Gp g.hy];rfl
 .rw [decide_eq_false h1];rfl
theorem RX {b:Bls} {bits y z:List Int} {k:Nat} (h:k<=1048576) (hk:k / 8 < bits.length):EV (b,bits,y,z) (k:Int)=some (bit bits k):=by
 unfold EV bit cK cZ gX wI wB;dsimp only;rw [dv8 h,md8,AjS Z,AjS AjJ,AjO,AjP hk,AjM,AjS Z,AjS AjJ];rfl
theorem Ot {b:Bls} {x y z:List Int} (g:RS b x y) (a:Int):DD (b,x,y,z) a=some (decide (33<=a/\a<=(b.length:Int) - 1) && bit x a.toNat):=by
 have hn:=g.hn;have hx:=g.hx;unfold DD wI;dsimp only;rw [AH,w64 O O,AjM];by_cases h1:33<=a/\a<=(b.length:Int) - 1
 .obtain ⟨m,rfl⟩:=Akg (O:0<=a);rw [decide_eq_true h1,AjS rfl,RX O O,AjM,AjO];rfl
 .rw [decide_eq_false h1];rfl
theorem Kc {b:Bls} {x y z:List Int} (g:RS b x y) (a:Int):CE (b,x,y,z) a=some (liv b x y a):=by
 unfold CE liv;rw [Ot g,AjM];dsimp only;cases decide (33<=a/\a<=(b.length:Int) - 1)with
 | false=>rfl
 | true=>
  cases bit x a.toNat with
  | false=>rfl
  | true=>rw [AjS (show(true && true)=true from rfl),FX g.hy];rfl
def rz (c:List Int) (n:Nat):Bool:=(c.drop n).all λv=>decide (v=0)
theorem Pz {c:List Int} {n:Nat} (hc:c.length<=1048576) (hn:n<=c.length):DY c (n:Int)=some (rz c n):=by
 refine Ok.eq ((Aco hc hn).mono λr hr=>?_);unfold rz;cases h:(c.drop n).all λv=>decide (v=0)with
 | true=>rw [hr];intro v hv;simpa using Aki.1 h v hv
 | false=>
  cases r with
  | false=>rfl
  | true=>
   have:((c.drop n).all λv=>decide (v=0))=true:=Aki.2 λv hv=>by simpa using hr.1 rfl v hv
   rw [h]at this;cases this
theorem IX (L:(List Int×(Int×Int))->Option ((List Int×(Int×Int))⊕(Unit⊕Int))) (p:Int->Bool) (l:List Int)
  (h:∀k,k < l.length->L (l,(l.length:Int),((k:Nat):Int))=some (if p (gb l k)=true then .inr (.inr ((k:Nat):Int))else .inl (l,(l.length:Int),((k+1:Nat):Int))))
  (h2:L (l,(l.length:Int),(l.length:Int))=some (.inr (.inl ()))) :
  ∃r,Ab L (l,(l.length:Int),0)=some r/\((r=.inl ()/\(l.any p)=false)\/∃k:Nat,r=.inr ((k:Nat):Int)/\(l.any p)=true):=by
 rcases BN L (λk=>(l,(l.length:Int),((k:Nat):Int))) (λk=>!(p (gb l k))) (λk=>((k:Nat):Int)) () l.length (λk hk=>by
  rw [h k hk];cases p (gb l k) <;> rfl) h2 with⟨ha,hl⟩ | ⟨k,hk,hp,_,hl⟩
 .refine⟨_,hl,.inl ⟨rfl,?_⟩⟩;rw [AkV];intro v hv;obtain ⟨j,hj,rfl⟩:=Akq hv;have:=ha j hj;unfold gb at this;rw [AjP hj,Akx]at this;simpa using this
 .refine⟨_,hl,.inr ⟨k,rfl,?_⟩⟩;rw [AlZ];refine⟨_,Akz (Ai hk),?_⟩;simpa using hp
theorem M8 (c:List Int) (n:Nat):((c.drop n).any λv=>decide (¬ v=0)) = !(rz c n):=by
 unfold rz
 induction c.drop n with
 | nil=>rfl
 | cons a l ih=>rw [List.any_cons,Ak8,ih];by_cases h:a=0 <;> simp [h]
theorem AbY {l:List Int} (hl:l.length<=1048576):AZ l=some (l.any λv=>decide (¬ v=0)):=by
 unfold AZ BJ;obtain ⟨r,hr,h⟩:=IX AY (λv=>decide (¬ v=0)) l (λk hk=>by
  unfold AY Iy gX wI;dsimp only;rw [iy O,iy O,AjO,Ai hk,AjM,AjM,Ak O];by_cases hz:gb l k=0 <;> simp [hz]) (by
  unfold AY gX wI;dsimp only;rw [ino O])
 rw [hr,AjM];rcases h with⟨rfl,h⟩ | ⟨k,rfl,h⟩
 .rw [h];rfl
 .rw [h];dsimp only;rw [AjM,decide_eq_true O]
theorem AbG {l:List Int} (hl:l.length<=1048576):AU l=some (l.any λv=>decide (¬ v=0)):=by
 unfold AU BD;obtain ⟨r,hr,h⟩:=IX AX (λv=>decide (¬ v=0)) l (λk hk=>by
  unfold AX H1 gX wI;dsimp only;rw [iy O,iy O,AjO,Ai hk,AjM,AjM,Ak O];by_cases hz:gb l k=0 <;> simp [hz]) (by
  unfold AX gX wI;dsimp only;rw [ino O])
 rw [hr,AjM];rcases h with⟨rfl,h⟩ | ⟨k,rfl,h⟩
 .rw [h];rfl
 .rw [h];dsimp only;rw [AjM,decide_eq_true O]
def num (c:List Int) (i:Nat):Int:=gb c i * 256+gb c (i+1)
theorem AgO {c:List Int} (h:U8s c) (i:Nat):0<=num c i/\num c i<=65535:=by
 have h1:=DH h i;have h2:=DH h (i+1);unfold num;omega
theorem Ain {a b:Int} (ha:0<=a/\a<=255) (hb:0<=b/\b<=255):(((BitVec.ofInt (IntKind.bits .i64) (a * 256) ||| BitVec.ofInt (IntKind.bits .i64) b).toNat:Nat):Int)=a * 256+b:=by
 obtain ⟨n,rfl⟩:=Akg ha.1;obtain ⟨m,rfl⟩:=Akg hb.1;have h1:(n:Int) * 256=((256 * n:Nat):Int):=O
 rw [h1,BitVec.ofInt_natCast,BitVec.ofInt_natCast,BitVec.toNat_or,BitVec.toNat_ofNat,BitVec.toNat_ofNat,show IntKind.bits .i64=64 from rfl,Al0 O,Al0 O];have h2:=Nat.two_pow_add_eq_or_of_lt (i:=8) (b:=m) O n;rw [show(2:Nat) ^ 8=256 from rfl]at h2;rw [<- h2];omega
theorem FV {c:List Int} (hu:U8s c) {i:Nat} (h:i+1 < c.length) (hi:i<=1048576):Cw c (i:Int)=some (num c i):=by
 have u1:=DH hu i;have u2:=DH hu (i+1);unfold Cw cZ gX wI;rw [iy O,AjO,Ai O,AjM,iy O,Ak hi,iy O,AjO,Ai h,AjM,
  show(2:Int) ^ (min (Int.toNat 8) (IntKind.bits .i64))=256 from rfl,w64 (n:=gb c i) O O,w64 (n:=gb c i * 256) O O,w64 (n:=gb c (i+1)) O O,Ain u1 u2,w64 O O]
 rfl
abbrev Pc:=Int×(Int×List UInt8)
def Gk (b:Bls) (a:Int):List UInt8:=AF (((blk b a.toNat).drop 3).take (gb (blk b a.toNat) 2).toNat)
def Dx (b:Bls) (a:Int):Pc:=(a,gb (blk b a.toNat) 1,Gk b a)
def pcG (c:List Int):Bool:=decide (gb c 0=83) && (decide (1<=gb c 1/\gb c 1<=250) && (decide (1<=gb c 2/\gb c 2<=40) && rz c (3+(gb c 2).toNat)))
def pcB (b:Bls) (x y:List Int) (a:Int):Bool:=liv b x y a && pcG (blk b a.toNat)
theorem SP {b:Bls} {x y z:List Int} (g:RS b x y) (a:Int):FJ (b,x,y,z) a=some (if pcB b x y a=true then(true,Dx b a)else(false,0,0,[])):=by
 unfold FJ pcB gX sX wI;rw [Kc g,AjM];cases hl:liv b x y a with
 | false=>rfl
 | true=>
  obtain ⟨m,rfl,h33,hm,_,_⟩:=Cn hl;have hc:=g.len hm;have u1:=g.u8 hm 1;have u2:=g.u8 hm 2;unfold pcG Dx Gk;rw [AjO];rw [AjR Z];dsimp only;generalize hcc:blk b m=c at *;have hbm:b[m]?=some c:=by rw [Bp hm,hcc]
  rw [iy O,hbm,AjM,iy O,show Int.toNat 0=0 from rfl,Ai O,AjM,AjM];dsimp only;by_cases h0:gb c 0=83
  .rw [decide_eq_true h0,AjR AjJ,iy O,AjO,hbm,AjM,iy O,show Int.toNat 1=1 from rfl,Ai O,AjM,iy O,show Int.toNat 2=2 from rfl,Ai O,AjM,
    w64 (n:=gb c 1) O O,w64 (n:=gb c 2) O O,AH,AjM]
   by_cases h1:1<=gb c 1/\gb c 1<=250
   .rw [decide_eq_true h1,AjR Z,AH,AjM];by_cases h2:1<=gb c 2/\gb c 2<=40
    .obtain ⟨k,hk⟩:=Akg u2.1;rw [hk]at h2 ⊢;rw [decide_eq_true h2,AjR Z,show(3:Int)+(k:Int)=((3+k:Nat):Int) by omega,w64 (n:=((3+k:Nat):Int)) O O,iy O,iy O,iy O,iy O];simp only [AjO];rw [AkA (show(List.drop (3+k) c).length<=c.length - (3+k) by rw [Akf];omega),AbY (by rw [Akf];omega),M8,AjM,AjM];dsimp only;cases hr:rz c (3+k)with
     | false=>rfl
     | true=>
      rw [AjR Z,iy O,show(3:Int)+(k:Int)=((3+k:Nat):Int) by omega,w64 (n:=((3+k:Nat):Int)) O O,iy O,iy O,iy O,AjO,
       (O:3+k - Int.toNat 3=k)]
      rfl
    .rw [decide_eq_false h2];rfl
   .rw [decide_eq_false h1];rfl
  .rw [decide_eq_false h0,AjS (by simpa using h0)];rfl
end Go.V.G
set_option maxRecDepth 100000
namespace Go.V.G
open Go.V
def pcs (b:Bls) (x y:List Int) (c:List Int) (n:Nat):Nat->List Int->Nat->Option (List Int)
 | 0,out,_=>some out
 | f+1,out,k=>if(pcB b x y (num c (2+2 * k)) && (decide (k+1 < n->gb (blk b (num c (2+2 * k)).toNat) 2=40) && !decide (num c (2+2 * k)∈out)))=true then pcs b x y c n f (out++[num c (2+2 * k)]) (k+1)else none
theorem SD {a b:Int} (ha:0<=a/\a<=255) (hb:0<=b/\b<=255):IntKind.wrap .i64 ((IntKind.wrap .i64 ((IntKind.wrap .i64 a) * 256))+(IntKind.wrap .i64 b))=a * 256+b:=by
 rw [w64 (n:=a) O O,w64 (n:=a * 256) O O,w64 (n:=b) O O,w64 O O]
theorem W4 {k:Nat} (h:k<=1048576):IntKind.wrap .i64 (2+(IntKind.wrap .i64 (2 * (k:Int))))=((2+2 * k:Nat):Int):=by
 rw [w64 (n:=2 * (k:Int)) O O,w64 O O];omega
theorem AjA {k:Nat} (h:k<=1048576):IntKind.wrap .i64 (3+(IntKind.wrap .i64 (2 * (k:Int))))=((3+2 * k:Nat):Int):=by
 rw [w64 (n:=2 * (k:Int)) O O,w64 O O];omega
theorem Vl {b:Bls} {x y z c out:List Int} {n k:Nat} (g:RS b x y) (hc:c.length=128) (hu:U8s c) (hn:n<=3) (hk:k < n) (ho:out.length<=3) :
  Ea (c,(n:Int),out,(k:Int),b,x,y,z) =
   some (if(pcB b x y (num c (2+2 * k)) && (decide (k+1 < n->gb (blk b (num c (2+2 * k)).toNat) 2=40) && !decide (num c (2+2 * k)∈out)))=true then .inl (c,(n:Int),out++[num c (2+2 * k)],((k+1:Nat):Int),b,x,y,z)else .inr (.inr false)):=by
 have e1:=W4 (k:=k) O;have e2:=AjA (k:=k) O;have u1:=DH hu (2+2 * k);have u2:=DH hu (3+2 * k);have ea:=SD u1 u2;have en:num c (2+2 * k)=gb c (2+2 * k) * 256+gb c (3+2 * k):=by unfold num;rw [(O:2+2 * k+1=3+2 * k)]
 unfold Ea pcB cK gX wI;dsimp only;rw [iy O,e1,e2,iy O,AjO,Ai O,AjM,iy O,AjO,Ai O,AjM,ea,<- en];have hroom:∀v:Int,Aa (List.length out+List.length ([v]:List Int)) 8=true:=λv=>by simp only [Aa,decide_eq_true_eq,AjZ];omega
 generalize num c (2+2 * k)=a;rw [LD g,AjM];cases hl:liv b x y a with
 | false=>rfl
 | true=>
  obtain ⟨m,rfl,h33,hm,_,_⟩:=Cn hl;have hc2:=g.len hm;have v1:=g.u8 hm 1;have v2:=g.u8 hm 2;rw [AjR Z,Gp O,AjM,AjM];dsimp only;by_cases hmem:(m:Int)∈out
  .rw [decide_eq_true hmem,AjS rfl,AjR Z]
  rw [decide_eq_false hmem,AjR Z,iy O,AjO,Bp hm,AjM];unfold pcG;generalize blk b m=d at *;have w2:IntKind.wrap .i64 (gb d 2)=gb d 2:=w64 O O;rw [iy O,show Int.toNat 2=2 from rfl,Ai O,AjM,iy O,show Int.toNat 0=0 from rfl,Ai O,AjM];rw [w2];by_cases h0:gb d 0=83
  .rw [decide_eq_true h0,AjR AjJ,iy O,show Int.toNat 1=1 from rfl,Ai O,AjM,w64 (n:=gb d 1) O O,Ca,AjM];by_cases h1:1<=gb d 1/\gb d 1<=250
   .rw [decide_eq_true h1,AjR Z,Ca,AjM];by_cases h2:1<=gb d 2/\gb d 2<=40
    .obtain ⟨j,hj⟩:=Akg v2.1;rw [hj]at h2 ⊢;rw [decide_eq_true h2,AjR Z,show(3:Int)+(j:Int)=((3+j:Nat):Int) by omega,w64 (n:=((3+j:Nat):Int)) O O,Pz O O,AjO,w64 (n:=(n:Int) - 1) O O,AjM];have hr:∀q:Bool,(if q=true then some (Sum.inr (Sum.inr false))else
       if Aa (out.length + [(m:Int)].length) 8=true then some (Sum.inl (c,(n:Int),out++[(m:Int)],IntKind.wrap .i64 ((k:Int)+1),b,x,y,z))else none :
       Option ((List Int×(Int×(List Int×(Int×(List (List Int)×(List Int×(List Int×List Int)))))))⊕((List Int×(Int×List Int))⊕Bool))) =
       some (if(!q)=true then .inl (c,(n:Int),out++[(m:Int)],((k+1:Nat):Int),b,x,y,z)else .inr (.inr false)):=λq=>by
      cases q with
      | true=>rfl
      | false=>rw [AjR Z,AjS (hroom _),Ak O];rfl
     by_cases h4:k+1 < n
     .rw [iy O];by_cases h5:(j:Int)=40
      .rw [ino O,AjM];dsimp only;rw [hr];have:decide (k+1 < n->(j:Int)=40)=true:=decide_eq_true λ_=>h5
       rw [this];cases rz d (3+j) <;> rfl
      .rw [iy h5,AjM];dsimp only;have:decide (k+1 < n->(j:Int)=40)=false:=decide_eq_false λhh=>h5 (hh h4)
       rw [this,AjS rfl];cases rz d (3+j) <;> rfl
     .rw [ino O,AjM];dsimp only;rw [hr];have:decide (k+1 < n->(j:Int)=40)=true:=decide_eq_true λhh=>absurd hh h4
      rw [this];cases rz d (3+j) <;> rfl
    .rw [decide_eq_false h2];rfl
   .rw [decide_eq_false h1];rfl
  .rw [decide_eq_false h0,AjS (by simpa using h0)];rfl
theorem Oq {b:Bls} {x y z c:List Int} {n:Nat} (g:RS b x y) (hc:c.length=128) (hu:U8s c) (hn:n<=3):∀(f k:Nat) (out:List Int),k+f=n->out.length<=k->
  Ab Ea (c,(n:Int),out,(k:Int),b,x,y,z)=some (match pcs b x y c n f out k with | some l=>.inl (c,(n:Int),l) | none=>.inr false)
 | 0,k,out,hk,ho=>by
  rw [Ar];unfold Ea pcs cK gX wI;dsimp only;rw [ino O]
 | f+1,k,out,hk,ho=>by
  have hs:=Vl (z:=z) (k:=k) (out:=out) g hc hu hn O O;unfold pcs;by_cases h:(pcB b x y (num c (2+2 * k)) && (decide (k+1 < n->gb (blk b (num c (2+2 * k)).toNat) 2=40) && !decide (num c (2+2 * k)∈out)))=true
  .rw [AjS h]at hs;rw [Ar,hs,AjS h];exact Oq g hc hu hn f (k+1) _ O AjJ
  .rw [AjR h]at hs;rw [Ar,hs,AjR h]
theorem Abe {l:List Pc} (hl:l.length<=1048576) (a s:Int) (t:List UInt8) :
  Ah l a s t=some (decide (a∈l.map (·.1)),a,s,t):=by
 unfold Ah As;rcases BN Al (λk=>(l,(l.length:Int),((k:Nat):Int),a,s,t)) (λk=>!(decide ((l[k]?.getD (0,0,[])).1=a))) (λk=>(((k:Nat):Int),a,s,t)) (a,s,t) l.length (λk hk=>by
  unfold Al HQ gX wI;dsimp only;rw [iy O,iy O,AjO,AjP hk,AjM,AjM,Ak O,Akx];by_cases hz:l[k].1=a <;> simp [hz]) (by
  unfold Al gX wI;dsimp only;rw [ino O])with⟨h1,h2⟩ | ⟨k,hk,h1,_,h2⟩
 .have:a∉l.map (·.1):=by
   intro hm;obtain ⟨p,hp,he⟩:=Aj9.1 hm;obtain ⟨j,hj,rfl⟩:=Akq hp;have:=h1 j hj;rw [AjP hj,Akx]at this;simp [he]at this
  rw [show(0:Int)=((0:Nat):Int) from rfl,h2,AjM,decide_eq_false this];rfl
 .have:a∈l.map (·.1):=by
   rw [AjP hk,Akx]at h1;refine Aj9.2 ⟨l[k],Akc _,?_⟩;simpa using h1
  rw [show(0:Int)=((0:Nat):Int) from rfl,h2,AjM,decide_eq_true this];dsimp only;rw [AjM];dsimp only;rw [decide_eq_true O]
theorem Ah1 {b:Bls} {x y:List Int} (g:RS b x y) {m:Nat} (hm:m < b.length) (h:gb (blk b m) 2<=40):(List.length (Gk b (m:Int)):Int)=gb (blk b m) 2:=by
 have hc:=g.len hm;have u2:=g.u8 hm 2;unfold Gk AF;rw [AjO,Akj,AjW,Akf];omega
theorem Vx {b:Bls} {x y z c out:List Int} {n k:Nat} (g:RS b x y) (hc:c.length=128) (hu:U8s c) (hn:n<=3) (hk:k < n) (ho:out.length<=3) :
  C2 ((b,x,y,z),c,(n:Int),out.map (Dx b),(n:Int),(k:Int)) =
   some (if(pcB b x y (num c (2+2 * k)) && (decide (k+1 < n->gb (blk b (num c (2+2 * k)).toNat) 2=40) && !decide (num c (2+2 * k)∈out)))=true then .inl ((b,x,y,z),c,(n:Int),(out++[num c (2+2 * k)]).map (Dx b),(n:Int),((k+1:Nat):Int))else .inr (.inr false)):=by
 have e1:=W4 (k:=k) O;unfold C2 cK wI;dsimp only;rw [iy O,e1,FV hu O O,AjM,SP g];generalize num c (2+2 * k)=a;rw [AjM,Ak O];cases hp:pcB b x y a with
 | false=>rfl
 | true=>
  have hl:liv b x y a=true:=by unfold pcB at hp;simp only [AjT]at hp;exact hp.1
  obtain ⟨m,rfl,h33,hm,_,_⟩:=Cn hl;have h40:gb (blk b m) 2<=40:=by
   unfold pcB pcG at hp;simp only [AjT,decide_eq_true_eq,AjO]at hp;exact hp.2.2.2.1.2
  have ht:=Ah1 g hm h40;have hmap:((out.map (Dx b)).map (·.1))=out:=by rw [AkL];exact List.map_id out
  have hroom:∀v:Pc,Aa (List.length (out.map (Dx b))+List.length ([v]:List Pc)) 32=true:=λv=>by simp only [Aa,decide_eq_true_eq,AjZ,Akj];omega
  rw [AjS rfl];dsimp only;rw [AjR Z,Abe (by rw [Akj];omega),hmap,AjM];dsimp only;rw [show(Dx b (m:Int)).1=(m:Int) from rfl,show(Dx b (m:Int)).2.2=Gk b (m:Int) from rfl,AjO];have hr:∀q:Bool,(if q=true then some (Sum.inr (Sum.inr false))else
    if Aa ((out.map (Dx b)).length + [(((m:Int)),(Dx b (m:Int)).2.1,Gk b (m:Int))].length) 32=true then some (Sum.inl ((b,x,y,z),c,(n:Int),out.map (Dx b)++[(((m:Int)),(Dx b (m:Int)).2.1,Gk b (m:Int))],(n:Int),IntKind.wrap .i64 ((k:Int)+1)))else none :
    Option (((List (List Int)×(List Int×(List Int×List Int)))×(List Int×(Int×(List (Int×(Int×List UInt8))×(Int×Int)))))⊕(List (Int×(Int×List UInt8))⊕Bool))) =
    some (if(!q)=true then .inl ((b,x,y,z),c,(n:Int),(out++[(m:Int)]).map (Dx b),(n:Int),((k+1:Nat):Int))else .inr (.inr false)):=λq=>by
   cases q with
   | true=>rfl
   | false=>
    rw [AjR Z,AjS (hroom _),Akv,Ak O];rfl
  by_cases h4:k+1 < n
  .rw [iy O,ht];by_cases h5:gb (blk b m) 2=40
   .rw [ino O,AjM];dsimp only;rw [hr];have:decide (k+1 < n->gb (blk b m) 2=40)=true:=decide_eq_true λ_=>h5
    rw [this];rfl
   .rw [iy O,AjM];dsimp only;have:decide (k+1 < n->gb (blk b m) 2=40)=false:=decide_eq_false λhh=>h5 (hh h4)
    rw [this];rfl
  .rw [ino O,AjM];dsimp only;rw [hr];have:decide (k+1 < n->gb (blk b m) 2=40)=true:=decide_eq_true λhh=>absurd hh h4
   rw [this];rfl
theorem Od {b:Bls} {x y z c:List Int} {n:Nat} (g:RS b x y) (hc:c.length=128) (hu:U8s c) (hn:n<=3):∀(f k:Nat) (out:List Int),k+f=n->out.length<=k->
  Ab C2 ((b,x,y,z),c,(n:Int),out.map (Dx b),(n:Int),(k:Int))=some (match pcs b x y c n f out k with | some l=>.inl (l.map (Dx b)) | none=>.inr false)
 | 0,k,out,hk,ho=>by
  rw [Ar];unfold C2 pcs cK wI;dsimp only;rw [ino O]
 | f+1,k,out,hk,ho=>by
  have hs:=Vx (z:=z) (k:=k) (out:=out) g hc hu hn O O;unfold pcs;by_cases h:(pcB b x y (num c (2+2 * k)) && (decide (k+1 < n->gb (blk b (num c (2+2 * k)).toNat) 2=40) && !decide (num c (2+2 * k)∈out)))=true
  .rw [AjS h]at hs;rw [Ar,hs,AjS h];exact Od g hc hu hn f (k+1) _ O AjJ
  .rw [AjR h]at hs;rw [Ar,hs,AjR h]
def ptx (b:Bls) (x y:List Int) (root:Int):Option (List Int):=
 if(liv b x y root && (decide (gb (blk b root.toNat) 0=84) && (decide (gb (blk b root.toNat) 1<=3) && rz (blk b root.toNat) (2+2 * (gb (blk b root.toNat) 1).toNat))))=true then
  pcs b x y (blk b root.toNat) (gb (blk b root.toNat) 1).toNat (gb (blk b root.toNat) 1).toNat [] 0 else none
theorem YQ {b:Bls} {x y z:List Int} (g:RS b x y) (root:Int):∃l':List Int,J5 b x y z root=some (match ptx b x y root with | some l=>(l,true) | none=>(l',false)):=by
 unfold J5 ptx gX wI;rw [LD g,AjM];cases hl:liv b x y root with
 | false=>exact⟨[],rfl⟩
 | true=>
  obtain ⟨m,rfl,h33,hm,_,_⟩:=Cn hl;have hc:=g.len hm;have hu:=g.hu _ (BA hm);rw [AjO,AjR Z,Aj3];have hbm:=Bp hm;generalize blk b m=c at *;have u1:=DH hu 1;rw [iy O,hbm,AjM,iy O,show Int.toNat 0=0 from rfl,Ai O,AjM];by_cases h0:gb c 0=84
  .rw [decide_eq_true h0,AjR AjJ,iy O,AjM,iy O,show Int.toNat 1=1 from rfl,Ai O,AjM,AjM];dsimp only;rw [AjO,hbm,Aj3];by_cases h3:gb c 1<=3
   .obtain ⟨n,hn⟩:=Akg u1.1;rw [ino O,iy O,AjM,iy O,Ai O,AjM,decide_eq_true h3,Aj3,hn,w64 O O,AjO];have hL:Ab Ea (c,(n:Int),[],0,b,x,y,z)=_:=Oq g hc hu O n 0 [] O Z;rw [hL,AjM];have e1:=W4 (k:=n) O;cases hp:pcs b x y c n n [] 0 with
    | none=>exact⟨[],by dsimp only;cases rz c (2+2 * n) <;> rfl⟩
    | some l=>
     refine⟨l,?_⟩;dsimp only;rw [e1,Pz O O,AjM];cases rz c (2+2 * n) <;> rfl
   .exact⟨[],by rw [iy O,decide_eq_false h3];rfl⟩
  .rw [decide_eq_false h0,AjS (by simpa using h0)];exact⟨[],rfl⟩
theorem Zj {b:Bls} {x y z:List Int} (g:RS b x y) (root:Int):GZ (b,x,y,z) root=some (match ptx b x y root with | some l=>(l.map (Dx b),true) | none=>([],false)):=by
 unfold GZ ptx gX sX wI;rw [Kc g,AjM];cases hl:liv b x y root with
 | false=>rfl
 | true=>
  obtain ⟨m,rfl,h33,hm,_,_⟩:=Cn hl;have hc:=g.len hm;have hu:=g.hu _ (BA hm);rw [AjO,AjR Z,Aj3];have hbm:=Bp hm;dsimp only;generalize blk b m=c at *;have u1:=DH hu 1;rw [iy O,hbm,AjM,iy O,show Int.toNat 0=0 from rfl,Ai O,AjM,AjM];dsimp only;by_cases h0:gb c 0=84
  .obtain ⟨n,hn⟩:=Akg u1.1;rw [decide_eq_true h0,AjR AjJ,iy O,AjO,hbm,AjM,iy O,show Int.toNat 1=1 from rfl,Ai O,AjM,Aj3,hn,w64 (n:=(n:Int)) O O];have e1:=W4 (k:=n) O;by_cases h3:(n:Int)<=3
   .rw [ino O,e1,iy O,iy O,iy O,iy O,decide_eq_true h3,Aj3];simp only [AjO];rw [AkA (show(List.drop (2+2 * n) c).length<=c.length - (2+2 * n) by rw [Akf];omega),AbG (by rw [Akf];omega),M8,AjM,AjM];dsimp only;cases hr:rz c (2+2 * n)with
    | false=>rfl
    | true=>
     have hL:Ab C2 ((b,x,y,z),c,(n:Int),[],(n:Int),0)=_:=Od g hc hu O n 0 [] O Z;rw [AjR Z,AjS rfl,hL,AjM];cases pcs b x y c n n [] 0 <;> rfl
   .rw [iy O,decide_eq_false h3];rfl
  .rw [decide_eq_false h0,AjS (by simpa using h0)];rfl
end Go.V.G
set_option maxRecDepth 100000
namespace Go.V.G
open Go.V
noncomputable def pt (z:List Int) (n:Int):List Int:=(C3 z n).getD []
theorem LQ {z:List Int} (hz:z.length<=1048576) (hr:Ris z) (n:Int):C3 z n=some (pt z n)/\HY z n=some (pt z n)/\(pt z n).length<=z.length+1/\Ris (pt z n)/\∀v,v∈pt z n↔v∈z\/v=n:=by
 obtain ⟨z',h1,h2,h3,h4,h5⟩:=PC hz hr n;have e:pt z n=z':=by unfold pt;rw [h1];rfl
 rw [e];exact⟨h1,h2,h3,h4,h5⟩
def Dq (d:List Int):List Int:=d++List.replicate (128 - d.length) 0
theorem Ae3 {d:List Int} (h:d.length<=128):(Dq d).length=128:=by unfold Dq;simp;omega
theorem AaD {l:List Int} (h:U8s l):Ay (AF l)=l:=by
 unfold AF Ay;rw [AkL]
 conv=>rhs;rw [<- List.map_id l]
 refine AkM λv hv=>?_
 obtain ⟨h0,h1⟩:=h v hv;obtain ⟨n,rfl⟩:=Akg h0;simp only [Function.comp,AjO,id];rw [UInt8.toNat_ofNat_of_lt' (by show n < 256;omega)]
theorem Acb {b:Bls} {x y c:List Int} {n:Nat}:∀(f k:Nat) (out l:List Int),pcs b x y c n f out k=some l->(∀a∈out,pcB b x y a=true)->out.Nodup->
  (∀a∈l,pcB b x y a=true)/\l.Nodup/\l.length=out.length+f
 | 0,k,out,l,h,h1,h2=>by
  unfold pcs at h;cases h;exact⟨h1,h2,rfl⟩
 | f+1,k,out,l,h,h1,h2=>by
  unfold pcs at h;split at h
  .rename_i hc;simp only [AjT,Aj0,decide_eq_false_iff_not]at hc;obtain ⟨hp,_,hm⟩:=hc;obtain ⟨r1,r2,r3⟩:=Acb f (k+1) _ l h (λa ha=>by
    rcases AjV.1 ha with ha | ha
    .exact h1 a ha
    .rw [AjX.1 ha];exact hp) (by
    rw [Aj8];refine⟨h2,Z,λa ha b hb=>?_⟩;rw [AjX.1 hb];rintro rfl;exact hm ha)
   exact⟨r1,r2,by rw [r3];simp;omega⟩
  .cases h
structure Pcs (b:Bls) (x y l:List Int):Prop where
 all:∀a∈l,pcB b x y a=true
 nd:l.Nodup
 len:l.length<=3
theorem IE {b:Bls} {x y:List Int} {root:Int} {l:List Int} (h:ptx b x y root=some l):Pcs b x y l/\liv b x y root=true/\gb (blk b root.toNat) 0=84/\root∉l:=by
 unfold ptx at h;split at h
 .rename_i hc;simp only [AjT,decide_eq_true_eq]at hc;obtain ⟨h1,h2,h3,_⟩:=hc;obtain ⟨r1,r2,r3⟩:=Acb _ 0 [] l h (λa ha=>by cases ha) List.nodup_nil;refine⟨⟨r1,r2,by rw [r3];simp;omega⟩,h1,h2,λhm=>?_⟩;have:=r1 root hm;unfold pcB pcG at this;simp only [AjT,decide_eq_true_eq]at this;omega
 .cases h
theorem Qa {b:Bls} {x y:List Int} {a:Int} (h:pcB b x y a=true):∃m:Nat,a=(m:Int)/\33<=m/\m < b.length/\bit x m=true/\(m:Int)∉y/\pcG (blk b m)=true:=by
 unfold pcB at h;simp only [AjT]at h;obtain ⟨m,rfl,h1,h2,h3,h4⟩:=Cn h.1;exact⟨m,rfl,h1,h2,h3,h4,h.2⟩
def cat (b:Bls) (l:List Int):List UInt8:=l.flatMap (Gk b)
theorem X6 (b:Bls) {l:List Int} {k:Nat} (h:k < l.length):cat b (l.take (k+1))=cat b (l.take k)++Gk b l[k]:=by
 unfold cat;rw [Akd h,Ak6];simp
theorem Abz (b:Bls) {x y:List Int} {a:Int} (h:pcB b x y a=true):(Gk b a).length<=40:=by
 obtain ⟨m,rfl,_,_,_,_,hg⟩:=Qa h;unfold pcG at hg;simp only [AjT,decide_eq_true_eq]at hg;unfold Gk AF;rw [AjO,Akj,AjW];omega
theorem RI {b:Bls} {x y:List Int}:∀{l:List Int},(∀a∈l,pcB b x y a=true)->(cat b l).length<=40 * l.length
 | [],_=>by simp [cat]
 | a::l,h=>by
  have h1:=Abz b (h a Z);have h2:=RI (l:=l) λv hv=>h v (by simp [hv])
  have e:cat b (a::l)=Gk b a++cat b l:=by simp [cat]
  rw [e,AjU,Aj1];omega
theorem Abc {b:Bls} {x y z:List Int} (g:RS b x y) {a:Int} (h:pcB b x y a=true):LJ b x y z a=some (Gk b a):=by
 obtain ⟨m,rfl,h33,hm,_,_,hg⟩:=Qa h;have hc:=g.len hm;have v2:=g.u8 hm 2;unfold pcG at hg;simp only [AjT,decide_eq_true_eq]at hg;unfold LJ Gk gX sX wI;have hbm:=Bp hm;rw [AjO];generalize blk b m=c at *;obtain ⟨n,hn⟩:=Akg v2.1;rw [hn]at hg ⊢;rw [iy O,hbm,AjM,iy O,AjM,iy O,show Int.toNat 2=2 from rfl,Ai O,AjM,hn,w64 (n:=(n:Int)) O O,
  show(3:Int)+(n:Int)=((3+n:Nat):Int) by omega,w64 O O,iy O,iy O,iy O,iy O,AjO,AjO,(O:3+n - Int.toNat 3=n)]
 rfl
def tin (b:Bls) (x y:List Int) (root:Int):List UInt8×(List Int×Bool):=match ptx b x y root with
 | some l=>(cat b l,l++[root],true)
 | none=>([],[],false)
theorem QI {b:Bls} {x y z:List Int} (g:RS b x y) (root:Int):No b x y z root=some (tin b x y root):=by
 obtain ⟨l',h⟩:=YQ (z:=z) g root;unfold No tin cK;rw [h,AjM];cases hp:ptx b x y root with
 | none=>rfl
 | some l=>
  obtain ⟨⟨hall,hnd,hlen⟩,_⟩:=IE hp;dsimp only;rw [AjR Z];have hL:=An Hh (λk=>(root,l,cat b (l.take k),(l.length:Int),((k:Nat):Int),b,x,y,z)) l.length (root,l,cat b l) (λk hk=>by
   have hpk:=hall _ (Akc hk);have h1:=RI (b:=b) (x:=x) (y:=y) (l:=l.take k) λv hv=>hall v (Alo hv)
   have h2:=Abz b hpk;rw [AjW]at h1;unfold Hh cK cZ wI;dsimp only;rw [iy O,iy O,iy O,Ake,AjO,AjP hk,AjM,Abc g hpk,AjM,iy O,Ak O,X6 b hk]) (by
   unfold Hh cK cZ wI;dsimp only;rw [ino O,AkC])
  have hL':Ab Hh (root,l,([]:List UInt8),(l.length:Int),0,b,x,y,z)=_:=hL;rw [hL',AjM];dsimp only;rw [AjS (by simp only [Aa,decide_eq_true_eq,AjZ];omega)]
theorem GS.rs {b:Bls} {x y z:List Int} (g:GS b x y z) (h:SB b x y z) (hu:∀c∈b,U8s c):RS b x y:=⟨g.hb,g.hk,hu,g.hx,h.y⟩
end Go.V.G
set_option maxRecDepth 100000
namespace Go.V.G
open Go.V
abbrev Wst:=Bls×(List Int×List Int)
structure Ws (n:Nat) (s:Wst) (q:Nat):Prop where
 hn:s.1.length=n
 hk:∀c∈s.1,c.length=128
 hu:∀c∈s.1,U8s c
 hy:Ris s.2.1
 hz:Ris s.2.2
 ly:s.2.1.length<=q
 lz:s.2.2.length<=q
theorem Ws.more {n q r:Nat} {s:Wst} (h:Ws n s q) (hr:q<=r):Ws n s r:=⟨h.hn,h.hk,h.hu,h.hy,h.hz,Ako h.ly hr,Ako h.lz hr⟩
theorem J9 {b:Bls} {i j:Nat} {c:List Int} (h:i≠j):blk (b.set i c) j=blk b j:=by unfold blk;rw [List.getElem?_set_ne h]
theorem RJ {b:Bls} {i:Nat} {c:List Int} (h:i < b.length):blk (b.set i c) i=c:=by unfold blk;rw [Alh h];rfl
theorem Ws.setB {n q:Nat} {s:Wst} (h:Ws n s q) (hq:q<=1048000) {i:Nat} {c:List Int} (hc:c.length=128) (hu:U8s c):Ws n (s.1.set i c,s.2.1,pt s.2.2 (i:Int)) (q+1):=by
 have hl:=h.lz;have hl2:=h.ly;obtain ⟨_,_,h3,h4,_⟩:=LQ (z:=s.2.2) O h.hz (i:Int);exact⟨by rw [AkQ];exact h.hn,λd hd=>by
  rcases AkS hd with hd | rfl
  .exact h.hk d hd
  .exact hc,λd hd=>by
  rcases AkS hd with hd | rfl
  .exact h.hu d hd
  .exact hu,h.hy,h4,AjL,AjL⟩
theorem GS.ws {b:Bls} {x y z:List Int} (g:GS b x y z) (hu:∀c∈b,U8s c):Ws b.length (b,y,z) 127:=by
 have hb:=g.hb;obtain ⟨r1,r2⟩:=Gl g.hy;obtain ⟨r3,r4⟩:=Gl g.hz;have l1:y.length<=127:=PW r1 (λi hi=>by have:=r2 i hi;omega);have l2:z.length<=127:=PW r3 (λi hi=>by have:=r4 i hi;omega);exact⟨rfl,g.hk,hu,r1,r3,l1,l2⟩
theorem Ws.w {n q:Nat} {s:Wst} (h:Ws n s q) (hn:n<=160) (hq:q<=1000) {x:List Int} (hx:x.length=20):ZY s.1 x s.2.1 s.2.2<=5000000:=by
 have hw:∀l:Bls,(∀c∈l,c.length=128)->D4 B8 l=l.length * 128:=by
  intro l
  induction l with
  | nil=>intro _;rfl
  | cons c l ih=>
   intro hh;simp only [D4,Aj1];rw [ih (λd hd=>hh d (by simp [hd]))];have e:B8 c=c.length:=rfl;rw [e,hh c Z];omega
 have h1:=hw s.1 h.hk;have h2:=h.hn;have h3:=h.ly;have h4:=h.lz;unfold ZY CF B8 VN;unfold B8 at h1;rw [h1];omega
end Go.V.G
set_option maxRecDepth 100000
namespace Go.V.G
open Go.V
def shr (b:Bls) (hv:List Int) (k:Nat) (p:List UInt8):Int:=match hv[k]? with
 | some a=>if Gk b a=p/\gb (blk b a.toNat) 1 < 250 then a else 0
 | none=>0
def zs (l:List Int):Nat:=l.countP λa=>decide (a=0)
end Go.V.G
set_option maxRecDepth 100000
namespace Go.V.G
open Go.V
theorem Wk.lay {n lz:Nat} {b:Bls} {x z c:List Int} (h:Wk n b x z lz) (hlz:lz<=1048000) (hc:c.length=128) (k:Nat):Wk n (b.set k c) x (pt z (k:Int)) (lz+1):=by
 have hz:=h.hz;obtain ⟨_,_,h3,h4,_⟩:=LQ (z:=z) O h.hr (k:Int);exact⟨h.hn,by rw [AkQ];exact h.hb,λd hd=>by
  rcases AkS hd with hd | rfl
  .exact h.hk d hd
  .exact hc,h.hx,h.hu,h.hlow,h4,O⟩
structure Sh (b:Bls) (x y sh:List Int) (ps:List (List UInt8)):Prop where
 len:sh.length=ps.length
 m3:ps.length<=3
 pc:∀p∈ps,1<=p.length/\p.length<=40
 at_:∀j,j < ps.length->sh[j]?=some 0\/∃m:Nat,sh[j]?=some (m:Int)/\pcB b x y (m:Int)=true/\Gk b (m:Int)=ps[j]?.getD []/\gb (blk b m) 1 < 250
 ne:∀(i j:Nat) (v:Int),i < j->sh[i]?=some v->sh[j]?=some v->v=0
structure Li (n:Nat) (b:Bls) (x z sh:List Int) (ps:List (List UInt8)) (k:Nat) (A:List Int) (b':Bls) (x' z':List Int) (q:Nat):Prop where
 wk:Wk n b' x' z' q
 bu:∀c∈b',U8s c
 len:A.length=k
 nd:A.Nodup
 at_:∀j,j < k->∃m:Nat,A[j]?=some (m:Int)/\(33<=m/\m < n)/\bit x' m=true/\
  ((sh[j]?=some 0/\bit x m=false/\blk b' m=Dq ([83,1,(((ps[j]?.getD []).length:Nat):Int)]++Ay (ps[j]?.getD [])))\/(sh[j]?=some (m:Int)/\blk b' m=(blk b m).set 1 (gb (blk b m) 1+1)))
 oth:∀i,i < 160->((i:Nat):Int)∉A->blk b' i=blk b i/\bit x' i=bit x i
 up:∀i,i < 160->bit x i=true->bit x' i=true
 zm:∀v∈z',v∈z\/v∈A
 ct:cnt x' n+zs (sh.take k)=cnt x n
theorem Li.mem {n k q:Nat} {b b':Bls} {x z sh x' z' A:List Int} {ps:List (List UInt8)} (h:Li n b x z sh ps k A b' x' z' q) {a:Int} (ha:a∈A):∃j m:Nat,j < k/\a=(m:Int)/\A[j]?=some (m:Int)/\(33<=m/\m < n)/\bit x' m=true/\
  ((sh[j]?=some 0/\bit x m=false)\/sh[j]?=some (m:Int)):=by
 obtain ⟨j,hj,he⟩:=Akq ha;have hl:=h.len;obtain ⟨m,h1,h2,h3,h4⟩:=h.at_ j O;rw [AjP hj]at h1;have:=Ak7 h1;refine⟨j,m,O,by rw [<- he,this],by rw [AjP hj,this],h2,h3,?_⟩;rcases h4 with⟨p1,p2,_⟩ | ⟨p1,_⟩
 .exact .inl ⟨p1,p2⟩
 .exact .inr p1
theorem Ag1 {d:List Int} (h:U8s d):U8s (Dq d):=λv hv=>by
 unfold Dq at hv;rcases AjV.1 hv with hv | hv
 .exact h v hv
 .rw [Alt hv];omega
def npc (p:List UInt8):List Int:=[83,1,(p.length:Int)]++Ay p
theorem w8d {m:Nat} (h:m < 160):IntKind.wrap .u8 (IntKind.wrap .i64 (Int.tdiv (m:Int) 256))=0:=by
 rw [Int.tdiv_eq_ediv_of_nonneg O,w64 O O,wub O O];omega
theorem AcU {m:Nat} (h:m < 160):Lu (m:Int)=some [0,(m:Int)]:=by
 unfold Lu cZ wB;rw [iy O,show(2:Int) ^ (min (Int.toNat 8) (IntKind.bits .i64))=256 from rfl,AlR _ O,wub (r:=(m:Int)) O O,wub O O];have:(m:Int) / 256=0:=O
 rw [this]
end Go.V.G
set_option maxRecDepth 100000
namespace Go.V.G
open Go.V
def ats (m:Nat) (A:List Int):List Int:=[84,(m:Int)]++A.flatMap λa=>[0,a]
structure Lt (n:Nat) (b:Bls) (x z sh:List Int) (ps:List (List UInt8)) (A:List Int) (r:Nat) (b':Bls) (x' z':List Int) (q:Nat):Prop where
 wk:Wk n b' x' z' q
 bu:∀c∈b',U8s c
 len:A.length=ps.length
 nd:A.Nodup
 rt:(33<=r/\r < n)/\bit x r=false/\bit x' r=true/\blk b' r=Dq (ats ps.length A)/\(r:Int)∉A
 at_:∀j,j < ps.length->∃m:Nat,A[j]?=some (m:Int)/\(33<=m/\m < n)/\bit x' m=true/\
  ((sh[j]?=some 0/\bit x m=false/\blk b' m=Dq (npc (ps[j]?.getD [])))\/(sh[j]?=some (m:Int)/\blk b' m=(blk b m).set 1 (gb (blk b m) 1+1)))
 oth:∀i,i < 160->((i:Nat):Int)∉A->i≠r->blk b' i=blk b i/\bit x' i=bit x i
 up:∀i,i < 160->bit x i=true->bit x' i=true
 zm:∀v∈z',v∈z\/v∈A\/v=(r:Int)
 ct:cnt x' n+zs sh+1=cnt x n
theorem GS.wk {b:Bls} {x y z:List Int} (g:GS b x y z) (hu:U8s x):Wk b.length b x z 127:=by
 obtain ⟨r1,r2⟩:=Gl g.hz;have hb:=g.hb;exact⟨g.hb,rfl,g.hk,g.hx,hu,λk hk=>by
  have:=g.hbits k O;unfold bG at this;rw [decide_eq_true hk,decide_eq_false (O:¬ b.length<=k)]at this;simpa using this,r1,PW r1 (λi hi=>by have:=r2 i hi;omega)⟩
end Go.V.G
set_option maxRecDepth 100000
namespace Go.V.G
open Go.V
structure TkI (n:Nat) (b:Bls) (x z l:List Int) (b':Bls) (x' z':List Int):Prop where
 nd:l.Nodup
 fr:∀v∈l,∃k:Nat,v=(k:Int)/\(33<=k/\k < n)/\bit x k=false/\bit x' k=true
 oth:∀i,i < 160->((i:Nat):Int)∉l->blk b' i=blk b i/\bit x' i=bit x i
 up:∀i,i < 160->bit x i=true->bit x' i=true
 zm:∀v∈z',v∈z\/v∈l
 bu:∀c∈b',U8s c
theorem XE:U8s Hy:=λv hv=>by
 unfold Hy at hv;rw [Alt hv];omega
def own (data:List Int) (i:Nat):List Int:=(data.drop (124 * i)).take 124
structure Lr (n:Nat) (b:Bls) (x z data l:List Int) (b':Bls) (x' z':List Int):Prop where
 wk:Wk n b' x' z' 200
 bu:∀c∈b',U8s c
 len:l.length=nd data.length
 nd:l.Nodup
 at_:∀j,j < l.length->∃k:Nat,l[j]?=some (k:Int)/\(33<=k/\k < n)/\bit x k=false/\bit x' k=true/\blk b' k=Aim data l j
 oth:∀i,i < 160->((i:Nat):Int)∉l->blk b' i=blk b i/\bit x' i=bit x i
 up:∀i,i < 160->bit x i=true->bit x' i=true
 zm:∀v∈z',v∈z\/v∈l
 ct:cnt x' n+l.length=cnt x n
theorem AbB {l:List Int} (hl:l.length<=1048576):Au l=some (l.any λv=>decide (¬ v=0)):=by
 unfold Au BE;obtain ⟨r,hr,h⟩:=IX AV (λv=>decide (¬ v=0)) l (λk hk=>by
  unfold AV HM gX wI;dsimp only;rw [iy O,iy O,AjO,Ai hk,AjM,AjM,Ak O];by_cases hz:gb l k=0 <;> simp [hz]) (by
  unfold AV gX wI;dsimp only;rw [ino O])
 rw [hr,AjM];rcases h with⟨rfl,h⟩ | ⟨k,rfl,h⟩
 .rw [h];rfl
 .rw [h];dsimp only;rw [AjM,decide_eq_true O]
theorem AgU {d:List Int} (n:Nat) (h:n=d.length):rz (Dq d) n=true:=by
 subst h;unfold rz Dq;rw [List.drop_left,Aki];intro v hv;rw [Alt hv];rfl
end Go.V.G
set_option maxRecDepth 100000
namespace Go.V.G
open Go.V
def BO (c:List Int):List Int:=(List.range 32).map λk=>num c (1+2 * k)
theorem Fh (c:List Int):(BO c).length=32:=by simp [BO]
def pgB (b:Bls) (x y:List Int) (a kind:Int):Bool:=liv b x y a && (decide (gb (blk b a.toNat) 0=kind) && rz (blk b a.toNat) 65)
def pg (b:Bls) (x y:List Int) (a kind:Int):List Int×Bool:=if pgB b x y a kind=true then(BO (blk b a.toNat),true)else([],false)
theorem VC {b:Bls} {x y:List Int} {a kind:Int} (h:pgB b x y a kind=false):pg b x y a kind=([],false):=by unfold pg;rw [h];rfl
theorem R4 {b:Bls} {x y:List Int} {a kind:Int} (h:pgB b x y a kind=true):pg b x y a kind=(BO (blk b a.toNat),true):=by unfold pg;rw [h];rfl
theorem Aha {k:Nat} (h:k<=1048576):IntKind.wrap .i64 (1+(IntKind.wrap .i64 (2 * (k:Int))))=((1+2 * k:Nat):Int):=by
 rw [w64 (n:=2 * (k:Int)) O O,w64 O O];omega
theorem Wp {α:Type} (f:Nat->α) (k:Nat):(List.range (k+1)).map f=(List.range k).map f++[f k]:=by rw [Alu,Akv];rfl
theorem Ky {α:Type} (f:Nat->α) (k:Nat):((List.range k).map f).length=k:=by simp
theorem YR {b:Bls} {x y z c:List Int} {m k:Nat} (hbm:b[m]?=some c) (hc:c.length=128) (hu:U8s c) (hk:k < 32) :
  DR ((m:Int),(List.range k).map (λk=>num c (1+2 * k)),((k:Nat):Int),b,x,y,z)=some (.inl ((m:Int),(List.range (k+1)).map (λk=>num c (1+2 * k)),((k+1:Nat):Int),b,x,y,z)):=by
 have e1:=Aha (k:=k) O;have e2:=W4 (k:=k) O;have u1:=DH hu (1+2 * k);have u2:=DH hu (2+2 * k);have ea:=SD u1 u2;have en:num c (1+2 * k)=gb c (1+2 * k) * 256+gb c (2+2 * k):=by unfold num;rw [(O:1+2 * k+1=2+2 * k)]
 have g1:c[1+2 * k]?=some (gb c (1+2 * k)):=Ai O;have g2:c[2+2 * k]?=some (gb c (2+2 * k)):=Ai O;have hroom:∀v:Int,Aa (((List.range k).map (λk=>num c (1+2 * k))).length+([v]:List Int).length) 8=true:=λv=>by simp only [Aa,decide_eq_true_eq,Ky,AjZ];omega
 unfold DR cK gX wI;dsimp only;simp (disch:=omega) only [iy,e1,e2,AjO,hbm,AjM,g1,g2,ea,<- en,Ak,hroom,Akh,Wp]
theorem AcB {c l:List Int} {k:Nat} (hl:l.length<=1048576) (hk:k < l.length):Da (c,l,(l.length:Int),(k:Int))=some (if decide (gb l k=0)=true then .inl (c,l,(l.length:Int),((k+1:Nat):Int))else .inr (.inr false)):=by
 unfold Da gX wI;dsimp only;rw [iy O,iy O,AjO,Ai hk,AjM,Ak O];by_cases h:gb l k=0 <;> simp [h]
theorem Pm (l:List Int) (p:Int->Bool):(∀j,j < l.length->p (gb l j)=true)↔l.all p=true:=by
 rw [Aki];constructor
 .intro h v hv;obtain ⟨j,hj,rfl⟩:=Akq hv;have:=h j hj;unfold gb at this
  rwa [AjP hj,Akx]at this
 .intro h j hj;exact h _ (Akz (Ai hj))
theorem O4 {b:Bls} {x y z:List Int} (g:RS b x y) (a kind:Int):Hm b x y z a kind=some (pg b x y a kind):=by
 unfold Hm pg pgB gX sX;rw [LD g,AjM];cases hl:liv b x y a with
 | false=>rfl
 | true=>
  obtain ⟨m,rfl,h33,hm,_,_⟩:=Cn hl;have hc:=g.len hm;have hu:=g.hu _ (BA hm);have hbm:=Bp hm;rw [AjO];generalize hcc:blk b m=c at *;rw [AjR Z,iy O,hbm,AjM,iy O,show Int.toNat 0=0 from rfl,Ai (O:0 < c.length),AjM,AjM];dsimp only;by_cases h0:gb c 0=kind
  .rw [ino (not_not_intro h0),decide_eq_true h0];have hloop:=An DR (λk=>((m:Int),(List.range k).map (λk=>num c (1+2 * k)),((k:Nat):Int),b,x,y,z)) 32 ((m:Int),BO c,b,x,y,z)
    (λk hk=>YR hbm hc hu hk) (by
     unfold DR cK gX wI;dsimp only;rw [ino O];rfl)
   rw [show Ab DR ((m:Int),[],0,b,x,y,z)=_ from hloop,AjM];dsimp only;have hd:List.take (Int.toNat (c.length:Int) - Int.toNat 65) (List.drop (Int.toNat 65) c)=c.drop 65:=by
    rw [AjO,show Int.toNat 65=65 from rfl];exact AkA (by rw [Akf];omega)
   rw [iy O,AjO,hbm,AjM,iy O,iy O,iy O,iy O,hd];have hdl:(c.drop 65).length=63:=by rw [Akf,hc]
   rcases BN Da (λk=>(BO c,c.drop 65,(((c.drop 65).length:Nat):Int),((k:Nat):Int))) (λk=>decide (gb (c.drop 65) k=0)) (λ_=>false) (BO c) (c.drop 65).length
    (λk hk=>AcB O hk) (by
     unfold Da gX wI;dsimp only;rw [ino O])with⟨ha,hlp⟩ | ⟨k,hk,hp,_,hlp⟩
   .have hr:rz c 65=true:=(Pm (c.drop 65) λv=>decide (v=0)).1 ha;rw [show Ab Da (BO c,c.drop 65,(((c.drop 65).length:Nat):Int),0)=_ from hlp,AjM,hr];rfl
   .have hr:rz c 65=false:=by
     cases h:rz c 65 with
     | false=>rfl
     | true=>
      have:=(Pm (c.drop 65) λv=>decide (v=0)).2 h k hk;rw [hp]at this;cases this
    rw [show Ab Da (BO c,c.drop 65,(((c.drop 65).length:Nat):Int),0)=_ from hlp,AjM,hr];rfl
  .rw [iy h0,decide_eq_false h0];rfl
theorem Adx {l:List Int} (hl:l.length<=1048576):A3 l=some (l.any λv=>decide (¬ v=0)):=by
 unfold A3 BK;obtain ⟨r,hr,h⟩:=IX A5 (λv=>decide (¬ v=0)) l (λk hk=>by
  unfold A5 Jd gX wI;dsimp only;rw [iy O,iy O,AjO,Ai hk,AjM,AjM,Ak O];by_cases hz:gb l k=0 <;> simp [hz]) (by
  unfold A5 gX wI;dsimp only;rw [ino O])
 rw [hr,AjM];rcases h with⟨rfl,h⟩ | ⟨k,rfl,h⟩
 .rw [h];rfl
 .rw [h];dsimp only;rw [AjM,decide_eq_true O]
theorem Uo {b:Bls} {x y z:List Int} (g:RS b x y) (a kind:Int):F9 (b,x,y,z) a kind=some (pg b x y a kind):=by
 unfold F9 pg pgB gX sX;rw [Kc g,AjM];cases hl:liv b x y a with
 | false=>rfl
 | true=>
  obtain ⟨m,rfl,h33,hm,_,_⟩:=Cn hl;have hc:=g.len hm;have hu:=g.hu _ (BA hm);have hbm:=Bp hm;rw [AjO];generalize hcc:blk b m=c at *;rw [AjR Z];dsimp only;rw [iy O,hbm,AjM,iy O,show Int.toNat 0=0 from rfl,Ai (O:0 < c.length),AjM,AjM];dsimp only;by_cases h0:gb c 0=kind
  .rw [ino (not_not_intro h0),decide_eq_true h0];have hd:List.take (Int.toNat (c.length:Int) - Int.toNat 65) (List.drop (Int.toNat 65) c)=c.drop 65:=by
    rw [AjO,show Int.toNat 65=65 from rfl];exact AkA (by rw [Akf];omega)
   rw [iy O,AjO,hbm,AjM,iy O,iy O,iy O,iy O,hd,Adx (by rw [Akf];omega),M8,AjM];cases hr:rz c 65 with
   | false=>rfl
   | true=>
    have hloop:=An Ec (λk=>(c,(List.range k).map (λk=>num c (1+2 * k)),((k:Nat):Int))) 32 (BO c) (λk hk=>by
     have e1:=Aha (k:=k) O;have hn:=FV hu (i:=1+2 * k) O O;have hroom:∀v:Int,Aa (((List.range k).map (λk=>num c (1+2 * k))).length+([v]:List Int).length) 8=true:=λv=>by simp only [Aa,decide_eq_true_eq,Ky,AjZ];omega
     unfold Ec cK wI;dsimp only;simp (disch:=omega) only [iy,e1,hn,AjM,Ak,hroom,Akh,Wp]) (by
     unfold Ec cK wI;dsimp only;rw [ino O];rfl)
    rw [AjR Z,show Ab Ec (c,[],0)=_ from hloop,AjM];rfl
  .rw [iy h0,decide_eq_false h0];rfl
def nz (l:List Int):Bool:=l.any λv=>decide (¬ v=0)
theorem WN {l:List Int} (hl:l.length<=1048576):MK l=some (nz l):=by
 unfold MK nz;rcases BN GX (λk=>(l,(l.length:Int),((k:Nat):Int))) (λk=>decide (gb l k=0)) (λ_=>true) () l.length (λk hk=>by
  unfold GX gX wI;dsimp only;rw [iy O,iy O,AjO,Ai hk,AjM,Ak O];by_cases hz:gb l k=0 <;> simp [hz]) (by
  unfold GX gX wI;dsimp only;rw [ino O])with⟨ha,hlp⟩ | ⟨k,hk,hp,_,hlp⟩
 .rw [show Ab GX (l,(l.length:Int),0)=_ from hlp,AjM];have:=(Pm l λv=>decide (v=0)).1 ha;refine congrArg some (Eq.symm ?_);rw [AkV];intro v hv;have:=Aki.1 this v hv;simpa using this
 .rw [show Ab GX (l,(l.length:Int),0)=_ from hlp,AjM];refine congrArg some (Eq.symm ?_);rw [AlZ];exact⟨_,Akz (Ai hk),by simpa using hp⟩
theorem RM {l:List Int} (hl:l.length<=1048576):JE l=some (!nz l):=by
 unfold JE BS Ce nz;obtain ⟨r,hr,h⟩:=IX Bl (λv=>decide (¬ v=0)) l (λk hk=>by
  unfold Bl MB gX wI;dsimp only;rw [iy O,iy O,AjO,Ai hk,AjM,AjM,Ak O];by_cases hz:gb l k=0 <;> simp [hz]) (by
  unfold Bl gX wI;dsimp only;rw [ino O])
 rw [hr,AjM];rcases h with⟨rfl,h⟩ | ⟨k,rfl,h⟩
 .rw [h];rfl
 .rw [h];dsimp only;rw [AjM,AjM,decide_eq_true O]
def isb (b:Bls) (x:List Int) (v:Int):Bool:=decide (33<=v/\v<=(b.length:Int) - 1) && bit x v.toNat
theorem Aa3 {b:Bls} {x y z:List Int} (g:RS b x y) (v:Int):LX b x y z v=some (isb b x v):=by
 have hn:=g.hn;have hx:=g.hx;unfold LX isb wI;rw [Ca,w64 O O,AjM];by_cases h1:33<=v/\v<=(b.length:Int) - 1
 .obtain ⟨m,rfl⟩:=Akg (O:0<=v);rw [decide_eq_true h1,AjS rfl,JP O O,AjM,AjO];rfl
 .rw [decide_eq_false h1];rfl
def Mh (b:Bls) (x:List Int) (l:List Int):Bool:=l.any λv=>decide (¬ v=0) && !isb b x v
theorem Abw {b:Bls} {x y z:List Int} (g:RS b x y) (v:Int):GR v (some (b,x,y,z))=some (decide (¬ v=0) && !isb b x v,some (b,x,y,z)):=by
 unfold GR;by_cases h:v=0
 .rw [ino (not_not_intro h),decide_eq_false (not_not_intro h)];rfl
 .rw [iy h,decide_eq_true h,AjM,Ot g,AjM];rfl
theorem AdI {b:Bls} {x y z l:List Int} (g:RS b x y) (hl:l.length<=1048576):A4 l (some (b,x,y,z))=some (l,Mh b x l,some (b,x,y,z)):=by
 unfold A4 BL Mh;rcases BN AB (λk=>(l,(l.length:Int),((k:Nat):Int),some (b,x,y,z))) (λk=>!(decide (¬ gb l k=0) && !isb b x (gb l k))) (λk=>(l,((k:Nat):Int),some (b,x,y,z))) (l,some (b,x,y,z)) l.length (λk hk=>by
  unfold AB cK cZ wI;dsimp only;rw [iy O,iy O,iy O,AjO,Ake,Ai hk,AjM,Abw g,AjM,Ak O];dsimp only;cases (decide (¬ gb l k=0) && !isb b x (gb l k)) <;> rfl) (by
  unfold AB cK cZ wI;dsimp only;rw [ino O])with⟨ha,hlp⟩ | ⟨k,hk,hp,_,hlp⟩
 .rw [show Ab AB (l,(l.length:Int),0,some (b,x,y,z))=_ from hlp,AjM];dsimp only;rw [AjM];have:=(Pm l λv=>!(decide (¬ v=0) && !isb b x v)).1 ha;have h2:(l.any λv=>decide (¬ v=0) && !isb b x v)=false:=by
   rw [AkV];intro v hv;have:=Aki.1 this v hv;rw [Aj0]at this;rw [this];simp
  rw [h2];rfl
 .rw [show Ab AB (l,(l.length:Int),0,some (b,x,y,z))=_ from hlp,AjM];dsimp only;rw [AjM];have h2:(l.any λv=>decide (¬ v=0) && !isb b x v)=true:=by
   rw [AlZ];exact⟨_,Akz (Ai hk),by simpa using hp⟩
  rw [h2,decide_eq_true (show(0:Int)<=((k:Nat):Int) by omega)]
end Go.V.G
set_option maxRecDepth 100000
namespace Go.V.G
open Go.V
theorem QZ {σ τ ρ:Type} (L:σ->Option (σ⊕(τ⊕ρ))) (st:Nat->σ) (l:List Int) (p:Int->Bool) (e:ρ) (z:τ)
  (step:∀k,k < l.length->L (st k)=some (if p (gb l k)=true then .inr (.inr e)else .inl (st (k+1)))) (last:L (st l.length)=some (.inr (.inl z))) :
  Ab L (st 0)=some (if l.any p=true then .inr e else .inl z):=by
 rcases BN L st (λk=>!p (gb l k)) (λ_=>e) z l.length (λk hk=>by rw [step k hk];cases p (gb l k) <;> rfl) last with⟨ha,hlp⟩ | ⟨k,hk,hp,_,hlp⟩
 .have:=(Pm l λv=>!p v).1 ha;have h2:l.any p=false:=by
   rw [AkV];intro v hv;have:=Aki.1 this v hv;simpa using this
  rw [hlp,h2];rfl
 .have h2:l.any p=true:=by
   rw [AlZ];exact⟨_,Akz (Ai hk),by simpa using hp⟩
  rw [hlp,h2];rfl
theorem P5 {α:Type} (n k:Nat) (g h:Nat->α):((List.range n).map (λj=>if j < k then g j else h j)).set k (g k)=(List.range n).map (λj=>if j < k+1 then g j else h j):=by
 apply AkK;intro i;rw [Al7,Akr,Akr,Akj,List.length_range];by_cases hi:i < n
 .rw [AlK hi];by_cases hki:k=i
  .subst hki;simp [hi]
  .have:(i < k)=(i < k+1):=by apply propext;omega
   simp [hki,this]
 .rw [Aka (by simpa using hi)];by_cases hki:k=i
  .subst hki;simp [hi]
  .simp [hki]
theorem PY {α:Type} (n:Nat) (f:Nat->α) {k:Nat} (h:k < n):((List.range n).map f)[k]?=some (f k):=by rw [Akr,AlK h];rfl
theorem P2 {α:Type} (n:Nat) (g h:Nat->α):(List.range n).map (λj=>if j < n then g j else h j)=(List.range n).map g:=
 AkM λj hj=>AjS (Als.1 hj)
theorem map_none {α:Type} (n:Nat) (g h:Nat->α):(List.range n).map (λj=>if j < 0 then g j else h j)=(List.range n).map h:=
 AkM λj _=>AjR O
theorem JO {α:Type} (n:Nat) (v:α):(List.range n).map (λ_=>v)=List.replicate n v:=by
 apply AkK;intro i;rw [Akr,List.getElem?_replicate];by_cases hi:i < n
 .rw [AlK hi,AjS hi];rfl
 .rw [AjR hi,Aka (by simpa using hi)];rfl
theorem Abv {l:List Int} {n:Nat} (h:l.length=n):(List.range n).map (gb l)=l:=by
 apply AkK;intro i;rw [Akr];by_cases hi:i < n
 .rw [AlK hi,Ai O];rfl
 .rw [Aka (by simpa using hi),Aka O];rfl
def zer:List Int:=List.replicate 32 0
def lfs (b:Bls) (a:Int):List Int:=if a=0 then []else BO (blk b a.toNat)
def lfv (b:Bls) (a:Int):List Int:=if a=0 then zer else BO (blk b a.toNat)
theorem ZE (b:Bls) (a:Int):(lfv b a).length=32:=by unfold lfv zer;split <;> simp [Fh]
def stG (b:Bls) (x y top:List Int) (k:Nat):Bool:=
 decide (gb top k=0) || (pgB b x y (gb top k) 81 && (nz (BO (blk b (gb top k).toNat)) && (!(top.take k).any (λv=>decide (v=gb top k)) && !Mh b x (BO (blk b (gb top k).toNat)))))
def IF (b:Bls) (root:Int):List Int:=BO (blk b root.toNat)
def tre (b:Bls) (x y:List Int) (root:Int):Option (List Int):=
 if root=0 then some zer else if(pgB b x y root 80 && (nz (IF b root) && (List.range 32).all (stG b x y (IF b root))))=true then some (IF b root)else none
theorem Ahh {b:Bls} {x y z top:List Int} {lv:List (List Int)} {a n:Int} {k:Nat} (hk:k<=top.length) (ht:top.length<=1000) :
  Ab Hf (lv,top,(k:Int),a,n,(k:Int),((0:Nat):Int),(k:Int),(k:Int),0,b,x,y,z) =
   some (if(top.take k).any (λv=>decide (v=a))=true then .inr false else .inl (lv,top,(k:Int),a,n,(k:Int),b,x,y,z)):=by
 have hl:(top.take k).length=k:=by rw [AjW];omega
 exact QZ Hf (λi=>(lv,top,(k:Int),a,n,(k:Int),((0:Nat):Int),(k:Int),(k:Int),((i:Nat):Int),b,x,y,z)) (top.take k) (λv=>decide (v=a)) false
  (lv,top,(k:Int),a,n,(k:Int),b,x,y,z) (λi hi=>by
   have hi':i < k:=O
   have hg:top[i]?=some (gb (top.take k) i):=by
    rw [<- Ai hi,Aj7 hi']
   unfold Hf cK cZ wI;dsimp only;have hd:((List.drop (Int.toNat ((0:Nat):Int)) top).take (Int.toNat (k:Int))).length=k:=by
    rw [AjO,AjO,AkR,hl]
   rw [iy O,iy O,hd,iy O];simp only [AjO,Ake];rw [hg,AjM,Ak O];by_cases h:gb (top.take k) i=a
   .rw [iy h,decide_eq_true h];rfl
   .rw [ino h,decide_eq_false h];rfl) (by
   rw [hl];unfold Hf cK cZ wI;dsimp only;rw [ino O])
theorem Ahi {b:Bls} {x y z top l:List Int} {lv:List (List Int)} {n:Int} {i j:Int} (g:RS b x y) (hl:l.length<=1000) :
  Ab Hk (lv,top,i,l,n,j,(l.length:Int),0,b,x,y,z)=some (if Mh b x l=true then .inr false else .inl (lv,top,i,l,n,j,b,x,y,z)):=by
 exact QZ Hk (λk=>(lv,top,i,l,n,j,(l.length:Int),((k:Nat):Int),b,x,y,z)) l (λv=>decide (¬ v=0) && !isb b x v) false
  (lv,top,i,l,n,j,b,x,y,z) (λk hk=>by
   unfold Hk cK cZ wI;dsimp only;rw [iy O,iy O,iy O,AjO,Ake,Ai hk,AjM];by_cases h:gb l k=0
   .rw [ino (not_not_intro h),decide_eq_false (not_not_intro h),AjM];dsimp only;rw [Ak O];rfl
   .rw [iy h,decide_eq_true h,Aa3 g,AjM,AjM];dsimp only;rw [Ak O];cases isb b x (gb l k) <;> rfl) (by
   unfold Hk cK cZ wI;dsimp only;rw [ino O])
theorem YN {b:Bls} {x y z top:List Int} {k:Nat} (g:RS b x y) (ht:top.length=32) (hk:k < 32) :
  Ey ((List.range 32).map (λj=>if j < k then lfs b (gb top j)else []),top,((32:Nat):Int),(k:Int),b,x,y,z) =
   some (if stG b x y top k=true then .inl ((List.range 32).map (λj=>if j < k+1 then lfs b (gb top j)else []),top,((32:Nat):Int),((k+1:Nat):Int),b,x,y,z)else .inr (.inr false)):=by
 have hs:=P5 32 k (λj=>lfs b (gb top j)) (λ_=>[]);have hgt:=PY 32 (λj=>if j < k then lfs b (gb top j)else []) hk;have hln:((List.range 32).map (λj=>if j < k then lfs b (gb top j)else [])).length=32:=Ky _ _;generalize (List.range 32).map (λj=>if j < k then lfs b (gb top j)else [])=lv at *;have hgk:top[k]?=some (gb top k):=Ai O;have hd:((List.drop (Int.toNat 0) top).take (Int.toNat (k:Int) - Int.toNat 0)).length=k:=by
  rw [AjO,show Int.toNat 0=0 from rfl,AkR,AlD,AjW];omega
 have hz0:(((Int.toNat 0:Nat)):Int)=((0:Nat):Int):=rfl;have hzk:(((Int.toNat (k:Int) - Int.toNat 0:Nat)):Int)=(k:Int):=by rw [AjO];rfl
 have hdup:=Ahh (b:=b) (x:=x) (y:=y) (z:=z) (lv:=lv) (a:=gb top k) (n:=((32:Nat):Int)) (O:k<=top.length) O;unfold Ey cK cZ sX wI;dsimp only;rw [iy O,iy O,iy O,AjO,Ake,hgk,AjM];unfold stG;generalize hak:gb top k=a at *;by_cases h0:a=0
 .rw [iy h0,AjM];dsimp only;rw [Ak O,decide_eq_true h0,Bool.true_or,AjS rfl,<- hs];refine congrArg some (congrArg Sum.inl ?_);have:lfs b a=[]:=by unfold lfs;rw [AjS h0]
  rw [this];refine congrArg (λq=>(q,_)) ?_;apply AkK;intro i;rw [Al7];split
  .rename_i he;subst he;rw [AjS O,hgt,AjR O]
  .rfl
 rw [ino h0,decide_eq_false h0,Ak3,iy O,iy O,iy O,iy O];rw [AjO]at hd hzk;rw [hd,hz0,hzk,hdup,AjM];cases hdp:(top.take k).any λv=>decide (v=a)with
 | true=>
  rw [AjS rfl];dsimp only;rw [AjM];dsimp only;rw [AkF,Alc,AlY,AlY,AjR Z]
 | false=>
  rw [AjR Z];dsimp only;rw [O4 g,AlH,Aj3];cases hp:pgB b x y a 81 with
  | false=>
   rw [VC hp,AjM];dsimp only;rw [AjS Z,AjM];dsimp only;rw [AjS rfl,AjM];dsimp only;rw [Alc,AjR Z]
  | true=>
   rw [R4 hp,AjM];dsimp only;have hpl:=Fh (blk b a.toNat);rw [AjR Z,WN O,AjM,AjM];dsimp only;rw [Aj3];cases hnz:nz (BO (blk b a.toNat))with
   | false=>
    rw [AjS Z,AjM];dsimp only;rw [Alc,AjR Z]
   | true=>
    rw [AjR Z,Ahi g O,AjM,Aj3];cases hbd:Mh b x (BO (blk b a.toNat))with
    | true=>
     rw [AjS rfl];dsimp only;rw [AjM];rfl
    | false=>
     rw [AjR Z];dsimp only;have hg2:lv[0+k]?=some []:=by rw [Ake,hgt,AjR O]
     rw [iy O,hln,iy O,AjO,hg2,AjM,AjM,AjM,Ake];dsimp only;rw [Ak O,AlH,AjS rfl,<- hs];have:lfs b a=BO (blk b a.toNat):=by unfold lfs;rw [AjR h0]
     rw [this]
def trS (b:Bls) (o:Option (List Int)):List (List Int)×(List Int×Bool):=match o with
 | some top=>(top.map (lfs b),top,true)
 | none=>([],[],false)
def trI (b:Bls) (root:Int) (o:Option (List Int)):Bool×(Int×(List Int×List (List Int))):=match o with
 | some top=>(true,root,top,top.map (lfv b))
 | none=>(false,0,[],[])
theorem Adq {α:Type} (f:Int->α) {l:List Int} {n:Nat} (h:l.length=n):(List.range n).map (λj=>f (gb l j))=l.map f:=by
 have:=congrArg (List.map f) (Abv h);rw [AkL]at this;exact this
theorem AgY:Aa (Int.toNat 32) 24=true:=by simp [Aa]
theorem rm8:Aa (Int.toNat 32) 8=true:=by simp [Aa]
theorem OT {b:Bls} {x y z:List Int} (g:RS b x y) (root:Int):Jc b x y z root=some (trS b (tre b x y root)):=by
 unfold Jc tre cK cZ;rw [iy O,iy O,AjS AgY,iy O,iy O,AjS rm8];by_cases h0:root=0
 .rw [iy h0,AjS h0];unfold trS zer;dsimp only;rw [List.map_replicate];rfl
 rw [ino h0,AjR h0,O4 g];unfold IF;cases hp:pgB b x y root 80 with
 | false=>rw [VC hp];rfl
 | true=>
  rw [R4 hp,AjM];dsimp only;have hpl:=Fh (blk b root.toNat);generalize BO (blk b root.toNat)=top at *;rw [AjR Z,WN O,AjM,AjM];dsimp only;rw [Aj3];cases hnz:nz top with
  | false=>rfl
  | true=>
   rw [AjR Z,hpl,Aj3];have e0:List.replicate (Int.toNat 32) ([]:List Int)=(List.range 32).map (λj=>if j < 0 then lfs b (gb top j)else []):=by
    rw [map_none,JO];rfl
   rw [e0];rcases BN Ey (λk=>((List.range 32).map (λj=>if j < k then lfs b (gb top j)else []),top,((32:Nat):Int),((k:Nat):Int),b,x,y,z)) (λk=>stG b x y top k) (λ_=>false)
    ((List.range 32).map (λj=>if j < 32 then lfs b (gb top j)else []),top) 32 (λk hk=>YN g hpl hk) (by
     unfold Ey cK cZ sX wI;dsimp only;rw [ino O])with⟨ha,hlp⟩ | ⟨k,hk,hq,_,hlp⟩
   .rw [show Ab Ey ((List.range 32).map (λj=>if j < 0 then lfs b (gb top j)else []),top,((32:Nat):Int),0,b,x,y,z)=_ from hlp,AjM,AjS (all_range.2 ha),P2,Adq _ hpl];rfl
   .have hn:((List.range 32).all (stG b x y top))=false:=by
     cases h:(List.range 32).all (stG b x y top)with
     | false=>rfl
     | true=>have:=all_range.1 h k hk;rw [hq]at this;cases this
    rw [show Ab Ey ((List.range 32).map (λj=>if j < 0 then lfs b (gb top j)else []),top,((32:Nat):Int),0,b,x,y,z)=_ from hlp,AjM,hn];rfl
theorem Yz {b:Bls} {x y z:List Int} (root:Int):Ab Ed (root,(List.length (List.replicate (Int.toNat 32) ([]:List Int)):Int),0,some (b,x,y,z),0,root,List.replicate (Int.toNat 32) (0:Int),List.replicate (Int.toNat 32) ([]:List Int)) =
  some (root,some (b,x,y,z),0,root,zer,List.replicate 32 zer):=by
 have hln:∀k,((List.range 32).map (λj=>if j < k then zer else([]:List Int))).length=32:=λk=>Ky _ _
 have hl:=An Ed (λk=>(root,((32:Nat):Int),((k:Nat):Int),some (b,x,y,z),0,root,zer,(List.range 32).map (λj=>if j < k then zer else []))) 32 (root,some (b,x,y,z),0,root,zer,(List.range 32).map (λj=>if j < 32 then zer else [])) (λk hk=>by
   have hs:=P5 32 k (λ_=>zer) (λ_=>([]:List Int));have hgt:=PY 32 (λj=>if j < k then zer else([]:List Int)) hk;have h1:=hln k;generalize (List.range 32).map (λj=>if j < k then zer else([]:List Int))=lv at *;unfold Ed cK cZ wI;dsimp only;rw [iy O,iy O,iy O,AjS rm8,iy O,h1,iy O,AjO,Ake,hgt,AjM,AjM,Ak O,<- hs];rfl) (by
   unfold Ed cK cZ wI;dsimp only;rw [ino O])
 rw [P2,JO]at hl;have e0:List.replicate (Int.toNat 32) ([]:List Int)=(List.range 32).map (λj=>if j < 0 then zer else []):=by
  rw [map_none,JO];rfl
 rw [e0,hln 0];exact hl
theorem Za {b:Bls} {x y z top:List Int} {root:Int} {k:Nat} (g:RS b x y) (ht:top.length=32) (hk:k < 32) :
  CS (top,((32:Nat):Int),(k:Int),some (b,x,y,z),0,root,(List.range 32).map (λj=>if j < k then gb top j else 0),(List.range 32).map (λj=>if j < k then lfv b (gb top j)else zer)) =
   some (if stG b x y top k=true then .inl (top,((32:Nat):Int),((k+1:Nat):Int),some (b,x,y,z),0,root,(List.range 32).map (λj=>if j < k+1 then gb top j else 0),(List.range 32).map (λj=>if j < k+1 then lfv b (gb top j)else zer))else .inr (.inr (false,0))):=by
 have hs1:=P5 32 k (λj=>gb top j) (λ_=>(0:Int));have hs2:=P5 32 k (λj=>lfv b (gb top j)) (λ_=>zer);have hg1:=PY 32 (λj=>if j < k then gb top j else 0) hk;have hg2:=PY 32 (λj=>if j < k then lfv b (gb top j)else zer) hk;have hl1:((List.range 32).map (λj=>if j < k then gb top j else 0)).length=32:=Ky _ _;have hl2:((List.range 32).map (λj=>if j < k then lfv b (gb top j)else zer)).length=32:=Ky _ _;generalize (List.range 32).map (λj=>if j < k then gb top j else 0)=lv at *;generalize (List.range 32).map (λj=>if j < k then lfv b (gb top j)else zer)=vs at *;have hgk:top[k]?=some (gb top k):=Ai O;have hd:(List.drop (Int.toNat 0) top).take (k - Int.toNat 0)=top.take k:=by
  rw [show Int.toNat 0=0 from rfl,AkR,AlD]
 rw [AjR O]at hg1 hg2;unfold CS cK cZ sX wI;dsimp only;rw [iy O,iy O,iy O,AjO,Ake,hgk,AjM];unfold stG;generalize hak:gb top k=a at *;by_cases h0:a=0
 .rw [iy h0,AjM];dsimp only;rw [Ak O,decide_eq_true h0,Bool.true_or,AjS rfl];have e1:lfv b a=zer:=by unfold lfv;rw [AjS h0]
  rw [e1]at hs2;rw [h0]at hs1;rw [<- hs1,<- hs2];have q1:lv.set k 0=lv:=by
   apply AkK;intro i;rw [Al7];split
   .rename_i he;subst he;rw [AjS O,hg1]
   .rfl
  have q2:vs.set k zer=vs:=by
   apply AkK;intro i;rw [Al7];split
   .rename_i he;subst he;rw [AjS O,hg2]
   .rfl
  rw [q1,q2]
 have hpl:=Fh (blk b a.toNat);have e1:lfv b a=BO (blk b a.toNat):=by unfold lfv;rw [AjR h0]
 rw [e1]at hs2;rw [ino h0,decide_eq_false h0,Ak3,AjM,Uo g];cases hp:pgB b x y a 81 with
 | false=>
  rw [VC hp,AjM];dsimp only;rw [AjS Z,AjM];dsimp only;rw [AjS rfl,AjM];dsimp only;rw [Alc,AjR Z]
 | true=>
  rw [R4 hp,AjM];dsimp only;rw [AjR Z,RM O,AjM,Aj3];cases hnz:nz (BO (blk b a.toNat))with
  | false=>
   rw [AjS Z,AjM];dsimp only;rw [AjS rfl,AjM];dsimp only;rw [Alc,AjR Z]
  | true=>
   rw [AjR Z,iy O,iy O,iy O,iy O,hd,FX (by rw [AjW];omega),AjM,Aj3];have hany:((top.take k).any λv=>decide (v=a))=decide (a∈top.take k):=by
    by_cases hm:a∈top.take k
    .rw [decide_eq_true hm,AlZ];exact⟨a,hm,Z⟩
    .rw [decide_eq_false hm,AkV];intro v hv hva;have:v=a:=by simpa using hva
     exact hm (this ▸ hv)
   rw [hany];cases hdp:decide (a∈top.take k)with
   | true=>
    rw [AjS rfl,AjM];dsimp only;rw [AjS rfl,AjM];rfl
   | false=>
    rw [AjR Z,AdI g O,AjM,AjM];dsimp only;cases hbd:Mh b x (BO (blk b a.toNat))with
    | true=>
     rw [AjS rfl,AjM];rfl
    | false=>
     rw [AjR Z,iy O,hl1,iy O,AjO,Ake,hg1,AjM,AjM,iy O,hl2,iy O,hg2,AjM,AjM,AjM];dsimp only;rw [Ak O,AjS Z,hs1,hs2]
theorem T0 {b:Bls} {x y z:List Int} (g:RS b x y) (root:Int):GB (b,x,y,z) root=some (trI b root (tre b x y root)):=by
 unfold GB tre cK cZ;rw [iy O,iy O,AjS rm8,iy O,iy O,AjS AgY,Yz,AjM];dsimp only;by_cases h0:root=0
 .rw [iy h0,AjS h0];unfold trI;dsimp only;have:zer.map (lfv b)=List.replicate 32 zer:=by unfold zer;rw [List.map_replicate];rfl
  rw [this]
 rw [ino h0,AjR h0,AjM,Uo g];unfold IF;cases hp:pgB b x y root 80 with
 | false=>rw [VC hp];rfl
 | true=>
  rw [R4 hp,AjM];dsimp only;have hpl:=Fh (blk b root.toNat);generalize BO (blk b root.toNat)=top at *;rw [AjR Z,RM O,AjM,AjM];dsimp only;rw [Aj3];cases hnz:nz top with
  | false=>rfl
  | true=>
   rw [AjR Z,hpl,Aj3];have e0:zer=(List.range 32).map (λj=>if j < 0 then gb top j else 0):=by
    rw [map_none,JO];rfl
   have e1:List.replicate 32 zer=(List.range 32).map (λj=>if j < 0 then lfv b (gb top j)else zer):=by
    rw [map_none,JO]
   rw [e1];rcases BN CS (λk=>(top,((32:Nat):Int),((k:Nat):Int),some (b,x,y,z),0,root,(List.range 32).map (λj=>if j < k then gb top j else 0),(List.range 32).map (λj=>if j < k then lfv b (gb top j)else zer))) (λk=>stG b x y top k) (λ_=>(false,0))
    (0,root,(List.range 32).map (λj=>if j < 32 then gb top j else 0),(List.range 32).map (λj=>if j < 32 then lfv b (gb top j)else zer)) 32 (λk hk=>Za g hpl hk) (by
     unfold CS cK cZ sX wI;dsimp only;rw [ino O])with⟨ha,hlp⟩ | ⟨k,hk,hq,_,hlp⟩
   .have hlp':Ab CS (top,((32:Nat):Int),0,some (b,x,y,z),0,root,zer,(List.range 32).map (λj=>if j < 0 then lfv b (gb top j)else zer))=_:=e0 ▸ hlp;rw [hlp',AjM,AjS (all_range.2 ha),P2,P2,Adq _ hpl,Abv hpl];rfl
   .have hn:((List.range 32).all (stG b x y top))=false:=by
     cases h:(List.range 32).all (stG b x y top)with
     | false=>rfl
     | true=>have:=all_range.1 h k hk;rw [hq]at this;cases this
    have hlp':Ab CS (top,((32:Nat):Int),0,some (b,x,y,z),0,root,zer,(List.range 32).map (λj=>if j < 0 then lfv b (gb top j)else zer))=_:=e0 ▸ hlp;rw [hlp',AjM,hn];rfl
theorem HC {b:Bls} {x y z:List Int} (h:SB b x y z) (hu:∀c∈b,U8s c) (root:Int):G4 b x y z root=some (gsp b x y z && (tre b x y root).isSome):=by
 unfold G4;rw [MY h,AjM];cases hg:gsp b x y z with
 | false=>rfl
 | true=>
  rw [AjR Z,OT ((Qe hg).rs h hu),AjM];unfold trS;cases tre b x y root <;> rfl
end Go.V.G
set_option maxRecDepth 100000
namespace Go.V.G
open Go.V
abbrev Kv:=Int×Int
def sg (l:List Kv) (i:Nat):Kv:=l[i]?.getD (0,0)
theorem I7 {l:List Kv} {i:Nat} (h:i < l.length):l[i]?=some (sg l i):=by unfold sg;rw [AjP h];rfl
def Abs (b:Bls) (x y:List Int) (l:List Kv) (i:Nat):Bool:=
 decide (0<=(sg l i).1/\(sg l i).1<=1023) && ((decide ((sg l i).2=0) || liv b x y (sg l i).2) && (decide (i=0) || decide ((sg l (i - 1)).1 < (sg l i).1)))
def Abp (b:Bls) (x y:List Int) (l:List Kv):Bool:=decide (l.length<=64) && (List.range l.length).all (Abs b x y l)
theorem im1 {k:Nat} (h:k<=1048576) (h0:0 < k):IntKind.wrap .i64 ((k:Int) - 1)=((k - 1:Nat):Int):=by rw [w64 O O];omega
def Ks (l:List Kv):Prop:=∀s∈l,0<=s.1/\s.1<=1023
def upd (k:Nat) (l:List Int) (s:Kv):List Int:=if s.1.toNat / 32=k then l.set (s.1.toNat % 32) s.2 else l
def av (b:Bls) (top:List Int) (l:List Kv) (k:Nat):List Int:=l.foldl (upd k) (lfv b (gb top k))
def oth (l:List Kv) (k:Nat):Bool:=l.any λs=>decide (s.1.toNat / 32=k)
def aft (b:Bls) (top:List Int) (l:List Kv) (k:Nat):List Int:=if oth l k=true then av b top l k else lfs b (gb top k)
theorem CW {α:Type} {l:List α} {i:Nat} {s:α} (h:l[i]?=some s):l.take (i+1)=l.take i++[s]:=by
 obtain ⟨hi,rfl⟩:=Akn.1 h;exact Akd hi
theorem Afl {b:Bls} {top:List Int}:∀{l:List Kv} {k:Nat},oth l k=false->av b top l k=lfv b (gb top k):=by
 intro l k h;unfold av;unfold oth at h;rw [AkV]at h;generalize lfv b (gb top k)=v
 induction l generalizing v with
 | nil=>rfl
 | cons s l ih=>
  rw [Alj];have h1:=h s Z;have:upd k v s=v:=by unfold upd;rw [AjR (by simpa using h1)]
  rw [this];exact ih (λs hs=>h s (by simp [hs])) v
theorem Oe (k:Nat):∀(l:List Kv) (v:List Int),(l.foldl (upd k) v).length=v.length
 | [],v=>rfl
 | s::l,v=>by
  rw [Alj,Oe k l];unfold upd;split <;> simp
theorem Sr (b:Bls) (top:List Int) (l:List Kv) (k:Nat):(av b top l k).length=32:=by unfold av;rw [Oe,ZE]
theorem Ago {n:Int} (h:0<=n/\n<=1023):IntKind.wrap .i64 (Int.tdiv n 32)=((n.toNat / 32:Nat):Int)/\n.toNat / 32 < 32:=by
 obtain ⟨m,rfl⟩:=Akg h.1;have hm:m<=1023:=O
 rw [Int.tdiv_eq_ediv_of_nonneg O,AjO,w64 O O];omega
theorem AfM {n:Int} (h:0<=n/\n<=1023):Int.tmod n 32=((n.toNat % 32:Nat):Int)/\n.toNat % 32 < 32:=by
 obtain ⟨m,rfl⟩:=Akg h.1;rw [Aln O,AjO];omega
def nwC (b:Bls) (top:List Int) (l:List Kv):Nat->Nat
 | 0=>0
 | k+1=>nwC b top l k+(if(oth l k && nz (av b top l k))=true then 1 else 0)
def anC (b:Bls) (top:List Int) (l:List Kv) (k:Nat):Bool:=(List.range k).any λj=>nz (av b top l j)
end Go.V.G
set_option maxRecDepth 100000
namespace Go.V.G
open Go.V
def D7 (n:Int):List Int:=[IntKind.wrap .u8 (n / 256),IntKind.wrap .u8 n]
def pgb (kind:Int) (l:List Int):List Int:=[kind]++l.flatMap D7
theorem OB:∀l:List Int,(l.flatMap D7).length=2 * l.length
 | []=>rfl
 | a::l=>by rw [Ak9,AjU,OB l];simp [D7];omega
theorem Aar (kind:Int) {l:List Int} (h:l.length=32):(pgb kind l).length=65:=by unfold pgb;rw [AjU,OB,h];rfl
def V2 (l:List Int):Prop:=∀v∈l,0<=v/\v<=65535
theorem Ags {n:Int} (h:0<=n/\n<=65535):Lu n=some (D7 n):=by
 unfold Lu D7 cZ wB;rw [iy O,show(2:Int) ^ (min (Int.toNat 8) (IntKind.bits .i64))=256 from rfl,AlR _ O]
theorem Ai9 {n:Int} (h:0<=n/\n<=65535):IntKind.wrap .i64 (Int.tdiv n 256)=n / 256:=by
 rw [Int.tdiv_eq_ediv_of_nonneg h.1,w64 O O]
theorem Ac9 {kind:Int} {l:List Int} (hk:0<=kind/\kind<=255):U8s (Dq (pgb kind l)):=Ag1 λv hv=>by
 unfold pgb at hv;rcases AjV.1 hv with hv | hv
 .rw [AjX.1 hv];exact hk
 .obtain ⟨a,_,ha⟩:=AlS.1 hv;unfold D7 at ha;simp only [Aj5,Al1,or_false]at ha;rcases ha with rfl | rfl <;> exact SU _
theorem Aah:∀{a b:List Int},Ris a->Ris b->(∀v,v∈a↔v∈b)->a=b:=by
 intro a b ha hb;rw [ris_iff]at ha hb
 induction a generalizing b with
 | nil=>
  intro h;cases b with
  | nil=>rfl
  | cons v b=>exact absurd ((h v).2 Z) Z
 | cons v a ih=>
  intro h;cases b with
  | nil=>exact absurd ((h v).1 Z) Z
  | cons w b=>
   rw [List.pairwise_cons]at ha hb;have hvw:v=w:=by
    have h1:=(h v).1 Z;have h2:=(h w).2 Z;rcases Aj5.1 h1 with h1 | h1
    .exact h1
    .rcases Aj5.1 h2 with h2 | h2
     .exact h2.symm
     .have:=ha.1 w h2;have:=hb.1 v h1;omega
   subst hvw;refine congrArg (v :: ·) (ih ha.2 hb.2 λu=>?_);have hu:=h u;constructor
   .intro hm;rcases Aj5.1 (hu.1 (by simp [hm]))with rfl | h3
    .have:=ha.1 u hm;omega
    .exact h3
   .intro hm;rcases Aj5.1 (hu.2 (by simp [hm]))with rfl | h3
    .have:=hb.1 u hm;omega
    .exact h3
noncomputable def pts (z l:List Int):List Int:=l.foldl pt z
theorem Adz (z l:List Int) (v:Int):pts z (l++[v])=pt (pts z l) v:=by unfold pts;rw [Alr];rfl
theorem Acv {z:List Int} (hr:Ris z):∀{l:List Int},z.length+l.length<=1048576->Ris (pts z l)/\(pts z l).length<=z.length+l.length/\∀v,v∈pts z l↔v∈z\/v∈l:=by
 intro l
 induction l generalizing z with
 | nil=>intro h;exact⟨hr,by simp [pts],λv=>by simp [pts]⟩
 | cons a l ih=>
  intro h;rw [Aj1]at h;obtain ⟨_,_,h3,h4,h5⟩:=LQ (z:=z) O hr a;obtain ⟨i1,i2,i3⟩:=ih h4 O;refine⟨i1,?_,λv=>?_⟩
  .have:pts z (a::l)=pts (pt z a) l:=rfl;rw [this,Aj1];omega
  .have:pts z (a::l)=pts (pt z a) l:=rfl;rw [this,i3 v,h5 v,Aj5];constructor
   .rintro ((h | h) | h)
    .exact .inl h
    .exact .inr (.inl h)
    .exact .inr (.inr h)
   .rintro (h | h | h)
    .exact .inl (.inl h)
    .exact .inl (.inr h)
    .exact .inr h
def tl (l:List Kv):Nat->Nat->List Int
 | _,0=>[]
 | k,d+1=>if oth l k=true then(k:Int)::tl l (k+1) d else tl l (k+1) d
def qk (s:Kv):Int:=((s.1.toNat / 32:Nat):Int)
noncomputable def AjI (l:List Kv):List Int:=pts [] (l.map qk)
def goS (nx go:List Int) (k:Nat):List Int:=if gb nx k=0 then go else go++[gb nx k]
theorem Aac {go:List Int} (h:go.length<=1000) (v:Int):Aa (go.length+([v]:List Int).length) 8=true:=by simp only [Aa,decide_eq_true_eq,AjZ];omega
section
variable {b:Bls} {x y z nx go T top A:List Int} {vals vals0:List (List Int)} {root:Int} {j k:Nat}
variable {ots:List Bool} {lvs:List (List Int)}
end
end Go.V.G
set_option maxRecDepth 100000
namespace Go.V.G
open Go.V
theorem PI {l:List Int} {k:Nat} {v:Int} (h:k < l.length):gb (l.set k v) k=v:=by unfold gb;rw [Alh h];rfl
theorem Do {l:List Int} {k j:Nat} {v:Int} (h:k≠j):gb (l.set k v) j=gb l j:=by unfold gb;rw [List.getElem?_set_ne h]
def Mq (top:List Int) (l:List Kv):Nat->List Int
 | 0=>[]
 | k+1=>if oth l k=true then goS top (Mq top l k) k else Mq top l k
theorem Yb (top:List Int) (l:List Kv):∀k,(Mq top l k).length<=k
 | 0=>Akk _
 | k+1=>by
  have:=Yb top l k;simp only [Mq];split
  .unfold goS;split
   .omega
   .rw [AjU,AjZ];omega
  .omega
structure Tv (n:Nat) (b0:Bls) (x0 z0 top:List Int) (l:List Kv) (k:Nat) (nx:List Int) (b:Bls) (x z:List Int) (q:Nat):Prop where
 wk:Wk n b x z q
 bu:∀c∈b,U8s c
 nl:nx.length=32
 dn:∀j,j < k->oth l j=true->nz (av b0 top l j)=true->∃m:Nat,gb nx j=(m:Int)/\(33<=m/\m < n)/\bit x0 m=false/\bit x m=true/\blk b m=Dq (pgb 81 (av b0 top l j))
 dz:∀j,j < k->oth l j=true->nz (av b0 top l j)=false->gb nx j=0
 st:∀j,j < 32->(k<=j\/oth l j=false)->gb nx j=gb top j
 ds:∀i j,i < j->j < k->oth l i=true->oth l j=true->nz (av b0 top l i)=true->nz (av b0 top l j)=true->gb nx i≠gb nx j
 ot:∀i,i < 160->bit x0 i=true->blk b i=blk b0 i/\bit x i=true
 zm:∀v∈z,v∈z0\/∃m:Nat,v=(m:Int)/\(33<=m/\m < n)/\bit x m=true
 hi:∀i,n<=i->i < 160->bit x i=bit x0 i
section
variable {n:Nat} {b0 b:Bls} {x0 z0 top nx x z:List Int} {l:List Kv} {k q:Nat}
theorem Tv.skip (h:Tv n b0 x0 z0 top l k nx b x z q) (ho:oth l k=false):Tv n b0 x0 z0 top l (k+1) nx b x z q:=by
 refine⟨h.wk,h.bu,h.nl,λj hj h1 h2=>?_,λj hj h1 h2=>?_,λj hj h1=>?_,λi j hij hj h1 h2 h3 h4=>?_,h.ot,h.zm,h.hi⟩
 .by_cases hjk:j=k
  .subst hjk;rw [ho]at h1;cases h1
  .exact h.dn j O h1 h2
 .by_cases hjk:j=k
  .subst hjk;rw [ho]at h1;cases h1
  .exact h.dz j O h1 h2
 .rcases h1 with h1 | h1
  .exact h.st j hj (.inl O)
  .exact h.st j hj (.inr h1)
 .by_cases hjk:j=k
  .subst hjk;rw [ho]at h2;cases h2
  .exact h.ds i j hij O h1 h2 h3 h4
theorem Tv.no (h:Tv n b0 x0 z0 top l k nx b x z q) (hk:k < 32) (ho:oth l k=true) (hz:nz (av b0 top l k)=false):Tv n b0 x0 z0 top l (k+1) (nx.set k 0) b x z q:=by
 have hnl:=h.nl;refine⟨h.wk,h.bu,by rw [AkQ];exact h.nl,λj hj h1 h2=>?_,λj hj h1 h2=>?_,λj hj h1=>?_,λi j hij hj h1 h2 h3 h4=>?_,h.ot,h.zm,h.hi⟩
 .by_cases hjk:k=j
  .subst hjk;rw [hz]at h2;cases h2
  .rw [Do hjk];exact h.dn j O h1 h2
 .by_cases hjk:k=j
  .subst hjk;exact PI O
  .rw [Do hjk];exact h.dz j O h1 h2
 .have hne:k≠j:=by
   rintro rfl;rcases h1 with h1 | h1
   .omega
   .rw [ho]at h1;cases h1
  rw [Do hne];rcases h1 with h1 | h1
  .exact h.st j hj (.inl O)
  .exact h.st j hj (.inr h1)
 .have hjk:k≠j:=by rintro rfl;rw [hz]at h4;cases h4
  have hik:k≠i:=by rintro rfl;rw [hz]at h3;cases h3
  rw [Do hjk,Do hik];exact h.ds i j hij O h1 h2 h3 h4
theorem Tv.yes (h:Tv n b0 x0 z0 top l k nx b x z q) (hq:q<=1000) (hk:k < 32) (ho:oth l k=true) (hnz:nz (av b0 top l k)=true) {m:Nat} (hm:33<=m/\m < n) (hbm:bit x m=false) (hw:Wk n (b.set m Hy) (setB x m) (pt z (m:Int)) (q+1)) :
  Tv n b0 x0 z0 top l (k+1) (nx.set k (m:Int)) ((b.set m Hy).set m (Dq (pgb 81 (av b0 top l k)))) (setB x m) (pt (pt z (m:Int)) (m:Int)) (q+2):=by
 have hnl:=h.nl;have hn:=h.wk.hn;have hbl:=h.wk.hb;have hx:=h.wk.hx;have hpl:=Aar 81 (Sr b0 top l k);have hz1:=h.wk.hz;obtain ⟨_,_,z3,z4,z5⟩:=LQ (z:=z) O h.wk.hr (m:Int);obtain ⟨_,_,_,_,y5⟩:=LQ (z:=pt z (m:Int)) O z4 (m:Int);have hbit:∀i,i < 160->bit (setB x m) i=(decide (i=m) || bit x i):=λi hi=>P9 h.wk.hu O O
 have hblk:∀i,i≠m->blk ((b.set m Hy).set m (Dq (pgb 81 (av b0 top l k)))) i=blk b i:=λi hi=>by rw [J9 (Ne.symm hi),J9 (Ne.symm hi)]
 refine⟨hw.lay O (Ae3 O) m,λc hc=>?_,by rw [AkQ];exact h.nl,λj hj h1 h2=>?_,λj hj h1 h2=>?_,λj hj h1=>?_,λi j hij hj h1 h2 h3 h4=>?_,λi hi h1=>?_,λv hv=>?_,λi h1 h2=>?_⟩
 .rcases AkS hc with hc | rfl
  .rcases AkS hc with hc | rfl
   .exact h.bu c hc
   .exact XE
  .exact Ac9 O
 .by_cases hjk:k=j
  .subst hjk;refine⟨m,PI O,hm,?_,by rw [hbit m O];simp,RJ (by rw [AkQ];omega)⟩;cases hx0:bit x0 m with
   | false=>rfl
   | true=>
    have:=(h.ot m O hx0).2;rw [hbm]at this;cases this
  .obtain ⟨m',e1,e2,e3,e4,e5⟩:=h.dn j O h1 h2;have hmm:m'≠m:=by rintro rfl;rw [hbm]at e4;cases e4
   exact⟨m',by rw [Do hjk];exact e1,e2,e3,by rw [hbit m' O,e4,Al8],by rw [hblk m' hmm];exact e5⟩
 .by_cases hjk:k=j
  .subst hjk;rw [hnz]at h2;cases h2
  .rw [Do hjk];exact h.dz j O h1 h2
 .have hne:k≠j:=by
   rintro rfl;rcases h1 with h1 | h1
   .omega
   .rw [ho]at h1;cases h1
  rw [Do hne];rcases h1 with h1 | h1
  .exact h.st j hj (.inl O)
  .exact h.st j hj (.inr h1)
 .by_cases hjk:k=j
  .subst hjk;rw [Do O,PI O];obtain ⟨m',e1,e2,e3,e4,e5⟩:=h.dn i O h1 h3;rw [e1];intro he;obtain rfl:m'=m:=O
   rw [hbm]at e4;cases e4
  .rw [Do O,Do hjk];exact h.ds i j hij O h1 h2 h3 h4
 .obtain ⟨e1,e2⟩:=h.ot i hi h1;have him:i≠m:=by rintro rfl;rw [hbm]at e2;cases e2
  exact⟨by rw [hblk i him];exact e1,by rw [hbit i hi,e2,Al8]⟩
 .have key:v∈z\/v=(m:Int):=by
   rcases (y5 v).1 hv with hv | hv
   .exact(z5 v).1 hv
   .exact .inr hv
  rcases key with hv | rfl
  .rcases h.zm v hv with hv | ⟨m',e1,e2,e3⟩
   .exact .inl hv
   .exact .inr ⟨m',e1,e2,by rw [hbit m' O,e3,Al8]⟩
  .exact .inr ⟨m,rfl,hm,by rw [hbit m O];simp⟩
 .rw [hbit i h2,decide_eq_false (O:¬ i=m),Ak3];exact h.hi i h1 h2
structure Cx (n:Nat) (b0:Bls) (top:List Int) (l:List Kv):Prop where
 hn:n<=160
 ht:top.length=32
 hv:∀k,V2 (av b0 top l k)
abbrev ots (l:List Kv):List Bool:=(List.range 32).map (oth l)
abbrev lvs (b0:Bls) (top:List Int) (l:List Kv):List (List Int):=(List.range 32).map (aft b0 top l)
end
section
variable {b0:Bls} {top:List Int} {l:List Kv} {root:Int} {b:Bls} {x y z:List Int}
end
end Go.V.G
set_option maxRecDepth 100000
namespace Go.V.G
open Go.V
theorem GP {b:Bls} {x y top:List Int} {root:Int} (h:tre b x y root=some top):top.length=32:=by
 unfold tre at h;split at h
 .obtain rfl:=Ak7 h;simp [zer]
 .split at h
  .obtain rfl:=Ak7 h;exact Fh _
  .cases h
theorem Ac3 (j:Nat):gb zer j=0:=by
 unfold gb zer;rw [List.getElem?_replicate];split <;> rfl
theorem AgW {b:Bls} {x y top:List Int} {root:Int} (h:tre b x y root=some top):∀j,j < 32->gb top j=0\/(pgB b x y (gb top j) 81=true/\nz (BO (blk b (gb top j).toNat))=true):=by
 intro j hj;unfold tre at h;split at h
 .obtain rfl:=Ak7 h;exact .inl (Ac3 j)
 .split at h
  .rename_i hc;obtain rfl:=Ak7 h;simp only [AjT]at hc;have:=all_range.1 hc.2.2 j hj;unfold stG at this;simp only [Ak2,AjT,decide_eq_true_eq]at this;rcases this with h1 | h1
   .exact .inl h1
   .exact .inr ⟨h1.1,h1.2.1⟩
  .cases h
theorem AbM {b:Bls} (hu:∀c∈b,U8s c) (i:Nat):U8s (blk b i):=by
 by_cases h:i < b.length
 .exact hu _ (BA h)
 .unfold blk;rw [Aka O];intro v hv;cases hv
theorem V1 {c:List Int} (h:U8s c):V2 (BO c):=λv hv=>by
 unfold BO at hv;obtain ⟨k,_,rfl⟩:=Aj9.1 hv;exact AgO h _
theorem AbJ:V2 zer:=λv hv=>by unfold zer at hv;rw [Alt hv];omega
theorem AhI {b:Bls} (hu:∀c∈b,U8s c) (a:Int):V2 (lfv b a):=by
 unfold lfv;split
 .exact AbJ
 .exact V1 (AbM hu _)
theorem AiJ {b:Bls} {top:List Int} {l:List Kv} (hu:∀c∈b,U8s c) (hv:∀s∈l,0<=s.2/\s.2<=65535) (k:Nat):V2 (av b top l k):=by
 unfold av;have key:∀(l:List Kv) (v:List Int),V2 v->(∀s∈l,0<=s.2/\s.2<=65535)->V2 (l.foldl (upd k) v):=by
  intro l
  induction l with
  | nil=>intro v h _;exact h
  | cons s l ih=>
   intro v h hs;rw [Alj];refine ih _ ?_ λs' h'=>hs s' (by simp [h'])
   unfold upd;split
   .intro w hw;rcases AkS hw with hw | rfl
    .exact h w hw
    .exact hs s Z
   .exact h
 exact key l _ (AhI hu _) hv
theorem Aic {b:Bls} {x y top:List Int} {root:Int} (hu:∀c∈b,U8s c) (h:tre b x y root=some top):V2 top:=by
 unfold tre at h;split at h
 .obtain rfl:=Ak7 h;exact AbJ
 .split at h
  .obtain rfl:=Ak7 h;exact V1 (AbM hu _)
  .cases h
theorem Aft {b:Bls} {x y:List Int} {l:List Kv} (h:Abp b x y l=true):l.length<=64/\Ks l/\(∀s∈l,s.2=0\/liv b x y s.2=true)/\∀i,i+1 < l.length->(sg l i).1 < (sg l (i+1)).1:=by
 unfold Abp at h;simp only [AjT,decide_eq_true_eq]at h;obtain ⟨h1,h2⟩:=h;have key:=all_range.1 h2;have hg:∀s∈l,∃i,i < l.length/\sg l i=s:=λs hs=>by
  obtain ⟨i,hi,he⟩:=Akq hs;exact⟨i,hi,by unfold sg;rw [AjP hi,he];rfl⟩
 refine⟨h1,λs hs=>?_,λs hs=>?_,λi hi=>?_⟩
 .obtain ⟨i,hi,rfl⟩:=hg s hs;have:=key i hi;unfold Abs at this;simp only [AjT,decide_eq_true_eq]at this;exact this.1
 .obtain ⟨i,hi,rfl⟩:=hg s hs;have:=key i hi;unfold Abs at this;simp only [AjT,Ak2,decide_eq_true_eq]at this;exact this.2.1
 .have:=key (i+1) hi;unfold Abs at this;simp only [AjT,Ak2,decide_eq_true_eq]at this;rcases this.2.2 with h3 | h3
  .omega
  .exact h3
theorem Ahy {b:Bls} {x y:List Int} {v:Int} (hb:b.length<=160) (h:v=0\/liv b x y v=true):0<=v/\v<=65535:=by
 rcases h with rfl | h
 .omega
 .obtain ⟨m,rfl,_,h2,_⟩:=Cn h;omega
section
variable {at_:Int} {b:Bls} {x y z go:List Int}
end
def rtL (root:Int):List Int:=if root=0 then []else [root]
structure Sk (b:Bls) (x y z top:List Int) (l:List Kv) (root at_:Int) (b':Bls) (x' y' z':List Int):Prop where
 ex:∃nx b1 x1 z1 q1,Tv b.length b x z top l 32 nx b1 x1 z1 q1/\q1<=191/\cnt x1 b.length+nwC b top l 32=cnt x b.length/\nz nx=anC b top l 32/\
  ((nz nx=false/\at_=0/\b'=b1/\x'=x1/\z'=z1)\/(nz nx=true/\∃m:Nat,at_=(m:Int)/\(33<=m/\m < b.length)/\bit x1 m=false/\b'=(b1.set m Hy).set m (Dq (pgb 80 nx))/\x'=setB x1 m/\z'=pt (pt z1 (m:Int)) (m:Int)/\
   Wk b.length b' x' z' (q1+2)/\cnt x' b.length+1=cnt x1 b.length))
 yy:y'=pts y (Mq top l 32++rtL root)
theorem AiE {b b1:Bls} {x z top nx x1 z1:List Int} {l:List Kv} {n q:Nat} (hn:n<=160) (ht:V2 top) (htl:top.length=32) (h:Tv n b x z top l 32 nx b1 x1 z1 q):V2 nx:=by
 intro v hv;obtain ⟨j,hj,rfl⟩:=Akq hv;have hnl:=h.nl;have e:nx[j]=gb nx j:=by unfold gb;rw [AjP hj];rfl
 have hj':j < 32:=O
 rw [e];cases ho:oth l j with
 | false=>rw [h.st j hj' (.inr ho)];exact ht _ (Akz (Ai O))
 | true=>
  cases hz:nz (av b top l j)with
  | false=>rw [h.dz j hj' ho hz];omega
  | true=>obtain ⟨m,e,hm,_⟩:=h.dn j hj' ho hz;rw [e];omega
theorem Sk.wk {b b':Bls} {x y z top x' y' z':List Int} {l:List Kv} {root at_:Int} (s:Sk b x y z top l root at_ b' x' y' z'):Wk b.length b' x' z' 200:=by
 obtain ⟨nx,b1,x1,z1,q1,tv,hq,_,_,h⟩:=s.ex;rcases h with⟨_,_,rfl,rfl,rfl⟩ | ⟨_,m,_,_,_,_,_,_,hw,_⟩
 .have:=tv.wk;exact⟨this.hn,this.hb,this.hk,this.hx,this.hu,this.hlow,this.hr,by have:=this.hz;omega⟩
 .exact⟨hw.hn,hw.hb,hw.hk,hw.hx,hw.hu,hw.hlow,hw.hr,by have:=hw.hz;omega⟩
theorem Sk.yl {b b':Bls} {x y z top x' y' z':List Int} {l:List Kv} {root at_:Int} (s:Sk b x y z top l root at_ b' x' y' z') (hy:Ris y) (hyl:y.length<=1000):Ris y'/\y'.length<=1100/\∀v,v∈y'↔v∈y\/v∈Mq top l 32++rtL root:=by
 have h1:=Yb top l 32;have h2:(rtL root).length<=1:=by unfold rtL;split <;> simp
 have h3:(Mq top l 32++rtL root).length<=33:=by rw [AjU];omega
 obtain ⟨p1,p2,p3⟩:=Acv hy (l:=Mq top l 32++rtL root) O;rw [s.yy];exact⟨p1,O,p3⟩
theorem GS.ylen {b:Bls} {x y z:List Int} (g:GS b x y z):Ris y/\y.length<=127:=by
 have hb:=g.hb;have hyr:=(Gl g.hy).1;exact⟨hyr,PW hyr λi hi=>by have:=(Gl g.hy).2 i hi;omega⟩
end Go.V.G
set_option maxRecDepth 100000
namespace Go.V.G
open Go.V
theorem Aao {n q:Nat} {b b2:Bls} {x x2 y z z2:List Int} (g:GS b x y z) (hn:b.length=n) (wk:Wk n b2 x2 z2 q) (up:∀i,i < 160->bit x i=true->bit x2 i=true)
  (hi:∀i,n<=i->i < 160->bit x2 i=bit x i) (zm:∀v∈z2,v∈z\/(33<=v/\v < (n:Int)/\bit x2 v.toNat=true)):GS b2 x2 y z2:=by
 have hb:=wk.hb;have hn2:=wk.hn;obtain ⟨r1,_⟩:=Gl g.hy;have m1:=RH g.hy;have m2:=RH g.hz;refine⟨O,wk.hx,wk.hk,λi hi160=>?_,MR r1 λv hv=>?_,MR wk.hr λv hv=>?_⟩
 .unfold bG;by_cases h1:i < 33
  .rw [wk.hlow i h1,decide_eq_true h1,decide_eq_false (O:¬ b2.length<=i)];rfl
  .rw [decide_eq_false h1];by_cases h2:b2.length<=i
   .have:=g.hbits i hi160;unfold bG at this;rw [decide_eq_false h1,decide_eq_true (O:b.length<=i)]at this;rw [hi i O hi160,decide_eq_true h2];exact this
   .rw [decide_eq_false h2];rfl
 .obtain ⟨p1,p2,p3⟩:=m1 v hv;exact⟨p1,O,up _ O p3⟩
 .rcases zm v hv with hv | ⟨p1,p2,p3⟩
  .obtain ⟨p1,p2,p3⟩:=m2 v hv;exact⟨p1,O,up _ O p3⟩
  .exact⟨p1,O,p3⟩
theorem Lr.gs {b b2:Bls} {x y z data l x2 z2:List Int} (h:Lr b.length b x z data l b2 x2 z2) (g:GS b x y z):GS b2 x2 y z2:=by
 have hn:=h.wk.hn;refine Aao g rfl h.wk h.up (λi hi hi2=>?_) λv hv=>?_
 .refine(h.oth i hi2 λhh=>?_).2;obtain ⟨j,hj,he⟩:=Akq hh;obtain ⟨k,e,hk,_⟩:=h.at_ j hj;rw [AjP hj]at e;have:=Ak7 e;omega
 .rcases h.zm v hv with hv | hv
  .exact .inl hv
  .right;obtain ⟨j,hj,he⟩:=Akq hv;obtain ⟨k,e,hk,_,p,_⟩:=h.at_ j hj;rw [AjP hj,he]at e;have e':=Ak7 e;subst e';exact⟨O,O,by rw [AjO];exact p⟩
theorem Lt.gs {b b2:Bls} {x y z sh A x2 z2:List Int} {ps:List (List UInt8)} {r q:Nat} (h:Lt b.length b x z sh ps A r b2 x2 z2 q) (g:GS b x y z):GS b2 x2 y z2:=by
 have hn:=h.wk.hn;have hlen:=h.len;obtain ⟨⟨r1,r2⟩,_,r4,_⟩:=h.rt;have hA:∀v∈A,∃k:Nat,v=(k:Int)/\(33<=k/\k < b.length)/\bit x2 k=true:=λv hv=>by
  obtain ⟨j,hj,he⟩:=Akq hv;obtain ⟨k,e,hk,p,_⟩:=h.at_ j O;rw [AjP hj,he]at e;exact⟨k,Ak7 e,hk,p⟩
 refine Aao g rfl h.wk h.up (λi hi hi2=>?_) λv hv=>?_
 .refine(h.oth i hi2 (λhh=>?_) O).2;obtain ⟨k,e,hk,_⟩:=hA _ hh;omega
 .rcases h.zm v hv with hv | hv | rfl
  .exact .inl hv
  .right;obtain ⟨k,rfl,hk,p⟩:=hA v hv;exact⟨O,O,by rw [AjO];exact p⟩
  .exact .inr ⟨O,O,by rw [AjO];exact r4⟩
theorem Lt.mem {n q r:Nat} {b b2:Bls} {x z sh A x2 z2:List Int} {ps:List (List UInt8)} (h:Lt n b x z sh ps A r b2 x2 z2 q) {a:Int} (ha:a∈A):∃j,j < ps.length/\A[j]?=some a:=by
 obtain ⟨j,hj,he⟩:=Akq ha;have:=h.len;exact⟨j,O,by rw [AjP hj,he]⟩
end Go.V.G
set_option maxRecDepth 100000
namespace Go.V.G
open Go.V
inductive Atom where
 | ins (b:UInt8)
 | keep
 | drop
 deriving DecidableEq
def mk (f:Bool):Atom:=if f=true then .keep else .drop
def pa (p:Prt):List Atom:=p.2.2.map Atom.ins++List.replicate (p.1+p.2.1).toNat (mk (decide (0 < p.1)))
def Ac (c:List Prt):List Atom:=c.flatMap pa
def Ap:List Atom->List Bool
 | []=>[]
 | .ins _::l=>Ap l
 | .keep::l=>true::Ap l
 | .drop::l=>false::Ap l
def Bh (b:UInt8):List (List UInt8)->List (List UInt8)
 | p::ps=>(b::p)::ps
 | []=>[[b]]
def Aj:List Atom->List (List UInt8)
 | []=>[[]]
 | .ins b::l=>Bh b (Aj l)
 | .keep::l=>[]::Aj l
 | .drop::l=>[]::Aj l
def Dp:List Atom->Nat
 | []=>0
 | .ins _::l=>Dp l+1
 | _::l=>Dp l
theorem IQ (a b:List Prt):Ac (a++b)=Ac a++Ac b:=by simp [Ac]
theorem Ke {c:List Prt} {i:Nat} (h:i < c.length):Ac (c.take (i+1))=Ac (c.take i)++pa c[i]:=by
 rw [Akd h,IQ];simp [Ac]
theorem CY:∀a b:List Atom,Ap (a++b)=Ap a++Ap b
 | [],b=>rfl
 | .ins _::a,b=>CY a b
 | .keep::a,b=>congrArg (true :: ·) (CY a b)
 | .drop::a,b=>congrArg (false :: ·) (CY a b)
theorem OD:∀s:List UInt8,Ap (s.map Atom.ins)=[]
 | []=>rfl
 | _::s=>OD s
theorem T3 (f:Bool):∀m:Nat,Ap (List.replicate m (mk f))=List.replicate m f
 | 0=>rfl
 | m+1=>by
  rw [AkP,AkP,<- T3 f m];cases f <;> rfl
theorem Y3 (b:UInt8) (P:List (List UInt8)):Bh b P≠[]:=by cases P <;> simp [Bh]
theorem GK:∀l:List Atom,Aj l≠[]
 | []=>by simp [Aj]
 | .ins b::l=>Y3 b _
 | .keep::l=>by simp [Aj]
 | .drop::l=>by simp [Aj]
theorem Xo (b:UInt8) {P:List (List UInt8)} (h:P≠[]):(Bh b P).length=P.length:=by cases P with
 | nil=>exact absurd rfl h
 | cons=>rfl
theorem Es:∀l:List Atom,(Aj l).length=(Ap l).length+1
 | []=>rfl
 | .ins b::l=>by rw [Aj,Xo b (GK l),Es l];rfl
 | .keep::l=>by simp [Aj,Ap,Es l]
 | .drop::l=>by simp [Aj,Ap,Es l]
theorem RP (b:UInt8) {P:List (List UInt8)} (h:P≠[]) (Q:List (List UInt8)):Bh b (P++Q)=Bh b P++Q:=by cases P with
 | nil=>exact absurd rfl h
 | cons=>rfl
theorem NZ (f:Bool):∀(l:List Atom) (m:Nat),Aj (l++List.replicate m (mk f))=Aj l++List.replicate m []
 | [],m=>by
  induction m with
  | zero=>rfl
  | succ m ih=>
   rw [Akm]at ih ⊢;rw [AkP,AkP];cases f <;> (show []::Aj _=_;rw [ih];rfl)
 | .ins b::l,m=>by
  show Bh b (Aj (l++_))=Bh b (Aj l)++_;rw [NZ f l m,RP b (GK l)]
 | .keep::l,m=>congrArg ([] :: ·) (NZ f l m)
 | .drop::l,m=>congrArg ([] :: ·) (NZ f l m)
theorem X9:∀s:List UInt8,Aj (s.map Atom.ins)=[s]
 | []=>rfl
 | b::s=>by show Bh b (Aj (s.map Atom.ins))=_;rw [X9 s];rfl
theorem Nj (s:List UInt8):∀l:List Atom,Aj (l++s.map Atom.ins)=(Aj l).dropLast++[((Aj l).getLast?).getD []++s]
 | []=>by rw [Akm,X9];rfl
 | .ins b::l=>by
  show Bh b (Aj (l++_))=_;rw [Nj s l];show _=(Bh b (Aj l)).dropLast++[((Bh b (Aj l)).getLast?).getD []++s];have:=GK l
  match Aj l,this with
  | [p],_=>rfl
  | p::q::ps,_=>rfl
 | .keep::l=>by
  show []::Aj (l++_)=([]::Aj l).dropLast++[(([]::Aj l).getLast?).getD []++s];rw [Nj s l];have:=GK l
  match Aj l,this with
  | p::ps,_=>rfl
 | .drop::l=>by
  show []::Aj (l++_)=([]::Aj l).dropLast++[(([]::Aj l).getLast?).getD []++s];rw [Nj s l];have:=GK l
  match Aj l,this with
  | p::ps,_=>rfl
theorem Ev:∀a b:List Atom,Dp (a++b)=Dp a+Dp b
 | [],b=>by simp [Dp]
 | .ins _::a,b=>by simp only [AkB,Dp,Ev a b];omega
 | .keep::a,b=>Ev a b
 | .drop::a,b=>Ev a b
theorem Yc:∀s:List UInt8,Dp (s.map Atom.ins)=s.length
 | []=>rfl
 | _::s=>by simp only [Akw,Dp,Yc s,Aj1]
theorem WJ (f:Bool):∀m:Nat,Dp (List.replicate m (mk f))=0
 | 0=>rfl
 | m+1=>by rw [AkP];cases f <;> exact WJ _ m
theorem Aas (p:Prt):Dp (pa p)=p.2.2.length:=by rw [pa,Ev,Yc,WJ];rfl
theorem SH:∀c:List Prt,Dp (Ac c)=BX c
 | []=>rfl
 | p::c=>by
  show Dp (pa p++Ac c)=_;rw [Ev,Aas,SH c];rfl
theorem ML:∀(l:List Atom),∀p∈Aj l,p.length<=Dp l
 | [],p,h=>by rw [AjX.1 h];simp
 | .ins b::l,p,h=>by
  have ih:=ML l;simp only [Aj]at h;simp only [Dp]
  match hp:Aj l,h with
  | q::qs,h=>
   rw [hp]at ih;rcases Aj5.1 h with rfl | h
   .have:=ih q Z;simp only [Aj1];omega
   .have:=ih p (by simp [h]);omega
  | [],h=>exact absurd hp (GK l)
 | .keep::l,p,h=>by
  rcases Aj5.1 h with rfl | h
  .simp
  .exact ML l p h
 | .drop::l,p,h=>by
  rcases Aj5.1 h with rfl | h
  .simp
  .exact ML l p h
theorem Nn (p:Prt):Ap (pa p)=List.replicate (p.1+p.2.1).toNat (decide (0 < p.1)):=by rw [pa,CY,OD,T3];rfl
theorem Id:∀{c:List Prt},(∀p∈c,Some1 p)->(((Ap (Ac c)).length:Nat):Int)=src c
 | [],_=>rfl
 | p::c,h=>by
  have ih:=Id (c:=c) λq hq=>h q (by simp [hq])
  have h1:=h p Z;have:=h1.k;have:=h1.d;show(((Ap (pa p++Ac c)).length:Nat):Int)=p.1+p.2.1+src c;rw [CY,Nn,AjU,AkY];omega
theorem Nr {n b:Nat} (h:n<=1099511627776) (hb:b<=32):Aa (n+1) b=true:=by
 simp only [Aa,decide_eq_true_eq];have:(n+1) * b<=(1099511627776+1) * 32:=Nat.mul_le_mul O hb;omega
theorem Abn {c:List Prt} {n i:Int} {S:List Bool} {P:List (List UInt8)} {k d:Int} {s:List UInt8} {m:Nat} (hS:S.length+m<=1099511627776) (hP:P.length+m<=1099511627776) :
  Ab JS (c,n,i,(m:Int),0,S,P,k,d,s)=some (c,n,i,S++List.replicate m (decide (0 < k)),P++List.replicate m []):=by
 have:=An JS (λq=>(c,n,i,(m:Int),((q:Nat):Int),S++List.replicate q (decide (0 < k)),P++List.replicate q [],k,d,s)) m (c,n,i,S++List.replicate m (decide (0 < k)),P++List.replicate m []) (by
  intro q hq;have h1:((q:Nat):Int) < (m:Int):=O
  have h2:Aa (List.length (S++List.replicate q (decide (0 < k)))+List.length ([decide ((0:Int) < k)]:List Bool)) 1=true:=Nr AjJ O;have h3:Aa (List.length (P++List.replicate q [])+List.length ([([]:List UInt8)]:List (List UInt8))) 16=true:=Nr AjJ O;unfold JS cK wI;simp only [h1,h2,h3,decide_true,Akh,Ax (O:m<=1099511627776) hq,List.replicate_succ',AjY]) (by simp [JS,cK,wI])
 simpa using this
theorem AbC {c:List Prt} {n i:Int} {S:List Bool} {P:List (List UInt8)} {k d:Int} {s:List UInt8} {m:Nat} (hkd:IntKind.wrap .i64 (k+d)=(m:Int)) (hS:S.length+m<=1099511627776) (hP:P.length+m<=1099511627776) :
  Ab G9 (0,c,n,i,S,P,k,d,s)=some (c,n,i,S++List.replicate m (decide (0 < k)),P++List.replicate m []):=by
 have:=An G9 (λq=>(((q:Nat):Int),c,n,i,S++List.replicate q (decide (0 < k)),P++List.replicate q [],k,d,s)) m (c,n,i,S++List.replicate m (decide (0 < k)),P++List.replicate m []) (by
  intro q hq;have h1:((q:Nat):Int) < (m:Int):=O
  have h2:Aa (List.length (S++List.replicate q (decide (0 < k)))+List.length ([decide ((0:Int) < k)]:List Bool)) 1=true:=Nr AjJ O;have h3:Aa (List.length (P++List.replicate q [])+List.length ([([]:List UInt8)]:List (List UInt8))) 16=true:=Nr AjJ O;unfold G9 cK wI;simp only [hkd,h1,h2,h3,decide_true,Akh,Ax (O:m<=1099511627776) hq,List.replicate_succ',AjY]) (by simp [G9,cK,wI,hkd])
 simpa using this
theorem UT {c:List Prt} {i:Nat} (hlt:i < c.length):∃q:List UInt8,(Aj (Ac (c.take i)))[(Ap (Ac (c.take i))).length]?=some q/\q.length<=BX c/\
  Ap (Ac (c.take (i+1)))=Ap (Ac (c.take i))++List.replicate (c[i].1+c[i].2.1).toNat (decide (0 < c[i].1))/\
  Aj (Ac (c.take (i+1)))=((Aj (Ac (c.take i))).set (Ap (Ac (c.take i))).length (q++c[i].2.2))++List.replicate (c[i].1+c[i].2.1).toNat []:=by
 obtain ⟨n,hn,hq,hset⟩:=Q1 (List.getLast?_eq_some_getLast (GK (Ac (c.take i))));have e:n=(Ap (Ac (c.take i))).length:=by have:=Es (Ac (c.take i));omega
 subst e;refine⟨_,hq,?_,?_,?_⟩
 .have h1:=ML _ _ (Akz hq);rw [SH]at h1;have h2:BX c=BX (c.take i)+BX (c.drop i):=by rw [<- DO,AkH]
  omega
 .rw [Ke hlt,CY,Nn]
 .rw [Ke hlt,pa,<- AjY,NZ,Nj,hset,List.getLast?_eq_some_getLast (GK _)];rfl
theorem UK {B:Nat} {c:List Prt} (h:Sm B c) (hB:B<=1099511627000) (hs:∀p∈c,Some1 p) (hle:src c<=1000000):PG c=some (Ap (Ac c),Aj (Ac c)):=by
 have hlen:=Ako h.len hB;have hput:=Ako h.put hB;unfold PG;have:Ab JC (c,(List.length c:Int),0,[],[([]:List UInt8)])=some (Ap (Ac c),Aj (Ac c)):=by
  have:=An JC (λk=>(c,(List.length c:Int),((k:Nat):Int),Ap (Ac (c.take k)),Aj (Ac (c.take k)))) c.length (Ap (Ac c),Aj (Ac c)) (by
   intro i hlt;obtain ⟨q,h1,h2,h3,h4⟩:=UT hlt;have hp:=hs _ (Akc hlt);have hpp:=HL (Akc hlt);have k0:=hp.k;have d0:=hp.d;have n1:=Bq (l:=c.take i) λp h=>hs p (C9 h)
   have n3:=Bq (l:=c.drop (i+1)) λp h=>hs p (CQ h)
   have a1:=K8 hlt;have sl:=Id (c:=c.take i) λp h=>hs p (C9 h)
   have pl:=Es (Ac (c.take i));have hi:(i:Int) < (List.length c:Int):=O
   have e1:IntKind.wrap .i64 ((List.length (Aj (Ac (c.take i))):Int) - 1)=(((Ap (Ac (c.take i))).length:Nat):Int):=by rw [w64 O O];omega
   have g1:(((Ap (Ac (c.take i))).length:Nat):Int) < (List.length (Aj (Ac (c.take i))):Int):=O
   have g0:(0:Int)<=(((Ap (Ac (c.take i))).length:Nat):Int):=O
   have g2:List.length q+List.length c[i].2.2<=9223372036854775807:=O
   have g3:IntKind.wrap .i64 (c[i].1+c[i].2.1)=(((c[i].1+c[i].2.1).toNat:Nat):Int):=by rw [w64 O O];omega
   unfold JC cK cZ gX wI;simp only [hi,e1,g0,g1,g2,g3,decide_true,Akh,AjO,AjP hlt,AjM,Ake,h1,
    show(0:Int)<=(i:Int) from by omega]
   rw [Abn O (by rw [AkQ];omega),AjM];simp only [Ax (Ako hlen O) hlt,h3,h4]) (by simp [JC,cK,cZ,gX,wI])
  simpa [Ac,Ap,Aj] using this
 rw [this];rfl
theorem Uv {B:Nat} {c:List Prt} (h:Sm B c) (hB:B<=1099511627000) (hs:∀p∈c,Some1 p) (hle:src c<=1000000):K9 c=some (Ap (Ac c),Aj (Ac c)):=by
 have hlen:=Ako h.len hB;have hput:=Ako h.put hB;unfold K9;have:Ab Hn (c,(List.length c:Int),0,[],[([]:List UInt8)])=some (Ap (Ac c),Aj (Ac c)):=by
  have:=An Hn (λk=>(c,(List.length c:Int),((k:Nat):Int),Ap (Ac (c.take k)),Aj (Ac (c.take k)))) c.length (Ap (Ac c),Aj (Ac c)) (by
   intro i hlt;obtain ⟨q,h1,h2,h3,h4⟩:=UT hlt;have hp:=hs _ (Akc hlt);have hpp:=HL (Akc hlt);have k0:=hp.k;have d0:=hp.d;have n1:=Bq (l:=c.take i) λp h=>hs p (C9 h)
   have n3:=Bq (l:=c.drop (i+1)) λp h=>hs p (CQ h)
   have a1:=K8 hlt;have sl:=Id (c:=c.take i) λp h=>hs p (C9 h)
   have pl:=Es (Ac (c.take i));have hi:(i:Int) < (List.length c:Int):=O
   have e1:IntKind.wrap .i64 ((List.length (Aj (Ac (c.take i))):Int) - 1)=(((Ap (Ac (c.take i))).length:Nat):Int):=by rw [w64 O O];omega
   have g1:(((Ap (Ac (c.take i))).length:Nat):Int) < (List.length (Aj (Ac (c.take i))):Int):=O
   have g0:(0:Int)<=(((Ap (Ac (c.take i))).length:Nat):Int):=O
   have g2:List.length q+List.length c[i].2.2<=9223372036854775807:=O
   have g3:IntKind.wrap .i64 (c[i].1+c[i].2.1)=(((c[i].1+c[i].2.1).toNat:Nat):Int):=by rw [w64 O O];omega
   unfold Hn cK cZ gX wI;simp only [hi,e1,g0,g1,g2,decide_true,Akh,AjO,AjP hlt,AjM,Ake,h1,
    show(0:Int)<=(i:Int) from by omega]
   rw [AbC g3 O (by rw [AkQ];omega),AjM];simp only [Ax (Ako hlen O) hlt,h3,h4]) (by simp [Hn,cK,cZ,gX,wI])
  simpa [Ac,Ap,Aj] using this
 rw [this];rfl
end Go.V.G
namespace Go.V
theorem A6 (g off n:Nat):(⟨g,off,none⟩:Addr).add n=⟨g,off+n,none⟩:=by
 unfold Addr.add;split
 .subst_vars;rfl
 .rfl
theorem add_add (a:Addr) (i j:Nat):(a.add i).add j=a.add (i+j):=by
 unfold Addr.add;by_cases hi:i=0
 .subst hi;simp
 .by_cases hj:j=0
  .subst hj;simp [hi]
  .have:¬ (i+j=0):=O
   simp only [hi,hj,this,Aku]
   congr 1;omega
theorem A7 {w:World} {g:Nat} {cs:Array Value} {e:TypeId} {fr:Nat×Nat} (h:w.heap[g]?=some (.cells cs e fr)) (i:Nat):w.cell? ⟨g,i,none⟩=cs[i]?:=by
 unfold World.cell?;rw [h];rfl
theorem Dj {w:World} {g:Nat} {cs:Array Value} {e:TypeId} {fr:Nat×Nat} (h:w.heap[g]?=some (.cells cs e fr)) (hf:∀i,i < cs.size->¬ (fr.1<=i/\i < fr.2)) {i:Nat} (hi:i < cs.size):w.frozen? ⟨g,i,none⟩=false:=by
 unfold World.frozen?;rw [h];have:=hf i hi;simp only [Bool.and_eq_false_iff,decide_eq_false_iff_not];omega
theorem Mr {w:World} {g:Nat} {cs:Array Value} {e:TypeId} {fr:Nat×Nat} (h:w.heap[g]?=some (.cells cs e fr)) (i:Nat) (v:Value) :
  (w.setCell ⟨g,i,none⟩ v).heap[g]?=some (.cells (cs.setIfInBounds i v) e fr):=by
 simp only [World.setCell,Array.getElem?_modify,Akh,h,AkJ];rfl
theorem BM {w:World} {g:Nat} {o:Obj} (h:w.heap[g]?=some o):g < w.heap.size:=(Ald.1 h).1
def RpL {α:Type} (p:α->List Value->List Nat->Prop):List α->List Value->List Nat->Prop
 | [],vs,F=>vs=[]/\F=[]
 | x::xs,vs,F=>∃v1 v2 F1 F2,vs=v1++v2/\F=F1++F2/\p x v1 F1/\RpL p xs v2 F2
def NF (fr:Nat×Nat) (n:Nat):Prop:=∀i,i < n->¬ (fr.1<=i/\i < fr.2)
structure NFt (r:Ty) (fr:Nat×Nat) (n:Nat):Prop where
 nf:NF fr n
 at':r≠.int .u8->¬ (fr.1<=n/\n < fr.2)
 le:r=.int .i64->n<=9223372036854775807
theorem NFt.zero (r:Ty) {n:Nat} (h:r=.int .i64->n<=9223372036854775807):NFt r (0,0) n:=⟨λi _ hx=>by simp at hx,λ_ hx=>by simp at hx,h⟩
def ErV:Bool->Value->Prop
 | false,v=>v=.nilIface
 | true,v=>∃te pe,v=.iface te pe
def Rp (w:World) (K:Nat->Prop):(t:Ty)->t.D->List Value->List Nat->Prop
 | .int k,n,vs,F=>vs=[.int k n]/\F=[]
 | .bool,b,vs,F=>vs=[.bool b]/\F=[]
 | .str,s,vs,F=>vs=[.string ⟨s.toArray⟩]/\F=[]
 | .er,b,vs,F=>∃v,vs=[v]/\F=[]/\ErV b v
 | .lp,_,_,_=>False
 | .mh,x,vs,F=>vs=[.map none]/\F=[]/\(x:Nat)=0
 | .mp,_,_,_=>False
 | .unit,_,vs,F=>vs=[]/\F=[]
 | .pair a b,x,vs,F=>∃v1 v2 F1 F2,vs=v1++v2/\F=F1++F2/\Rp w K a x.1 v1 F1/\Rp w K b x.2 v2 F2
 | .sl true e r,xs,vs,F=>(xs=[]/\F=[]/\vs=[.slice none 0 0])\/
   ∃g off c cs fr F',vs=[.slice (some ⟨g,off,none⟩) (List.length xs) c]/\F=g::F'/\w.heap[g]?=some (.cells cs e fr)/\NFt r fr cs.size/\
    off+c * r.size<=cs.size/\List.length xs<=c/\RpL (Rp w K r) xs ((cs.toList.drop off).take (List.length xs * r.size)) F'
 | .pt t,o,vs,F=>F=[]/\match o with
  | none=>vs=[.pointer none]
  | some x=>∃ad ws,vs=[.pointer (some ad)]/\Rp w K t x ws []/\K ad.block/\ad.block < w.heap.size/\∀j,j < ws.length->w.cell? (ad.add j)=ws[j]?
 | .sl false _ r,xs,vs,F=>F=[]/\∃A c ws,vs=[.slice A (List.length xs) c]/\List.length xs<=c/\RpL (Rp w K r) xs ws []/\
   (xs=[]\/∃ad,A=some ad/\K ad.block/\ad.block < w.heap.size/\∀j,j < ws.length->w.cell? (ad.add j)=ws[j]?)
section
variable {α:Type} {p q:α->List Value->List Nat->Prop}
theorem RpL.mono (h:∀x vs F,p x vs F->q x vs F):∀{xs:List α} {vs F},RpL p xs vs F->RpL q xs vs F
 | [],_,_,hx=>hx
 | _::_,_,_,⟨v1,v2,F1,F2,e1,e2,h1,h2⟩=>⟨v1,v2,F1,F2,e1,e2,h _ _ _ h1,RpL.mono h h2⟩
theorem RpL.len {n:Nat} (h:∀x vs F,p x vs F->vs.length=n):∀{xs:List α} {vs F},RpL p xs vs F->vs.length=xs.length * n
 | [],_,_,⟨e,_⟩=>by subst e;simp
 | x::xs,_,_,⟨v1,v2,F1,F2,e1,_,h1,h2⟩=>by
  have a:=h _ _ _ h1;have b:=RpL.len h h2;subst e1;simp only [AjU,Aj1,a,b,AlN];omega
theorem RpL.append:∀{xs ys:List α} {vs ws F G},RpL p xs vs F->RpL p ys ws G->RpL p (xs++ys) (vs++ws) (F++G)
 | [],_,_,_,_,_,⟨e1,e2⟩,h=>by subst e1 e2;exact h
 | _::_,_,_,_,_,_,⟨v1,v2,F1,F2,e1,e2,h1,h2⟩,h=>by
  subst e1 e2;exact⟨v1,_,F1,_,AjY ..,AjY ..,h1,RpL.append h2 h⟩
theorem RpL.split:∀{xs ys:List α} {vs F},RpL p (xs++ys) vs F->∃v1 v2 F1 F2,vs=v1++v2/\F=F1++F2/\RpL p xs v1 F1/\RpL p ys v2 F2
 | [],_,vs,F,h=>⟨[],vs,[],F,rfl,rfl,⟨rfl,rfl⟩,h⟩
 | _::_,_,_,_,⟨v1,v2,F1,F2,e1,e2,h1,h2⟩=>by
  obtain ⟨a,b,c,d,e3,e4,h3,h4⟩:=RpL.split h2;subst e1 e2 e3 e4;exact⟨v1++a,b,F1++c,d,(AjY ..).symm,(AjY ..).symm,⟨v1,a,F1,c,rfl,rfl,h1,h3⟩,h4⟩
theorem RpL.get {n:Nat} (hn:∀x vs F,p x vs F->vs.length=n):∀{xs:List α} {vs F} {i:Nat} {x:α},RpL p xs vs F->xs[i]?=some x->
  ∃v1 v v2 F1 G F2,vs=v1++(v++v2)/\v1.length=i * n/\F=F1++(G++F2)/\p x v G/\
   RpL p (xs.take i) v1 F1/\RpL p (xs.drop (i+1)) v2 F2
 | [],_,_,i,_,_,hi=>by simp at hi
 | y::ys,_,_,0,x,⟨v1,v2,F1,F2,e1,e2,h1,h2⟩,hi=>by
  simp only [Ak0,AjN]at hi;subst hi e1 e2;exact⟨[],v1,v2,[],F1,F2,rfl,Z,rfl,h1,⟨rfl,rfl⟩,h2⟩
 | y::ys,_,_,i+1,x,⟨v1,v2,F1,F2,e1,e2,h1,h2⟩,hi=>by
  simp only [AkU]at hi;obtain ⟨a,v,b,G1,G,G2,e3,hl,e4,hp,ht,hd⟩:=RpL.get hn h2 hi;subst e1 e2 e3 e4;refine⟨v1++a,v,b,F1++G1,G,G2,Z,?_,Z,hp,⟨v1,a,F1,G1,rfl,rfl,h1,ht⟩,by simpa using hd⟩;rw [AjU,hn _ _ _ h1,hl,AlN];omega
theorem RpL.set {xs:List α} {i:Nat} {x y:α} (hi:xs[i]?=some x) {v1 v2 v F1 F2 G} (ht:RpL p (xs.take i) v1 F1) (hd:RpL p (xs.drop (i+1)) v2 F2) (hy:p y v G) :
  RpL p (xs.set i y) (v1++(v++v2)) (F1++(G++F2)):=by
 have hlt:i < xs.length:=(Akn.1 hi).1;rw [List.set_eq_take_append_cons_drop,AjS hlt];exact RpL.append ht ⟨v,v2,G,F2,rfl,rfl,hy,hd⟩
end
theorem Rp.len {w:World} {K:Nat->Prop}:∀(t:Ty) (x:t.D) {vs F},Rp w K t x vs F->vs.length=t.size
 | .int _,_,_,_,h=>by simp only [Rp]at h;simp [h.1,Ty.size]
 | .bool,_,_,_,h=>by simp only [Rp]at h;simp [h.1,Ty.size]
 | .er,_,_,_,h=>by simp only [Rp]at h;obtain ⟨v,rfl,_⟩:=h;simp [Ty.size]
 | .lp,_,_,_,h=>by simp only [Rp]at h
 | .mh,_,_,_,h=>by simp only [Rp]at h;simp [h.1,Ty.size]
 | .mp,_,_,_,h=>by simp only [Rp]at h
 | .str,_,_,_,h=>by simp only [Rp]at h;simp [h.1,Ty.size]
 | .unit,_,_,_,h=>by simp only [Rp]at h;simp [h.1,Ty.size]
 | .pair a b,x,_,_,h=>by
  simp only [Rp]at h;obtain ⟨v1,v2,F1,F2,rfl,_,h1,h2⟩:=h;simp [Ty.size,Rp.len a _ h1,Rp.len b _ h2]
 | .sl true _ r,_,_,_,h=>by
  simp only [Rp]at h;rcases h with⟨_,_,rfl⟩ | ⟨g,off,c,cs,fr,F',rfl,_⟩ <;> simp [Ty.size]
 | .sl false _ r,_,_,_,h=>by
  simp only [Rp]at h;obtain ⟨_,A,c,ws,rfl,_⟩:=h;simp [Ty.size]
 | .pt t,o,_,_,h=>by
  simp only [Rp]at h;cases o with
  | none=>simp [h.2,Ty.size]
  | some x=>obtain ⟨_,ad,ws,rfl,_⟩:=h;simp [Ty.size]
def C6 (w w':World) (F:List Nat):Prop:=∀g∈F,w'.heap[g]?=w.heap[g]?
def KSame (w w':World) (K K':Nat->Prop):Prop:=w.heap.size<=w'.heap.size/\∀g,K g->g < w.heap.size->w'.heap[g]?=w.heap[g]?/\K' g
theorem KSame.refl (w:World) (K:Nat->Prop):KSame w w K K:=⟨Akk _,λ_ h _=>⟨rfl,h⟩⟩
theorem LE {w w':World} {a:Addr} (h:w'.heap[a.block]?=w.heap[a.block]?):w'.cell? a=w.cell? a:=by
 unfold World.cell?;rw [h]
theorem Dn (a:Addr) (n:Nat):(a.add n).block=a.block:=by unfold Addr.add;split <;> rfl
theorem Rp.frame {w w':World} {K K':Nat->Prop} (hK:KSame w w' K K'):∀(t:Ty) (x:t.D) {vs F},Rp w K t x vs F->C6 w w' F->Rp w' K' t x vs F
 | .int _,_,_,_,h,_=>by simp only [Rp]at h ⊢;exact h
 | .bool,_,_,_,h,_=>by simp only [Rp]at h ⊢;exact h
 | .er,_,_,_,h,_=>by simp only [Rp]at h ⊢;exact h
 | .lp,_,_,_,h,_=>by simp only [Rp]at h
 | .mh,_,_,_,h,_=>by simp only [Rp]at h ⊢;exact h
 | .mp,_,_,_,h,_=>by simp only [Rp]at h
 | .str,_,_,_,h,_=>by simp only [Rp]at h ⊢;exact h
 | .unit,_,_,_,h,_=>by simp only [Rp]at h ⊢;exact h
 | .pair a b,x,_,_,h,hF=>by
  simp only [Rp]at h ⊢;obtain ⟨v1,v2,F1,F2,rfl,rfl,h1,h2⟩:=h;exact⟨v1,v2,F1,F2,rfl,rfl,Rp.frame hK a _ h1 λg hg=>hF g (by simp [hg]),Rp.frame hK b _ h2 λg hg=>hF g (by simp [hg])⟩
 | .sl true _ r,xs,_,_,h,hF=>by
  simp only [Rp]at h ⊢;rcases h with h | ⟨g,off,c,cs,fr,F',rfl,rfl,hh,hn,hc,hl,hr⟩
  .exact .inl h
  .refine .inr ⟨g,off,c,cs,fr,F',rfl,rfl,by rw [hF g Z];exact hh,hn,hc,hl,?_⟩;have key:∀(ys:List r.D) (us:List Value) (G:List Nat),C6 w w' G->RpL (Rp w K r) ys us G->RpL (Rp w' K' r) ys us G:=by
    intro ys
    induction ys with
    | nil=>intro us G _ h;exact h
    | cons y ys ih=>
     rintro us G hG ⟨v1,v2,F1,F2,rfl,rfl,h1,h2⟩;exact⟨v1,v2,F1,F2,rfl,rfl,Rp.frame hK r y h1 λg hg=>hG g (by simp [hg]),ih _ _ (λg hg=>hG g (by simp [hg])) h2⟩
   exact key _ _ _ (λg hg=>hF g (by simp [hg])) hr
 | .sl false _ r,xs,_,_,h,_=>by
  simp only [Rp]at h ⊢;obtain ⟨rfl,A,c,ws,rfl,hle,hr,hx⟩:=h;refine⟨rfl,A,c,ws,rfl,hle,?_,?_⟩
  .have key:∀(ys:List r.D) (us:List Value) (G:List Nat),C6 w w' G->RpL (Rp w K r) ys us G->RpL (Rp w' K' r) ys us G:=by
    intro ys
    induction ys with
    | nil=>intro us G _ h;exact h
    | cons y ys ih=>
     rintro us G hG ⟨v1,v2,F1,F2,rfl,rfl,h1,h2⟩;exact⟨v1,v2,F1,F2,rfl,rfl,Rp.frame hK r y h1 λg hg=>hG g (by simp [hg]),ih _ _ (λg hg=>hG g (by simp [hg])) h2⟩
   exact key _ _ _ (λg hg=>by cases hg) hr
  .rcases hx with hx | ⟨ad,e,h1,h2,h3⟩
   .exact .inl hx
   .obtain ⟨h4,h5⟩:=hK.2 _ h1 h2;exact .inr ⟨ad,e,h5,AkI h2 hK.1,λj hj=>(LE (w:=w) (w':=w') (a:=ad.add j) (by rw [Dn];exact h4)).trans (h3 j hj)⟩
 | .pt t,o,_,_,h,_=>by
  simp only [Rp]at h ⊢;refine⟨h.1,?_⟩;cases o with
  | none=>exact h.2
  | some x=>
   obtain ⟨ad,ws,e,h0,h1,h2,h3⟩:=h.2;obtain ⟨h4,h5⟩:=hK.2 _ h1 h2;exact⟨ad,ws,e,Rp.frame hK t x h0 (λg hg=>by cases hg),h5,AkI h2 hK.1,λj hj=>(LE (w:=w) (w':=w') (a:=ad.add j) (by rw [Dn];exact h4)).trans (h3 j hj)⟩
theorem RpL.frame {w w':World} {K K':Nat->Prop} (hK:KSame w w' K K') (r:Ty):∀(ys:List r.D) (us:List Value) (G:List Nat),C6 w w' G->RpL (Rp w K r) ys us G->RpL (Rp w' K' r) ys us G:=by
 intro ys
 induction ys with
 | nil=>intro us G _ h;exact h
 | cons y ys ih=>
  rintro us G hG ⟨v1,v2,F1,F2,rfl,rfl,h1,h2⟩;exact⟨v1,v2,F1,F2,rfl,rfl,Rp.frame hK r y h1 λg hg=>hG g (by simp [hg]),ih _ _ (λg hg=>hG g (by simp [hg])) h2⟩
theorem Acm {w:World} {K:Nat->Prop} {t:Ty} {x:t.D} {vs F} (hs:t.size=1) (h:Rp w K t x vs F):∃v,vs=[v]:=by
 have:=Rp.len t x h;rw [hs]at this
 match vs,this with
 | [v],_=>exact⟨v,rfl⟩
theorem VQ {t:Ty} {x z:t.D} (hp:∀a b,t≠.pair a b) (hu:t≠.unit) {u:Ty} {zz:u.D} {y:t.D} (h:setCell t x 0 u zz=some y):∃e:u=t,y=e ▸ zz:=by
 cases t with
 | pair a b=>exact absurd rfl (hp a b)
 | unit=>exact absurd rfl hu
 | lp=>simp [setCell]at h
 | mp=>simp [setCell]at h
 | _=>simp only [setCell]at h;split at h <;> simp_all
theorem Rp.cell {w:World} {K:Nat->Prop}:∀(t:Ty) (x:t.D) (j:Nat) {c:(u:Ty)×u.D} {vs F},Rp w K t x vs F->Aw t x j=some c->
  ∃pre v post Fa G Fb,vs=pre++([v]++post)/\pre.length=j/\F=Fa++(G++Fb)/\Rp w K c.1 c.2 [v] G/\
   ∀(w':World) (K':Nat->Prop) (y:c.1.D) (v':Value) (G':List Nat) (x':t.D),setCell t x j c.1 y=some x'->Rp w' K' c.1 y [v'] G'->KSame w w' K K'->
    C6 w w' Fa->C6 w w' Fb->Rp w' K' t x' (pre++([v']++post)) (Fa++(G'++Fb))
 | .pair a b,(x,y),j,c,vs,F,h,hc=>by
  simp only [Rp]at h;obtain ⟨v1,v2,F1,F2,rfl,rfl,h1,h2⟩:=h;have l1:=Rp.len a _ h1;simp only [Aw]at hc;split at hc
  .rename_i hj;obtain ⟨pre,v,post,Fa,G,Fb,rfl,hl,rfl,hv,hset⟩:=Rp.cell a x j h1 hc;refine⟨pre,v,post++v2,Fa,G,Fb++F2,Z,hl,Z,hv,?_⟩;intro w' K' z v' G' x' hs hz hK sa sb;simp only [setCell,AjS hj,AkO]at hs;obtain ⟨xa,hxa,rfl⟩:=hs;simp only [Rp];refine⟨pre++([v']++post),v2,Fa++(G'++Fb),F2,Z,Z,hset w' K' z v' G' xa hxa hz hK sa (λg hg=>sb g (by simp [hg])),?_⟩;exact Rp.frame hK b _ h2 λg hg=>sb g (by simp [hg])
  .rename_i hj;obtain ⟨pre,v,post,Fa,G,Fb,rfl,hl,rfl,hv,hset⟩:=Rp.cell b y _ h2 hc;refine⟨v1++pre,v,post,F1++Fa,G,Fb,Z,by rw [AjU];omega,Z,hv,?_⟩;intro w' K' z v' G' x' hs hz hK sa sb;simp only [setCell,AjR hj,AkO]at hs;obtain ⟨xb,hxb,rfl⟩:=hs;simp only [Rp];refine⟨v1,pre++([v']++post),F1,Fa++(G'++Fb),Z,Z,?_,hset w' K' z v' G' xb hxb hz hK (λg hg=>sa g (by simp [hg])) sb⟩;exact Rp.frame hK a _ h1 λg hg=>sa g (by simp [hg])
 | .unit,_,_,_,_,_,_,hc=>by simp [Aw]at hc
 | .int k,x,j,c,vs,F,h,hc=>leafCase (λ_ _=>by simp) Z rfl h hc (by cases j <;> simp [Aw]at hc ⊢)
 | .bool,x,j,c,vs,F,h,hc=>leafCase (λ_ _=>by simp) Z rfl h hc (by cases j <;> simp [Aw]at hc ⊢)
 | .lp,_,_,_,_,_,h,_=>by simp only [Rp]at h
 | .mh,x,j,c,vs,F,h,hc=>leafCase (λ_ _=>by simp) Z rfl h hc (by cases j <;> simp [Aw]at hc ⊢)
 | .mp,_,_,_,_,_,h,_=>by simp only [Rp]at h
 | .er,x,j,c,vs,F,h,hc=>leafCase (λ_ _=>by simp) Z rfl h hc (by cases j <;> simp [Aw]at hc ⊢)
 | .pt t,x,j,c,vs,F,h,hc=>leafCase (λ_ _=>by simp) Z rfl h hc (by cases j <;> simp [Aw]at hc ⊢)
 | .str,x,j,c,vs,F,h,hc=>leafCase (λ_ _=>by simp) Z rfl h hc (by cases j <;> simp [Aw]at hc ⊢)
 | .sl o e r,x,j,c,vs,F,h,hc=>leafCase (λ_ _=>by simp) Z rfl h hc (by cases j <;> simp [Aw]at hc ⊢)
where
 leafCase {w:World} {K:Nat->Prop} {t:Ty} {x:t.D} {j:Nat} {c:(u:Ty)×u.D} {vs F} (hp:∀a b,t≠.pair a b) (hu:t≠.unit) (hs:t.size=1)
   (h:Rp w K t x vs F) (hc:Aw t x j=some c) (hj:j=0) :
   ∃pre v post Fa G Fb,vs=pre++([v]++post)/\pre.length=j/\F=Fa++(G++Fb)/\Rp w K c.1 c.2 [v] G/\
    ∀(w':World) (K':Nat->Prop) (y:c.1.D) (v':Value) (G':List Nat) (x':t.D),setCell t x j c.1 y=some x'->Rp w' K' c.1 y [v'] G'->KSame w w' K K'->
     C6 w w' Fa->C6 w w' Fb->Rp w' K' t x' (pre++([v']++post)) (Fa++(G'++Fb)):=by
  subst hj;have hct:c=⟨t,x⟩:=by
   cases t with
   | pair a b=>exact absurd rfl (hp a b)
   | unit=>exact absurd rfl hu
   | lp=>simp [Ty.size]at hs
   | mp=>simp [Ty.size]at hs
   | _=>simp only [Aw,AjN]at hc;exact hc.symm
  subst hct;obtain ⟨v,rfl⟩:=Acm hs h;refine⟨[],v,[],[],F,[],Z,rfl,Z,h,?_⟩;intro w' K' y v' G' x' hset hy _ _ _;obtain ⟨e,rfl⟩:=VQ (z:=x) hp hu hset;simpa using hy
def adr (w:World) (h:Value):Ty->AP->Option Addr
 | .sl _ _ r,(i,j)::ps=>match h with
  | .slice (some a) _ _=>match ps with
   | []=>some (a.add (i * r.size+j))
   | p::ps=>match w.cell? (a.add (i * r.size+j)),cty r j with
    | some h',some t'=>adr w h' t' (p::ps)
    | _,_=>none
  | _=>none
 | _,_=>none
where
 cty:Ty->Nat->Option Ty
  | .pair a b,j=>if j < a.size then cty a j else cty b (j - a.size)
  | .unit,_=>none
  | t,0=>some t
  | _,_+1=>none
def hdr (w:World) (h:Value) (t:Ty):AP->Option Value
 | []=>some h
 | st=>match adr w h t st with
  | some a=>w.cell? a
  | none=>none
theorem Db:∀(t:Ty) (x:t.D) (j:Nat) {c},Aw t x j=some c->adr.cty t j=some c.1
 | .pair a b,(x,y),j,c,h=>by
  simp only [Aw]at h;simp only [adr.cty];split at h
  .rename_i hj;rw [AjS hj];exact Db a x j h
  .rename_i hj;rw [AjR hj];exact Db b y _ h
 | .unit,_,_,_,h=>by simp [Aw]at h
 | .int _,_,0,_,h=>by simp only [Aw,AjN]at h;subst h;rfl
 | .bool,_,0,_,h=>by simp only [Aw,AjN]at h;subst h;rfl
 | .er,_,0,_,h=>by simp only [Aw,AjN]at h;subst h;rfl
 | .lp,_,_,_,h=>by simp [Aw]at h
 | .mh,_,0,_,h=>by simp only [Aw,AjN]at h;subst h;rfl
 | .mh,_,_+1,_,h=>by simp [Aw]at h
 | .mp,_,_,_,h=>by simp [Aw]at h
 | .str,_,0,_,h=>by simp only [Aw,AjN]at h;subst h;rfl
 | .pt _,_,0,_,h=>by simp only [Aw,AjN]at h;subst h;rfl
 | .sl _ _ _,_,0,_,h=>by simp only [Aw,AjN]at h;subst h;rfl
 | .int _,_,_+1,_,h=>by simp [Aw]at h
 | .bool,_,_+1,_,h=>by simp [Aw]at h
 | .er,_,_+1,_,h=>by simp [Aw]at h
 | .str,_,_+1,_,h=>by simp [Aw]at h
 | .pt _,_,_+1,_,h=>by simp [Aw]at h
 | .sl _ _ _,_,_+1,_,h=>by simp [Aw]at h
theorem C4 {α β:Type} (o:Option β) (f:β->Tr α):(Tr.get β o f).run=o.bind λb=>(f b).run:=by cases o <;> rfl
theorem run_bind {α β:Type} (t:Tr α) (f:α->Tr β):(t.bind f).run=t.run.bind λx=>(f x).run:=by
 induction t with
 | ret a=>rfl
 | fail=>rfl
 | br c t e ih1 ih2=>simp only [Tr.bind,Tr.run];split <;> assumption
 | get γ o g ih=>cases o <;> simp [Tr.bind,Tr.run,ih]
 | alt γ δ s g h ih1 ih2=>cases s <;> simp [Tr.bind,Tr.run,ih1,ih2]
 | rdO k g ih=>rfl
 | rdC k off g ih=>rfl
 | rdM k g ih=>rfl
theorem Vy {α:Type} (cs:List α) (off n:Nat) (a v b:List α) (h:(cs.drop off).take n=a++(v++b)) (j:Nat) (hj:j < v.length):cs[off+a.length+j]?=v[j]?:=by
 have h1:((cs.drop off).take n)[a.length+j]?=v[j]?:=by
  rw [h,Aky O,AkG O]
  congr 1;omega
 rw [<- h1,List.getElem?_take,Akt];have:a.length+j < n:=by
  have:=congrArg List.length h;simp only [AjW,AjU]at this;have h3:(cs.drop off).length=cs.length - off:=Akf ..;rcases Nat.lt_or_ge (a.length+j) n with h4 | h4
  .exact h4
  .omega
 rw [AjS this];congr 1;omega
theorem Rp.elem {w:World} {K:Nat->Prop} {e:TypeId} {r:Ty} {xs:List r.D} {h:Value} {F:List Nat} (hp:Rp w K (.sl true e r) xs [h] F) {i j:Nat} {row:r.D} {c:(u:Ty)×u.D}
  (hi:xs[i]?=some row) (hc:Aw r row j=some c) :
  ∃(g off cap:Nat) (cs:Array Value) (fr:Nat×Nat) (v:Value) (F1 Fa G Fb F2:List Nat),h=.slice (some ⟨g,off,none⟩) xs.length cap/\F=g::(F1++((Fa++(G++Fb))++F2))/\w.heap[g]?=some (.cells cs e fr)/\NFt r fr cs.size/\
   off+cap * r.size<=cs.size/\xs.length<=cap/\
   cs[off+(i * r.size+j)]?=some v/\off+(i * r.size+j) < cs.size/\Rp w K c.1 c.2 [v] G/\
   ∀(w':World) (K':Nat->Prop) (y:c.1.D) (v':Value) (G':List Nat) (row':r.D) (cs':Array Value),setCell r row j c.1 y=some row'->Rp w' K' c.1 y [v'] G'->KSame w w' K K'->
    w'.heap[g]?=some (.cells cs' e fr)->cs'=cs.setIfInBounds (off+(i * r.size+j)) v'->C6 w w' F1->C6 w w' Fa->C6 w w' Fb->C6 w w' F2->
    Rp w' K' (.sl true e r) (xs.set i row') [h] (g::(F1++((Fa++(G'++Fb))++F2))):=by
 simp only [Rp]at hp;rcases hp with⟨rfl,_⟩ | ⟨g,off,cap,cs,fr,F',hh,rfl,hg,hn,hoff,hlen,hr⟩
 .simp at hi
 obtain ⟨v1,v,v2,F1,G0,F2,hw,hl,rfl,hrow,ht,hd⟩:=RpL.get (λx vs F h=>Rp.len r x h) hr hi;obtain ⟨pre,u,post,Fa,G,Fb,rfl,hpl,rfl,hu,hset⟩:=Rp.cell r row j hrow hc;have hcell:cs[off+(i * r.size+j)]?=some u:=by
  have:=Vy cs.toList off _ v1 (pre++([u]++post)) v2 hw pre.length Z;rw [Aky O]at this;simp only [AlE,AkB,Akm,Ak0]at this;rw [hl,hpl]at this;rw [<- Aj6,<- this];congr 1;omega
 have hlt:off+(i * r.size+j) < cs.size:=(Ald.1 hcell).1;have hil:i < xs.length:=(Akn.1 hi).1;injection hh with hh _
 refine⟨g,off,cap,cs,fr,u,F1,Fa,G,Fb,F2,hh,rfl,hg,hn,hoff,hlen,hcell,hlt,hu,?_⟩;intro w' K' y v' G' row' cs' hs hy hK hg' hcs s1 sa sb s2;subst hcs;simp only [Rp];refine .inr ⟨g,off,cap,_,fr,_,by rw [AkQ,hh],rfl,hg',by simpa using hn,by simpa using hoff,by simpa using hlen,?_⟩;have hnew:=RpL.set hi (RpL.frame hK r _ _ _ s1 ht) (RpL.frame hK r _ _ _ s2 hd) (hset w' K' y v' G' row' hs hy hK sa sb);rw [AkQ];have:((cs.setIfInBounds (off+(i * r.size+j)) v').toList.drop off).take (xs.length * r.size)=v1++((pre++([v']++post))++v2):=by
  rw [Array.toList_setIfInBounds,List.drop_set,AjR O,List.take_set,hw];have h1:v1++((pre++([u]++post))++v2)=(v1++pre)++u::(post++v2):=by simp
  have h2:v1++((pre++([v']++post))++v2)=(v1++pre)++v'::(post++v2):=by simp
  rw [h1,h2,List.set_append_right _ _ (by rw [AjU];omega)];have h3:off+(i * r.size+j) - off - (v1++pre).length=0:=by rw [AjU];omega
  rw [h3];rfl
 rw [this];exact hnew
theorem DA {e:TypeId} {r:Ty} {xs:List r.D} {i j:Nat} {ps:AP} {c:(u:Ty)×u.D} (h:(Ao (.sl true e r) xs ((i,j)::ps)).run=some c) :
  ∃row d,xs[i]?=some row/\Aw r row j=some d/\(Ao d.1 d.2 ps).run=some c:=by
 simp only [Ao,C4,AjQ]at h;obtain ⟨row,hrow,h⟩:=h;split at h
 .rename_i d hd;exact⟨row,d,hrow,hd,h⟩
 .simp [Tr.run]at h
theorem Ug {g:Nat} {F1 Fa G Fb F2:List Nat} (hnd:(g::(F1++((Fa++(G++Fb))++F2))).Nodup):G.Nodup:=by
 rw [AkE]at hnd;have h1:=hnd.2;rw [Aj8]at h1;have h2:=h1.2.1;rw [Aj8]at h2;have h3:=h2.1;rw [Aj8]at h3;have h4:=h3.2.1;rw [Aj8]at h4;exact h4.1
theorem Rp.reach {w:World} {K:Nat->Prop}:∀(st:AP) (t:Ty) (x:t.D) {h:Value} {F:List Nat} {c:(u:Ty)×u.D},Rp w K t x [h] F->(Ao t x st).run=some c->
  ∃h' F',hdr w h t st=some h'/\Rp w K c.1 c.2 [h'] F'/\(∀g∈F',g∈F)/\(F.Nodup->F'.Nodup)/\(st≠[]->∃a,adr w h t st=some a/\w.cell? a=some h'/\a.block∈F/\a.spot=none/\w.frozen? a=false)
 | [],t,x,h,F,c,hp,hg=>by
  simp only [Ao,Tr.run,AjN]at hg;subst hg;exact⟨h,F,rfl,hp,λ_ hg=>hg,λh=>h,λhne=>absurd rfl hne⟩
 | (i,j)::ps,t,x,h,F,c,hp,hg=>by
  match t,x,hp,hg with
  | .sl true e r,xs,hp,hg=>
   obtain ⟨row,d,hrow,hd,hrest⟩:=DA hg;obtain ⟨g,off,cap,cs,fr,v,F1,Fa,G,Fb,F2,rfl,rfl,hh,hn,_,_,hcell,hlt,hv,_⟩:=Rp.elem hp hrow hd;have hc?:w.cell? ⟨g,off+(i * r.size+j),none⟩=some v:=by rw [A7 hh];exact hcell
   obtain ⟨h',F',hhd,hp',hsub,hnod,hne⟩:=Rp.reach ps d.1 d.2 hv hrest;refine⟨h',F',?_,hp',?_,λhx=>hnod (Ug hx),?_⟩
   .cases ps with
    | nil=>
     simp only [hdr,AjN]at hhd;subst hhd;simp only [hdr,adr,A6];exact hc?
    | cons p ps=>
     simp only [hdr,adr,A6,hc?,Db r row j hd];simpa only [hdr] using hhd
   .intro b hb;have:=hsub b hb;simp [*]
   .intro _;cases ps with
    | nil=>
     simp only [hdr,AjN]at hhd;subst hhd;exact⟨⟨g,off+(i * r.size+j),none⟩,by simp only [adr,A6],hc?,Z,rfl,Dj hh hn.nf hlt⟩
    | cons p ps=>
     obtain ⟨a,ha,h1,h2,h3,h4⟩:=hne Z;refine⟨a,by simp only [adr,A6,hc?,Db r row j hd];exact ha,h1,?_,h3,h4⟩;simp [*]
  | .sl false _ _,_,_,hg=>simp [Ao,Tr.run]at hg
  | .int _,_,_,hg=>simp [Ao,Tr.run]at hg
  | .bool,_,_,hg=>simp [Ao,Tr.run]at hg
  | .er,_,_,hg=>simp [Ao,Tr.run]at hg
  | .lp,_,_,hg=>simp [Ao,Tr.run]at hg
  | .mh,_,_,hg=>simp [Ao,Tr.run]at hg
  | .mp,_,_,hg=>simp [Ao,Tr.run]at hg
  | .str,_,_,hg=>simp [Ao,Tr.run]at hg
  | .unit,_,_,hg=>simp [Ao,Tr.run]at hg
  | .pair _ _,_,_,hg=>simp [Ao,Tr.run]at hg
theorem Ts {w w':World} {h:Value} {t:Ty} {p:Nat×Nat}:adr w' h t [p]=adr w h t [p]:=by
 cases t with
 | sl o e r=>
  cases h with
  | slice A _ _=>cases A <;> rfl
  | _=>rfl
 | _=>rfl
theorem Rp.put {w:World} {K:Nat->Prop}:∀(st:AP) (t:Ty) (x:t.D) {h:Value} {F:List Nat} {c:(u:Ty)×u.D} {z:c.1.D} {y:t.D},st≠[]->Rp w K t x [h] F->F.Nodup->(Ao t x st).run=some c->(Fp t x st c.1 z).run=some y->
  ∃a h' Fa G Fb,adr w h t st=some a/\w.cell? a=some h'/\a.spot=none/\F=Fa++(G++Fb)/\a.block∈Fa/\Rp w K c.1 c.2 [h'] G/\w.frozen? a=false/\
   ∀(w':World) (K':Nat->Prop) (v':Value) (G':List Nat),Rp w' K' c.1 z [v'] G'->KSame w w' K K'->w'.heap[a.block]?=(w.setCell a v').heap[a.block]?->
    (∀g∈Fa++Fb,g≠a.block->w'.heap[g]?=w.heap[g]?)->Rp w' K' t y [h] (Fa++(G'++Fb))/\∀n,adr w' h t (Cf st n)=adr w h t (Cf st n)
 | [],_,_,_,_,_,_,_,hne,_,_,_,_=>absurd rfl hne
 | (i,j)::ps,t,x,h,F,c,z,y,_,hp,hnd,hg,hs=>by
  match t,x,y,hp,hg,hs with
  | .sl true e r,xs,y,hp,hg,hs=>
   obtain ⟨row,d,hrow,hd,hrest⟩:=DA hg;have hs':∃yy row',(Fp d.1 d.2 ps c.1 z).run=some yy/\setCell r row j d.1 yy=some row'/\y=(xs:List r.D).set i row':=by
    simp only [Fp,C4,AjQ]at hs;obtain ⟨row2,hrow2,hs⟩:=hs;obtain rfl:row=row2:=by rw [hrow]at hrow2;injection hrow2
    rw [hd]at hs;simp only [run_bind,AjQ]at hs;obtain ⟨yy,h1,hs⟩:=hs;split at hs
    .rename_i row' hr;simp only [Tr.run,AjN]at hs;exact⟨yy,row',h1,hr,hs.symm⟩
    .simp [Tr.run]at hs
   obtain ⟨yy,row',hsy,hset,rfl⟩:=hs';obtain ⟨g,off,cap,cs,fr,v,F1,Fa,G,Fb,F2,rfl,rfl,hh,hn,hcap,hlen,hcell,hlt,hv,hput⟩:=Rp.elem hp hrow hd;have hc?:w.cell? ⟨g,off+(i * r.size+j),none⟩=some v:=by rw [A7 hh];exact hcell
   cases ps with
   | nil=>
    simp only [Ao,Tr.run,AjN]at hrest;subst hrest;simp only [Fp]at hsy;split at hsy
    .simp only [Tr.run,AjN]at hsy;subst hsy;refine⟨⟨g,off+(i * r.size+j),none⟩,v,g::(F1++Fa),G,Fb++F2,by simp only [adr,A6],hc?,rfl,Z,Z,hv,Dj hh hn.nf hlt,?_⟩;intro w' K' v' G' hz hK hblk hrest;have hnd':∀b,b∈F1\/b∈Fa\/b∈Fb\/b∈F2->b≠g:=by
      rintro b hb rfl;rw [AkE]at hnd;apply hnd.1;simp only [AjV];rcases hb with hb | hb | hb | hb <;> simp [hb]
     have hnew:w'.heap[g]?=some (.cells (cs.setIfInBounds (off+(i * r.size+j)) v') e fr):=by
      rw [hblk];exact Mr hh _ _
     have:=hput w' K' z v' G' row' _ hset hz hK hnew rfl (λb hb=>hrest b (by simp [hb]) (hnd' b (by simp [hb]))) (λb hb=>hrest b (by simp [hb]) (hnd' b (by simp [hb])))
      (λb hb=>hrest b (by simp [hb]) (hnd' b (by simp [hb]))) (λb hb=>hrest b (by simp [hb]) (hnd' b (by simp [hb])))
     exact⟨by simpa using this,λn=>Ts⟩
    .simp [Tr.run]at hsy
   | cons p ps=>
    have hndG:G.Nodup:=Ug hnd;obtain ⟨a,h',Ga,G0,Gb,ha,h1,h2,rfl,hain,hG0,h4,hset2⟩:=Rp.put (p::ps) d.1 d.2 Z hv hndG hrest hsy;have hag:a.block≠g:=by
     rintro rfl;rw [AkE]at hnd;apply hnd.1;simp [hain]
    have hout:∀b,b∈F1\/b∈Fa\/b∈Fb\/b∈F2->b≠a.block:=by
     rintro b hb rfl;rw [AkE]at hnd;have hn2:=hnd.2;have hA:∀(X Y:List Nat),(X++Y).Nodup->∀q,q∈X->q∈Y->False:=λX Y hXY q hX hY=>(Aj8.1 hXY).2.2 q hX q hY rfl
     rcases hb with hb | hb | hb | hb
     .exact hA F1 _ hn2 a.block hb (by simp [hain])
     .have h5:=(Aj8.1 hn2).2.1;have h6:=(Aj8.1 h5).1;exact hA Fa _ h6 a.block hb (by simp [hain])
     .have h5:=(Aj8.1 hn2).2.1;have h6:=(Aj8.1 h5).1;have h7:=(Aj8.1 h6).2.1;exact hA _ Fb h7 a.block (by simp [hain]) hb
     .have h5:=(Aj8.1 hn2).2.1;exact hA _ F2 h5 a.block (by simp [hain]) hb
    refine⟨a,h',g::(F1++(Fa++Ga)),G0,Gb++(Fb++F2),by simp only [adr,A6,hc?,Db r row j hd];exact ha,h1,h2,Z,by simp [hain],hG0,h4,?_⟩;intro w' K' v' G' hz hK hblk hrest2;obtain ⟨hinner,hadr⟩:=hset2 w' K' v' G' hz hK hblk (λb hb hne=>hrest2 b (by simp only [AjV,Aj5]at hb ⊢;rcases hb with hb | hb <;> simp [hb]) hne);have hgs:w'.heap[g]?=some (.cells cs e fr):=by rw [hrest2 g Z (Ne.symm hag)];exact hh
    have hsame:cs=cs.setIfInBounds (off+(i * r.size+j)) v:=by
     apply Array.ext_getElem?;intro m;rw [Array.getElem?_setIfInBounds];split
     .subst_vars;first | exact hcell | (rw [AjS hlt];exact hcell)
     .rfl
    have:=hput w' K' yy v (Ga++(G'++Gb)) row' cs hset hinner hK hgs hsame (λb hb=>hrest2 b (by simp [hb]) (hout b (by simp [hb]))) (λb hb=>hrest2 b (by simp [hb]) (hout b (by simp [hb])))
      (λb hb=>hrest2 b (by simp [hb]) (hout b (by simp [hb]))) (λb hb=>hrest2 b (by simp [hb]) (hout b (by simp [hb])))
    refine⟨by simpa using this,λn=>?_⟩;have hc2:w'.cell? ⟨g,off+(i * r.size+j),none⟩=some v:=by rw [A7 hgs];exact hcell
    have hb:Cf ((i,j)::p::ps) n=(i,j)::Cf (p::ps) n:=rfl;obtain ⟨q',ps',hq⟩:∃q' ps',Cf (p::ps) n=q'::ps':=by
     cases ps with
     | nil=>obtain ⟨x,y⟩:=p;exact⟨_,_,rfl⟩
     | cons q2 ps=>exact⟨_,_,rfl⟩
    have:=hadr n;rw [hb];rw [hq]at this ⊢;simp only [adr,A6,hc?,hc2,Db r row j hd];exact this
  | .sl false _ _,_,_,_,hg,_=>simp [Ao,Tr.run]at hg
  | .int _,_,_,_,hg,_=>simp [Ao,Tr.run]at hg
  | .bool,_,_,_,hg,_=>simp [Ao,Tr.run]at hg
  | .er,_,_,_,hg,_=>simp [Ao,Tr.run]at hg
  | .lp,_,_,_,hg,_=>simp [Ao,Tr.run]at hg
  | .mh,_,_,_,hg,_=>simp [Ao,Tr.run]at hg
  | .mp,_,_,_,hg,_=>simp [Ao,Tr.run]at hg
  | .str,_,_,_,hg,_=>simp [Ao,Tr.run]at hg
  | .unit,_,_,_,hg,_=>simp [Ao,Tr.run]at hg
  | .pair _ _,_,_,_,hg,_=>simp [Ao,Tr.run]at hg
end Go.V
namespace Go.V
def glo:Nat->Prop:=λ_=>False
def GlF:World->Prop:=λ_=>True
theorem WB {w:World} (_:GlF w) {g:Nat} (hg:glo g):g < w.heap.size:=hg.elim
theorem UG {w w':World} (_:GlF w) (_:∀g,glo g->w'.heap[g]?=w.heap[g]?):GlF w':=trivial
theorem Wg (w:World):GlF w:=trivial
end Go.V
namespace Go.V
open Go.RowKit
structure Base where
 w0:World
 Ro:Nat->Prop
 O0:Nat->Prop
 n1:Nat
 ms:List (Nat×Nat)
 fx:List (Nat×Value)
 gl:GlF w0/\∀g,glo g->Ro g/\¬ O0 g
structure Cc where
 mb:Nat->Nat
 mo:Nat->Nat
 hv:Nat->Value
 F:Nat->List Nat
def AW (S:St) (c:Cc) (g:Nat):Prop:=(∃k,S.ms k≠none/\c.mb k=g)\/(∃k,S.ow k≠none/\g∈c.F k)
def Kok (b:Base) (S:St) (c:Cc) (g:Nat):Prop:=(b.Ro g\/b.w0.heap.size<=g\/b.O0 g)/\¬ AW S c g
def P4 (size len:Nat) (win:Option (Nat×Nat)) (h v:Value):Prop:=
 match win with
 | none=>v=h
 | some (lo,m)=>∃A n cap A' cap' q,h=.slice A n cap/\v=.slice A' (min m (len - lo)) cap'/\min m (len - lo)<=cap'/\q+cap'<=cap/\(0 < min m (len - lo)->q=lo)/\
  (A=none->A'=none/\cap'=0)/\∀a,A=some a->A'=some (a.add (q * size))
def TB (S:St) (c:Cc) (p:Nat×Nat) (v:Value):Prop:=∃n,S.ms p.1=some n/\v=.pointer (some ⟨c.mb p.1,c.mo p.1+p.2,none⟩)
def LeafOk (S:St) (c:Cc) (w:World) (K:Nat->Prop):Leaf->Value->Prop
 | .v t x,v=>Rp w K t x [v] []
 | .vw k st win,v=>∃(o:Own) (e:TypeId) (r:Ty) (ys:List r.D) (h:Value),S.ow k=some o/\(Ao (.sl true o.e o.r) o.xs st).run=some ⟨.sl true e r,ys⟩/\
  hdr w (c.hv k) (.sl true o.e o.r) st=some h/\P4 r.size ys.length win h v
 | .qn e,v=>∃q:Bool,v=.bool q/\(q=true->e=true)
 | .nil,v=>v=.slice none 0 0
 | .p k off,v=>TB S c (k,off) v
 | .mh k,v=>S.ms k=some 0/\v=.map (some (c.mb k))
 | .md _,_=>False
 | .np,v=>v=.pointer none
 | .no,_=>True
inductive All2 {α β:Type} (p:α->β->Prop):List α->List β->Prop
 | nil:All2 p [] []
 | cons {a b as bs}:p a b->All2 p as bs->All2 p (a::as) (b::bs)
def S1Ok (S:St) (c:Cc) (w:World) (K:Nat->Prop):S1->Value->Prop
 | .one l,v=>LeafOk S c w K l v
 | .ag ls,v=>∃vs:List Value,v=.agg vs.toArray/\All2 (LeafOk S c w K) ls vs
 | .pl k off,v=>∃n,S.ms k=some n/\v=.pointer (some ⟨c.mb k,c.mo k+off,none⟩)
 | .el k st,v=>∃(o:Own) (a:Addr),S.ow k=some o/\adr w (c.hv k) (.sl true o.e o.r) st=some a/\v=.pointer (some a)/\
  ∃(pre:AP) (p:Nat×Nat) (d:(u:Ty)×u.D),st=pre++[p]/\(Ao (.sl true o.e o.r) o.xs pre).run=some d
 | .rp t x off,v=>∃(a:Addr) (vs:List Value),v=.pointer (some (a.add off))/\Rp w K t x vs []/\K a.block/\a.block < w.heap.size/\∀j,j < vs.length->w.cell? (a.add j)=vs[j]?
 | .fv f cs,v=>∃vs:List Value,v=.func (.func f) #[] vs.toArray/\All2 (TB S c) cs vs
def AO (S:St) (c:Cc) (w:World) (K:Nat->Prop):SV->Value->Prop
 | .s x,v=>S1Ok S c w K x v
 | .tu xs,v=>∃vs:List Value,v=.tuple vs.toArray/\All2 (S1Ok S c w K) xs vs
 | .un,v=>v=undef
 | .no,_=>True
def AhV (w0:World) (g o n:Nat) (cs:Array Value) (e:TypeId) (fr:Nat×Nat):Prop:=
 ∀cs0 e0 fr0,w0.heap[g]?=some (.cells cs0 e0 fr0)->e0=e/\fr0=fr/\cs0.size=cs.size/\∀i,(i < o\/o+n<=i)->cs[i]?=cs0[i]?
def MapAt (w:World) (g:Nat) (xs:List (Int×Int)):Prop:=
 ∃es:Array MapEntry,w.heap[g]?=some (.map es es.size)/\es.size=xs.length/\∀i p,xs[i]?=some p->es[i]?=some ({ key:=.int .i64 p.1,val:=.int .i64 p.2,born:=i }:MapEntry)
theorem MapAt.same {w w':World} {g:Nat} {xs:List (Int×Int)} (h:MapAt w g xs) (hg:w'.heap[g]?=w.heap[g]?):MapAt w' g xs:=by
 obtain ⟨es,h1,h2⟩:=h;exact⟨es,by rw [hg];exact h1,h2⟩
structure Inv (b:Base) (S:St) (w:World) (c:Cc):Prop where
 ms:∀k n,S.ms k=some n->0 < n->∃cs e fr,w.heap[c.mb k]?=some (.cells cs e fr)/\c.mo k+n<=cs.size/\NF fr cs.size/\(∀i v,i < n->cs[c.mo k+i]?=some v->LeafOk S c w (Kok b S c) (S.mc k i) v)/\AhV b.w0 (c.mb k) (c.mo k) n cs e fr
 ow:∀k o,S.ow k=some o->Rp w (Kok b S c) (.sl true o.e o.r) o.xs [c.hv k] (c.F k)
 nd:∀k,S.ow k≠none->(c.F k).Nodup
 oo:∀k k',k≠k'->S.ow k≠none->S.ow k'≠none->∀g,g∈c.F k->g∉c.F k'
 mm:∀k k',k≠k'->S.ms k≠none->S.ms k'≠none->c.mb k≠c.mb k'
 mo:∀k k',S.ms k≠none->S.ow k'≠none->c.mb k∉c.F k'
 fr:∀g,AW S c g->g < w.heap.size/\(b.w0.heap.size<=g\/b.O0 g)
 fix:∀g,g < b.w0.heap.size->¬ b.O0 g->w.heap[g]?=b.w0.heap[g]?
 os:w.os=b.w0.os
 tape:w.tape=b.w0.tape
 output:w.output=b.w0.output
 size:b.w0.heap.size<=w.heap.size
 an:∀m g,b.ms[m]?=some g->c.mb (b.n1+m)=g.1/\c.mo (b.n1+m)=g.2
 mp:∀k,S.ms k=some 0->∃xs,S.mc k 0=.md xs/\MapAt w (c.mb k) xs
theorem XY {b:Base} {S:St} {w:World} {c:Cc} (hi:Inv b S w c):GlF w/\∀g,glo g->Kok b S c g:=by
 have hb:=b.gl;have hlt:∀g,glo g->g < b.w0.heap.size:=λg hg=>WB hb.1 hg
 refine⟨UG hb.1 λg hg=>hi.fix g (hlt g hg) (hb.2 g hg).2,λg hg=>⟨.inl (hb.2 g hg).1,λho=>?_⟩⟩;rcases (hi.fr g ho).2 with h | h
 .have:=hlt g hg;omega
 .exact(hb.2 g hg).2 h
structure Slots (N:Nat) (S:St) (c:Cc) (w:World) (K:Nat->Prop) (a:Act):Prop where
 ok:∀i,AO S c w K (S.sl i) (a.tmps.getD i undef)
 n:a.tmps.size=N
 d:a.defers=[]
def Sim (b:Base) (N:Nat) (S:St) (a:Act) (w:World):Prop:=∃c,Inv b S w c/\Slots N S c w (Kok b S c) a/\∀p,p∈b.fx->a.tmps.getD p.1 undef=p.2
theorem AcZ {b:Base} {a:Act} (h:∀p,p∈b.fx->a.tmps.getD p.1 undef=p.2) {d:Option Nat} {v:Value} (hd:∀k,d=some k->∀p,p∈b.fx->p.1≠k):∀p,p∈b.fx->(a.put d v).tmps.getD p.1 undef=p.2:=by
 intro p hp;cases d with
 | none=>exact h p hp
 | some k=>
  have hne:=hd k rfl p hp;have:(a.put (some k) v).tmps.getD p.1 undef=a.tmps.getD p.1 undef:=by
   simp [Act.put,AkX (Ne.symm hne)]
  rw [this];exact h p hp
section
variable {α β γ:Type} {p:α->β->Prop}
theorem All2.mono {q:α->β->Prop} {as bs} (h:∀a b,p a b->q a b) (hx:All2 p as bs):All2 q as bs:=by
 induction hx with
 | nil=>exact .nil
 | cons h1 _ ih=>exact .cons (h _ _ h1) ih
theorem All2.map {f:α->γ} {q:γ->β->Prop} {as bs} (h:∀a b,p a b->q (f a) b) (hx:All2 p as bs):All2 q (as.map f) bs:=by
 induction hx with
 | nil=>exact .nil
 | cons h1 _ ih=>exact .cons (h _ _ h1) ih
theorem All2.len {as bs} (hx:All2 p as bs):as.length=bs.length:=by
 induction hx with
 | nil=>rfl
 | cons _ _ ih=>simp [ih]
theorem All2.get {as bs} (hx:All2 p as bs):∀{i:Nat} {a},as[i]?=some a->∃b,bs[i]?=some b/\p a b:=by
 induction hx with
 | nil=>intro i a h;simp at h
 | cons h1 _ ih=>
  intro i a h;cases i with
  | zero=>simp only [Ak0,AjN]at h;subst h;exact⟨_,rfl,h1⟩
  | succ i=>simp only [AkU]at h ⊢;exact ih h
theorem All2.append {as bs as' bs'} (hx:All2 p as bs) (hy:All2 p as' bs'):All2 p (as++as') (bs++bs'):=by
 induction hx with
 | nil=>exact hy
 | cons h1 _ ih=>exact .cons h1 ih
theorem All2.take {as bs} (hx:All2 p as bs):∀n,All2 p (as.take n) (bs.take n):=by
 induction hx with
 | nil=>intro n;simp;exact .nil
 | cons h1 _ ih=>
  intro n;cases n with
  | zero=>exact .nil
  | succ n=>exact .cons h1 (ih n)
theorem All2.drop {as bs} (hx:All2 p as bs):∀n,All2 p (as.drop n) (bs.drop n):=by
 induction hx with
 | nil=>intro n;simp;exact .nil
 | cons h1 h2 ih=>
  intro n;cases n with
  | zero=>exact .cons h1 h2
  | succ n=>exact ih n
theorem All2.set {as bs} (hx:All2 p as bs):∀(n:Nat) {a b},p a b->All2 p (as.set n a) (bs.set n b):=by
 induction hx with
 | nil=>intro n _ _ _;exact .nil
 | cons h1 h2 ih=>
  intro n _ _ h;cases n with
  | zero=>exact .cons h h2
  | succ n=>exact .cons h1 (ih n h)
end
structure Step (w w':World) (T:Nat->Prop):Prop where
 os:w'.os=w.os
 tape:w'.tape=w.tape
 output:w'.output=w.output
 size:w.heap.size<=w'.heap.size
 same:∀g,g < w.heap.size->¬ T g->w'.heap[g]?=w.heap[g]?
theorem Step.refl (w:World) (T:Nat->Prop):Step w w T:=⟨rfl,rfl,rfl,Akk _,λ_ _ _=>rfl⟩
theorem Step.mono {w w':World} {T T':Nat->Prop} (h:Step w w' T) (ht:∀g,T g->T' g):Step w w' T':=⟨h.os,h.tape,h.output,h.size,λg hg hn=>h.same g hg λx=>hn (ht g x)⟩
theorem Step.trans {w w1 w2:World} {T:Nat->Prop} (h:Step w w1 T) (k:Step w1 w2 T):Step w w2 T:=
 ⟨k.os.trans h.os,k.tape.trans h.tape,k.output.trans h.output,Ako h.size k.size,λg hg hn=>(k.same g (AkI hg h.size) hn).trans (h.same g hg hn)⟩
theorem WW {w w':World} {K:Nat->Prop}:∀(st:AP) (t:Ty) (x:t.D) {h:Value} {F:List Nat} {c:(u:Ty)×u.D},Rp w K t x [h] F->C6 w w' F->(Ao t x st).run=some c->adr w' h t st=adr w h t st
 | [],t,x,h,F,c,_,_,_=>by cases t <;> rfl
 | (i,j)::ps,t,x,h,F,c,hp,hs,hg=>by
  match t,x,hp,hg with
  | .sl true e r,xs,hp,hg=>
   obtain ⟨row,d,hrow,hd,hrest⟩:=DA hg;obtain ⟨g,off,cap,cs,fr,v,F1,Fa,G,Fb,F2,rfl,rfl,hh,hn,_,_,hcell,hlt,hv,_⟩:=Rp.elem hp hrow hd;have hh':w'.heap[g]?=some (.cells cs e fr):=by rw [hs g Z];exact hh
   have h1:w.cell? ⟨g,off+(i * r.size+j),none⟩=some v:=by rw [A7 hh];exact hcell
   have h2:w'.cell? ⟨g,off+(i * r.size+j),none⟩=some v:=by rw [A7 hh'];exact hcell
   cases ps with
   | nil=>simp only [adr]
   | cons p ps=>
    simp only [adr,A6,h1,h2,Db r row j hd];exact WW (p::ps) d.1 d.2 hv (λg hg=>hs g (by simp [hg])) hrest
  | .sl false _ _,_,_,hg=>simp [Ao,Tr.run]at hg
  | .int _,_,_,hg=>simp [Ao,Tr.run]at hg
  | .bool,_,_,hg=>simp [Ao,Tr.run]at hg
  | .er,_,_,hg=>simp [Ao,Tr.run]at hg
  | .lp,_,_,hg=>simp [Ao,Tr.run]at hg
  | .mh,_,_,hg=>simp [Ao,Tr.run]at hg
  | .mp,_,_,hg=>simp [Ao,Tr.run]at hg
  | .str,_,_,hg=>simp [Ao,Tr.run]at hg
  | .pt _,_,_,hg=>simp [Ao,Tr.run]at hg
  | .unit,_,_,hg=>simp [Ao,Tr.run]at hg
  | .pair _ _,_,_,hg=>simp [Ao,Tr.run]at hg
theorem AdM {w w':World} {K:Nat->Prop} {st:AP} {t:Ty} {x:t.D} {h:Value} {F:List Nat} {c:(u:Ty)×u.D} (hp:Rp w K t x [h] F) (hs:C6 w w' F) (hg:(Ao t x st).run=some c):hdr w' h t st=hdr w h t st:=by
 cases st with
 | nil=>rfl
 | cons p ps=>
  obtain ⟨h',F',_,_,_,_,hne⟩:=Rp.reach (p::ps) t x hp hg;obtain ⟨a,ha,hc,hb,_,_⟩:=hne Z;simp only [hdr,WW (p::ps) t x hp hs hg,ha];exact LE (hs _ hb)
theorem Ua {w w':World} {K:Nat->Prop}:∀(st:AP) (t:Ty) (x:t.D) {h:Value} {F:List Nat} {c:(u:Ty)×u.D} (p:Nat×Nat),Rp w K t x [h] F->C6 w w' F->(Ao t x st).run=some c->adr w' h t (st++[p])=adr w h t (st++[p])
 | [],t,x,h,F,c,p,_,_,_=>Ts
 | (i,j)::ps,t,x,h,F,c,p,hp,hs,hg=>by
  match t,x,hp,hg with
  | .sl true e r,xs,hp,hg=>
   obtain ⟨row,d,hrow,hd,hrest⟩:=DA hg;obtain ⟨g,off,cap,cs,fr,v,F1,Fa,G,Fb,F2,rfl,rfl,hh,hn,_,_,hcell,hlt,hv,_⟩:=Rp.elem hp hrow hd;have hh':w'.heap[g]?=some (.cells cs e fr):=by rw [hs g Z];exact hh
   have h1:w.cell? ⟨g,off+(i * r.size+j),none⟩=some v:=by rw [A7 hh];exact hcell
   have h2:w'.cell? ⟨g,off+(i * r.size+j),none⟩=some v:=by rw [A7 hh'];exact hcell
   have ih:=Ua ps d.1 d.2 p hv (λg hg=>hs g (by simp [hg])) hrest;cases ps with
   | nil=>
    simp only [Akm]at ih;simp only [AkB,Akm,adr,A6,h1,h2,Db r row j hd];exact ih
   | cons q ps=>
    simp only [AkB]at ih;simp only [AkB,adr,A6,h1,h2,Db r row j hd];exact ih
  | .sl false _ _,_,_,hg=>simp [Ao,Tr.run]at hg
  | .int _,_,_,hg=>simp [Ao,Tr.run]at hg
  | .bool,_,_,hg=>simp [Ao,Tr.run]at hg
  | .er,_,_,hg=>simp [Ao,Tr.run]at hg
  | .lp,_,_,hg=>simp [Ao,Tr.run]at hg
  | .mh,_,_,hg=>simp [Ao,Tr.run]at hg
  | .mp,_,_,hg=>simp [Ao,Tr.run]at hg
  | .str,_,_,hg=>simp [Ao,Tr.run]at hg
  | .pt _,_,_,hg=>simp [Ao,Tr.run]at hg
  | .unit,_,_,hg=>simp [Ao,Tr.run]at hg
  | .pair _ _,_,_,hg=>simp [Ao,Tr.run]at hg
theorem LZ:∀(pre:AP) (i j n:Nat),Cf (pre++[(i,j)]) n=pre++[(i,j+n)]
 | [],_,_,_=>rfl
 | [p],i,j,n=>rfl
 | p::q::ps,i,j,n=>by
  show p::Cf (q::ps++[(i,j)]) n=_;rw [LZ (q::ps) i j n];rfl
theorem XX {w:World}:∀(st:AP) {h:Value} {t:Ty} {e:TypeId} {r:Ty} {o:Bool} {a:Addr} {n cap:Nat} {x:t.D} {ys:List r.D} {K:Nat->Prop} {F:List Nat} (i:Nat),Rp w K t x [h] F->(Ao t x st).run=some ⟨.sl o e r,ys⟩->hdr w h t st=some (.slice (some a) n cap)->
  adr w h t (st++[(i,0)])=some (a.add (i * r.size))
 | [],h,t,e,r,o,a,n,cap,x,ys,K,F,i,hp,hg,hh=>by
  simp only [hdr,AjN]at hh;subst hh;simp only [Ao,Tr.run,AjN]at hg;injection hg with hg _
  subst hg;simp only [Akm,adr,Alf]
 | (i0,j)::ps,h,t,e,r,o,a,n,cap,x,ys,K,F,i,hp,hg,hh=>by
  match t,x,hp,hg,hh with
  | .sl true e0 r0,xs,hp,hg,hh=>
   obtain ⟨row,d,hrow,hd,hrest⟩:=DA hg;obtain ⟨g,off,cap',cs,fr,v,F1,Fa,G,Fb,F2,rfl,rfl,hb,hn,_,_,hcell,hlt,hv,_⟩:=Rp.elem hp hrow hd;have h1:w.cell? ⟨g,off+(i0 * r0.size+j),none⟩=some v:=by rw [A7 hb];exact hcell
   have hh':hdr w v d.1 ps=some (.slice (some a) n cap):=by
    cases ps with
    | nil=>simp only [hdr,adr,A6,h1,AjN]at hh;simp only [hdr,hh]
    | cons p ps=>simp only [hdr,adr,A6,h1,Db r0 row j hd]at hh;simpa only [hdr] using hh
   have ih:=XX ps i hv hrest hh';cases ps with
   | nil=>
    simp only [Akm]at ih;simp only [AkB,Akm,adr,A6,h1,Db r0 row j hd];exact ih
   | cons q ps=>
    simp only [AkB]at ih;simp only [AkB,adr,A6,h1,Db r0 row j hd];exact ih
  | .sl false _ _,_,_,hg,_=>simp [Ao,Tr.run]at hg
  | .int _,_,_,hg,_=>simp [Ao,Tr.run]at hg
  | .bool,_,_,hg,_=>simp [Ao,Tr.run]at hg
  | .er,_,_,hg,_=>simp [Ao,Tr.run]at hg
  | .lp,_,_,hg,_=>simp [Ao,Tr.run]at hg
  | .mh,_,_,hg,_=>simp [Ao,Tr.run]at hg
  | .mp,_,_,hg,_=>simp [Ao,Tr.run]at hg
  | .str,_,_,hg,_=>simp [Ao,Tr.run]at hg
  | .pt _,_,_,hg,_=>simp [Ao,Tr.run]at hg
  | .unit,_,_,hg,_=>simp [Ao,Tr.run]at hg
  | .pair _ _,_,_,hg,_=>simp [Ao,Tr.run]at hg
theorem NK {w:World}:∀(st:AP) {h:Value} {t:Ty} {a:Addr} (n:Nat),adr w h t st=some a->adr w h t (Cf st n)=some (a.add n)
 | [],h,t,a,n,ha=>by cases t <;> simp [adr]at ha
 | [(i,j)],h,t,a,n,ha=>by
  cases t with
  | sl o e r=>
   cases h with
   | slice A m cp=>
    cases A with
    | none=>simp [adr]at ha
    | some A=>
     simp only [adr,AjN]at ha;subst ha;simp only [Cf,adr,add_add,AjN]
     congr 1;omega
   | _=>simp [adr]at ha
  | _=>simp [adr]at ha
 | (i,j)::q::ps,h,t,a,n,ha=>by
  cases t with
  | sl o e r=>
   cases h with
   | slice A m cp=>
    cases A with
    | none=>simp [adr]at ha
    | some A=>
     have hb:Cf ((i,j)::q::ps) n=(i,j)::Cf (q::ps) n:=rfl;have hq:∃q' ps',Cf (q::ps) n=q'::ps':=by
      cases ps with
      | nil=>obtain ⟨x,y⟩:=q;exact⟨_,_,rfl⟩
      | cons q2 ps=>exact⟨_,_,rfl⟩
     obtain ⟨q',ps',hq⟩:=hq;rw [hb,hq];simp only [adr]at ha ⊢;split at ha
     .rename_i h' t' h1 h2;have:=NK (q::ps) n ha;rw [hq]at this;exact this
     .cases ha
   | _=>simp [adr]at ha
  | _=>simp [adr]at ha
structure Stay (S S':St) (c c':Cc) (w w':World) (K K':Nat->Prop) (ks:List Kl):Prop where
 vw:∀k st win v,ks.all (λx=>x.okV k st)=true->LeafOk S c w K (.vw k st win) v->LeafOk S' c' w' K' (.vw k st win) v
 el:∀k st v,ks.all (λx=>x.okE k st)=true->S1Ok S c w K (.el k st) v->S1Ok S' c' w' K' (.el k st) v
 pl:∀k off v,ks.all (λx=>x.okM k)=true->S1Ok S c w K (.pl k off) v->S1Ok S' c' w' K' (.pl k off) v
 mh:∀k v,ks.all (λx=>x.okM k)=true->LeafOk S c w K (.mh k) v->LeafOk S' c' w' K' (.mh k) v
 kk:KSame w w' K K'
section
variable {S S':St} {c c':Cc} {w w':World} {K K':Nat->Prop} {ks:List Kl}
theorem Stay.leaf (h:Stay S S' c c' w w' K K' ks) {l:Leaf} {v:Value} (hl:LeafOk S c w K l v):LeafOk S' c' w' K' (l.kp ks) v:=by
 cases l with
 | v t x=>exact Rp.frame h.kk t x hl λg hg=>by cases hg
 | vw k st win=>
  simp only [Leaf.kp];split
  .rename_i hk;exact h.vw k st win v hk hl
  .trivial
 | qn e=>exact hl
 | nil=>exact hl
 | p k off=>
  simp only [Leaf.kp];split
  .rename_i hk;exact h.pl k off v hk hl
  .trivial
 | np=>exact hl
 | mh k=>
  simp only [Leaf.kp];split
  .rename_i hk;exact h.mh k v hk hl
  .trivial
 | md xs=>exact hl
 | no=>trivial
theorem Stay.s1 (h:Stay S S' c c' w w' K K' ks) {x:S1} {v:Value} (hx:S1Ok S c w K x v):S1Ok S' c' w' K' (x.kp ks) v:=by
 cases x with
 | one l=>exact h.leaf hx
 | ag ls=>
  obtain ⟨vs,e,hv⟩:=hx;exact⟨vs,e,hv.map λ_ _=>h.leaf⟩
 | pl k off=>
  simp only [S1.kp];split
  .rename_i hk;exact h.pl k off v hk hx
  .trivial
 | el k st=>
  simp only [S1.kp];split
  .rename_i hk;exact h.el k st v hk hx
  .trivial
 | rp t x off=>
  obtain ⟨a,vs,e,hr,hk,hs,hc⟩:=hx;obtain ⟨h1,h2⟩:=h.kk.2 _ hk hs;exact⟨a,vs,e,Rp.frame h.kk t x hr (λg hg=>by cases hg),h2,AkI hs h.kk.1,
   λj hj=>(LE (w:=w) (w':=w') (a:=a.add j) (by rw [Dn];exact h1)).trans (hc j hj)⟩
 | fv f cs=>
  simp only [S1.kp];split
  .rename_i hk;obtain ⟨vs,e,hv⟩:=hx;refine⟨vs,e,?_⟩;clear e
   induction hv with
   | nil=>exact .nil
   | cons h1 _ ih=>
    refine .cons ?_ (ih ?_)
    .exact h.pl _ _ _ (Aki.2 λx hx=>by have:=Aki.1 hk x hx;simp only [Ak8,AjT]at this;exact this.1) h1
    .exact Aki.2 λx hx=>by have:=Aki.1 hk x hx;simp only [Ak8,AjT]at this;exact this.2
  .trivial
theorem Stay.sv (h:Stay S S' c c' w w' K K' ks) {x:SV} {v:Value} (hx:AO S c w K x v):AO S' c' w' K' (x.kp ks) v:=by
 cases x with
 | s x=>exact h.s1 hx
 | tu xs=>
  obtain ⟨vs,e,hv⟩:=hx;exact⟨vs,e,hv.map λ_ _=>h.s1⟩
 | un=>exact hx
 | no=>trivial
theorem Stay.slots {N:Nat} {a:Act} (h:Stay S S' c c' w w' K K' ks) (hs:Slots N S c w K a) (hsl:∀i,S'.sl i=(S.sl i).kp ks) (d:Option Nat) (x:SV) (v:Value) (hd:∀k,d=some k->k < N)
  (hx:AO S' c' w' K' x v) (hrest:∀l v,LeafOk (S'.putO d x) c' w' K' l v↔LeafOk S' c' w' K' l v) (hrest1:∀l v,S1Ok (S'.putO d x) c' w' K' l v↔S1Ok S' c' w' K' l v) :
  Slots N (S'.putO d x) c' w' K' (a.put d v):=by
 have hsv:∀l v,AO (S'.putO d x) c' w' K' l v↔AO S' c' w' K' l v:=by
  intro l v;cases l with
  | s y=>exact hrest1 y v
  | tu ys=>
   constructor
   .rintro ⟨vs,e,hv⟩;exact⟨vs,e,hv.mono λy v=>(hrest1 y v).1⟩
   .rintro ⟨vs,e,hv⟩;exact⟨vs,e,hv.mono λy v=>(hrest1 y v).2⟩
  | un=>exact Iff.rfl
  | no=>exact Iff.rfl
 cases d with
 | none=>
  refine⟨λi=>?_,hs.n,hs.d⟩;rw [hsv];show AO S' c' w' K' (S'.sl i) _;rw [hsl];exact h.sv (hs.ok i)
 | some d=>
  refine⟨λi=>?_,by simp [Act.put,hs.n],hs.d⟩;rw [hsv];show AO S' c' w' K' (if i=d then x else S'.sl i) _;split
  .rename_i e;subst e;have:(a.put (some i) v).tmps.getD i undef=v:=by
    have:=hd i rfl;simp [Act.put,hs.n,this]
   rw [this];exact hx
  .rename_i e;have:(a.put (some d) v).tmps.getD i undef=a.tmps.getD i undef:=by
    simp [Act.put,AkX (Ne.symm e)]
   rw [this,hsl];exact h.sv (hs.ok i)
end
theorem Gi {S S':St} {c:Cc} {w:World} {K:Nat->Prop} (ho:S'.ow=S.ow) (hm:S'.ms=S.ms) (l:Leaf) (v:Value):LeafOk S' c w K l v↔LeafOk S c w K l v:=by
 cases l <;> simp only [LeafOk,TB,ho,hm]
theorem I8 {S S':St} {c:Cc} {w:World} {K:Nat->Prop} (ho:S'.ow=S.ow) (hm:S'.ms=S.ms) (x:S1) (v:Value):S1Ok S' c w K x v↔S1Ok S c w K x v:=by
 cases x with
 | one l=>exact Gi ho hm l v
 | ag ls=>
  constructor
  .rintro ⟨vs,e,hv⟩;exact⟨vs,e,hv.mono λl v=>(Gi ho hm l v).1⟩
  .rintro ⟨vs,e,hv⟩;exact⟨vs,e,hv.mono λl v=>(Gi ho hm l v).2⟩
 | pl k off=>simp only [S1Ok,hm]
 | el k st=>simp only [S1Ok,ho]
 | rp t x off=>exact Iff.rfl
 | fv f cs=>
  constructor
  .rintro ⟨vs,e,hv⟩;exact⟨vs,e,hv.mono λp v ⟨n,h,h'⟩=>⟨n,by rw [<- hm];exact h,h'⟩⟩
  .rintro ⟨vs,e,hv⟩;exact⟨vs,e,hv.mono λp v ⟨n,h,h'⟩=>⟨n,by rw [hm];exact h,h'⟩⟩
theorem Fv {S S':St} {c:Cc} (ho:S'.ow=S.ow) (hm:S'.ms=S.ms) (g:Nat):AW S' c g↔AW S c g:=by
 simp only [AW,ho,hm]
theorem Er {b:Base} {S S':St} {c:Cc} (ho:S'.ow=S.ow) (hm:S'.ms=S.ms):Kok b S' c=Kok b S c:=by
 funext g;simp only [Kok,Fv ho hm]
theorem Qd (S:St) (d:Option Nat) (x:SV):(S.putO d x).ow=S.ow:=by cases d <;> rfl
theorem PQ (S:St) (d:Option Nat) (x:SV):(S.putO d x).ms=S.ms:=by cases d <;> rfl
theorem Agj (S:St) (d:Option Nat) (x:SV):(S.putO d x).mc=S.mc:=by cases d <;> rfl
theorem Leaf.kp_nil (l:Leaf):l.kp []=l:=by cases l <;> simp [Leaf.kp]
theorem S1.kp_nil (x:S1):x.kp []=x:=by
 cases x with
 | one l=>simp [S1.kp,Leaf.kp_nil]
 | ag ls=>simp only [S1.kp];congr 1;exact(AkM λl _=>Leaf.kp_nil l).trans (List.map_id ls)
 | _=>simp [S1.kp]
theorem SV.kp_nil (x:SV):x.kp []=x:=by
 cases x with
 | s x=>simp [SV.kp,S1.kp_nil]
 | tu xs=>simp only [SV.kp];congr 1;exact(AkM λx _=>S1.kp_nil x).trans (List.map_id xs)
 | un=>rfl
 | no=>rfl
theorem G6 (S:St) (ks:List Kl) (i:Nat):(S.kp ks).sl i=(S.sl i).kp ks:=by
 cases ks with
 | nil=>exact(SV.kp_nil _).symm
 | cons k ks=>rfl
theorem Di (S:St) (ks:List Kl) (k i:Nat):(S.kp ks).mc k i=(S.mc k i).kp ks:=by
 cases ks with
 | nil=>exact(Leaf.kp_nil _).symm
 | cons k ks=>rfl
theorem D0 (S:St) (ks:List Kl):(S.kp ks).ow=S.ow:=by cases ks <;> rfl
theorem Du (S:St) (ks:List Kl):(S.kp ks).ms=S.ms:=by cases ks <;> rfl
theorem Adf (us:List U):∀S:St,(S.ups us).sl=S.sl:=by
 induction us with
 | nil=>intro S;rfl
 | cons u us ih=>intro S;rw [St.ups,ih];cases u <;> rfl
theorem Inv.put {b:Base} {S S':St} {w:World} {c:Cc} (ho:S'.ow=S.ow) (hm:S'.ms=S.ms) (hc:S'.mc=S.mc) (h:Inv b S w c):Inv b S' w c:=by
 have hk:Kok b S' c=Kok b S c:=Er ho hm;refine⟨?_,?_,?_,?_,?_,?_,?_,h.fix,h.os,h.tape,h.output,h.size,h.an,λk hk=>by rw [hm]at hk;rw [hc];exact h.mp k hk⟩
 .intro k n hn h0;rw [hm]at hn;obtain ⟨cs,e,fr,h1,h2,h3,h4,h5⟩:=h.ms k n hn h0;exact⟨cs,e,fr,h1,h2,h3,λi v hlt hv=>by rw [hk,hc];exact(Gi ho hm _ _).2 (h4 i v hlt hv),h5⟩
 .intro k o hk';rw [hk];rw [ho]at hk';exact h.ow k o hk'
 .intro k hk';rw [ho]at hk';exact h.nd k hk'
 .intro k k' hne h1 h2;rw [ho]at h1 h2;exact h.oo k k' hne h1 h2
 .intro k k' hne h1 h2;rw [hm]at h1 h2;exact h.mm k k' hne h1 h2
 .intro k k' h1 h2;rw [hm]at h1;rw [ho]at h2;exact h.mo k k' h1 h2
 .intro g hg;exact h.fr g ((Fv ho hm g).1 hg)
theorem St.ext' {S S':St} (h1:∀i,S.sl i=S'.sl i) (h2:∀k,S.ms k=S'.ms k) (h3:∀k i,S.mc k i=S'.mc k i) (h4:∀k,S.ow k=S'.ow k):S=S':=by
 obtain ⟨a,b,c,d⟩:=S;obtain ⟨a',b',c',d'⟩:=S';simp only at h1 h2 h3 h4;rw [funext h1,funext h2,funext h4,show c=c' from funext λk=>funext λi=>h3 k i]
end Go.V