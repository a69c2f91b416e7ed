import GoSem.Dispatch
import Derived.Calls
set_option linter.unusedVariables false
set_option linter.unusedSimpArgs false
namespace Go.V
inductive Ty where
 | int (k:IntKind) | bool | str | unit
 | pair (a b:Ty)
 | sl (o:Bool) (e:TypeId) (r:Ty)
 | pt (t:Ty)
 | er
 | lp
 deriving DecidableEq
@[reducible] def Ty.D:Ty→Type
 | .int _=>Int
 | .bool=>Bool
 | .str=>List UInt8
 | .unit=>Unit
 | .pair a b=>a.D×b.D
 | .sl _ _ r=>List r.D
 | .pt t=>Option t.D
 | .er=>Bool
 | .lp=>Nat×Nat
def Ty.size:Ty→Nat
 | .unit=>0
 | .lp=>0
 | .pair a b=>a.size+b.size
 | _=>1
def Ty.zero:(t:Ty)→t.D
 | .int _=>(0:Int)
 | .bool=>false
 | .str=>([]:List UInt8)
 | .unit=>()
 | .pair a b=>(a.zero,b.zero)
 | .sl _ _ _=>[]
 | .pt _=>none
 | .er=>false
 | .lp=>(0,0)
def Ty.ro:Ty→Bool
 | .pair a b=>a.ro && b.ro
 | .sl o _ _=>!o
 | _=>true
def Ty.deep:Ty→Bool
 | .pair a b=>a.deep && b.deep
 | .sl o _ r=>o && r.deep
 | _=>true
def Ty.frz:Ty→Ty
 | .pair a b=>.pair a.frz b.frz
 | .sl _ e r=>.sl false e r.frz
 | t=>t
theorem Ty.frz_D:(t:Ty)→t.frz.D=t.D
 | .int _ | .bool | .str | .unit | .pt _ | .er | .lp=>rfl
 | .pair a b=>by
  have h1:=frz_D a; have h2:=frz_D b
  show (a.frz.D×b.frz.D)=(a.D×b.D)
  rw [h1,h2]
 | .sl _ _ r=>by
  have h:=frz_D r
  show List r.frz.D=List r.D
  rw [h]
def HO (t:Ty) (x:t.D):t.frz.D:=cast (Ty.frz_D t).symm x
def As:(t:Ty)→t.D→Nat→Option ((u:Ty)×u.D)
 | .pair a b,(x,y),j=>if j < a.size then As a x j else As b y (j - a.size)
 | .unit,_,_=>none
 | .lp,_,_=>none
 | t,x,0=>some ⟨t,x⟩
 | _,_,_+1=>none
def setCell:(t:Ty)→t.D→Nat→(u:Ty)→u.D→Option t.D
 | .pair a b,(x,y),j,u,z=>
  if j < a.size then (setCell a x j u z).map fun x'=>(x',y) else (setCell b y (j - a.size) u z).map fun y'=>(x,y')
 | .unit,_,_,_,_=>none
 | .lp,_,_,_,_=>none
 | t,_,0,u,z=>if h:u=t then some (h ▸ z) else none
 | _,_,_+1,_,_=>none
abbrev AH:=List (Nat×Nat)
structure Own where
 e:TypeId
 r:Ty
 xs:List r.D
inductive Leaf where
 | v (t:Ty) (x:t.D)
 | vw (k:Nat) (st:AH) (win:Option (Nat×Nat))
 | qn (e:Bool)
 | nil
 | no
 | p (k off:Nat)
 | np
inductive S1 where
 | one (l:Leaf)
 | ag (ls:List Leaf)
 | pl (k off:Nat)
 | el (k:Nat) (st:AH)
 | rp (t:Ty) (x:t.D) (off:Nat)
 | fv (f:FuncId) (cs:List (Nat×Nat))
inductive SV where
 | s (x:S1)
 | tu (xs:List S1)
 | un
 | no
structure St where
 sl:Nat→SV
 ms:Nat→Option Nat
 mc:Nat→Nat→Leaf
 ow:Nat→Option Own
inductive Kl where
 | all (k:Nat) | deep (k:Nat) | m (k:Nat)
def Kl.okV:Kl→Nat→AH→Bool
 | .all k,k',_=>!(k' == k)
 | .deep k,k',st=>!(k' == k) || st.isEmpty
 | .m _,_,_=>true
def Kl.okE:Kl→Nat→AH→Bool
 | .all k,k',_=>!(k' == k)
 | .deep k,k',st=>!(k' == k) || decide (st.length≤1)
 | .m _,_,_=>true
def Kl.okM:Kl→Nat→Bool
 | .m k,k'=>!(k' == k)
 | _,_=>true
def Leaf.kp (c:List Kl):Leaf→Leaf
 | .vw k st win=>if c.all (fun x=>x.okV k st) then .vw k st win else .no
 | .p k off=>if c.all (fun x=>x.okM k) then .p k off else .no
 | l=>l
def S1.kp (c:List Kl):S1→S1
 | .one l=>.one (l.kp c)
 | .ag ls=>.ag (ls.map (Leaf.kp c))
 | .pl k off=>if c.all (fun x=>x.okM k) then .pl k off else .one .no
 | .el k st=>if c.all (fun x=>x.okE k st) then .el k st else .one .no
 | .rp t x off=>.rp t x off
 | .fv f cs=>if c.all (fun x=>cs.all fun p=>x.okM p.1) then .fv f cs else .one .no
def SV.kp (c:List Kl):SV→SV
 | .s x=>.s (x.kp c)
 | .tu xs=>.tu (xs.map (S1.kp c))
 | .un=>.un
 | .no=>.no
def St.kp (c:List Kl) (S:St):St:=
 match c with
 | []=>S
 | c=>⟨fun i=>(S.sl i).kp c,S.ms,fun k i=>(S.mc k i).kp c,S.ow⟩
inductive U where
 | ow (k:Nat) (o:Option Own)
 | mc (k off:Nat) (l:Leaf)
 | ms (k:Nat) (row:List Leaf)
def St.up (S:St):U→St
 | .ow k o=>⟨S.sl,S.ms,S.mc,fun i=>if i=k then o else S.ow i⟩
 | .mc k off l=>⟨S.sl,S.ms,fun i j=>if i=k then (if j=off then l else S.mc i j) else S.mc i j,S.ow⟩
 | .ms k row=>⟨S.sl,fun i=>if i=k then some row.length else S.ms i,fun i j=>if i=k then row.getD j .no else S.mc i j,S.ow⟩
def St.ups (S:St):List U→St
 | []=>S
 | u::us=>(S.up u).ups us
def St.put (S:St) (d:Nat) (x:SV):St:=⟨fun i=>if i=d then x else S.sl i,S.ms,S.mc,S.ow⟩
def St.putO (S:St) (d:Option Nat) (x:SV):St:=match d with | some d=>S.put d x | none=>S
structure Out where
 x:SV
 ks:List Kl
 us:List U
def St.app (S:St) (d:Option Nat) (o:Out):St:=((S.kp o.ks).ups o.us).putO d o.x
inductive Tr (α:Type):Type 1 where
 | ret (a:α)
 | fail
 | br (c:Bool) (t e:Tr α)
 | get (β:Type) (o:Option β) (f:β→Tr α)
 | alt (β γ:Type) (s:β⊕γ) (f:β→Tr α) (g:γ→Tr α)
 | rdO (k:Nat) (f:Option Own→Tr α)
 | rdC (k off:Nat) (f:Leaf→Tr α)
 | rdM (k:Nat) (f:Option Nat→Tr α)
def Tr.bind {α β:Type}:Tr α→(α→Tr β)→Tr β
 | .ret a,f=>f a
 | .fail,_=>.fail
 | .br c t e,f=>.br c (t.bind f) (e.bind f)
 | .get γ o g,f=>.get γ o fun b=>(g b).bind f
 | .alt γ δ s g h,f=>.alt γ δ s (fun b=>(g b).bind f) (fun b=>(h b).bind f)
 | .rdO k g,f=>.rdO k fun b=>(g b).bind f
 | .rdC k off g,f=>.rdC k off fun b=>(g b).bind f
 | .rdM k g,f=>.rdM k fun b=>(g b).bind f
inductive Lg where
 | o (k:Nat) | c (k off:Nat) (l:Leaf) | m (k:Nat)
def Tr.at {α:Type} (S:St):Tr α→List Lg→Tr (α×List Lg)
 | .ret a,g=>.ret (a,g)
 | .fail,_=>.fail
 | .br c t e,g=>.br c (t.at S g) (e.at S g)
 | .get γ o f,g=>.get γ o fun b=>(f b).at S g
 | .alt γ δ s f h,g=>.alt γ δ s (fun b=>(f b).at S g) (fun b=>(h b).at S g)
 | .rdO k f,g=>(f (S.ow k)).at S (.o k::g)
 | .rdC k off f,g=>(f (S.mc k off)).at S (.c k off (S.mc k off)::g)
 | .rdM k f,g=>(f (S.ms k)).at S (.m k::g)
def Tr.run {α:Type}:Tr α→Option α
 | .ret a=>some a
 | .fail=>none
 | .br c t e=>if c=true then t.run else e.run
 | .get _ o f=>match o with
  | some b=>(f b).run
  | none=>none
 | .alt _ _ s f g=>match s with
  | .inl b=>(f b).run
  | .inr b=>(g b).run
 | .rdO .. | .rdC .. | .rdM ..=>none
abbrev Tr.iff {α:Type} (c:Bool) (t:Tr α):Tr α:=.br c t .fail
abbrev Tr.opt {α:Type} (o:Option α):Tr α:=match o with | some a=>.ret a | none=>.fail
inductive TI where
 | cell (t:Ty)
 | slice (e:TypeId) (ts:List Ty) (bytes:Nat)
 | struct (fs:List (Nat×Nat×Bool)) (row:List Ty) (eq:Bool)
 | ptr (e:TypeId)
 | err
 | other
def AM:List Ty→Ty
 | []=>.unit
 | [t]=>t
 | t::u::ts=>.pair t (AM (u::ts))
def Ty.isPt:Ty→Bool
 | .pt _=>true
 | _=>false
def TI.cells:TI→Option (List Ty)
 | .cell t=>some [t]
 | .slice e ts _=>some [.sl true e (AM ts)]
 | .struct _ row _=>if row.any Ty.isPt then none else some row
 | _=>none
def TI.vcells:TI→Option (List Ty)
 | .ptr _=>some [.pt .unit]
 | .struct _ row _=>some row
 | x=>x.cells
def TI.isAgg:TI→Bool
 | .struct ..=>true
 | _=>false
def Al:(t:Ty)→t.D→AH→Tr ((u:Ty)×u.D)
 | t,x,[]=>.ret ⟨t,x⟩
 | .sl true _ r,xs,(i,j)::ps=>.get r.D ((xs:List r.D)[i]?) fun row=>match As r row j with
  | some c=>Al c.1 c.2 ps
  | none=>.fail
 | _,_,_::_=>.fail
def EL:(t:Ty)→t.D→AH→(u:Ty)→u.D→Tr t.D
 | t,_,[],u,z=>if h:u=t then .ret (h ▸ z) else .fail
 | .sl true _ r,xs,(i,j)::ps,u,z=>.get r.D ((xs:List r.D)[i]?) fun row=>match As r row j with
  | some c=>(EL c.1 c.2 ps u z).bind fun y=>match setCell r row j c.1 y with
   | some row'=>.ret ((xs:List r.D).set i row')
   | none=>.fail
  | none=>.fail
 | _,_,_::_,_,_=>.fail
def Er (k:Nat) (st:AH) (win:Option (Nat×Nat)):Tr Own:=
 .rdO k fun o=>match o with
  | some o=>(Al (.sl true o.e o.r) o.xs st).bind fun c=>match c with
   | ⟨.sl true e r,ys⟩=>match win with
    | none=>.ret ⟨e,r,ys⟩
    | some (lo,n)=>.ret ⟨e,r,((ys:List r.D).drop lo).take n⟩
   | _=>.fail
  | none=>.fail
def KA (k:Nat) (st:AH):(t:Ty)→t.D→Leaf
 | .sl true _ _,_=>.vw k st none
 | t,x=>.v t x
def BP:AH→Nat→AH
 | [],_=>[]
 | [(i,j)],n=>[(i,j+n)]
 | p::q::ps,n=>p::BP (q::ps) n
def Fy:S1→Nat→Tr Leaf
 | .pl k off,n=>.rdM k fun m=>match m with
  | some m=>if off+n < m then .rdC k (off+n) fun l=>match l with
   | .no=>.fail
   | l=>.ret l else .fail
  | none=>.fail
 | .el k st,n=>.rdO k fun o=>match o with
  | some o=>(Al (.sl true o.e o.r) o.xs (BP st n)).bind fun c=>.ret (KA k (BP st n) c.1 c.2)
  | none=>.fail
 | .rp t x off,n=>match As t x (off+n) with
  | some c=>.ret (.v c.1 c.2)
  | none=>.fail
 | _,_=>.fail
def Iu (a:S1):Nat→Nat→Tr (List Leaf)
 | 0,_=>.ret []
 | n+1,i=>(Fy a i).bind fun l=>(Iu a n (i+1)).bind fun ls=>.ret (l::ls)
def HI (t:Ty):Leaf→Tr (t.D×List Nat)
 | .v u x=>if h:u=t then .ret (h ▸ x,[]) else .fail
 | .nil=>match t with
  | .sl _ _ _=>.ret ([],[])
  | _=>.fail
 | .vw k [] win=>(Er k [] win).bind fun o=>if h:Ty.sl true o.e o.r=t then .ret (h ▸ o.xs,[k]) else .fail
 | _=>.fail
def Dy:(ts:List Ty)→List Leaf→Tr ((AM ts).D×List Nat)
 | [],[]=>.ret ((),[])
 | [t],[l]=>HI t l
 | t::u::ts,l::ls=>(HI t l).bind fun x=>(Dy (u::ts) ls).bind fun y=>.ret ((x.1,y.1),x.2++y.2)
 | _,_=>.fail
def BN (ks:List Nat):List Kl:=ks.map .all
def BJ (ks:List Nat):List U:=ks.map fun k=>.ow k none
def AB:List Nat→Bool
 | []=>true
 | k::ks=>!(ks.contains k) && AB ks
def QU (o:Own) (st:AH):List Leaf→Nat→Tr (Own×List Nat)
 | [],_=>.ret (o,[])
 | l::ls,n=>(Al (.sl true o.e o.r) o.xs (BP st n)).bind fun c=>(HI c.1 l).bind fun z=>
  (EL (.sl true o.e o.r) o.xs (BP st n) c.1 z.1).bind fun ys=>(QU ⟨o.e,o.r,ys⟩ st ls (n+1)).bind fun r=>.ret (r.1,z.2++r.2)
def Gi (k:Nat):List Leaf→Nat→List U
 | [],_=>[]
 | l::ls,n=>.mc k n l::Gi k ls (n+1)
def Wh (k:Nat) (st:AH) (lo n:Nat):Tr (List Kl×List U):=.rdO k fun o=>match o with
 | some o=>(Al (.sl true o.e o.r) o.xs st).bind fun c=>match c with
  | ⟨.sl true e r,ys⟩=>(EL (.sl true o.e o.r) o.xs st (.sl true e r) ((List.drop lo ys).take n)).bind fun zs=>.ret ([.deep k],[.ow k (some ⟨o.e,o.r,zs⟩)])
  | _=>.fail
 | none=>.fail
def VU (k:Nat) (st:AH):List Leaf→Option (Nat×Nat)
 | [.vw k' st' (some w)]=>if k'=k∧st'=st then some w else none
 | _=>none
def Gc:S1→List Leaf→Tr (List Kl×List U)
 | .pl k off,ls=>.rdM k fun m=>match m with
   | some m=>if off+ls.length≤m then .ret ([],Gi k ls off) else .fail
   | none=>.fail
 | .el k st,ls=>match VU k st ls with
  | some w=>Wh k st w.1 w.2
  | none=>.rdO k fun o=>match o with
   | some o=>(QU o st ls 0).bind fun r=>if r.2.contains k || !AB r.2 then .fail else
    .ret (.deep k::BN r.2,.ow k (some r.1)::BJ r.2)
   | none=>.fail
 | _,_=>.fail
end Go.V
namespace Go.V
abbrev Ae:=(t:Ty)×t.D
inductive A1 where
 | one (l:Ae)
 | ag (ls:List Ae)
 | pl (m off:Nat)
 | rp (t:Ty) (x:t.D) (off:Nat)
 | fv (f:FuncId) (cs:List (Nat×Nat))
structure Res where
 val:List A1
 rows:List (List Ae)
 lent:List ((Nat×Nat)×Ae)
structure Env where
 ti:TypeId→TI
 mv:FuncId→List Nat
 fr:FuncId→List (List Ty)
 fx:List Nat
 ca:FuncId→List A1→List (List Ae)→Tr Res
 hn:List (Nat×List Ty)
def Tt:Value→SV
 | .int k n=>.s (.one (.v (.int k) n))
 | .bool b=>.s (.one (.v .bool b))
 | .string s=>.s (.one (.v .str s.data.toList))
 | .slice none 0 0=>.s (.one .nil)
 | .nilIface=>.s (.one (.v .er false))
 | .pointer none=>.s (.one .np)
 | _=>.no
def Cw (S:St):Operand→SV
 | .tmp t=>S.sl t
 | .const v=>Tt v
 | .func f=>.s (.fv f [])
 | _=>.no
def b2 (b:Bool):Leaf:=.v .bool b
def VW (op:BinOp):Leaf→Leaf→Tr Leaf
 | .v (.int k) a,.v (.int k') b=>
  match op with
  | .shl=>.iff (decide ((0:Int)≤b)) (.ret (.v (.int k) (k.wrap ((a:Int) * 2 ^ (min (Int.toNat b) k.bits)))))
  | .shr=>.iff (decide ((0:Int)≤b)) (.ret (.v (.int k) (Int.fdiv a (2 ^ (min (Int.toNat b) k.bits)))))
  | op=>if k=k' then match op with
   | .add=>.ret (.v (.int k) (k.wrap ((a:Int)+b)))
   | .sub=>.ret (.v (.int k) (k.wrap ((a:Int) - b)))
   | .mul=>.ret (.v (.int k) (k.wrap ((a:Int) * b)))
   | .quo=>.iff (decide (¬ (b:Int)=0)) (.ret (.v (.int k) (k.wrap (Int.tdiv a b))))
   | .rem=>.iff (decide (¬ (b:Int)=0)) (.ret (.v (.int k) (Int.tmod a b)))
   | .and=>.ret (.v (.int k) (k.wrap ((BitVec.ofInt k.bits a &&& BitVec.ofInt k.bits b).toNat:Int)))
   | .or=>.ret (.v (.int k) (k.wrap ((BitVec.ofInt k.bits a ||| BitVec.ofInt k.bits b).toNat:Int)))
   | .xor=>.ret (.v (.int k) (k.wrap ((BitVec.ofInt k.bits a ^^^ BitVec.ofInt k.bits b).toNat:Int)))
   | .andNot=>.ret (.v (.int k) (k.wrap ((BitVec.ofInt k.bits a &&& ~~~ BitVec.ofInt k.bits b).toNat:Int)))
   | .eql=>.ret (b2 (decide ((a:Int)=b)))
   | .neq=>.ret (b2 (decide (¬ (a:Int)=b)))
   | .lss=>.ret (b2 (decide ((a:Int) < b)))
   | .leq=>.ret (b2 (decide ((a:Int)≤b)))
   | .gtr=>.ret (b2 (decide ((b:Int) < a)))
   | .geq=>.ret (b2 (decide ((b:Int)≤a)))
   | _=>.fail
   else .fail
 | .v .bool a,.v .bool b=>
  match op with
  | .eql=>.ret (b2 ((a:Bool) == b))
  | .neq=>.ret (b2 ((a:Bool) != b))
  | _=>.fail
 | .v .str a,.v .str b=>
  match op with
  | .add=>.iff (decide (((a:List UInt8).length+(b:List UInt8).length:Nat)≤9223372036854775807)) (.ret (.v .str ((a:List UInt8)++b)))
  | .eql=>.ret (b2 ((a:List UInt8) == b))
  | .neq=>.ret (b2 (!((a:List UInt8) == b)))
  | .lss=>.ret (b2 (Op.bytesLess a b))
  | .leq=>.ret (b2 (Op.bytesLess a b || ((a:List UInt8) == b)))
  | .gtr=>.ret (b2 (!(Op.bytesLess a b || ((a:List UInt8) == b))))
  | .geq=>.ret (b2 (!(Op.bytesLess a b)))
  | _=>.fail
 | _,_=>.fail
def AbR:Leaf→Tr Leaf
 | .nil=>.ret (b2 true)
 | .v (.sl _ _ _) xs=>.ret (.qn (List.isEmpty xs))
 | .vw k st win=>(Er k st win).bind fun o=>.ret (.qn (List.isEmpty o.xs))
 | _=>.fail
def Jx:List Ty→List Leaf→List Leaf→Option Bool
 | [],[],[]=>some true
 | .int _::ts,.v (.int k) a::x,.v (.int k') b::y=>if k=k' then (Jx ts x y).map (fun r=>decide ((a:Int)=b) && r) else none
 | .bool::ts,.v .bool a::x,.v .bool b::y=>(Jx ts x y).map (fun r=>((a:Bool) == b) && r)
 | .str::ts,.v .str a::x,.v .str b::y=>(Jx ts x y).map (fun r=>((a:List UInt8) == b) && r)
 | _,_,_=>none
def vun (op:UnOp):Leaf→Tr Leaf
 | .v (.int k) a=>match op with
  | .neg=>.ret (.v (.int k) (k.wrap (0 - (a:Int))))
  | .xor=>.ret (.v (.int k) (k.wrap ((BitVec.ofInt k.bits (if k.signed then -1 else k.max) ^^^ BitVec.ofInt k.bits a).toNat:Int)))
  | _=>.fail
 | .v .bool b=>match op with
  | .not=>.ret (.v .bool (!(b:Bool)))
  | _=>.fail
 | _=>.fail
def AR (s:List UInt8):List Int:=s.map fun b=>(b.toNat:Int)
def Bu (xs:List Int):List UInt8:=xs.map fun n=>UInt8.ofNat n.toNat
def JF:Leaf→Tr Own
 | .v (.sl _ e r) xs=>.ret ⟨e,r,xs⟩
 | .vw k st win=>Er k st win
 | _=>.fail
def TI.isStr:TI→Bool
 | .cell .str=>true
 | _=>false
def TI.isSl:TI→Bool
 | .slice ..=>true
 | _=>false
def TI.isSlOf (n:Nat):TI→Bool
 | .slice _ ts _=>ts.length == n
 | _=>false
def AaT (t:TI):Leaf→Tr Nat
 | .v .str s=>if t.isStr then .ret (List.length s) else .fail
 | .v (.sl _ _ _) xs=>if t.isSl then .ret (List.length xs) else .fail
 | .vw k st win=>if t.isSl then (Er k st win).bind fun o=>.ret o.xs.length else .fail
 | .nil=>if t.isSl then .ret 0 else .fail
 | _=>.fail
def Aez (n:Nat):SV:=.s (.one (.v (.int .i64) (n:Int)))
abbrev By (x:SV):Tr Out:=.ret ⟨x,[],[]⟩
abbrev kd (d c:Nat):Nat:=d * 1024+c
def Aai (win:Option (Nat×Nat)) (lo n:Nat):Option (Nat×Nat):=
 match win with
 | none=>some (lo,n)
 | some (l,_)=>some (l+lo,n)
def Vd (win:Option (Nat×Nat)):Nat:=match win with | none=>0 | some (lo,_)=>lo
def Pf:Option SV→Nat→Tr Int
 | none,d=>.ret d
 | some (.s (.one (.v (.int _) n))),_=>.ret n
 | _,_=>.fail
def JQ (len:Nat) (lo hi mx:Option SV) (f:Nat→Nat→Tr SV):Tr SV:=
 (Pf lo 0).bind fun l=>(Pf hi len).bind fun h=>(Pf mx len).bind fun m=>
  .iff (mx.isNone || hi.isSome) <| .iff (decide (0≤l)) <| .iff (decide (l≤h)) <| .iff (decide (h≤m)) <| .iff (decide (m≤(len:Int))) <| f l.toNat (h.toNat - l.toNat)
def VB (t:TI) (x:Leaf) (lo hi mx:Option SV):Tr SV:=
 match x with
 | .v .str s=>if t.isStr && mx.isNone then JQ (List.length s) lo hi mx fun l n=>.ret (.s (.one (.v .str (((s:List UInt8).drop l).take n)))) else .fail
 | .v (.sl false e r) xs=>if t.isSlOf r.size then JQ (List.length xs) lo hi mx fun l n=>.ret (.s (.one (.v (.sl false e r) (((xs:List r.D).drop l).take n)))) else .fail
 | .vw k st win=>(Er k st win).bind fun o=>if t.isSlOf o.r.size then JQ o.xs.length lo hi mx fun l n=>.ret (.s (.one (.vw k st (Aai win l n)))) else .fail
 | .nil=>if t.isSl then JQ 0 lo hi mx fun _ _=>.ret (.s (.one .nil)) else .fail
 | _=>.fail
def Aa (n bytes:Nat):Bool:=decide (n * bytes≤140737488355328)
def Y6 (ti2:TI) (e:TypeId) (r:Ty):Leaf→Tr (List r.D×List Nat)
 | .v .str s=>if ti2.isStr then (match r with
  | .int .u8=>.ret (AR s,[])
  | _=>.fail) else .fail
 | l=>if ti2.isSl then (if r.ro then (match l with
  | .nil=>.ret ([],[])
  | l=>(JF l).bind fun o=>if h:Ty.sl true o.e o.r=.sl true e r then .ret ((h ▸ o.xs:(Ty.sl true e r).D),[]) else .fail)
  else HI (.sl true e r) l) else .fail
def Zv (ti2:TI) (e:TypeId) (r0 r:Ty) (y:Leaf):Tr (List r.D×List Nat):=
 match ti2 with
 | .cell (.int .i64)=>match y with
  | .v (.int .i64) n=>if r=r0 then .iff (decide ((0:Int)≤n)) (.ret (List.replicate (Int.toNat n) r.zero,[])) else .fail
  | _=>.fail
 | ti2=>Y6 ti2 e r y
def Bz (key:Nat) (o:Own) (given:List Nat):Out:=
 ⟨.s (.one (.vw key [] none)),.all key::BN given,BJ given++[.ow key (some o)]⟩
def Ad4 (r0:Ty):Leaf→Leaf→Tr Ty
 | .vw k _ _,_=>.rdO k fun o=>match o with
  | some o=>.ret o.r
  | none=>.fail
 | _,.v (.sl _ _ r) _=>.ret r
 | _,.vw k [] _=>.rdO k fun o=>match o with
  | some o=>.ret o.r
  | none=>.fail
 | _,_=>.ret r0
def JM (ti ti2:TI) (d:Nat) (x y:Leaf):Tr Out:=
 match ti with
 | .slice e ts bytes=>(Ad4 (AM ts) x y).bind fun r=>if r.size=ts.length then (HI (.sl true e r) x).bind fun b=>(Zv ti2 e (AM ts) r y).bind fun m=>
  .iff (Aa (List.length b.1+List.length m.1) bytes) <|
  if AB (b.2++m.2) then .ret (Bz (kd d 0) ⟨e,r,(show List r.D from b.1)++m.1⟩ (b.2++m.2)) else .fail
  else .fail
 | _=>.fail
def YD (ti ti2:TI) (d k lo hi a m:Nat):Tr Out:=
 match ti with
 | .slice e ts bytes=>.rdO k fun o=>match o with
  | some o=>if o.e=e∧o.r.size=ts.length∧ti2.isSl=true then
   .iff (decide (lo=0)) <| .iff (decide (hi≤a)) <| .iff (decide (a < List.length o.xs)) <| .iff (Aa (List.length o.xs) bytes) <|
   .ret (Bz (kd d 0) ⟨o.e,o.r,List.take hi o.xs++List.take m (List.drop a o.xs)⟩ [k]) else .fail
  | none=>.fail
 | _=>.fail
def Wi (ti ti2:TI) (d:Nat) (x y:Leaf):Tr Out:=
 match x,y with
 | .vw k [] (some p),.vw k' [] (some q)=>if k=k' then YD ti ti2 d k p.1 p.2 q.1 q.2 else JM ti ti2 d x y
 | _,_=>JM ti ti2 d x y
def Aao (out:Out):Tr Out:=
 match out.us.getLast? with
 | some (.ow k (some o))=>.ret ⟨.s (.one (.v (Ty.frz (.sl true o.e o.r)) (HO (.sl true o.e o.r) o.xs))),out.ks,out.us++[.ow k none]⟩
 | _=>.fail
def Ab5 (hn:List (Nat×List Ty)) (ti ti2:TI) (d:Nat) (x y:Leaf):Tr Out:=
 (Wi ti ti2 d x y).bind fun out=>if hn.any (fun p=>p.1 == d && p.2.isEmpty)=true then Aao out else .ret out
def Zc (ti ti2:TI) (x y:Leaf):Tr Out:=
 match x with
 | .vw k [] none=>.rdO k fun o=>match o with
  | some o=>if ti.isSlOf o.r.size && ti2.isSl && o.r.ro then (match y with
   | .nil=>.ret ⟨.s (.one (.v (.int .i64) ((0:Nat):Int))),[],[]⟩
   | y=>(JF y).bind fun p=>if h:Ty.sl true p.e p.r=Ty.sl true o.e o.r then
    .ret ⟨.s (.one (.v (.int .i64) ((Nat.min (List.length p.xs) (List.length o.xs):Nat):Int))),[.deep k],
     [.ow k (some ⟨o.e,o.r,(show List o.r.D from (h ▸ p.xs:(Ty.sl true o.e o.r).D)).take (List.length o.xs)++List.drop (List.length p.xs) o.xs⟩)]⟩ else .fail) else .fail
  | none=>.fail
 | _=>.fail
def Leaf.is:Leaf→Bool
 | .no=>false
 | _=>true
def Cs:SV→Option (List Leaf)
 | .s (.pl k off)=>some [.p k off]
 | .s (.rp t x 0)=>some [.v (.pt t) (some x)]
 | .s (.one l)=>if l.is then some [l] else none
 | .s (.ag ls)=>if ls.all Leaf.is then some ls else none
 | _=>none
def Sl (ts:List Ty):List (Nat×SV)→Nat→Tr (List (AM ts).D×List Nat)
 | [],_=>.ret ([],[])
 | (i,x)::ps,n=>if i=n then match Cs x with
  | some ls=>(Dy ts ls).bind fun r=>(Sl ts ps (n+1)).bind fun rs=>.ret (r.1::rs.1,r.2++rs.2)
  | none=>.fail
  else .fail
def WT:List Ty→List Leaf→List Ty
 | _::ts,.v u _::ls=>u::WT ts ls
 | t::ts,_::ls=>t::WT ts ls
 | ts,_=>ts
def HR (hn:List (Nat×List Ty)) (d:Nat) (ts:List Ty):List Ty:=match hn.find? (fun p=>p.1 == d) with
 | some p=>p.2
 | none=>ts
def Rw (ts hs:List Ty):List (Nat×SV)→List Ty
 | (_,x)::_=>match Cs x with
  | some ls=>WT ts ls
  | none=>ts
 | []=>hs
def RX (e:TypeId) (ts:List Ty) (d len:Nat) (ps:List (Nat×SV)):Tr Out:=
 (Sl ts ps 0).bind fun r=>if AB r.2 && decide (ps.length=len) && decide (len * (AM ts).size≤16777216) then
  .ret (Bz (kd d 0) ⟨e,AM ts,r.1⟩ r.2) else .fail
def LQ (ti:TI) (hn:List (Nat×List Ty)) (d len:Nat) (ps:List (Nat×SV)):Tr Out:=
 match ti with
 | .slice e ts _=>if (Rw ts (HR hn d ts) ps).all (fun t=>t.size == 1) && (Rw ts (HR hn d ts) ps).length == ts.length then RX e (Rw ts (HR hn d ts) ps) d len ps else .fail
 | _=>.fail
def JP (ts hs:List Ty):List Ty:=if ts.map Ty.frz=hs.map Ty.frz then hs else ts
def MR (ti:TI) (hn:List (Nat×List Ty)) (d:Nat) (l c:SV):Tr Out:=
 match ti,l,c with
 | .slice e ts0 bytes,.s (.one (.v (.int .i64) l)),.s (.one (.v (.int .i64) c))=>let ts:=JP ts0 (HR hn d ts0)
  .iff (decide ((0:Int)≤l)) <| .iff (decide ((l:Int)≤c)) <| .iff (Aa (Int.toNat c) bytes) <|
   .ret (Bz (kd d 0) ⟨e,AM ts,List.replicate (Int.toNat l) (AM ts).zero⟩ [])
 | _,_,_=>.fail
def ST:Leaf→S1
 | .p k off=>.pl k off
 | l=>.one l
def R7:Leaf→Tr SV
 | .v (.pt u) o=>.get u.D o fun y=>.ret (.s (.rp u y 0))
 | l=>.ret (.s (ST l))
def Dk:Ty→Leaf
 | .sl _ _ _=>.nil
 | .pt _=>.np
 | t=>.v t t.zero
def Pe (row:List Leaf) (off:Nat):List Leaf→List Leaf
 | []=>row
 | l::ls=>Pe (row.set off l) (off+1) ls
def Mq (fs:List (Nat×Nat×Bool)):List (Nat×SV)→List Leaf→Option (List Leaf)
 | [],row=>some row
 | (f,x)::ps,row=>match fs[f]?,Cs x with
  | some (off,n,_),some ls=>if ls.length=n then (if off+n≤row.length then Mq fs ps (Pe row off ls) else none) else none
  | _,_=>none
def VN (t:TI) (x:Leaf) (i:Int):Tr SV:=
 .iff (decide (0≤i)) <|
 match x with
 | .v (.sl false _ r) xs=>if t.isSlOf r.size then .get r.D ((xs:List r.D)[i.toNat]?) fun row=>.ret (.s (.rp r row 0)) else .fail
 | .vw k st win=>(Er k st win).bind fun o=>if t.isSlOf o.r.size then .iff (decide (i < (o.xs.length:Int))) <|
  .ret (.s (.el k (st++[(Vd win+i.toNat,0)]))) else .fail
 | _=>.fail
def YV (ti:TypeId→TI) (src dst:TI) (d:Nat) (x:Leaf):Tr Out:=
 match src,dst,x with
 | .cell (.int _),.cell (.int k),.v (.int _) n=>By (.s (.one (.v (.int k) (k.wrap n))))
 | .cell .str,.cell .str,.v .str s=>By (.s (.one (.v .str s)))
 | .cell .str,.slice e _ _,.v .str s=>match ti e with
  | .cell (.int .u8)=>.ret (Bz (kd d 0) ⟨e,.int .u8,AR s⟩ [])
  | _=>.fail
 | .slice e _ _,.cell .str,.nil=>match ti e with
  | .cell (.int .u8)=>By (.s (.one (.v .str [])))
  | _=>.fail
 | .slice e _ _,.cell .str,x=>match ti e with
  | .cell (.int .u8)=>(JF x).bind fun o=>match o with
   | ⟨_,.int .u8,xs⟩=>By (.s (.one (.v .str (Bu xs))))
   | _=>.fail
  | _=>.fail
 | _,_,_=>.fail
structure AS where
 a:A1
 bw:List Nat     -- owners that are shown
 gv:List Nat     -- owners that are given up
def Hy (mv:Bool) (t:Ty):Leaf→Tr (Ae×List Nat×List Nat)
 | .v u x=>.ret (⟨u,x⟩,[],[])
 | .nil=>match t with
  | .sl _ e r=>if mv then .ret (⟨.sl true e r,[]⟩,[],[]) else .ret (⟨.sl false e r.frz,[]⟩,[],[])
  | _=>.fail
 | .vw k st win=>if mv then match st with
   | []=>(Er k [] win).bind fun o=>.ret (⟨.sl true o.e o.r,o.xs⟩,[],[k])
   | _=>.fail
  else (Er k st win).bind fun o=>.ret (⟨(Ty.sl true o.e o.r).frz,HO (.sl true o.e o.r) o.xs⟩,[k],[])
 | _=>.fail
def Qn (t:Ty):Leaf→Tr (Ae×List Nat×List Nat)
 | .vw k st none=>(Er k st none).bind fun o=>.ret (⟨.sl true o.e o.r,o.xs⟩,[],[k])
 | .vw _ _ (some _)=>.fail
 | l=>Hy true t l
def M2 (m:Nat) (t:Ty) (l:Leaf):Tr (Ae×List Nat×List Nat):=if m=2 then Qn t l else Hy (m == 1) t l
def Kp (p:Nat×Nat):Leaf→List ((Nat×Nat)×Option (Nat×AH))
 | .vw k st _=>[(p,some (k,st))]
 | .nil=>[(p,none)]
 | _=>[]
def Ps (i j:Nat):List Leaf→List ((Nat×Nat)×Option (Nat×AH))
 | []=>[]
 | l::ls=>Kp (i,j) l++Ps i (j+1) ls
def I8 (m:Nat):List Ty→List Leaf→Tr (List Ae×List Nat×List Nat)
 | _,[]=>.ret ([],[],[])
 | ts,l::ls=>(M2 m (ts.headD .unit) l).bind fun x=>(I8 m ts.tail ls).bind fun y=>.ret (x.1::y.1,x.2.1++y.2.1,x.2.2++y.2.2)
def XY (ms:List (Nat×Nat)) (k off:Nat):Option Ae:=match ms[ms.findIdx (fun m=>m.1 == k)]? with
 | some m=>if m.1=k∧m.2≤off then some ⟨.lp,(ms.findIdx (fun m=>m.1 == k),off - m.2)⟩ else none
 | none=>none
def So (ms:List (Nat×Nat)) (t:Ty):Leaf→Tr (Ae×List Nat×List Nat)
 | .p k off=>match XY ms k off with
  | some a=>.ret (a,[],[])
  | none=>.fail
 | l=>Hy true t l
def I5 (ms:List (Nat×Nat)) (k:Nat):List Ty→Nat→Tr (List Ae×List Nat)
 | [],_=>.ret ([],[])
 | t::ts,c=>.rdC k c fun l=>(So ms t l).bind fun x=>(I5 ms k ts (c+1)).bind fun y=>.ret (x.1::y.1,x.2.2++y.2)
def Ki (k:Nat):List Ty→Nat→Tr (List Ae×List Nat)
 | [],_=>.ret ([],[])
 | t::ts,c=>.rdC k c fun l=>(Hy false t l).bind fun x=>(Ki k ts (c+1)).bind fun y=>.ret (x.1::y.1,x.2.1++y.2)
def BF:List Ae→Ae
 | []=>⟨.unit,()⟩
 | [l]=>l
 | l::m::ls=>⟨.pair l.1 (BF (m::ls)).1,(l.2,(BF (m::ls)).2)⟩
def Ma (t:Ty) (x:t.D):Nat→Nat→Option (List Ae)
 | _,0=>some []
 | i,n+1=>match As t x i,Ma t x (i+1) n with
  | some c,some ls=>some (c::ls)
  | _,_=>none
def Pj (ms:List Nat) (k:Nat):Nat:=ms.findIdx (· == k)
structure AC where
 as:List A1:=[]
 bw:List Nat:=[]
 gv:List Nat:=[]
 ms:List ((Nat×Nat)×List Ty):=[]
 ln:List ((Nat×Nat)×Option (Nat×AH)):=[]
def S5 (ti:TypeId→TI) (t:TypeId):Option (List Ty):=match ti t with
 | .ptr e=>(ti e).vcells
 | x=>x.vcells
def J1 (k off:Nat) (ts:Option (List Ty)) (c:AC):Tr ((Nat×Nat)×AC):=
 match ts with
 | some ts=>if (c.ms.map (·.1.1)).contains k then (match c.ms[Pj (c.ms.map (·.1.1)) k]? with
   | some m=>if m.1.2≤off then .ret ((Pj (c.ms.map (·.1.1)) k,off - m.1.2),c) else .fail
   | none=>.fail)
  else .rdM k fun n=>match n with
   | some n=>if off+ts.length≤n then .ret ((c.ms.length,0),{ c with ms:=c.ms++[((k,off),ts)] }) else .fail
   | none=>.fail
 | none=>.fail
def Pg:List (Nat×Nat)→List (List Ty)→AC→Tr (List (Nat×Nat)×AC)
 | [],_,c=>.ret ([],c)
 | p::cs,ts,c=>(J1 p.1 p.2 ts.head? c).bind fun y=>(Pg cs ts.tail y.2).bind fun z=>.ret (y.1::z.1,z.2)
def Hk (k:Nat):Nat→Nat→List (List Ty)→AC→Tr (List (List Ty)×AC)
 | 0,_,ts,c=>.ret (ts,c)
 | n+1,j,ts,c=>.rdC k j fun l=>match l with
  | .p k' _=>if (c.ms.map (·.1.1)).contains k' then Hk k n (j+1) ts c else
   .rdM k' fun m=>if m.isSome then (J1 k' 0 ts.head? c).bind fun y=>Hk k n (j+1) ts.tail y.2 else .fail
  | _=>Hk k n (j+1) ts c
def N3:Nat→Nat→List (List Ty)→AC→Tr AC
 | 0,_,_,c=>.ret c
 | n+1,i,ts,c=>match c.ms[i]? with
  | some m=>(Hk m.1.1 m.2.length m.1.2 ts c).bind fun y=>N3 n (i+1) y.1 y.2
  | none=>.ret c
def AcU (hn:List (Nat×List Ty)) (d:Nat) (ts:List Ty):List Ty:=if (HR hn d ts).length=ts.length then HR hn d ts else ts
def G5 (E:Env) (d:Nat):List Nat→List (SV×TypeId)→AC→Tr AC
 | _,[],c=>.ret c
 | mv,(x,t)::xs,c=>
  let m:=mv.headD 0
  match x with
  | .s (.one l)=>(M2 m ((((E.ti t).cells).getD []).headD .unit) l).bind fun y=>G5 E d mv.tail xs { c with as:=c.as++[.one y.1],bw:=c.bw++y.2.1,gv:=c.gv++y.2.2,ln:=c.ln++(if m=2 then Kp (c.as.length,0) l else []) }
  | .s (.ag ls)=>(I8 m (((E.ti t).cells).getD []) ls).bind fun y=>G5 E d mv.tail xs { c with as:=c.as++[.ag y.1],bw:=c.bw++y.2.1,gv:=c.gv++y.2.2,ln:=c.ln++(if m=2 then Ps c.as.length 0 ls else []) }
  | .s (.rp u x off)=>if m=3 then (match S5 E.ti t with
    | some ts=>if u.size=ts.length then G5 E d mv.tail xs { c with as:=c.as++[.rp u x off] } else match Ma u x off ts.length with
     | some ls=>G5 E d mv.tail xs { c with as:=c.as++[.rp (BF ls).1 (BF ls).2 0] }
     | none=>.fail
    | none=>.fail)
   else G5 E d mv.tail xs { c with as:=c.as++[.rp u x off] }
  | .s (.pl k off)=>if m=3 then (match S5 E.ti t with
    | some ts=>.rdM k fun n=>match n with
     | some n=>if off+ts.length≤n then (Ki k ts off).bind fun y=>G5 E d mv.tail xs { c with as:=c.as++[.rp (BF y.1).1 (BF y.1).2 0],bw:=c.bw++k::y.2 } else .fail
     | none=>.fail
    | none=>.fail)
   else (J1 k off ((S5 E.ti t).map (AcU E.hn d)) c).bind fun y=>G5 E d mv.tail xs { y.2 with as:=y.2.as++[.pl y.1.1 y.1.2] }
  | .s (.fv f cs)=>(Pg cs (E.fr f) c).bind fun y=>G5 E d mv.tail xs { y.2 with as:=y.2.as++[.fv f y.1] }
  | _=>.fail
def N0 (mk:List (Nat×Nat)):List ((Nat×Nat)×List Ty)→Tr (List (List Ae)×List Nat)
 | []=>.ret ([],[])
 | (k,ts)::ms=>(I5 mk k.1 ts k.2).bind fun y=>(N0 mk ms).bind fun ys=>.ret (y.1::ys.1,y.2++ys.2)
def Ty.hasRo:Ty→Bool
 | .pair a b=>a.hasRo || b.hasRo
 | .sl o _ r=>!o || r.hasRo
 | .pt _=>true
 | _=>false
def CK (key:Nat):Ae→Leaf×List (Nat×Own)
 | ⟨.sl true e r,xs⟩=>(.vw key [] none,[(key,⟨e,r,xs⟩)])
 | ⟨t,x⟩=>(.v t x,[])
def E3 (key:Nat):List Ae→List Leaf×List (Nat×Own)
 | []=>([],[])
 | l::ls=>((CK key l).1::(E3 (key+1) ls).1,(CK key l).2++(E3 (key+1) ls).2)
def FR (ms:List (Nat×Nat)) (key:Nat):Ae→Leaf×List (Nat×Own)
 | ⟨.lp,p⟩=>(match ms[p.1]? with
  | some k=>.p k.1 (k.2+p.2)
  | none=>.no,[])
 | l=>CK key l
def D5 (ms:List (Nat×Nat)) (key:Nat):List Ae→List Leaf×List (Nat×Own)
 | []=>([],[])
 | l::ls=>((FR ms key l).1::(D5 ms (key+1) ls).1,(FR ms key l).2++(D5 ms (key+1) ls).2)
def Me (ms:List (Nat×Nat)):List (Nat×Nat)→Option (List (Nat×Nat))
 | []=>some []
 | p::ps=>match ms[p.1]?,Me ms ps with
  | some k,some l=>some ((k.1,k.2+p.2)::l)
  | _,_=>none
def Na (ms:List (Nat×Nat)) (key:Nat):A1→Option (S1×List (Nat×Own))
 | .one l=>some (.one (CK key l).1,(CK key l).2)
 | .ag ls=>some (.ag (E3 key ls).1,(E3 key ls).2)
 | .pl m off=>match ms[m]? with
  | some k=>some (.pl k.1 (k.2+off),[])
  | none=>none
 | .rp t x off=>some (.rp t x off,[])
 | .fv f cs=>match Me ms cs with
  | some l=>some (.fv f l,[])
  | none=>none
def Hs (ms:List (Nat×Nat)) (key:Nat):List A1→Option (List S1×List (Nat×Own))
 | []=>some ([],[])
 | a::as=>match Na ms key a,Hs ms (key+64) as with
  | some x,some y=>some (x.1::y.1,x.2++y.2)
  | _,_=>none
def EU (mk:List (Nat×Nat)) (key:Nat):List (Nat×Nat)→List (List Ae)→Option (List ((Nat×Nat)×List Leaf)×List (Nat×Own))
 | [],[]=>some ([],[])
 | k::ms,r::rs=>match EU mk (key+64) ms rs with
  | some y=>some ((k,(D5 mk key r).1)::y.1,(D5 mk key r).2++y.2)
  | none=>none
 | _,_=>none
def Gr (l:List (Nat×Own)):List U:=l.map fun p=>.ow p.1 (some p.2)
def Hd:List ((Nat×Nat)×List Leaf)→List U
 | []=>[]
 | p::l=>Gi p.1.1 p.2 p.1.2++Hd l
def A1.hasRo:A1→Bool
 | .one l=>l.1.hasRo
 | .ag ls=>ls.any fun l=>l.1.hasRo
 | .pl _ _=>false
 | .rp _ _ _=>true
 | .fv _ _=>false
def Vr:List S1→SV
 | [v]=>.s v
 | vs=>.tu vs
def Ew:List ((Nat×Nat)×Option (Nat×AH))→List ((Nat×Nat)×Ae)→Tr (List (Nat×Own))
 | [],[]=>.ret []
 | (p,none)::l,(p',_)::r=>if p=p' then Ew l r else .fail
 | (p,some (k,st))::l,(p',a)::r=>if p=p' then .rdO k fun o=>match o with
  | some o=>(Al (.sl true o.e o.r) o.xs st).bind fun c=>if h:a.1=c.1 then (EL (.sl true o.e o.r) o.xs st c.1 (h ▸ a.2)).bind fun zs=>(Ew l r).bind fun y=>.ret ((k,⟨o.e,o.r,zs⟩)::y) else .fail
  | none=>.fail
  else .fail
 | _,_=>.fail
def Du:List ((Nat×Nat)×Option (Nat×AH))→List Nat
 | []=>[]
 | (_,none)::l=>Du l
 | (_,some (k,_))::l=>k::Du l
def U3 (lk gv:List Nat):List Nat:=gv.filter fun k=>!lk.contains k
def Aap (E:Env) (d:Nat) (f:FuncId) (ps:List (Nat×Nat)) (c:AC):Tr Out:=
 (N0 (c.ms.map (·.1)) c.ms).bind fun rows=>
  if AB (c.gv++rows.2) && c.bw.all (fun k=>!(c.gv++rows.2).contains k && !(c.ms.map (·.1.1)).contains k) then
   (E.ca f (c.as++ps.map fun p=>.pl p.1 p.2) rows.1).bind fun r=>(Ew c.ln r.lent).bind fun lts=>
    if c.bw.isEmpty || !(r.val.any A1.hasRo || r.rows.any (fun l=>l.any fun x=>x.1.hasRo) || r.lent.any (fun x=>x.2.1.hasRo)) then
     match Hs (c.ms.map (·.1)) (kd d 0) r.val,EU (c.ms.map (·.1)) (kd d 512) (c.ms.map (·.1)) r.rows with
     | some vs,some rs=>
      if AB ((vs.2++(rs.2++lts)).map (·.1)) && decide (r.rows.map List.length=c.ms.map fun m=>m.2.length) then
      .ret ⟨Vr vs.1,BN (U3 (Du c.ln) c.gv++rows.2)++((Du c.ln).map Kl.deep++BN ((vs.2++rs.2).map (·.1))),BJ (c.gv++rows.2)++(Gr (vs.2++(rs.2++lts))++Hd rs.1)⟩
      else .fail
     | _,_=>.fail
    else .fail
  else .fail
def U9 (E:Env) (d:Nat) (f:FuncId) (caps:List (Nat×Nat)) (args:List (SV×TypeId)):Tr Out:=
 (G5 E d (E.mv f) args {}).bind fun c=>(Pg caps (E.fr f) c).bind fun y=>(N3 8 0 ((E.fr f).drop caps.length) y.2).bind fun z=>Aap E d f y.1 z
def Q5 (b:Builtin):List SV→Tr SV
 | [.s (.one (.v (.int k) x)),.s (.one (.v (.int k') y))]=>if k=k' then match b with
  | .min=>.ret (.s (.one (.v (.int k) (if (y:Int) < x then y else x))))
  | .max=>.ret (.s (.one (.v (.int k) (if (x:Int) < y then y else x))))
  | _=>.fail
  else .fail
 | _=>.fail
def WC (l:Leaf) (t:TI):Bool:=
 match l,t with
 | .v .bool _,.cell .bool=>true
 | .v .bool _,_=>false
 | _,_=>true
def R8:List SV→Option (List (Nat×Nat))
 | []=>some []
 | .s (.pl k off)::xs=>match R8 xs with
  | some l=>some ((k,off)::l)
  | none=>none
 | _=>none
def Ji (E:Env) (ρ:Operand→SV) (d:Nat):Op→Tr Out
 | .move x | .assign x=>match ρ x with
  | .no=>.fail
  | .un=>.fail
  | x=>By x
 | .pick c a b=>match ρ c with
  | .s (.one (.v .bool c))=>.br c (match ρ a with | .no=>.fail | .un=>.fail | x=>By x) (match ρ b with | .no=>.fail | .un=>.fail | x=>By x)
  | _=>.fail
 | .alloc t=>match (E.ti t).vcells with
  | some ts=>.ret ⟨.s (.pl d 0),[.m d],[.ms d (ts.map Dk)]⟩
  | none=>.fail
 | .box t x=>match (E.ti t).vcells,Cs (ρ x) with
  | some ts,some ls=>if ls.length=ts.length then .ret ⟨.s (.pl d 0),[.m d],[.ms d (ls.map (Leaf.kp [.m d]))]⟩ else .fail
  | _,_=>.fail
 | .build t ps=>match E.ti t with
  | .struct fs row _=>match Mq fs (ps.toList.map fun p=>(p.1,ρ p.2)) (row.map Dk) with
   | some ls=>By (.s (.ag ls))
   | none=>.fail
  | _=>.fail
 | .buildSlice t len ps=>LQ (E.ti t) E.hn d len (ps.toList.map fun p=>(p.1,ρ p.2))
 | .load t a=>match ρ a,(E.ti t).vcells with
  | .s a,some ts=>if ts.isEmpty then .fail else (if (E.ti t).isAgg then (Iu a ts.length 0).bind fun ls=>Tr.ret (SV.s (.ag ls)) else (Fy a 0).bind R7).bind fun x=>By x
  | _,_=>.fail
 | .store t a x=>match ρ a,(E.ti t).vcells,Cs (ρ x) with
  | .s a,some ts,some ls=>if ls.length=ts.length then (Gc a ls).bind fun r=>.ret ⟨.no,r.1,r.2⟩ else .fail
  | _,_,_=>.fail
 | .nilCheck x=>match ρ x with
  | .s (.pl k off)=>By (.s (.pl k off))
  | .s (.el k st)=>By (.s (.el k st))
  | .s (.rp t x off)=>By (.s (.rp t x off))
  | .s (.one (.v (.pt u) o))=>.get u.D o fun y=>By (.s (.rp u y 0))
  | _=>.fail
 | .binOp op t x y _=>match ρ x,ρ y with
  | .s (.one x),.s (.one .nil)=>match op with
   | .eql=>if (E.ti t).isSl then (AbR x).bind fun l=>By (.s (.one l)) else .fail
   | _=>.fail
  | .s (.one (.v .er e)),.s (.one (.v .er _))=>match E.ti t,y,op with
   | .err,.const .nilIface,.neq=>By (.s (.one (b2 (e:Bool))))
   | _,_,_=>.fail
  | .s (.one x),.s (.one y)=>if WC x (E.ti t) then (VW op x y).bind fun l=>By (.s (.one l)) else .fail
  | .s (.ag xs),.s (.ag ys)=>match E.ti t with
   | .struct _ row true=>match op,Jx row xs ys with
    | .eql,some r=>By (.s (.one (b2 r)))
    | .neq,some r=>By (.s (.one (b2 (!r))))
    | _,_=>.fail
   | _=>.fail
  | _,_=>.fail
 | .unOp op _ x=>match ρ x with
  | .s (.one x)=>(vun op x).bind fun l=>By (.s (.one l))
  | _=>.fail
 | .convert s t x=>match ρ x with
  | .s (.one x)=>YV E.ti (E.ti s) (E.ti t) d x
  | _=>.fail
 | .makeSlice t l c=>MR (E.ti t) E.hn d (ρ l) (ρ c)
 | .slice t x lo hi mx=>match ρ x with
  | .s (.one x)=>(VB (E.ti t) x (lo.map ρ) (hi.map ρ) (mx.map ρ)).bind fun x=>By x
  | _=>.fail
 | .fieldAddr t x f=>match E.ti t with
  | .struct fs _ _=>match fs[f]?,ρ x with
   | some (o,_,_),.s (.pl k off)=>By (.s (.pl k (off+o)))
   | some (o,_,_),.s (.el k st)=>By (.s (.el k (BP st o)))
   | some (o,_,_),.s (.rp u x off)=>By (.s (.rp u x (off+o)))
   | _,_=>.fail
  | _=>.fail
 | .field t x f=>match E.ti t,ρ x with
  | .struct fs _ _,.s (.ag ls)=>match fs[f]? with
   | some (o,n,true)=>By (.s (.ag ((ls.drop o).take n)))
   | some (o,_,false)=>match ls[o]? with
    | some l=>By (.s (ST l))
    | none=>.fail
   | none=>.fail
  | _,_=>.fail
 | .indexAddr t x i=>match ρ x,ρ i with
  | .s (.one x),.s (.one (.v (.int _) i))=>(VN (E.ti t) x i).bind fun x=>By x
  | _,_=>.fail
 | .index t x i=>match ρ x,ρ i with
  | .s (.one (.v .str s)),.s (.one (.v (.int _) i))=>.iff (E.ti t).isStr <| .iff (decide ((0:Int)≤i)) <|
   .get UInt8 ((s:List UInt8)[Int.toNat i]?) fun b=>By (.s (.one (.v (.int .u8) ((UInt8.toNat b:Nat):Int))))
  | _,_=>.fail
 | .extract x i=>match ρ x with
  | .tu xs=>match xs[i]? with
   | some x=>By (.s x)
   | none=>.fail
  | _=>.fail
 | .call ⟨.builtin .len,as,ts⟩=>match as.toList.map ρ,ts.toList with
  | [.s (.one x)],[t]=>(AaT (E.ti t) x).bind fun n=>By (Aez n)
  | _,_=>.fail
 | .call ⟨.builtin .append,as,ts⟩=>match as.toList.map ρ,ts.toList with
  | [.s (.one x),.s (.one y)],[t,t2]=>Ab5 E.hn (E.ti t) (E.ti t2) d x y
  | _,_=>.fail
 | .call ⟨.builtin .copy,as,ts⟩=>match as.toList.map ρ,ts.toList with
  | [.s (.one x),.s (.one y)],[t,t2]=>Zc (E.ti t) (E.ti t2) x y
  | _,_=>.fail
 | .call ⟨.builtin .min,as,_⟩=>(Q5 .min (as.toList.map ρ)).bind fun x=>By x
 | .call ⟨.builtin .max,as,_⟩=>(Q5 .max (as.toList.map ρ)).bind fun x=>By x
 | .call ⟨.value v,as,ts⟩=>match ρ v with
  | .s (.fv f cs)=>if as.size=ts.size then U9 E d f cs ((as.toList.map ρ).zip ts.toList) else .fail
  | _=>.fail
 | .makeFunc (.func f) first cs=>if first.isEmpty then match R8 (cs.toList.map ρ) with
  | some l=>By (.s (.fv f l))
  | none=>.fail
  else .fail
 | _=>.fail
end Go.V
namespace Go.V
section loops
variable {σ τ:Type}
def EW (f:σ→Option (σ⊕τ)):Nat→σ→Option τ
 | 0,_=>none
 | n+1,x=>match f x with
  | some (.inl y)=>EW f n y
  | some (.inr z)=>some z
  | none=>none
open Classical in
noncomputable def Ab (f:σ→Option (σ⊕τ)) (x:σ):Option τ:=if h:∃ n z,EW f n x=some z then some h.choose_spec.choose else none
theorem QV (f:σ→Option (σ⊕τ)):∀ n m x z,EW f n x=some z→n≤m→EW f m x=some z:=by
 intro n
 induction n with
 | zero=>intro m x z h; simp [EW] at h
 | succ n ih=>
  intro m x z h hm
  obtain ⟨m,rfl⟩:∃ k,m=k+1:=⟨m - 1,by omega⟩
  simp only [EW] at h ⊢
  split at h
  ·exact ih m _ z h (by omega)
  ·exact h
  ·cases h
theorem Jq (f:σ→Option (σ⊕τ)) (x:σ) (z:τ):Ab f x=some z↔∃ n,EW f n x=some z:=by
 unfold Ab
 constructor
 ·intro h
  split at h
  ·rename_i hx
   injection h with h
   exact ⟨hx.choose,h ▸ hx.choose_spec.choose_spec⟩
  ·cases h
 ·rintro ⟨n,hn⟩
  have hx:∃ n z,EW f n x=some z:=⟨n,z,hn⟩
  rw [dif_pos hx]
  have h1:=QV f _ (max n hx.choose) x _ hx.choose_spec.choose_spec (by omega)
  have h2:=QV f _ (max n hx.choose) x _ hn (by omega)
  rw [h1] at h2
  exact h2
theorem An (f:σ→Option (σ⊕τ)) (x:σ):Ab f x=match f x with
  | some (.inl y)=>Ab f y
  | some (.inr z)=>some z
  | none=>none:=by
 apply Option.ext
 intro z
 rw [Jq]
 constructor
 ·rintro ⟨n,hn⟩
  cases n with
  | zero=>simp [EW] at hn
  | succ n=>
   simp only [EW] at hn
   split at hn
   ·rename_i y _
    exact (Jq f y z).2 ⟨n,hn⟩
   ·exact hn
   ·cases hn
 ·intro h
  split at h
  ·rename_i y hy
   obtain ⟨n,hn⟩:=(Jq f y z).1 h
   exact ⟨n+1,by simp only [EW,hy]; exact hn⟩
  ·rename_i z' hz; exact ⟨1,by simp only [EW,hz]; exact h⟩
  ·cases h
end loops
inductive TL where
 | h (i:Nat) | vw (k:Nat) | nil | no | vs (k i f:Nat) | ww (k i j:Nat) | p (k off:Nat) | np | vq (k i f a b:Nat)
inductive TS where
 | one (l:TL) | ag (ls:List TL) | pl (k off:Nat) | fv (f:FuncId) (cs:List (Nat×Nat)) | rp (i off:Nat)
inductive Pl where
 | sl (i:Nat) | ag (i j:Nat) | mc (k c:Nat)
 | pt (i:Nat) (ts:List Ty)
def Kh (S:St):Pl→Leaf
 | .sl i=>match S.sl i with
  | .s (.one l)=>l
  | _=>.no
 | .ag i j=>match S.sl i with
  | .s (.ag ls)=>ls.getD j .no
  | _=>.no
 | .mc k c=>match S.ms k with
  | some n=>if c < n then S.mc k c else .no
  | none=>.no
 | .pt _ _=>.no
def St.setAt (S:St) (l:Leaf):Pl→St
 | .sl i=>S.put i (.s (.one l))
 | .ag i j=>match S.sl i with
  | .s (.ag ls)=>S.put i (.s (.ag (ls.set j l)))
  | _=>S
 | .mc k c=>S.up (.mc k c l)
 | .pt _ _=>S
def SW (S:St) (p:Pl):St:=
 match Kh S p with
 | .vw k [] (some (lo,n))=>match S.ow k with
  | some o=>((S.kp [.all k]).up (.ow k (some ⟨o.e,o.r,(o.xs.drop lo).take n⟩))).setAt (.vw k [] none) p
  | none=>S
 | _=>S
def VH (S:St):List Pl→St
 | []=>S
 | p::ps=>VH (SW S p) ps
def S7 (S:St) (p:Pl):St:=
 match Kh S p with
 | .vw k [] none=>match S.ow k with
  | some o=>((S.kp [.all k]).up (.ow k none)).setAt (.v (Ty.sl true o.e o.r).frz (HO (.sl true o.e o.r) o.xs)) p
  | none=>S
 | _=>S
def J3 (S:St) (k:Nat):List Ty→Nat→Option (List Ae)
 | [],_=>some []
 | t::ts,c=>match S.mc k c with
  | .v u x=>match J3 S k ts (c+1) with
   | some ls=>some (⟨u,x⟩::ls)
   | none=>none
  | .nil=>match t with
   | .sl _ e r=>match J3 S k ts (c+1) with
    | some ls=>some (⟨.sl false e r,[]⟩::ls)
    | none=>none
   | _=>none
  | _=>none
def St.drop (S:St) (k:Nat):St:=⟨(S.kp [.m k]).sl,fun i=>if i=k then none else S.ms i,(S.kp [.m k]).mc,S.ow⟩
def SU (S:St) (p:Pl):St:=
 match p with
 | .pt i ts=>match S.sl i with
  | .s (.pl k 0)=>match S.ms k,J3 S k ts 0 with
   | some n,some ls=>if n=ts.length then (S.drop k).put i (.s (.one (.v (.pt (BF ls).1) (some (BF ls).2)))) else S
   | _,_=>S
  | _=>S
 | p=>S7 S p
def V4 (S:St):List Pl→St
 | []=>S
 | p::ps=>V4 (SU S p) ps
structure Tpl where
 holes:List Ty
 slots:List (Nat×TS)
 mems:List (Nat×List TL)
 owns:List (Nat×Nat)
 nw:List Pl
 fz:List Pl
@[reducible] def Tpl.D (t:Tpl):Type:=(AM t.holes).D
def split:(ts:List Ty)→(AM ts).D→List Ae
 | [],_=>[]
 | [t],x=>[⟨t,x⟩]
 | t::u::ts,x=>⟨t,x.1⟩::split (u::ts) x.2
def find {β:Type}:List (Nat×β)→Nat→Option β
 | [],_=>none
 | (k,b)::l,i=>if i=k then some b else find l i
def M0:Ae→Option Nat
 | ⟨.int .i64,n⟩=>some (Int.toNat n)
 | _=>none
def TL.inj (hs:List Ae):TL→Leaf
 | .vs k i f=>match hs[i]? with
  | some c=>match M0 c with
   | some n=>.vw k [(n,f)] none
   | none=>.no
  | none=>.no
 | .ww k i j=>match hs[i]? with
  | some c=>match hs[j]? with
   | some d=>match M0 c with
    | some a=>match M0 d with
     | some b=>.vw k [] (some (a,b))
     | none=>.no
    | none=>.no
   | none=>.no
  | none=>.no
 | .vq k i f a b=>match hs[i]? with
  | some c=>match hs[a]? with
   | some d=>match hs[b]? with
    | some g=>match M0 c with
     | some n=>match M0 d with
      | some x=>match M0 g with
       | some y=>.vw k [(n,f)] (some (x,y))
       | none=>.no
      | none=>.no
     | none=>.no
    | none=>.no
   | none=>.no
  | none=>.no
 | .h i=>match hs[i]? with
  | some c=>.v c.1 c.2
  | none=>.no
 | .vw k=>.vw k [] none
 | .nil=>.nil
 | .p k off=>.p k off
 | .np=>.np
 | .no=>.no
def TS.inj (hs:List Ae):TS→S1
 | .one l=>.one (l.inj hs)
 | .ag ls=>.ag (ls.map (TL.inj hs))
 | .pl k off=>.pl k off
 | .fv f cs=>.fv f cs
 | .rp i off=>match hs[i]? with
  | some c=>.rp c.1 c.2 off
  | none=>.one .no
def Aeb:Ae→Option Own
 | ⟨.sl true e r,xs⟩=>some ⟨e,r,xs⟩
 | _=>none
def Tpl.injH (t:Tpl) (hs:List Ae):St where
 sl i:=match find t.slots i with
  | some s=>.s (s.inj hs)
  | none=>.no
 ms k:=(find t.mems k).map List.length
 mc k off:=match find t.mems k with
  | some row=>match row[off]? with
   | some l=>l.inj hs
   | none=>.no
  | none=>.no
 ow k:=match find t.owns k with
  | some h=>match hs[h]? with
   | some c=>Aeb c
   | none=>none
  | none=>none
def Tpl.inj (t:Tpl) (x:t.D):St:=t.injH (split t.holes x)
structure Mt where
 ro:List (Nat×Nat):=[]
 rm:List (Nat×Nat):=[]
 nl:List Nat:=[]
 vs:List (Nat×Ae):=[]
def Ja (l:List (Nat×Nat)) (a b:Nat):Option (List (Nat×Nat)):=
 match find l a with
 | some c=>if c=b then some l else none
 | none=>some ((a,b)::l)
def TL.mt (holes:List Ty) (m:Mt):TL→Leaf→Option Mt
 | .h i,.v t x=>some { m with vs:=(i,⟨t,x⟩)::m.vs }
 | .h i,.nil=>match holes[i]? with
  | some (.sl false e r)=>some { m with vs:=(i,⟨.sl false e r,[]⟩)::m.vs }
  | _=>none
 | .vw k,.vw k' [] none=>match Ja m.ro k k' with
  | some l=>some { m with ro:=l }
  | none=>none
 | .vw k,.nil=>some { m with nl:=k::m.nl }
 | .vs k i f,.vw k' [(n,g)] none=>if f=g then match Ja m.ro k k' with
  | some l=>some { m with ro:=l,vs:=(i,⟨.int .i64,((n:Nat):Int)⟩)::m.vs }
  | none=>none
  else none
 | .ww k i j,.vw k' [] (some (a,b))=>match Ja m.ro k k' with
  | some l=>some { m with ro:=l,vs:=(i,⟨.int .i64,((a:Nat):Int)⟩)::(j,⟨.int .i64,((b:Nat):Int)⟩)::m.vs }
  | none=>none
 | .vq k i f x y,.vw k' [(n,g)] (some (a,b))=>if f=g then match Ja m.ro k k' with
  | some l=>some { m with ro:=l,vs:=(i,⟨.int .i64,((n:Nat):Int)⟩)::(x,⟨.int .i64,((a:Nat):Int)⟩)::(y,⟨.int .i64,((b:Nat):Int)⟩)::m.vs }
  | none=>none
  else none
 | .nil,.nil=>some m
 | .np,.np=>some m
 | .h i,.np=>match holes[i]? with
  | some (.pt t)=>some { m with vs:=(i,⟨.pt t,none⟩)::m.vs }
  | _=>none
 | .p k off,.p k' off'=>if off=off' then (match Ja m.rm k k' with
  | some l=>some { m with rm:=l }
  | none=>none) else none
 | .no,_=>some m
 | _,_=>none
def TL.mts (holes:List Ty):Mt→List TL→List Leaf→Option Mt
 | m,[],[]=>some m
 | m,t::ts,l::ls=>match t.mt holes m l with
  | some m'=>TL.mts holes m' ts ls
  | none=>none
 | _,_,_=>none
def TS.mt (holes:List Ty) (m:Mt):TS→SV→Option Mt
 | .one t,.s (.one l)=>t.mt holes m l
 | .ag ts,.s (.ag ls)=>TL.mts holes m ts ls
 | .pl k off,.s (.pl k' off')=>if off=off' then (match Ja m.rm k k' with
  | some l=>some { m with rm:=l }
  | none=>none) else none
 | .fv f cs,.s (.fv f' cs')=>if f=f'∧cs=cs'∧cs.all (fun p=>find m.rm p.1 == some p.1) then some m else none
 | .rp i off,.s (.rp t x off')=>if off=off' then some { m with vs:=(i,⟨t,x⟩)::m.vs } else none
 | _,_=>none
def Mh (holes:List Ty) (S:St):List (Nat×TS)→Mt→Option Mt
 | [],m=>some m
 | (i,t)::l,m=>match t.mt holes m (S.sl i) with
  | some m'=>Mh holes S l m'
  | none=>none
def RU (holes:List Ty) (S:St) (k:Nat):List TL→Nat→Mt→Option Mt
 | [],_,m=>some m
 | t::ts,c,m=>match t.mt holes m (S.mc k c) with
  | some m'=>RU holes S k ts (c+1) m'
  | none=>none
def N7 (holes:List Ty) (S:St):List (Nat×List TL)→Mt→Option Mt
 | [],m=>some m
 | (κ,row)::l,m=>match find m.rm κ with
  | some k=>if S.ms k=some row.length then match RU holes S k row 0 m with
   | some m'=>N7 holes S l m'
   | none=>none
   else none
  | none=>none
def L4 (holes:List Ty) (S:St):List (Nat×Nat)→Mt→Option Mt
 | [],m=>some m
 | (κ,h)::l,m=>match find m.ro κ with
  | some k=>match S.ow k with
   | some o=>L4 holes S l { m with vs:=(h,⟨.sl true o.e o.r,o.xs⟩)::m.vs }
   | none=>none
  | none=>if m.nl.contains κ then match holes[h]? with
   | some (.sl true e r)=>L4 holes S l { m with vs:=(h,⟨.sl true e r,[]⟩)::m.vs }
   | _=>none
   else none
def tuple (vs:List (Nat×Ae)):(ts:List Ty)→Nat→Option (AM ts).D
 | [],_=>some ()
 | [t],i=>match find vs i with
  | some ⟨u,x⟩=>if h:u=t then some (h ▸ x) else none
  | none=>none
 | t::u::ts,i=>match find vs i with
  | some ⟨u',x⟩=>if h:u'=t then match tuple vs (u::ts) (i+1) with
   | some y=>some (h ▸ x,y)
   | none=>none
   else none
  | none=>none
def Tpl.mt (t:Tpl) (S:St):Option Mt:=
 match Mh t.holes S t.slots { rm:=t.mems.map fun p=>(p.1,p.1) } with
 | some m=>match N7 t.holes S t.mems m with
  | some m=>L4 t.holes S t.owns m
  | none=>none
 | none=>none
def Mt.fine (t:Tpl) (m:Mt):Bool:=
 AB (m.vs.map (·.1)) && m.vs.all (fun p=>decide (p.1 < t.holes.length)) && AB (m.ro.map (·.1)) && AB (m.ro.map (·.2)) && AB (m.rm.map (·.1)) && AB (m.rm.map (·.2)) &&
 m.nl.all (fun k=>!(m.ro.map (·.1)).contains k && (find t.owns k).isSome) && m.ro.all (fun p=>(find t.owns p.1).isSome) && m.rm.all (fun p=>(find t.mems p.1).isSome) && m.rm.all (fun p=>p.1 == p.2)
def Tpl.prj0 (t:Tpl) (S:St):Option t.D:=
 match t.mt S with
 | some m=>if m.fine t then tuple m.vs t.holes 0 else none
 | none=>none
def Tpl.prj (t:Tpl) (S:St):Option t.D:=t.prj0 (V4 (VH S t.nw) t.fz)
inductive Ex where
 | n | x (id:Nat) | r
 deriving DecidableEq
abbrev Joins:=List (Ex×Tpl)
@[reducible] def Joins.D:Joins→Type
 | []=>Empty
 | [a]=>a.2.D
 | a::b::l=>a.2.D⊕Joins.D (b::l)
def Joins.prj:(J:Joins)→Ex→St→Option J.D
 | [],_,_=>none
 | [a],e,S=>if e=a.1 then a.2.prj S else none
 | a::b::l,e,S=>match (if e=a.1 then a.2.prj S else none) with
  | some x=>some (.inl x)
  | none=>match Joins.prj (b::l) e S with | some x=>some (.inr x) | none=>none
def Joins.inj:(J:Joins)→J.D→Tr (Ex×St)
 | [],x=>nomatch x
 | [a],x=>.ret (a.1,a.2.inj x)
 | a::b::l,s=>.alt a.2.D (Joins.D (b::l)) s (fun x=>.ret (a.1,a.2.inj x)) (fun y=>Joins.inj (b::l) y)
def J4 (J:Joins) (t:Tr (Ex×St)):Tr (Ex×St):=
 match J with
 | []=>t
 | a::l=>.get (Joins.D (a::l)) (t.bind fun r=>Tr.opt (Joins.prj (a::l) r.1 r.2)).run (Joins.inj (a::l))
inductive Ann where
 | nil
 | seq (a b:Ann)
 | cond (J:Joins) (a b:Ann)
 | block (J:Joins) (a:Ann)
 | loop (t:Tpl) (J:Joins) (a:Ann)
 | reg (J:Joins)
 | both (J:Joins) (r a b y z:Ann)
def Pw (ops:Array Oper) (j:Nat):Option Nat:=(ops[j]?).bind (·.dst)
structure Rec where
 o:Oper
 ins:List SV
 out:Out
 lg:List Lg
def Pk (E:Env) (N:Nat) (o:Oper):Bool:=match o.dst with
 | some d=>decide (d < N) && !E.fx.contains d
 | none=>true
def Y5 (E:Env) (N:Nat) (o:Oper) (S:St):Tr (Out×List Lg):=(Ji E (Cw S) (o.dst.getD N) o.op).at S []
def Vg:Out:=⟨.un,[],[]⟩
def Aei (o:Oper) (S:St) (r:Out×List Lg):Rec:=⟨o,o.op.operands.toList.map (Cw S),r.1,r.2⟩
def AcS (o:Oper):Rec:=⟨o,[],Vg,[]⟩
def Vu (E:Env) (N:Nat) (o:Oper) (S:St):Tr (St×Rec):=(Y5 E N o S).bind fun r=>.ret (S.app o.dst r.1,Aei o S r)
def Wu (o:Oper) (S:St):Tr (St×Rec):=.ret (S.app o.dst Vg,AcS o)
def U4 (E:Env) (N:Nat) (ops:Array Oper) (o:Oper) (S:St):Tr (St×Rec):=
 if Pk E N o then match o.guard with
  | none=>Vu E N o S
  | some (j,want)=>match Pw ops j with
   | some g=>match S.sl g with
    | .s (.one (.v .bool b))=>
     .br b (if want then Vu E N o (S.put g (.s (.one (.v .bool true)))) else Wu o (S.put g (.s (.one (.v .bool true)))))
      (if want then Wu o (S.put g (.s (.one (.v .bool false)))) else Vu E N o (S.put g (.s (.one (.v .bool false)))))
    | .un=>Wu o S
    | _=>.fail
   | none=>.fail
  else .fail
def WG (E:Env) (N:Nat) (ops:Array Oper):List Oper→St→Tr St
 | [],S=>.ret S
 | o::os,S=>(U4 E N ops o S).bind fun r=>WG E N ops os r.1
def V6 (E:Env) (N:Nat) (ops:Array Oper):List Oper→St→List Rec→Tr (St×List Rec)
 | [],S,l=>.ret (S,l.reverse)
 | o::os,S,l=>(U4 E N ops o S).bind fun r=>V6 E N ops os r.1 (r.2::l)
def Leaf.safe (c:List Kl):Leaf→Bool
 | .vw k st _=>c.all (fun x=>x.okV k st)
 | .p k _=>c.all (fun x=>x.okM k)
 | _=>true
def S1.safe (c:List Kl):S1→Bool
 | .one l=>l.safe c
 | .ag ls=>ls.all (Leaf.safe c)
 | .pl k _=>c.all (fun x=>x.okM k)
 | .el k st=>c.all (fun x=>x.okE k st)
 | .rp ..=>true
 | .fv _ cs=>c.all (fun x=>cs.all fun p=>x.okM p.1)
def SV.safe (c:List Kl):SV→Bool
 | .s x=>x.safe c
 | .tu xs=>xs.all (S1.safe c)
 | .un=>true
 | .no=>true
def U.safe (c:List Kl):U→Bool
 | .mc _ _ l=>l.safe c
 | .ms _ row=>row.all (Leaf.safe c)
 | .ow ..=>true
def Lg.safe (c:List Kl):Lg→Bool
 | .c _ _ l=>l.safe c
 | _=>true
def U.hits:U→Lg→Bool
 | .ow k _,.o k'=>k == k'
 | .mc k off _,.c k' off' _=>k == k' && off == off'
 | .ms k _,.c k' _ _=>k == k'
 | .ms k _,.m k'=>k == k'
 | _,_=>false
def U.meets:U→U→Bool
 | .ow k _,.ow k' _=>k == k'
 | .mc k off _,.mc k' off' _=>k == k' && off == off'
 | .ms k _,.mc k' _ _=>k == k'
 | .mc k _ _,.ms k' _=>k == k'
 | .ms k _,.ms k' _=>k == k'
 | _,_=>false
def Leaf.whole:Leaf→Bool
 | .no=>false
 | _=>true
def S1.whole:S1→Bool
 | .one l=>l.whole
 | .ag ls=>ls.all Leaf.whole
 | _=>true
def SV.whole:SV→Bool
 | .s x=>x.whole
 | .tu xs=>xs.all S1.whole
 | .un=>true
 | .no=>false
def Lg.whole:Lg→Bool
 | .c _ _ l=>l.whole
 | _=>true
def Rec.past (a b:Rec):Bool:=
 (b.out.ks.isEmpty || (a.ins.all SV.whole && a.lg.all Lg.whole)) &&
 a.ins.all (SV.safe b.out.ks) && a.out.x.safe b.out.ks && a.lg.all (Lg.safe b.out.ks) && a.out.us.all (U.safe b.out.ks) &&
 a.lg.all (fun l=>b.out.us.all fun u=>!u.hits l)
def Rec.apart (a b:Rec):Bool:=
 a.past b && b.past a && a.out.us.all (fun u=>b.out.us.all fun u'=>!u.meets u')
def JU (acc:List Nat) (o:Oper):Nat:=o.after.toList.foldl (fun m e=>if Region.binds .any e then m ||| ((1 <<< e.on) ||| acc.getD e.on 0) else m) 0
def ahead:List Oper→List Nat→List Nat
 | [],acc=>acc
 | o::os,acc=>ahead os (acc++[JU acc o])
def MG:List Oper→Nat→Bool
 | [],_=>true
 | o::os,n=>o.after.toList.all (fun e=>!Region.binds .any e || decide (e.on < n)) && MG os (n+1)
def HA (ops:Array Oper) (o:Oper):List Nat:=
 o.op.operands.toList.filterMap (fun | .tmp t=>some t | _=>none)++(match o.guard with | some (j,_)=>(Pw ops j).toList | none=>[])
def HG (ops:Array Oper) (a b:Oper):Bool:=
 (match a.dst with | some d=>!(HA ops b).contains d && !(b.dst == some d) | none=>true) &&
 (match b.dst with | some d=>!(HA ops a).contains d | none=>true)
def HC (ops:Array Oper) (b:List Nat):List (Nat×Rec)→Bool
 | []=>true
 | (i,a)::l=>l.all (fun p=>(b.getD p.1 0).testBit i || (HG ops a.o p.2.o && a.apart p.2)) && HC ops b l
def DJ {β:Type}:List β→Nat→List (Nat×β)
 | [],_=>[]
 | x::l,n=>(n,x)::DJ l (n+1)
def JS (E:Env) (N:Nat) (ops:Array Oper) (draw:Bool) (S:St):Tr St:=
 if draw then (V6 E N ops ops.toList S []).bind fun r=>if HC ops (ahead ops.toList []) (DJ r.2 0) && MG ops.toList 0 then .ret r.1 else .fail
 else WG E N ops ops.toList S
open Classical in
noncomputable def H3 {α:Type} (e:Bool) (a b:Option α):Option α:=if e=true then (if a=b then b else none) else b
noncomputable def Az (E:Env) (N:Nat):Ann→Code→St→Tr (Ex×St)
 | _,.skip,S=>.ret (.n,S)
 | .reg J,.region _ ops draw,S=>J4 J ((JS E N ops draw S).bind fun S=>.ret (.n,S))
 | _,.region _ ops draw,S=>(JS E N ops draw S).bind fun S=>.ret (.n,S)
 | .seq x y,.seq a b,S=>(Az E N x a S).bind fun r=>match r.1 with
  | .n=>Az E N y b r.2
  | e=>.ret (e,r.2)
 | .nil,.seq a b,S=>(Az E N .nil a S).bind fun r=>match r.1 with
  | .n=>Az E N .nil b r.2
  | e=>.ret (e,r.2)
 | .cond J x y,.cond c a b,S=>match Cw S c with
  | .s (.one (.v .bool c))=>J4 J (.br c (Az E N x a S) (Az E N y b S))
  | .s (.one (.qn e))=>.get (Joins.D J) (H3 e ((Az E N x a S).bind fun r=>Tr.opt (Joins.prj J r.1 r.2)).run ((Az E N y b S).bind fun r=>Tr.opt (Joins.prj J r.1 r.2)).run) (Joins.inj J)
  | _=>.fail
 | .nil,.cond c a b,S=>match Cw S c with
  | .s (.one (.v .bool c))=>.br c (Az E N .nil a S) (Az E N .nil b S)
  | _=>.fail
 | .both J xr xa xb y z,.seq (.seq r (.cond c a b)) d,S=>(Az E N xr r S).bind fun q=>match q.1 with
  | .n=>match Cw q.2 c with
   | .s (.one (.qn e))=>.get (Joins.D J) (H3 e
     (((Az E N xa a q.2).bind fun p=>match p.1 with | .n=>Az E N y d p.2 | e=>.ret (e,p.2)).bind fun t=>Tr.opt (Joins.prj J t.1 t.2)).run
     (((Az E N xb b q.2).bind fun p=>match p.1 with | .n=>Az E N z d p.2 | e=>.ret (e,p.2)).bind fun t=>Tr.opt (Joins.prj J t.1 t.2)).run) (Joins.inj J)
   | _=>.fail
  | e=>.ret (e,q.2)
 | .block J x,.block id a,S=>J4 J ((Az E N x a S).bind fun r=>.ret (if r.1=.x id then .n else r.1,r.2))
 | .nil,.block id a,S=>(Az E N .nil a S).bind fun r=>.ret (if r.1=.x id then .n else r.1,r.2)
 | .loop t J x,.loop a,S=>match t.prj S with
  | some x0=>.get (Joins.D J) (Ab (fun y:t.D=>((Az E N x a (t.inj y)).bind fun r=>match r.1 with
    | .n=>Tr.opt (match t.prj r.2 with | some z=>some (Sum.inl (β:=Joins.D J) z) | none=>none)
    | e=>Tr.opt (match J.prj e r.2 with | some z=>some (Sum.inr (α:=t.D) z) | none=>none)).run) x0) J.inj
  | none=>.fail
 | _,.exit id,S=>.ret (.x id,S)
 | _,.ret,S=>.ret (.r,S)
 | _,_,_=>.fail
def blank:St:=⟨fun _=>.no,fun _=>none,fun _ _=>.no,fun _=>none⟩
def He:List S1→Nat→St→St
 | [],_,S=>S
 | x::xs,i,S=>He xs (i+1) (S.put i (.s x))
def YS (N:Nat) (as:List A1) (rows:List (List Ae)):Option St:=
 match Hs ((List.range rows.length).map fun m=>(N+1+m,0)) (kd (N+2) 0) as,EU ((List.range rows.length).map fun m=>(N+1+m,0)) (kd (N+2) 512) ((List.range rows.length).map fun m=>(N+1+m,0)) rows with
 | some vs,some rs=>if AB ((vs.2++rs.2).map (·.1)) then some (He vs.1 0 ((blank.ups (Gr (vs.2++rs.2))).ups (rs.1.map fun p=>.ms p.1.1 p.2))) else none
 | _,_=>none
def LU (t:Ty):Leaf→Tr (Ae×List Nat)
 | .v u x=>.ret (⟨u,x⟩,[])
 | .nil=>match t with
  | .sl _ e r=>.ret (⟨.sl true e r,[]⟩,[])
  | _=>.fail
 | .vw k [] win=>(Er k [] win).bind fun o=>.ret (⟨.sl true o.e o.r,o.xs⟩,[k])
 | _=>.fail
def Ti (N M:Nat) (t:Ty):Leaf→Tr (Ae×List Nat)
 | .p k off=>if N+1≤k∧k < N+1+M then .ret (⟨.lp,(k - (N+1),off)⟩,[]) else .fail
 | l=>LU t l
def FF:List Ty→List Leaf→Tr (List Ae×List Nat)
 | [],[]=>.ret ([],[])
 | t::ts,l::ls=>(LU t l).bind fun x=>(FF ts ls).bind fun y=>.ret (x.1::y.1,x.2++y.2)
 | _,_=>.fail
def RG (E:Env) (N M:Nat) (t:TypeId):SV→Tr (A1×List Nat)
 | .s (.one l)=>(LU ((((E.ti t).cells).getD []).headD .unit) l).bind fun x=>.ret (.one x.1,x.2)
 | .s (.ag ls)=>(FF (((E.ti t).cells).getD []) ls).bind fun x=>.ret (.ag x.1,x.2)
 | .s (.pl k off)=>if N+1≤k∧k < N+1+M then .ret (.pl (k - (N+1)) off,[]) else .fail
 | _=>.fail
def Gq (E:Env) (N M:Nat) (S:St):List ResultVar→List TypeId→Tr (List A1×List Nat)
 | [],[]=>.ret ([],[])
 | .tmp s::rs,t::ts=>(RG E N M t (S.sl s)).bind fun x=>(Gq E N M S rs ts).bind fun y=>.ret (x.1::y.1,x.2++y.2)
 | .cell s t'::rs,t::ts=>match S.sl s,(E.ti t').vcells with
  | .s a,some cs=>if cs.isEmpty then .fail else (if (E.ti t').isAgg then (Iu a cs.length 0).bind fun ls=>Tr.ret (SV.s (.ag ls)) else (Fy a 0).bind R7).bind fun v=>
   (RG E N M t v).bind fun x=>(Gq E N M S rs ts).bind fun y=>.ret (x.1::y.1,x.2++y.2)
  | _,_=>.fail
 | _,_=>.fail
def Pa (N M:Nat) (k:Nat):List Ae→Nat→Tr (List Ae×List Nat)
 | [],_=>.ret ([],[])
 | r::rs,c=>.rdC k c fun l=>(Ti N M r.1 l).bind fun x=>(Pa N M k rs (c+1)).bind fun y=>.ret (x.1::y.1,x.2++y.2)
def Mo (N M:Nat):List (List Ae)→Nat→Tr (List (List Ae)×List Nat)
 | [],_=>.ret ([],[])
 | r::rs,m=>.rdM (N+1+m) fun n=>if n=some r.length then (Pa N M (N+1+m) r 0).bind fun x=>(Mo N M rs (m+1)).bind fun y=>.ret (x.1::y.1,x.2++y.2)
  else .fail
def AaE (S:St) (p:Nat×Nat):Leaf:=match S.sl p.1 with
 | .s (.one l)=>if p.2=0 then l else .no
 | .s (.ag ls)=>ls.getD p.2 .no
 | _=>.no
def Kf (S:St):List (Nat×Nat)→Tr (List ((Nat×Nat)×Ae)×List Nat)
 | []=>.ret ([],[])
 | p::ps=>match AaE S p with
  | .vw k [] none=>(Er k [] none).bind fun o=>(Kf S ps).bind fun y=>.ret ((p,⟨.sl true o.e o.r,o.xs⟩)::y.1,k::y.2)
  | _=>.fail
def WP (E:Env) (N:Nat) (fn:Func) (rows:List (List Ae)) (ln:List (Nat×Nat)) (S:St):Tr Res:=
 (((Gq E N rows.length S fn.results.toList fn.resultTypes.toList).bind fun v=>(Mo N rows.length rows 0).bind fun r=>(Kf S ln).bind fun t=>Tr.ret (v,r,t)).at S []).bind fun p=>
  if AB (p.1.1.2++(p.1.2.1.2++p.1.2.2.2)) then .ret ⟨p.1.1.1,p.1.2.1.1,p.1.2.2.1⟩ else .fail
noncomputable def Ab4 (E:Env) (fn:Func) (J:Joins) (ann:Ann) (ln:List (Nat×Nat)) (args:List A1) (rows:List (List Ae)):Tr Res:=
 match fn.body with
 | some c=>if (args.length=fn.params.size+fn.nfree∧args.length≤fn.ntmps)∧ln.all (fun p=>E.fx.contains p.1 && decide (p.1 < args.length))=true then
  match YS fn.ntmps args rows with
  | some S=>(J4 J ((Az E fn.ntmps ann c S).bind fun r=>.ret (match r.1 with | .n=>.r | e=>e,r.2))).bind fun r=>match r.1 with
   | .x _=>.fail
   | _=>WP E fn.ntmps fn rows ln r.2
  | none=>.fail
  else .fail
 | none=>.fail
end Go.V