import GoSem.Dispatch
import Derived.Calls
set_option linter.unusedVariables false
set_option linter.unusedSimpArgs false
namespace Go
theorem O{p:Prop}(h:p:=by omega):p:=h
theorem Z{p:Prop}(h:p:=by simp):p:=h
theorem Aoz{p:Prop}(h:p:=by simp;omega):p:=h
theorem AoA{p:Prop}(h:p:=by decide):p:=h
theorem AoB{p:Prop}(h:p:=by dsimp only;omega):p:=h
theorem AoC:type_of% @Option.bind_some:=@Option.bind_some
theorem AoD:type_of% @Option.some.injEq:=@Option.some.injEq
theorem AoE:type_of% @Int.toNat_natCast:=@Int.toNat_natCast
theorem AoF:type_of% @List.getElem?_eq_getElem:=@List.getElem?_eq_getElem
theorem AoG:type_of% @Option.bind_eq_some_iff:=@Option.bind_eq_some_iff
theorem AoH:type_of% @if_neg:=@if_neg
theorem AoI:type_of% @Bool.and_eq_true:=@Bool.and_eq_true
theorem AoJ:type_of% @if_pos:=@if_pos
theorem AoK:type_of% @List.mem_append:=@List.mem_append
theorem AoL:type_of% @List.take_succ_eq_append_getElem:=@List.take_succ_eq_append_getElem
theorem AoM:type_of% @List.length_append:=@List.length_append
theorem AoN:type_of% @List.append_assoc:=@List.append_assoc
theorem AoO:type_of% @Bool.false_eq_true:=@Bool.false_eq_true
theorem AoP:type_of% @List.length_singleton:=@List.length_singleton
theorem AoQ:type_of% @List.length_take:=@List.length_take
theorem AoR:type_of% @List.getElem_mem:=@List.getElem_mem
theorem AoS:type_of% @Nat.zero_add:=@Nat.zero_add
theorem AoT:type_of% @Bool.true_and:=@Bool.true_and
theorem AoU:type_of% @if_true:=@if_true
theorem AoV:type_of% @List.length_cons:=@List.length_cons
theorem AoW:type_of% @List.append_nil:=@List.append_nil
theorem AoX:type_of% @Int.eq_ofNat_of_zero_le:=@Int.eq_ofNat_of_zero_le
theorem AoY:type_of% @List.mem_cons:=@List.mem_cons
theorem AoZ:type_of% @List.mem_singleton:=@List.mem_singleton
theorem Ao0:type_of% @List.mem_map:=@List.mem_map
theorem Ao1:type_of% @List.eq_nil_of_length_eq_zero:=@List.eq_nil_of_length_eq_zero
theorem Ao2:type_of% @Nat.le_trans:=@Nat.le_trans
theorem Ao3:type_of% @List.getElem_of_mem:=@List.getElem_of_mem
theorem Ao4:type_of% @Nat.le_refl:=@Nat.le_refl
theorem Ao5:type_of% @List.take_of_length_le:=@List.take_of_length_le
theorem Ao6:type_of% @List.nil_append:=@List.nil_append
theorem Ao7:type_of% @Bool.not_eq_true':=@Bool.not_eq_true'
theorem Ao8:type_of% @Array.getElem?_toList:=@Array.getElem?_toList
theorem Ao9:type_of% @List.length_map:=@List.length_map
theorem Apa:type_of% @if_false:=@if_false
theorem Apb:type_of% @List.all_eq_true:=@List.all_eq_true
theorem Apc:type_of% @List.nodup_append:=@List.nodup_append
theorem Apd:type_of% @List.length_nil:=@List.length_nil
theorem Ape:type_of% @List.map_append:=@List.map_append
theorem Apf:type_of% @List.getElem?_take_of_lt:=@List.getElem?_take_of_lt
theorem Apg:type_of% @Array.getElem?_eq_getElem:=@Array.getElem?_eq_getElem
theorem Aph:type_of% @List.drop_eq_getElem_cons:=@List.drop_eq_getElem_cons
theorem Api:type_of% @List.mem_of_getElem?:=@List.mem_of_getElem?
theorem Apj:type_of% @List.cons_append:=@List.cons_append
theorem Apk:type_of% @List.map_cons:=@List.map_cons
theorem Apl:type_of% @List.getElem?_map:=@List.getElem?_map
theorem Apm:type_of% @List.take_append_drop:=@List.take_append_drop
theorem Apn:type_of% @List.size_toArray:=@List.size_toArray
theorem Apo:type_of% @Option.getD_some:=@Option.getD_some
theorem App:type_of% @List.getElem?_eq_none:=@List.getElem?_eq_none
theorem Apq:type_of% @List.ext_getElem?:=@List.ext_getElem?
theorem Apr:type_of% @List.length_drop:=@List.length_drop
theorem Aps:type_of% @List.map_congr_left:=@List.map_congr_left
theorem Apt:type_of% @List.getElem?_eq_some_iff:=@List.getElem?_eq_some_iff
theorem Apu:type_of% @List.getElem?_drop:=@List.getElem?_drop
theorem Apv:type_of% @Bool.not_true:=@Bool.not_true
theorem Apw:type_of% @List.getElem?_append_right:=@List.getElem?_append_right
theorem Apx:type_of% @Option.map_eq_some_iff:=@Option.map_eq_some_iff
theorem Apy:type_of% @List.take_length:=@List.take_length
theorem Apz:type_of% @Option.map_some:=@Option.map_some
theorem ApA:type_of% @List.mem_or_eq_of_mem_set:=@List.mem_or_eq_of_mem_set
theorem ApB:type_of% @List.nodup_cons:=@List.nodup_cons
theorem ApC:type_of% @List.length_replicate:=@List.length_replicate
theorem ApD:type_of% @Nat.lt_of_lt_of_le:=@Nat.lt_of_lt_of_le
theorem ApE:type_of% @List.replicate_succ:=@List.replicate_succ
theorem ApF:type_of% @List.map_map:=@List.map_map
theorem ApG:type_of% @List.getD_eq_getElem?_getD:=@List.getD_eq_getElem?_getD
theorem ApH:type_of% @List.getElem?_append_left:=@List.getElem?_append_left
theorem ApI:type_of% @Int.le_refl:=@Int.le_refl
theorem ApJ:type_of% @Nat.mul_le_mul_right:=@Nat.mul_le_mul_right
theorem ApK:type_of% @Option.ne_none_iff_exists':=@Option.ne_none_iff_exists'
theorem ApL:type_of% @List.mem_of_mem_take:=@List.mem_of_mem_take
theorem ApM:type_of% @List.mem_cons_of_mem:=@List.mem_cons_of_mem
theorem ApN:type_of% @List.drop_zero:=@List.drop_zero
theorem ApO:type_of% @List.length_filter_le:=@List.length_filter_le
theorem ApP:type_of% @Nat.zero_le:=@Nat.zero_le
theorem ApQ:type_of% @Nat.add_mul:=@Nat.add_mul
theorem ApR:type_of% @Bool.false_or:=@Bool.false_or
theorem ApS:type_of% @Array.getElem?_eq_some_iff:=@Array.getElem?_eq_some_iff
theorem ApT:type_of% @Option.some.inj:=@Option.some.inj
theorem ApU:type_of% @List.foldl_cons:=@List.foldl_cons
theorem ApV:type_of% @List.filter_append:=@List.filter_append
theorem ApW:type_of% @List.drop_eq_nil_of_le:=@List.drop_eq_nil_of_le
theorem ApX:type_of% @List.take_append_of_le_length:=@List.take_append_of_le_length
theorem ApY:type_of% @List.flatMap_append:=@List.flatMap_append
theorem ApZ:type_of% @List.all_cons:=@List.all_cons
theorem Ap0:type_of% @Option.isSome_iff_exists:=@Option.isSome_iff_exists
theorem Ap1:type_of% @Array.getD_eq_getD_getElem?:=@Array.getD_eq_getD_getElem?
theorem Ap2:type_of% @List.mem_of_mem_drop:=@List.mem_of_mem_drop
theorem Ap3:type_of% @List.drop_length:=@List.drop_length
theorem Ap4:type_of% @Bool.and_true:=@Bool.and_true
theorem Ap5:type_of% @Int.tdiv_eq_ediv_of_nonneg:=@Int.tdiv_eq_ediv_of_nonneg
theorem Ap6:type_of% @Array.getElem?_setIfInBounds_ne:=@Array.getElem?_setIfInBounds_ne
theorem Ap7:type_of% @List.getElem?_set_self:=@List.getElem?_set_self
theorem Ap8:type_of% @List.any_eq_false:=@List.any_eq_false
theorem Ap9:type_of% @List.flatMap_cons:=@List.flatMap_cons
theorem Aqa:type_of% @Array.toList_append:=@Array.toList_append
theorem Aqb:type_of% @List.range_succ:=@List.range_succ
theorem Aqc:type_of% @Bool.or_eq_true:=@Bool.or_eq_true
theorem Aqd:type_of% @Array.size_append:=@Array.size_append
theorem Aqe:type_of% @List.mem_filter:=@List.mem_filter
theorem Aqf:type_of% @Nat.add_zero:=@Nat.add_zero
theorem Aqg:type_of% @List.append_eq_nil_iff:=@List.append_eq_nil_iff
theorem Aqh:type_of% @Array.getElem?_push_lt:=@Array.getElem?_push_lt
theorem Aqi:type_of% @Int.fdiv_eq_ediv_of_nonneg:=@Int.fdiv_eq_ediv_of_nonneg
theorem Aqj:type_of% @List.mem_flatMap:=@List.mem_flatMap
theorem Aqk:type_of% @Nat.pos_of_ne_zero:=@Nat.pos_of_ne_zero
theorem Aql:type_of% @List.getLast?_eq_some_iff:=@List.getLast?_eq_some_iff
theorem Aqm:type_of% @List.cons.injEq:=@List.cons.injEq
theorem Aqn:type_of% @Nat.div_le_self:=@Nat.div_le_self
theorem Aqo:type_of% @List.replicate_succ':=@List.replicate_succ'
theorem Aqp:type_of% @List.pairwise_append:=@List.pairwise_append
theorem Aqq:type_of% @Bool.eq_iff_iff:=@Bool.eq_iff_iff
theorem Aqr:type_of% @List.getElem?_cons_zero:=@List.getElem?_cons_zero
theorem Aqs:type_of% @List.length_pos_iff:=@List.length_pos_iff
theorem Aqt:type_of% @List.drop_succ_cons:=@List.drop_succ_cons
theorem Aqu:type_of% @Bool.and_assoc:=@Bool.and_assoc
theorem Aqv:type_of% @Nat.mod_eq_of_lt:=@Nat.mod_eq_of_lt
theorem Aqw:type_of% @List.mem_range:=@List.mem_range
theorem Aqx:type_of% @Bool.not_false:=@Bool.not_false
theorem Aqy:type_of% @List.not_mem_nil:=@List.not_mem_nil
theorem Aqz:type_of% @List.drop_drop:=@List.drop_drop
theorem AqA:type_of% @List.take_zero:=@List.take_zero
theorem AqB:type_of% @Array.getElem?_eq_none:=@Array.getElem?_eq_none
theorem AqC:type_of% @List.map_nil:=@List.map_nil
theorem AqD:type_of% @Nat.min_eq_left:=@Nat.min_eq_left
theorem AqE:type_of% @List.foldl_append:=@List.foldl_append
end Go
namespace Go.V
inductive Ty where
 | int (k:IntKind) | bool | str | unit
 | pair (a b:Ty)
 | sl (o:Bool) (e:TypeId) (r:Ty)
 | pt (t:Ty)
 | er
 | lp
 | mh
 | mp
 deriving DecidableEq
@[reducible] def Ty.D:Ty->Type
 | .int _=>Int
 | .bool=>Bool
 | .str=>List UInt8
 | .unit=>Unit
 | .pair a b=>a.D×b.D
 | .sl _ _ r=>List r.D
 | .pt t=>Option t.D
 | .er=>Bool
 | .lp=>Nat×Nat
 | .mh=>Nat
 | .mp=>List (Int×Int)
def Ty.size:Ty->Nat
 | .unit=>0
 | .lp=>0
 | .mp=>0
 | .pair a b=>a.size+b.size
 | _=>1
def Ty.zero:(t:Ty)->t.D
 | .int _=>(0:Int)
 | .bool=>false
 | .str=>([]:List UInt8)
 | .unit=>()
 | .pair a b=>(a.zero,b.zero)
 | .sl _ _ _=>[]
 | .pt _=>none
 | .er=>false
 | .lp=>(0,0)
 | .mh=>(0:Nat)
 | .mp=>[]
def Ty.ro:Ty->Bool
 | .pair a b=>a.ro && b.ro
 | .sl o _ _=>!o
 | _=>true
def Ty.deep:Ty->Bool
 | .pair a b=>a.deep && b.deep
 | .sl o _ r=>o && r.deep
 | _=>true
def Ty.frz:Ty->Ty
 | .pair a b=>.pair a.frz b.frz
 | .sl _ e r=>.sl false e r.frz
 | t=>t
theorem Ty.frz_D:(t:Ty)->t.frz.D=t.D
 | .int _ | .bool | .str | .unit | .pt _ | .er | .lp | .mh | .mp=>rfl
 | .pair a b=>by
  have h1:=frz_D a;have h2:=frz_D b;show(a.frz.D×b.frz.D)=(a.D×b.D)
  rw [h1,h2]
 | .sl _ _ r=>by
  have h:=frz_D r;show List r.frz.D=List r.D;rw [h]
def Ju (t:Ty) (x:t.D):t.frz.D:=cast (Ty.frz_D t).symm x
def Ax:(t:Ty)->t.D->Nat->Option ((u:Ty)×u.D)
 | .pair a b,(x,y),j=>if j < a.size then Ax a x j else Ax b y (j - a.size)
 | .unit,_,_=>none
 | .lp,_,_=>none
 | .mp,_,_=>none
 | t,x,0=>some ⟨t,x⟩
 | _,_,_+1=>none
def setCell:(t:Ty)->t.D->Nat->(u:Ty)->u.D->Option t.D
 | .pair a b,(x,y),j,u,z=>
  if j < a.size then(setCell a x j u z).map λx'=>(x',y)else(setCell b y (j - a.size) u z).map λy'=>(x,y')
 | .unit,_,_,_,_=>none
 | .lp,_,_,_,_=>none
 | .mp,_,_,_,_=>none
 | t,_,0,u,z=>if h:u=t then some (h ▸ z)else none
 | _,_,_+1,_,_=>none
abbrev AT:=List (Nat×Nat)
structure Own where
 e:TypeId
 r:Ty
 xs:List r.D
inductive Leaf where
 | v (t:Ty) (x:t.D)
 | vw (k:Nat) (st:AT) (win:Option (Nat×Nat))
 | qn (e:Bool)
 | nil
 | no
 | p (k off:Nat)
 | np
 | mh (k:Nat)
 | md (xs:List (Int×Int))
inductive S1 where
 | one (l:Leaf)
 | ag (ls:List Leaf)
 | pl (k off:Nat)
 | el (k:Nat) (st:AT)
 | rp (t:Ty) (x:t.D) (off:Nat)
 | fv (f:FuncId) (cs:List (Nat×Nat))
inductive SV where
 | s (x:S1)
 | tu (xs:List S1)
 | un
 | no
structure St where
 sl:Nat->SV
 ms:Nat->Option Nat
 mc:Nat->Nat->Leaf
 ow:Nat->Option Own
inductive Kl where
 | all (k:Nat) | deep (k:Nat) | m (k:Nat)
def Kl.okV:Kl->Nat->AT->Bool
 | .all k,k',_=>!(k' == k)
 | .deep k,k',st=>!(k' == k) || st.isEmpty
 | .m _,_,_=>true
def Kl.okE:Kl->Nat->AT->Bool
 | .all k,k',_=>!(k' == k)
 | .deep k,k',st=>!(k' == k) || decide (st.length<=1)
 | .m _,_,_=>true
def Kl.okM:Kl->Nat->Bool
 | .m k,k'=>!(k' == k)
 | _,_=>true
def Leaf.kp (c:List Kl):Leaf->Leaf
 | .vw k st win=>if c.all (λx=>x.okV k st)then .vw k st win else .no
 | .p k off=>if c.all (λx=>x.okM k)then .p k off else .no
 | .mh k=>if c.all (λx=>x.okM k)then .mh k else .no
 | l=>l
def S1.kp (c:List Kl):S1->S1
 | .one l=>.one (l.kp c)
 | .ag ls=>.ag (ls.map (Leaf.kp c))
 | .pl k off=>if c.all (λx=>x.okM k)then .pl k off else .one .no
 | .el k st=>if c.all (λx=>x.okE k st)then .el k st else .one .no
 | .rp t x off=>.rp t x off
 | .fv f cs=>if c.all (λx=>cs.all λp=>x.okM p.1)then .fv f cs else .one .no
def SV.kp (c:List Kl):SV->SV
 | .s x=>.s (x.kp c)
 | .tu xs=>.tu (xs.map (S1.kp c))
 | .un=>.un
 | .no=>.no
def St.kp (c:List Kl) (S:St):St:=
 match c with
 | []=>S
 | c=>⟨λi=>(S.sl i).kp c,S.ms,λk i=>(S.mc k i).kp c,S.ow⟩
inductive U where
 | ow (k:Nat) (o:Option Own)
 | mc (k off:Nat) (l:Leaf)
 | ms (k:Nat) (row:List Leaf)
def Lz:List Leaf->Nat
 | [.md _]=>0
 | row=>row.length
def St.up (S:St):U->St
 | .ow k o=>⟨S.sl,S.ms,S.mc,λi=>if i=k then o else S.ow i⟩
 | .mc k off l=>⟨S.sl,S.ms,λi j=>if i=k then(if j=off then l else S.mc i j)else S.mc i j,S.ow⟩
 | .ms k row=>⟨S.sl,λi=>if i=k then some (Lz row)else S.ms i,λi j=>if i=k then row.getD j .no else S.mc i j,S.ow⟩
def St.ups (S:St):List U->St
 | []=>S
 | u::us=>(S.up u).ups us
def St.put (S:St) (d:Nat) (x:SV):St:=⟨λi=>if i=d then x else S.sl i,S.ms,S.mc,S.ow⟩
def St.putO (S:St) (d:Option Nat) (x:SV):St:=match d with | some d=>S.put d x | none=>S
structure Out where
 x:SV
 ks:List Kl
 us:List U
def St.app (S:St) (d:Option Nat) (o:Out):St:=((S.kp o.ks).ups o.us).putO d o.x
inductive Tr (α:Type):Type 1 where
 | ret (a:α)
 | fail
 | br (c:Bool) (t e:Tr α)
 | get (β:Type) (o:Option β) (f:β->Tr α)
 | alt (β γ:Type) (s:β⊕γ) (f:β->Tr α) (g:γ->Tr α)
 | rdO (k:Nat) (f:Option Own->Tr α)
 | rdC (k off:Nat) (f:Leaf->Tr α)
 | rdM (k:Nat) (f:Option Nat->Tr α)
def Tr.bind {α β:Type}:Tr α->(α->Tr β)->Tr β
 | .ret a,f=>f a
 | .fail,_=>.fail
 | .br c t e,f=>.br c (t.bind f) (e.bind f)
 | .get γ o g,f=>.get γ o λb=>(g b).bind f
 | .alt γ δ s g h,f=>.alt γ δ s (λb=>(g b).bind f) (λb=>(h b).bind f)
 | .rdO k g,f=>.rdO k λb=>(g b).bind f
 | .rdC k off g,f=>.rdC k off λb=>(g b).bind f
 | .rdM k g,f=>.rdM k λb=>(g b).bind f
inductive Lg where
 | o (k:Nat) | c (k off:Nat) (l:Leaf) | m (k:Nat)
def Tr.at {α:Type} (S:St):Tr α->List Lg->Tr (α×List Lg)
 | .ret a,g=>.ret (a,g)
 | .fail,_=>.fail
 | .br c t e,g=>.br c (t.at S g) (e.at S g)
 | .get γ o f,g=>.get γ o λb=>(f b).at S g
 | .alt γ δ s f h,g=>.alt γ δ s (λb=>(f b).at S g) (λb=>(h b).at S g)
 | .rdO k f,g=>(f (S.ow k)).at S (.o k::g)
 | .rdC k off f,g=>(f (S.mc k off)).at S (.c k off (S.mc k off)::g)
 | .rdM k f,g=>(f (S.ms k)).at S (.m k::g)
def Tr.run {α:Type}:Tr α->Option α
 | .ret a=>some a
 | .fail=>none
 | .br c t e=>if c=true then t.run else e.run
 | .get _ o f=>match o with
  | some b=>(f b).run
  | none=>none
 | .alt _ _ s f g=>match s with
  | .inl b=>(f b).run
  | .inr b=>(g b).run
 | .rdO .. | .rdC .. | .rdM ..=>none
abbrev Tr.iff {α:Type} (c:Bool) (t:Tr α):Tr α:=.br c t .fail
abbrev Tr.opt {α:Type} (o:Option α):Tr α:=match o with | some a=>.ret a | none=>.fail
inductive TI where
 | cell (t:Ty)
 | slice (e:TypeId) (ts:List Ty) (bytes:Nat)
 | struct (fs:List (Nat×Nat×Bool)) (row:List Ty) (eq:Bool)
 | ptr (e:TypeId)
 | err
 | map
 | other
def AW:List Ty->Ty
 | []=>.unit
 | [t]=>t
 | t::u::ts=>.pair t (AW (u::ts))
def Ty.isPt:Ty->Bool
 | .pt _=>true
 | .mh=>true
 | _=>false
def TI.cells:TI->Option (List Ty)
 | .cell t=>some [t]
 | .slice e ts _=>some [.sl true e (AW ts)]
 | .struct _ row _=>if row.any Ty.isPt then none else some row
 | _=>none
def TI.vcells:TI->Option (List Ty)
 | .ptr _=>some [.pt .unit]
 | .map=>some [.mh]
 | .struct _ row _=>some row
 | x=>x.cells
def TI.isAgg:TI->Bool
 | .struct ..=>true
 | _=>false
def Aw:(t:Ty)->t.D->AT->Tr ((u:Ty)×u.D)
 | t,x,[]=>.ret ⟨t,x⟩
 | .sl true _ r,xs,(i,j)::ps=>.get r.D ((xs:List r.D)[i]?) λrow=>match Ax r row j with
  | some c=>Aw c.1 c.2 ps
  | none=>.fail
 | _,_,_::_=>.fail
def Gc:(t:Ty)->t.D->AT->(u:Ty)->u.D->Tr t.D
 | t,_,[],u,z=>if h:u=t then .ret (h ▸ z)else .fail
 | .sl true _ r,xs,(i,j)::ps,u,z=>.get r.D ((xs:List r.D)[i]?) λrow=>match Ax r row j with
  | some c=>(Gc c.1 c.2 ps u z).bind λy=>match setCell r row j c.1 y with
   | some row'=>.ret ((xs:List r.D).set i row')
   | none=>.fail
  | none=>.fail
 | _,_,_::_,_,_=>.fail
def E6 (k:Nat) (st:AT) (win:Option (Nat×Nat)):Tr Own:=
 .rdO k λo=>match o with
  | some o=>(Aw (.sl true o.e o.r) o.xs st).bind λc=>match c with
   | ⟨.sl true e r,ys⟩=>match win with
    | none=>.ret ⟨e,r,ys⟩
    | some (lo,n)=>.ret ⟨e,r,((ys:List r.D).drop lo).take n⟩
   | _=>.fail
  | none=>.fail
def Lb (k:Nat) (st:AT):(t:Ty)->t.D->Leaf
 | .sl true _ _,_=>.vw k st none
 | t,x=>.v t x
def Cn:AT->Nat->AT
 | [],_=>[]
 | [(i,j)],n=>[(i,j+n)]
 | p::q::ps,n=>p::Cn (q::ps) n
def Hj:S1->Nat->Tr Leaf
 | .pl k off,n=>.rdM k λm=>match m with
  | some m=>if off+n < m then .rdC k (off+n) λl=>match l with
   | .no=>.fail
   | l=>.ret l else .fail
  | none=>.fail
 | .el k st,n=>.rdO k λo=>match o with
  | some o=>(Aw (.sl true o.e o.r) o.xs (Cn st n)).bind λc=>.ret (Lb k (Cn st n) c.1 c.2)
  | none=>.fail
 | .rp t x off,n=>match Ax t x (off+n)with
  | some c=>.ret (.v c.1 c.2)
  | none=>.fail
 | _,_=>.fail
def KK (a:S1):Nat->Nat->Tr (List Leaf)
 | 0,_=>.ret []
 | n+1,i=>(Hj a i).bind λl=>(KK a n (i+1)).bind λls=>.ret (l::ls)
def JD (t:Ty):Leaf->Tr (t.D×List Nat)
 | .v u x=>if h:u=t then .ret (h ▸ x,[])else .fail
 | .nil=>match t with
  | .sl _ _ _=>.ret ([],[])
  | _=>.fail
 | .vw k [] win=>(E6 k [] win).bind λo=>if h:Ty.sl true o.e o.r=t then .ret (h ▸ o.xs,[k])else .fail
 | _=>.fail
def Eg:(ts:List Ty)->List Leaf->Tr ((AW ts).D×List Nat)
 | [],[]=>.ret ((),[])
 | [t],[l]=>JD t l
 | t::u::ts,l::ls=>(JD t l).bind λx=>(Eg (u::ts) ls).bind λy=>.ret ((x.1,y.1),x.2++y.2)
 | _,_=>.fail
def Ct (ks:List Nat):List Kl:=ks.map .all
def Cw (ks:List Nat):List U:=ks.map λk=>.ow k none
def AO:List Nat->Bool
 | []=>true
 | k::ks=>!(ks.contains k) && AO ks
def VB (o:Own) (st:AT):List Leaf->Nat->Tr (Own×List Nat)
 | [],_=>.ret (o,[])
 | l::ls,n=>(Aw (.sl true o.e o.r) o.xs (Cn st n)).bind λc=>(JD c.1 l).bind λz=>
  (Gc (.sl true o.e o.r) o.xs (Cn st n) c.1 z.1).bind λys=>(VB ⟨o.e,o.r,ys⟩ st ls (n+1)).bind λr=>.ret (r.1,z.2++r.2)
def H9 (k:Nat):List Leaf->Nat->List U
 | [],_=>[]
 | l::ls,n=>.mc k n l::H9 k ls (n+1)
def Zz (k:Nat) (st:AT) (lo n:Nat):Tr (List Kl×List U):=.rdO k λo=>match o with
 | some o=>(Aw (.sl true o.e o.r) o.xs st).bind λc=>match c with
  | ⟨.sl true e r,ys⟩=>(Gc (.sl true o.e o.r) o.xs st (.sl true e r) ((List.drop lo ys).take n)).bind λzs=>.ret ([.deep k],[.ow k (some ⟨o.e,o.r,zs⟩)])
  | _=>.fail
 | none=>.fail
def Zw (k:Nat) (st:AT):List Leaf->Option (Nat×Nat)
 | [.vw k' st' (some w)]=>if k'=k/\st'=st then some w else none
 | _=>none
def HJ:S1->List Leaf->Tr (List Kl×List U)
 | .pl k off,ls=>.rdM k λm=>match m with
   | some m=>if off+ls.length<=m then .ret ([],H9 k ls off)else .fail
   | none=>.fail
 | .el k st,ls=>match Zw k st ls with
  | some w=>Zz k st w.1 w.2
  | none=>.rdO k λo=>match o with
   | some o=>(VB o st ls 0).bind λr=>if r.2.contains k || !AO r.2 then .fail else
    .ret (.deep k::Ct r.2,.ow k (some r.1)::Cw r.2)
   | none=>.fail
 | _,_=>.fail
end Go.V
namespace Go.V
abbrev Ae:=(t:Ty)×t.D
inductive A1 where
 | one (l:Ae)
 | ag (ls:List Ae)
 | pl (m off:Nat)
 | rp (t:Ty) (x:t.D) (off:Nat)
 | fv (f:FuncId) (cs:List (Nat×Nat))
structure Res where
 val:List A1
 rows:List (List Ae)
 lent:List ((Nat×Nat)×Ae)
structure Env where
 ti:TypeId->TI
 mv:FuncId->List Nat
 fr:FuncId->List (List Ty)
 fx:List Nat
 ca:FuncId->List A1->List (List Ae)->Tr Res
 hn:List (Nat×List Ty)
 en:List (Nat×Int×Int)
 kc:List (Nat×List (Nat×Nat))
def We:Value->SV
 | .int k n=>.s (.one (.v (.int k) n))
 | .bool b=>.s (.one (.v .bool b))
 | .string s=>.s (.one (.v .str s.data.toList))
 | .slice none 0 0=>.s (.one .nil)
 | .nilIface=>.s (.one (.v .er false))
 | .pointer none=>.s (.one .np)
 | _=>.no
def Cu (S:St):Operand->SV
 | .tmp t=>S.sl t
 | .const v=>We v
 | .func f=>.s (.fv f [])
 | _=>.no
def b2 (b:Bool):Leaf:=.v .bool b
def AaT (op:BinOp):Leaf->Leaf->Tr Leaf
 | .v (.int k) a,.v (.int k') b=>
  match op with
  | .shl=>.iff (decide ((0:Int)<=b)) (.ret (.v (.int k) (k.wrap ((a:Int) * 2 ^ (min (Int.toNat b) k.bits)))))
  | .shr=>.iff (decide ((0:Int)<=b)) (.ret (.v (.int k) (Int.fdiv a (2 ^ (min (Int.toNat b) k.bits)))))
  | op=>if k=k' then match op with
   | .add=>.ret (.v (.int k) (k.wrap ((a:Int)+b)))
   | .sub=>.ret (.v (.int k) (k.wrap ((a:Int) - b)))
   | .mul=>.ret (.v (.int k) (k.wrap ((a:Int) * b)))
   | .quo=>.iff (decide (¬ (b:Int)=0)) (.ret (.v (.int k) (k.wrap (Int.tdiv a b))))
   | .rem=>.iff (decide (¬ (b:Int)=0)) (.ret (.v (.int k) (Int.tmod a b)))
   | .and=>.ret (.v (.int k) (k.wrap ((BitVec.ofInt k.bits a &&& BitVec.ofInt k.bits b).toNat:Int)))
   | .or=>.ret (.v (.int k) (k.wrap ((BitVec.ofInt k.bits a ||| BitVec.ofInt k.bits b).toNat:Int)))
   | .xor=>.ret (.v (.int k) (k.wrap ((BitVec.ofInt k.bits a ^^^ BitVec.ofInt k.bits b).toNat:Int)))
   | .andNot=>.ret (.v (.int k) (k.wrap ((BitVec.ofInt k.bits a &&& ~~~ BitVec.ofInt k.bits b).toNat:Int)))
   | .eql=>.ret (b2 (decide ((a:Int)=b)))
   | .neq=>.ret (b2 (decide (¬ (a:Int)=b)))
   | .lss=>.ret (b2 (decide ((a:Int) < b)))
   | .leq=>.ret (b2 (decide ((a:Int)<=b)))
   | .gtr=>.ret (b2 (decide ((b:Int) < a)))
   | .geq=>.ret (b2 (decide ((b:Int)<=a)))
   | _=>.fail
   else .fail
 | .v .bool a,.v .bool b=>
  match op with
  | .eql=>.ret (b2 ((a:Bool) == b))
  | .neq=>.ret (b2 ((a:Bool) != b))
  | _=>.fail
 | .v .str a,.v .str b=>
  match op with
  | .add=>.iff (decide (((a:List UInt8).length+(b:List UInt8).length:Nat)<=9223372036854775807)) (.ret (.v .str ((a:List UInt8)++b)))
  | .eql=>.ret (b2 ((a:List UInt8) == b))
  | .neq=>.ret (b2 (!((a:List UInt8) == b)))
  | .lss=>.ret (b2 (Op.bytesLess a b))
  | .leq=>.ret (b2 (Op.bytesLess a b || ((a:List UInt8) == b)))
  | .gtr=>.ret (b2 (!(Op.bytesLess a b || ((a:List UInt8) == b))))
  | .geq=>.ret (b2 (!(Op.bytesLess a b)))
  | _=>.fail
 | _,_=>.fail
def Ah8:Leaf->Tr Leaf
 | .nil=>.ret (b2 true)
 | .v (.sl _ _ _) xs=>.ret (.qn (List.isEmpty xs))
 | .vw k st win=>(E6 k st win).bind λo=>.ret (.qn (List.isEmpty o.xs))
 | _=>.fail
def LY:List Ty->List Leaf->List Leaf->Option Bool
 | [],[],[]=>some true
 | .int _::ts,.v (.int k) a::x,.v (.int k') b::y=>if k=k' then(LY ts x y).map (λr=>decide ((a:Int)=b) && r)else none
 | .bool::ts,.v .bool a::x,.v .bool b::y=>(LY ts x y).map (λr=>((a:Bool) == b) && r)
 | .str::ts,.v .str a::x,.v .str b::y=>(LY ts x y).map (λr=>((a:List UInt8) == b) && r)
 | _,_,_=>none
def vun (op:UnOp):Leaf->Tr Leaf
 | .v (.int k) a=>match op with
  | .neg=>.ret (.v (.int k) (k.wrap (0 - (a:Int))))
  | .xor=>.ret (.v (.int k) (k.wrap ((BitVec.ofInt k.bits (if k.signed then -1 else k.max) ^^^ BitVec.ofInt k.bits a).toNat:Int)))
  | _=>.fail
 | .v .bool b=>match op with
  | .not=>.ret (.v .bool (!(b:Bool)))
  | _=>.fail
 | _=>.fail
def AA (s:List UInt8):List Int:=s.map λb=>(b.toNat:Int)
def AL (xs:List Int):List UInt8:=xs.map λn=>UInt8.ofNat n.toNat
def LU:Leaf->Tr Own
 | .v (.sl _ e r) xs=>.ret ⟨e,r,xs⟩
 | .vw k st win=>E6 k st win
 | _=>.fail
def TI.isStr:TI->Bool
 | .cell .str=>true
 | _=>false
def TI.isSl:TI->Bool
 | .slice ..=>true
 | _=>false
def TI.isSlOf (n:Nat):TI->Bool
 | .slice _ ts _=>ts.length == n
 | _=>false
def AiX (t:TI):Leaf->Tr Nat
 | .v .str s=>if t.isStr then .ret (List.length s)else .fail
 | .v (.sl _ _ _) xs=>if t.isSl then .ret (List.length xs)else .fail
 | .vw k st win=>if t.isSl then(E6 k st win).bind λo=>.ret o.xs.length else .fail
 | .nil=>if t.isSl then .ret 0 else .fail
 | _=>.fail
def Anq (n:Nat):SV:=.s (.one (.v (.int .i64) (n:Int)))
abbrev BE (x:SV):Tr Out:=.ret ⟨x,[],[]⟩
abbrev kd (d c:Nat):Nat:=d * 1024+c
def Aft (win:Option (Nat×Nat)) (lo n:Nat):Option (Nat×Nat):=
 match win with
 | none=>some (lo,n)
 | some (l,_)=>some (l+lo,n)
def YI (win:Option (Nat×Nat)):Nat:=match win with | none=>0 | some (lo,_)=>lo
def SI:Option SV->Nat->Tr Int
 | none,d=>.ret d
 | some (.s (.one (.v (.int _) n))),_=>.ret n
 | _,_=>.fail
def Mf (len:Nat) (lo hi mx:Option SV) (f:Nat->Nat->Tr SV):Tr SV:=
 (SI lo 0).bind λl=>(SI hi len).bind λh=>(SI mx len).bind λm=>
  .iff (mx.isNone || hi.isSome) <| .iff (decide (0<=l)) <| .iff (decide (l<=h)) <| .iff (decide (h<=m)) <| .iff (decide (m<=(len:Int))) <| f l.toNat (h.toNat - l.toNat)
def Aab (t:TI) (x:Leaf) (lo hi mx:Option SV):Tr SV:=
 match x with
 | .v .str s=>if t.isStr && mx.isNone then Mf (List.length s) lo hi mx λl n=>.ret (.s (.one (.v .str (((s:List UInt8).drop l).take n))))else .fail
 | .v (.sl false e r) xs=>if t.isSlOf r.size then Mf (List.length xs) lo hi mx λl n=>.ret (.s (.one (.v (.sl false e r) (((xs:List r.D).drop l).take n))))else .fail
 | .vw k st win=>(E6 k st win).bind λo=>if t.isSlOf o.r.size then Mf o.xs.length lo hi mx λl n=>.ret (.s (.one (.vw k st (Aft win l n))))else .fail
 | .nil=>if t.isSl then Mf 0 lo hi mx λ_ _=>.ret (.s (.one .nil))else .fail
 | _=>.fail
def Aa (n bytes:Nat):Bool:=decide (n * bytes<=140737488355328)
def Afj (ti2:TI) (e:TypeId) (r:Ty):Leaf->Tr (List r.D×List Nat)
 | .v .str s=>if ti2.isStr then(match r with
  | .int .u8=>.ret (AA s,[])
  | _=>.fail)else .fail
 | l=>if ti2.isSl then(if r.ro then(match l with
  | .nil=>.ret ([],[])
  | l=>(LU l).bind λo=>if h:Ty.sl true o.e o.r=.sl true e r then .ret ((h ▸ o.xs:(Ty.sl true e r).D),[])else .fail)
  else JD (.sl true e r) l)else .fail
def Ael (ti2:TI) (e:TypeId) (r0 r:Ty) (y:Leaf):Tr (List r.D×List Nat):=
 match ti2 with
 | .cell (.int .i64)=>match y with
  | .v (.int .i64) n=>if r=r0 then .iff (decide ((0:Int)<=n)) (.ret (List.replicate (Int.toNat n) r.zero,[]))else .fail
  | _=>.fail
 | ti2=>Afj ti2 e r y
def BZ (key:Nat) (o:Own) (given:List Nat):Out:=
 ⟨.s (.one (.vw key [] none)),.all key::Ct given,Cw given++[.ow key (some o)]⟩
def Alc (r0:Ty):Leaf->Leaf->Tr Ty
 | .vw k _ _,_=>.rdO k λo=>match o with
  | some o=>.ret o.r
  | none=>.fail
 | _,.v (.sl _ _ r) _=>.ret r
 | _,.vw k [] _=>.rdO k λo=>match o with
  | some o=>.ret o.r
  | none=>.fail
 | _,_=>.ret r0
def Mi (ti ti2:TI) (d:Nat) (x y:Leaf):Tr Out:=
 match ti with
 | .slice e ts bytes=>(Alc (AW ts) x y).bind λr=>if r.size=ts.length then(JD (.sl true e r) x).bind λb=>(Ael ti2 e (AW ts) r y).bind λm=>
  .iff (Aa (List.length b.1+List.length m.1) bytes) <|
  if AO (b.2++m.2)then .ret (BZ (kd d 0) ⟨e,r,(show List r.D from b.1)++m.1⟩ (b.2++m.2))else .fail
  else .fail
 | _=>.fail
def Ae1 (ti ti2:TI) (d k lo hi a m:Nat):Tr Out:=
 match ti with
 | .slice e ts bytes=>.rdO k λo=>match o with
  | some o=>if o.e=e/\o.r.size=ts.length/\ti2.isSl=true then
   .iff (decide (lo=0)) <| .iff (decide (hi<=a)) <| .iff (decide (a < List.length o.xs)) <| .iff (Aa (List.length o.xs) bytes) <|
   .ret (BZ (kd d 0) ⟨o.e,o.r,List.take hi o.xs++List.take m (List.drop a o.xs)⟩ [k])else .fail
  | none=>.fail
 | _=>.fail
def Aae (ti ti2:TI) (d:Nat) (x y:Leaf):Tr Out:=
 match x,y with
 | .vw k [] (some p),.vw k' [] (some q)=>if k=k' then Ae1 ti ti2 d k p.1 p.2 q.1 q.2 else Mi ti ti2 d x y
 | _,_=>Mi ti ti2 d x y
def Agk (out:Out):Tr Out:=
 match out.us.getLast? with
 | some (.ow k (some o))=>.ret ⟨.s (.one (.v (Ty.frz (.sl true o.e o.r)) (Ju (.sl true o.e o.r) o.xs))),out.ks,out.us++[.ow k none]⟩
 | _=>.fail
def AiK (hn:List (Nat×List Ty)) (ti ti2:TI) (d:Nat) (x y:Leaf):Tr Out:=
 (Aae ti ti2 d x y).bind λout=>if hn.any (λp=>p.1 == d && p.2.isEmpty)=true then Agk out else .ret out
def Aez (ti ti2:TI) (x y:Leaf):Tr Out:=
 match x with
 | .vw k [] none=>.rdO k λo=>match o with
  | some o=>if ti.isSlOf o.r.size && ti2.isSl && o.r.ro then(match y with
   | .nil=>.ret ⟨.s (.one (.v (.int .i64) ((0:Nat):Int))),[],[]⟩
   | y=>(LU y).bind λp=>if h:Ty.sl true p.e p.r=Ty.sl true o.e o.r then
    .ret ⟨.s (.one (.v (.int .i64) (Nat.min (List.length p.xs) (List.length o.xs):Int))),[.deep k],
     [.ow k (some ⟨o.e,o.r,(show List o.r.D from(h ▸ p.xs:(Ty.sl true o.e o.r).D)).take (List.length o.xs)++List.drop (List.length p.xs) o.xs⟩)]⟩else .fail)else .fail
  | none=>.fail
 | _=>.fail
def Leaf.is:Leaf->Bool
 | .no=>false
 | _=>true
def CX:SV->Option (List Leaf)
 | .s (.pl k off)=>some [.p k off]
 | .s (.rp t x 0)=>some [.v (.pt t) (some x)]
 | .s (.one l)=>if l.is then some [l]else none
 | .s (.ag ls)=>if ls.all Leaf.is then some ls else none
 | _=>none
def Vi (ts:List Ty):List (Nat×SV)->Nat->Tr (List (AW ts).D×List Nat)
 | [],_=>.ret ([],[])
 | (i,x)::ps,n=>if i=n then match CX x with
  | some ls=>(Eg ts ls).bind λr=>(Vi ts ps (n+1)).bind λrs=>.ret (r.1::rs.1,r.2++rs.2)
  | none=>.fail
  else .fail
def Aa3:List Ty->List Leaf->List Ty
 | _::ts,.v u _::ls=>u::Aa3 ts ls
 | t::ts,_::ls=>t::Aa3 ts ls
 | ts,_=>ts
def JK (hn:List (Nat×List Ty)) (d:Nat) (ts:List Ty):List Ty:=match hn.find? (λp=>p.1 == d)with
 | some p=>p.2
 | none=>ts
def Vy (ts hs:List Ty):List (Nat×SV)->List Ty
 | (_,x)::_=>match CX x with
  | some ls=>Aa3 ts ls
  | none=>ts
 | []=>hs
def Vs (e:TypeId) (ts:List Ty) (d len:Nat) (ps:List (Nat×SV)):Tr Out:=
 (Vi ts ps 0).bind λr=>if AO r.2 && decide (ps.length=len) && decide (len * (AW ts).size<=16777216)then
  .ret (BZ (kd d 0) ⟨e,AW ts,r.1⟩ r.2)else .fail
def Od (ti:TI) (hn:List (Nat×List Ty)) (d len:Nat) (ps:List (Nat×SV)):Tr Out:=
 match ti with
 | .slice e ts _=>if(Vy ts (JK hn d ts) ps).all (λt=>t.size == 1) && (Vy ts (JK hn d ts) ps).length == ts.length then Vs e (Vy ts (JK hn d ts) ps) d len ps else .fail
 | _=>.fail
def Mo (ts hs:List Ty):List Ty:=if ts.map Ty.frz=hs.map Ty.frz then hs else ts
def PP (ti:TI) (hn:List (Nat×List Ty)) (d:Nat) (l c:SV):Tr Out:=
 match ti,l,c with
 | .slice e ts0 bytes,.s (.one (.v (.int .i64) l)),.s (.one (.v (.int .i64) c))=>let ts:=Mo ts0 (JK hn d ts0)
  .iff (decide ((0:Int)<=l)) <| .iff (decide ((l:Int)<=c)) <| .iff (Aa (Int.toNat c) bytes) <|
   .ret (BZ (kd d 0) ⟨e,AW ts,List.replicate (Int.toNat l) (AW ts).zero⟩ [])
 | _,_,_=>.fail
def GR:Leaf->S1
 | .p k off=>.pl k off
 | l=>.one l
def VK:Leaf->Tr SV
 | .v (.pt u) o=>.get u.D o λy=>.ret (.s (.rp u y 0))
 | l=>.ret (.s (GR l))
def Eo:Ty->Leaf
 | .sl _ _ _=>.nil
 | .pt _=>.np
 | t=>.v t t.zero
def Sg (row:List Leaf) (off:Nat):List Leaf->List Leaf
 | []=>row
 | l::ls=>Sg (row.set off l) (off+1) ls
def OL (fs:List (Nat×Nat×Bool)):List (Nat×SV)->List Leaf->Option (List Leaf)
 | [],row=>some row
 | (f,x)::ps,row=>match fs[f]?,CX x with
  | some (off,n,_),some ls=>if ls.length=n then(if off+n<=row.length then OL fs ps (Sg row off ls)else none)else none
  | _,_=>none
def Abg (t:TI) (x:Leaf) (i:Int):Tr SV:=
 .iff (decide (0<=i)) <|
 match x with
 | .v (.sl false _ r) xs=>if t.isSlOf r.size then .get r.D ((xs:List r.D)[i.toNat]?) λrow=>.ret (.s (.rp r row 0))else .fail
 | .vw k st win=>(E6 k st win).bind λo=>if t.isSlOf o.r.size then .iff (decide (i < (o.xs.length:Int))) <|
  .ret (.s (.el k (st++[(YI win+i.toNat,0)])))else .fail
 | _=>.fail
def Aed (ti:TypeId->TI) (src dst:TI) (d:Nat) (x:Leaf):Tr Out:=
 match src,dst,x with
 | .cell (.int _),.cell (.int k),.v (.int _) n=>BE (.s (.one (.v (.int k) (k.wrap n))))
 | .cell .str,.cell .str,.v .str s=>BE (.s (.one (.v .str s)))
 | .cell .str,.slice e _ _,.v .str s=>match ti e with
  | .cell (.int .u8)=>.ret (BZ (kd d 0) ⟨e,.int .u8,AA s⟩ [])
  | _=>.fail
 | .slice e _ _,.cell .str,.nil=>match ti e with
  | .cell (.int .u8)=>BE (.s (.one (.v .str [])))
  | _=>.fail
 | .slice e _ _,.cell .str,x=>match ti e with
  | .cell (.int .u8)=>(LU x).bind λo=>match o with
   | ⟨_,.int .u8,xs⟩=>BE (.s (.one (.v .str (AL xs))))
   | _=>.fail
  | _=>.fail
 | _,_,_=>.fail
structure AS where
 a:A1
 bw:List Nat     -- owners that are shown
 gv:List Nat     -- owners that are given up
def Jg (mv:Bool) (t:Ty):Leaf->Tr (Ae×List Nat×List Nat)
 | .v u x=>.ret (⟨u,x⟩,[],[])
 | .nil=>match t with
  | .sl _ e r=>if mv then .ret (⟨.sl true e r,[]⟩,[],[])else .ret (⟨.sl false e r.frz,[]⟩,[],[])
  | _=>.fail
 | .vw k st win=>if mv then match st with
   | []=>(E6 k [] win).bind λo=>.ret (⟨.sl true o.e o.r,o.xs⟩,[],[k])
   | _=>.fail
  else(E6 k st win).bind λo=>.ret (⟨(Ty.sl true o.e o.r).frz,Ju (.sl true o.e o.r) o.xs⟩,[k],[])
 | _=>.fail
def Ul (t:Ty):Leaf->Tr (Ae×List Nat×List Nat)
 | .vw k st none=>(E6 k st none).bind λo=>.ret (⟨.sl true o.e o.r,o.xs⟩,[],[k])
 | .vw _ _ (some _)=>.fail
 | l=>Jg true t l
def Pz (m:Nat) (t:Ty) (l:Leaf):Tr (Ae×List Nat×List Nat):=if m=2 then Ul t l else Jg (m == 1) t l
def ML (p:Nat×Nat):Leaf->List ((Nat×Nat)×Option (Nat×AT))
 | .vw k st _=>[(p,some (k,st))]
 | .nil=>[(p,none)]
 | _=>[]
def Sl (i j:Nat):List Leaf->List ((Nat×Nat)×Option (Nat×AT))
 | []=>[]
 | l::ls=>ML (i,j) l++Sl i (j+1) ls
def Lv (m:Nat):List Ty->List Leaf->Tr (List Ae×List Nat×List Nat)
 | _,[]=>.ret ([],[],[])
 | ts,l::ls=>(Pz m (ts.headD .unit) l).bind λx=>(Lv m ts.tail ls).bind λy=>.ret (x.1::y.1,x.2.1++y.2.1,x.2.2++y.2.2)
def AdG (ms:List (Nat×Nat)) (k off:Nat):Option Ae:=match ms[ms.findIdx (λm=>m.1 == k)]? with
 | some m=>if m.1=k/\m.2<=off then some ⟨.lp,(ms.findIdx (λm=>m.1 == k),off - m.2)⟩else none
 | none=>none
def Ado (ms:List (Nat×Nat)) (k:Nat):Option Ae:=match ms[ms.findIdx (λm=>m.1 == k)]? with
 | some m=>if m.1=k then some ⟨.mh,ms.findIdx (λm=>m.1 == k)+1⟩else none
 | none=>none
def Ss (ms:List (Nat×Nat)) (t:Ty):Leaf->Tr (Ae×List Nat×List Nat)
 | .p k off=>match AdG ms k off with
  | some a=>.ret (a,[],[])
  | none=>.fail
 | .mh k=>match Ado ms k with
  | some a=>.ret (a,[],[])
  | none=>.fail
 | .md xs=>.ret (⟨.mp,xs⟩,[],[])
 | l=>Jg true t l
def Jl (ms:List (Nat×Nat)) (k:Nat):List Ty->Nat->Tr (List Ae×List Nat)
 | [],_=>.ret ([],[])
 | t::ts,c=>.rdC k c λl=>(Ss ms t l).bind λx=>(Jl ms k ts (c+1)).bind λy=>.ret (x.1::y.1,x.2.2++y.2)
def MX (k:Nat):List Ty->Nat->Tr (List Ae×List Nat)
 | [],_=>.ret ([],[])
 | t::ts,c=>.rdC k c λl=>(Jg false t l).bind λx=>(MX k ts (c+1)).bind λy=>.ret (x.1::y.1,x.2.1++y.2)
def CA:List Ae->Ae
 | []=>⟨.unit,()⟩
 | [l]=>l
 | l::m::ls=>⟨.pair l.1 (CA (m::ls)).1,(l.2,(CA (m::ls)).2)⟩
def ON (t:Ty) (x:t.D):Nat->Nat->Option (List Ae)
 | _,0=>some []
 | i,n+1=>match Ax t x i,ON t x (i+1) n with
  | some c,some ls=>some (c::ls)
  | _,_=>none
def Sp (ms:List Nat) (k:Nat):Nat:=ms.findIdx (· == k)
structure AC where
 as:List A1:=[]
 bw:List Nat:=[]
 gv:List Nat:=[]
 ms:List ((Nat×Nat)×List Ty):=[]
 ln:List ((Nat×Nat)×Option (Nat×AT)):=[]
def WP (ti:TypeId->TI) (t:TypeId):Option (List Ty):=match ti t with
 | .ptr e=>(ti e).vcells
 | x=>x.vcells
def Mu (k off:Nat) (ts:Option (List Ty)) (c:AC):Tr ((Nat×Nat)×AC):=
 match ts with
 | some ts=>if(c.ms.map (·.1.1)).contains k then(match c.ms[Sp (c.ms.map (·.1.1)) k]? with
   | some m=>if m.1.2<=off then .ret ((Sp (c.ms.map (·.1.1)) k,off - m.1.2),c)else .fail
   | none=>.fail)
  else .rdM k λn=>match n with
   | some n=>if off+ts.length<=n/\n≠0 then .ret ((c.ms.length,0),{ c with ms:=c.ms++[((k,off),ts)] })else .fail
   | none=>.fail
 | none=>.fail
def AaP (k:Nat) (c:AC):Tr AC:=.rdM k λn=>if n=some 0 then .ret { c with ms:=c.ms++[((k,0),[.mp])] }else .fail
def SN:List (Nat×Nat)->List (List Ty)->AC->Tr (List (Nat×Nat)×AC)
 | [],_,c=>.ret ([],c)
 | p::cs,ts,c=>(Mu p.1 p.2 ts.head? c).bind λy=>(SN cs ts.tail y.2).bind λz=>.ret (y.1::z.1,z.2)
def Gp (k:Nat):Nat->Nat->List (List Ty)->AC->Tr (List (List Ty)×AC)
 | 0,_,ts,c=>.ret (ts,c)
 | n+1,j,ts,c=>.rdC k j λl=>match l with
  | .p k' _=>if(c.ms.map (·.1.1)).contains k' then Gp k n (j+1) ts c else
   .rdM k' λm=>if m.isSome then(Mu k' 0 ts.head? c).bind λy=>Gp k n (j+1) ts.tail y.2 else .fail
  | .mh k'=>if(c.ms.map (·.1.1)).contains k' then Gp k n (j+1) ts c else(AaP k' c).bind λy=>Gp k n (j+1) ts y
  | _=>Gp k n (j+1) ts c
def QU:Nat->Nat->List (List Ty)->AC->Tr AC
 | 0,_,_,c=>.ret c
 | n+1,i,ts,c=>match c.ms[i]? with
  | some m=>(Gp m.1.1 m.2.length m.1.2 ts c).bind λy=>QU n (i+1) y.1 y.2
  | none=>.ret c
def AjL (hn:List (Nat×List Ty)) (d:Nat) (ts:List Ty):List Ty:=if(JK hn d ts).length=ts.length then JK hn d ts else ts
def IC (E:Env) (d:Nat):List Nat->List (SV×TypeId)->AC->Tr AC
 | _,[],c=>.ret c
 | mv,(x,t)::xs,c=>
  let m:=mv.headD 0
  match x with
  | .s (.one l)=>(Pz m ((((E.ti t).cells).getD []).headD .unit) l).bind λy=>IC E d mv.tail xs { c with as:=c.as++[.one y.1],bw:=c.bw++y.2.1,gv:=c.gv++y.2.2,ln:=c.ln++(if m=2 then ML (c.as.length,0) l else []) }
  | .s (.ag ls)=>(Lv m (((E.ti t).cells).getD []) ls).bind λy=>IC E d mv.tail xs { c with as:=c.as++[.ag y.1],bw:=c.bw++y.2.1,gv:=c.gv++y.2.2,ln:=c.ln++(if m=2 then Sl c.as.length 0 ls else []) }
  | .s (.rp u x off)=>if m=3 then(match WP E.ti t with
    | some ts=>if u.size=ts.length then IC E d mv.tail xs { c with as:=c.as++[.rp u x off] }else match ON u x off ts.length with
     | some ls=>IC E d mv.tail xs { c with as:=c.as++[.rp (CA ls).1 (CA ls).2 0] }
     | none=>.fail
    | none=>.fail)
   else IC E d mv.tail xs { c with as:=c.as++[.rp u x off] }
  | .s (.pl k off)=>if m=3 then(match WP E.ti t with
    | some ts=>.rdM k λn=>match n with
     | some n=>if off+ts.length<=n/\n≠0 then(MX k ts off).bind λy=>IC E d mv.tail xs { c with as:=c.as++[.rp (CA y.1).1 (CA y.1).2 0],bw:=c.bw++k::y.2 }else .fail
     | none=>.fail
    | none=>.fail)
   else(Mu k off ((WP E.ti t).map (AjL E.hn d)) c).bind λy=>IC E d mv.tail xs { y.2 with as:=y.2.as++[.pl y.1.1 y.1.2] }
  | .s (.fv f cs)=>(SN cs (E.fr f) c).bind λy=>IC E d mv.tail xs { y.2 with as:=y.2.as++[.fv f y.1] }
  | _=>.fail
def RW (mk:List (Nat×Nat)):List ((Nat×Nat)×List Ty)->Tr (List (List Ae)×List Nat)
 | []=>.ret ([],[])
 | (k,ts)::ms=>(Jl mk k.1 ts k.2).bind λy=>(RW mk ms).bind λys=>.ret (y.1::ys.1,y.2++ys.2)
def Ty.hasRo:Ty->Bool
 | .pair a b=>a.hasRo || b.hasRo
 | .sl o _ r=>!o || r.hasRo
 | .pt _=>true
 | _=>false
def Da (key:Nat):Ae->Leaf×List (Nat×Own)
 | ⟨.sl true e r,xs⟩=>(.vw key [] none,[(key,⟨e,r,xs⟩)])
 | ⟨t,x⟩=>(.v t x,[])
def Gq (key:Nat):List Ae->List Leaf×List (Nat×Own)
 | []=>([],[])
 | l::ls=>((Da key l).1::(Gq (key+1) ls).1,(Da key l).2++(Gq (key+1) ls).2)
def Gn (ms:List (Nat×Nat)) (key:Nat):Ae->Leaf×List (Nat×Own)
 | ⟨.lp,p⟩=>(match ms[p.1]? with
  | some k=>.p k.1 (k.2+p.2)
  | none=>.no,[])
 | ⟨.mh,m⟩=>(match (m:Nat)with
  | 0=>.v .mh m
  | n+1=>match ms[n]? with
   | some k=>.mh k.1
   | none=>.no,[])
 | ⟨.mp,xs⟩=>(.md xs,[])
 | l=>Da key l
def EO (ms:List (Nat×Nat)) (key:Nat):List Ae->List Leaf×List (Nat×Own)
 | []=>([],[])
 | l::ls=>((Gn ms key l).1::(EO ms (key+1) ls).1,(Gn ms key l).2++(EO ms (key+1) ls).2)
def O7 (ms:List (Nat×Nat)):List (Nat×Nat)->Option (List (Nat×Nat))
 | []=>some []
 | p::ps=>match ms[p.1]?,O7 ms ps with
  | some k,some l=>some ((k.1,k.2+p.2)::l)
  | _,_=>none
def Qf (ms:List (Nat×Nat)) (key:Nat):A1->Option (S1×List (Nat×Own))
 | .one l=>some (.one (Da key l).1,(Da key l).2)
 | .ag ls=>some (.ag (Gq key ls).1,(Gq key ls).2)
 | .pl m off=>match ms[m]? with
  | some k=>some (.pl k.1 (k.2+off),[])
  | none=>none
 | .rp t x off=>some (.rp t x off,[])
 | .fv f cs=>match O7 ms cs with
  | some l=>some (.fv f l,[])
  | none=>none
def IV (ms:List (Nat×Nat)) (key:Nat):List A1->Option (List S1×List (Nat×Own))
 | []=>some ([],[])
 | a::as=>match Qf ms key a,IV ms (key+64) as with
  | some x,some y=>some (x.1::y.1,x.2++y.2)
  | _,_=>none
def F5 (mk:List (Nat×Nat)) (key:Nat):List (Nat×Nat)->List (List Ae)->Option (List ((Nat×Nat)×List Leaf)×List (Nat×Own))
 | [],[]=>some ([],[])
 | k::ms,r::rs=>match F5 mk (key+64) ms rs with
  | some y=>some ((k,(EO mk key r).1)::y.1,(EO mk key r).2++y.2)
  | none=>none
 | _,_=>none
def HI (l:List (Nat×Own)):List U:=l.map λp=>.ow p.1 (some p.2)
def IG:List ((Nat×Nat)×List Leaf)->List U
 | []=>[]
 | p::l=>H9 p.1.1 p.2 p.1.2++IG l
def A1.hasRo:A1->Bool
 | .one l=>l.1.hasRo
 | .ag ls=>ls.any λl=>l.1.hasRo
 | .pl _ _=>false
 | .rp _ _ _=>true
 | .fv _ _=>false
def Z0:List S1->SV
 | [v]=>.s v
 | vs=>.tu vs
def FF:List ((Nat×Nat)×Option (Nat×AT))->List ((Nat×Nat)×Ae)->Tr (List (Nat×Own))
 | [],[]=>.ret []
 | (p,none)::l,(p',_)::r=>if p=p' then FF l r else .fail
 | (p,some (k,st))::l,(p',a)::r=>if p=p' then .rdO k λo=>match o with
  | some o=>(Aw (.sl true o.e o.r) o.xs st).bind λc=>if h:a.1=c.1 then(Gc (.sl true o.e o.r) o.xs st c.1 (h ▸ a.2)).bind λzs=>(FF l r).bind λy=>.ret ((k,⟨o.e,o.r,zs⟩)::y)else .fail
  | none=>.fail
  else .fail
 | _,_=>.fail
def Ee:List ((Nat×Nat)×Option (Nat×AT))->List Nat
 | []=>[]
 | (_,none)::l=>Ee l
 | (_,some (k,_))::l=>k::Ee l
def YF (lk gv:List Nat):List Nat:=gv.filter λk=>!lk.contains k
def Agd (E:Env) (d:Nat) (f:FuncId) (ps:List (Nat×Nat)) (c:AC):Tr Out:=
 (RW (c.ms.map (·.1)) c.ms).bind λrows=>
  if AO (c.gv++rows.2) && c.bw.all (λk=>!(c.gv++rows.2).contains k && !(c.ms.map (·.1.1)).contains k)then
   (E.ca f (c.as++ps.map λp=>.pl p.1 p.2) rows.1).bind λr=>(FF c.ln r.lent).bind λlts=>
    if c.bw.isEmpty || !(r.val.any A1.hasRo || r.rows.any (λl=>l.any λx=>x.1.hasRo) || r.lent.any (λx=>x.2.1.hasRo))then
     match IV (c.ms.map (·.1)) (kd d 0) r.val,F5 (c.ms.map (·.1)) (kd d 512) (c.ms.map (·.1)) r.rows with
     | some vs,some rs=>
      if AO ((vs.2++(rs.2++lts)).map (·.1)) && decide (r.rows.map List.length=c.ms.map λm=>m.2.length)then
      .ret ⟨Z0 vs.1,Ct (YF (Ee c.ln) c.gv++rows.2)++((Ee c.ln).map Kl.deep++Ct ((vs.2++rs.2).map (·.1))),Cw (c.gv++rows.2)++(HI (vs.2++(rs.2++lts))++IG rs.1)⟩
      else .fail
     | _,_=>.fail
    else .fail
  else .fail
def L1 (kc:List (Nat×Nat)):List U->Tr (List U)
 | []=>.ret []
 | .mc k off l::us=>if kc.contains (k,off)then(match l with
  | .v (.int i) y=>.rdC k off λl'=>match l' with
   | .v (.int i') x=>if i=i' then .iff (decide ((x:Int)=y)) (L1 kc us)else .fail
   | _=>.fail
  | _=>.fail)else(L1 kc us).bind λr=>.ret (.mc k off l::r)
 | .ow k o::us=>(L1 kc us).bind λr=>.ret (.ow k o::r)
 | .ms _ _::_=>.fail
def Ajx (kc:List (Nat×List (Nat×Nat))) (d:Nat) (out:Out):Tr Out:=match kc.find? (λp=>p.1 == d)with
 | some p=>(L1 p.2 out.us).bind λus=>.ret ⟨out.x,out.ks,us⟩
 | none=>.ret out
def Abc (E:Env) (d:Nat) (f:FuncId) (caps:List (Nat×Nat)) (args:List (SV×TypeId)):Tr Out:=
 (IC E d (E.mv f) args {}).bind λc=>(SN caps (E.fr f) c).bind λy=>(QU 8 0 ((E.fr f).drop caps.length) y.2).bind λz=>Agd E d f y.1 z
def YO (E:Env) (d:Nat) (f:FuncId) (caps:List (Nat×Nat)) (args:List (SV×TypeId)):Tr Out:=(Abc E d f caps args).bind (Ajx E.kc d)
def VF (b:Builtin):List SV->Tr SV
 | [.s (.one (.v (.int k) x)),.s (.one (.v (.int k') y))]=>if k=k' then match b with
  | .min=>.ret (.s (.one (.v (.int k) (if(y:Int) < x then y else x))))
  | .max=>.ret (.s (.one (.v (.int k) (if(x:Int) < y then y else x))))
  | _=>.fail
  else .fail
 | _=>.fail
def Abm (l:Leaf) (t:TI):Bool:=
 match l,t with
 | .v .bool _,.cell .bool=>true
 | .v .bool _,_=>false
 | _,_=>true
def C3:List (Int×Int)->Int->Int
 | [],_=>0
 | p::xs,k=>if p.1=k then p.2 else C3 xs k
def DM:List (Int×Int)->Int->Int->List (Int×Int)
 | [],k,v=>[(k,v)]
 | p::xs,k,v=>if p.1=k then(k,v)::xs else p::DM xs k v
def Ad8 (t:TI) (x:SV) (f:Nat->List (Int×Int)->Tr Out):Tr Out:=match t,x with
 | .map,.s (.one (.mh k))=>.rdM k λn=>if n=some 0 then .rdC k 0 λl=>match l with
  | .md xs=>f k xs
  | _=>.fail
  else .fail
 | _,_=>.fail
def Ze:List (Nat×Int×Int)->Nat->Option (Int×Int)
 | [],_=>none
 | p::l,i=>if p.1=i then some p.2 else Ze l i
def Uv:List SV->Option (List (Nat×Nat))
 | []=>some []
 | .s (.pl k off)::xs=>match Uv xs with
  | some l=>some ((k,off)::l)
  | none=>none
 | _=>none
def Km (E:Env) (ρ:Operand->SV) (d:Nat):Op->Tr Out
 | .move x | .assign x=>match ρ x with
  | .no=>.fail
  | .un=>.fail
  | x=>BE x
 | .pick c a b=>match ρ c with
  | .s (.one (.v .bool c))=>.br c (match ρ a with | .no=>.fail | .un=>.fail | x=>BE x) (match ρ b with | .no=>.fail | .un=>.fail | x=>BE x)
  | _=>.fail
 | .alloc t=>match (E.ti t).vcells with
  | some ts=>if ts.isEmpty then .fail else .ret ⟨.s (.pl d 0),[.m d],[.ms d (ts.map Eo)]⟩
  | none=>.fail
 | .box t x=>match (E.ti t).vcells,CX (ρ x)with
  | some ts,some ls=>if ls.length=ts.length/\ts≠[]then .ret ⟨.s (.pl d 0),[.m d],[.ms d (ls.map (Leaf.kp [.m d]))]⟩else .fail
  | _,_=>.fail
 | .build t ps=>match E.ti t with
  | .struct fs row _=>match OL fs (ps.toList.map λp=>(p.1,ρ p.2)) (row.map Eo)with
   | some ls=>BE (.s (.ag ls))
   | none=>.fail
  | _=>.fail
 | .buildSlice t len ps=>Od (E.ti t) E.hn d len (ps.toList.map λp=>(p.1,ρ p.2))
 | .load t a=>match ρ a,(E.ti t).vcells with
  | .s a,some ts=>if ts.isEmpty then .fail else(if(E.ti t).isAgg then(KK a ts.length 0).bind λls=>Tr.ret (SV.s (.ag ls))else(Hj a 0).bind VK).bind λx=>BE x
  | _,_=>.fail
 | .store t a x=>match ρ a,(E.ti t).vcells,CX (ρ x)with
  | .s a,some ts,some ls=>if ls.length=ts.length then(HJ a ls).bind λr=>.ret ⟨.no,r.1,r.2⟩else .fail
  | _,_,_=>.fail
 | .nilCheck x=>match ρ x with
  | .s (.pl k off)=>BE (.s (.pl k off))
  | .s (.el k st)=>BE (.s (.el k st))
  | .s (.rp t x off)=>BE (.s (.rp t x off))
  | .s (.one (.v (.pt u) o))=>.get u.D o λy=>BE (.s (.rp u y 0))
  | _=>.fail
 | .binOp op t x y _=>match ρ x,ρ y with
  | .s (.one x),.s (.one .nil)=>match op with
   | .eql=>if(E.ti t).isSl then(Ah8 x).bind λl=>BE (.s (.one l))else .fail
   | _=>.fail
  | .s (.one (.v .er e)),.s (.one (.v .er _))=>match E.ti t,y,op with
   | .err,.const .nilIface,.neq=>BE (.s (.one (b2 (e:Bool))))
   | _,_,_=>.fail
  | .s (.one x),.s (.one y)=>if Abm x (E.ti t)then(AaT op x y).bind λl=>BE (.s (.one l))else .fail
  | .s (.ag xs),.s (.ag ys)=>match E.ti t with
   | .struct _ row true=>match op,LY row xs ys with
    | .eql,some r=>BE (.s (.one (b2 r)))
    | .neq,some r=>BE (.s (.one (b2 (!r))))
    | _,_=>.fail
   | _=>.fail
  | _,_=>.fail
 | .unOp op _ x=>match ρ x with
  | .s (.one x)=>(vun op x).bind λl=>BE (.s (.one l))
  | _=>.fail
 | .convert s t x=>match ρ x with
  | .s (.one x)=>Aed E.ti (E.ti s) (E.ti t) d x
  | _=>.fail
 | .makeSlice t l c=>PP (E.ti t) E.hn d (ρ l) (ρ c)
 | .slice t x lo hi mx=>match ρ x with
  | .s (.one x)=>(Aab (E.ti t) x (lo.map ρ) (hi.map ρ) (mx.map ρ)).bind λx=>BE x
  | _=>.fail
 | .fieldAddr t x f=>match E.ti t with
  | .struct fs _ _=>match fs[f]?,ρ x with
   | some (o,_,_),.s (.pl k off)=>BE (.s (.pl k (off+o)))
   | some (o,_,_),.s (.el k st)=>BE (.s (.el k (Cn st o)))
   | some (o,_,_),.s (.rp u x off)=>BE (.s (.rp u x (off+o)))
   | _,_=>.fail
  | _=>.fail
 | .field t x f=>match E.ti t,ρ x with
  | .struct fs _ _,.s (.ag ls)=>match fs[f]? with
   | some (o,n,true)=>BE (.s (.ag ((ls.drop o).take n)))
   | some (o,_,false)=>match ls[o]? with
    | some l=>BE (.s (GR l))
    | none=>.fail
   | none=>.fail
  | _,_=>.fail
 | .indexAddr t x i=>match ρ x,ρ i with
  | .s (.one x),.s (.one (.v (.int _) i))=>(Abg (E.ti t) x i).bind λx=>BE x
  | _,_=>.fail
 | .index t x i=>match ρ x,ρ i with
  | .s (.one (.v .str s)),.s (.one (.v (.int _) i))=>.iff (E.ti t).isStr <| .iff (decide ((0:Int)<=i)) <|
   .get UInt8 ((s:List UInt8)[Int.toNat i]?) λb=>BE (.s (.one (.v (.int .u8) (UInt8.toNat b:Int))))
  | _,_=>.fail
 | .extract x i=>match ρ x with
  | .tu xs=>match xs[i]? with
   | some x=>BE (.s x)
   | none=>.fail
  | _=>.fail
 | .call ⟨.builtin .len,as,ts⟩=>match as.toList.map ρ,ts.toList with
  | [.s (.one x)],[t]=>(AiX (E.ti t) x).bind λn=>BE (Anq n)
  | _,_=>.fail
 | .call ⟨.builtin .append,as,ts⟩=>match as.toList.map ρ,ts.toList with
  | [.s (.one x),.s (.one y)],[t,t2]=>AiK E.hn (E.ti t) (E.ti t2) d x y
  | _,_=>.fail
 | .call ⟨.builtin .copy,as,ts⟩=>match as.toList.map ρ,ts.toList with
  | [.s (.one x),.s (.one y)],[t,t2]=>Aez (E.ti t) (E.ti t2) x y
  | _,_=>.fail
 | .call ⟨.builtin .min,as,_⟩=>(VF .min (as.toList.map ρ)).bind λx=>BE x
 | .call ⟨.builtin .max,as,_⟩=>(VF .max (as.toList.map ρ)).bind λx=>BE x
 | .call ⟨.value v,as,ts⟩=>match ρ v with
  | .s (.fv f cs)=>if as.size=ts.size then YO E d f cs ((as.toList.map ρ).zip ts.toList)else .fail
  | _=>.fail
 | .makeMap t none=>match E.ti t with
  | .map=>.ret ⟨.s (.one (.mh d)),[.m d],[.ms d [.md []]]⟩
  | _=>.fail
 | .lookup t x i false=>match ρ i with
  | .s (.one (.v (.int .i64) i))=>Ad8 (E.ti t) (ρ x) λ_ xs=>BE (.s (.one (.v (.int .i64) (C3 xs i))))
  | _=>.fail
 | .mapUpdate t x i y=>match ρ i,ρ y with
  | .s (.one (.v (.int .i64) i)),.s (.one (.v (.int .i64) y))=>Ad8 (E.ti t) (ρ x) λk xs=>.ret ⟨.no,[],[.mc k 0 (.md (DM xs i y))]⟩
  | _,_=>.fail
 | .entry (.tmp s)=>match Ze E.en s with
  | some p=>BE (.tu [.one (.v (.int .i64) p.1),.one (.v (.int .i64) p.2)])
  | none=>.fail
 | .makeFunc (.func f) first cs=>if first.isEmpty then match Uv (cs.toList.map ρ)with
  | some l=>BE (.s (.fv f l))
  | none=>.fail
  else .fail
 | _=>.fail
end Go.V
namespace Go.V
section loops
variable {σ τ:Type}
def Gl (f:σ->Option (σ⊕τ)):Nat->σ->Option τ
 | 0,_=>none
 | n+1,x=>match f x with
  | some (.inl y)=>Gl f n y
  | some (.inr z)=>some z
  | none=>none
open Classical in
noncomputable def Ab (f:σ->Option (σ⊕τ)) (x:σ):Option τ:=if h:∃n z,Gl f n x=some z then some h.choose_spec.choose else none
theorem UU (f:σ->Option (σ⊕τ)):∀n m x z,Gl f n x=some z->n<=m->Gl f m x=some z:=by
 intro n
 induction n with
 | zero=>intro m x z h;simp [Gl]at h
 | succ n ih=>
  intro m x z h hm;obtain ⟨m,rfl⟩:∃k,m=k+1:=⟨m - 1,O⟩
  simp only [Gl]at h ⊢;split at h
  .exact ih m _ z h O
  .exact h
  .cases h
theorem LE (f:σ->Option (σ⊕τ)) (x:σ) (z:τ):Ab f x=some z↔∃n,Gl f n x=some z:=by
 unfold Ab;constructor
 .intro h;split at h
  .rename_i hx;injection h with h
   exact⟨hx.choose,h ▸ hx.choose_spec.choose_spec⟩
  .cases h
 .rintro ⟨n,hn⟩;have hx:∃n z,Gl f n x=some z:=⟨n,z,hn⟩
  rw [dif_pos hx];have h1:=UU f _ (max n hx.choose) x _ hx.choose_spec.choose_spec O;have h2:=UU f _ (max n hx.choose) x _ hn O;rw [h1]at h2;exact h2
theorem Ay (f:σ->Option (σ⊕τ)) (x:σ):Ab f x=match f x with
  | some (.inl y)=>Ab f y
  | some (.inr z)=>some z
  | none=>none:=by
 apply Option.ext;intro z;rw [LE];constructor
 .rintro ⟨n,hn⟩;cases n with
  | zero=>simp [Gl]at hn
  | succ n=>
   simp only [Gl]at hn;split at hn
   .rename_i y _;exact(LE f y z).2 ⟨n,hn⟩
   .exact hn
   .cases hn
 .intro h;split at h
  .rename_i y hy;obtain ⟨n,hn⟩:=(LE f y z).1 h;exact⟨n+1,by simp only [Gl,hy];exact hn⟩
  .rename_i z' hz;exact⟨1,by simp only [Gl,hz];exact h⟩
  .cases h
open Classical in
noncomputable def PK {α:Type} (f:σ->α->Option σ) (xs:List α) (x:σ):Option σ:=if h:∃y,∀l:List α,l.Perm xs->l.foldlM f x=some y then some h.choose else none
theorem Vp {α:Type} {f:σ->α->Option σ} {xs:List α} {x y:σ} (h:PK f xs x=some y):∀l:List α,l.Perm xs->l.foldlM f x=some y:=by
 unfold PK at h;split at h
 .rename_i hx;injection h with h
  subst h;exact hx.choose_spec
 .cases h
end loops
inductive TL where
 | h (i:Nat) | vw (k:Nat) | nil | no | vs (k i f:Nat) | ww (k i j:Nat) | p (k off:Nat) | np | vq (k i f a b:Nat) | mh (k:Nat) | md (i:Nat)
inductive TS where
 | one (l:TL) | ag (ls:List TL) | pl (k off:Nat) | fv (f:FuncId) (cs:List (Nat×Nat)) | rp (i off:Nat)
inductive Pl where
 | sl (i:Nat) | ag (i j:Nat) | mc (k c:Nat)
 | pt (i:Nat) (ts:List Ty)
def MN (S:St):Pl->Leaf
 | .sl i=>match S.sl i with
  | .s (.one l)=>l
  | _=>.no
 | .ag i j=>match S.sl i with
  | .s (.ag ls)=>ls.getD j .no
  | _=>.no
 | .mc k c=>match S.ms k with
  | some n=>if c < n then S.mc k c else .no
  | none=>.no
 | .pt _ _=>.no
def St.setAt (S:St) (l:Leaf):Pl->St
 | .sl i=>S.put i (.s (.one l))
 | .ag i j=>match S.sl i with
  | .s (.ag ls)=>S.put i (.s (.ag (ls.set j l)))
  | _=>S
 | .mc k c=>S.up (.mc k c l)
 | .pt _ _=>S
def WW (S:St) (p:Pl):St:=
 match MN S p with
 | .vw k [] (some (lo,n))=>match S.ow k with
  | some o=>((S.kp [.all k]).up (.ow k (some ⟨o.e,o.r,(o.xs.drop lo).take n⟩))).setAt (.vw k [] none) p
  | none=>S
 | _=>S
def AaY (S:St):List Pl->St
 | []=>S
 | p::ps=>AaY (WW S p) ps
def Wp (S:St) (p:Pl):St:=
 match MN S p with
 | .vw k [] none=>match S.ow k with
  | some o=>((S.kp [.all k]).up (.ow k none)).setAt (.v (Ty.sl true o.e o.r).frz (Ju (.sl true o.e o.r) o.xs)) p
  | none=>S
 | _=>S
def MH (S:St) (k:Nat):List Ty->Nat->Option (List Ae)
 | [],_=>some []
 | t::ts,c=>match S.mc k c with
  | .v u x=>match MH S k ts (c+1)with
   | some ls=>some (⟨u,x⟩::ls)
   | none=>none
  | .nil=>match t with
   | .sl _ e r=>match MH S k ts (c+1)with
    | some ls=>some (⟨.sl false e r,[]⟩::ls)
    | none=>none
   | _=>none
  | _=>none
def St.drop (S:St) (k:Nat):St:=⟨(S.kp [.m k]).sl,λi=>if i=k then none else S.ms i,(S.kp [.m k]).mc,S.ow⟩
def Wu (S:St) (p:Pl):St:=
 match p with
 | .pt i ts=>match S.sl i with
  | .s (.pl k 0)=>match S.ms k,MH S k ts 0 with
   | some n,some ls=>if n=ts.length/\n≠0 then(S.drop k).put i (.s (.one (.v (.pt (CA ls).1) (some (CA ls).2))))else S
   | _,_=>S
  | _=>S
 | p=>Wp S p
def Aat (S:St):List Pl->St
 | []=>S
 | p::ps=>Aat (Wu S p) ps
structure Tpl where
 holes:List Ty
 slots:List (Nat×TS)
 mems:List (Nat×List TL)
 owns:List (Nat×Nat)
 nw:List Pl
 fz:List Pl
@[reducible] def Tpl.D (t:Tpl):Type:=(AW t.holes).D
def split:(ts:List Ty)->(AW ts).D->List Ae
 | [],_=>[]
 | [t],x=>[⟨t,x⟩]
 | t::u::ts,x=>⟨t,x.1⟩::split (u::ts) x.2
def find {β:Type}:List (Nat×β)->Nat->Option β
 | [],_=>none
 | (k,b)::l,i=>if i=k then some b else find l i
def Pm:Ae->Option Nat
 | ⟨.int .i64,n⟩=>some (Int.toNat n)
 | _=>none
def TL.inj (hs:List Ae):TL->Leaf
 | .vs k i f=>match hs[i]? with
  | some c=>match Pm c with
   | some n=>.vw k [(n,f)] none
   | none=>.no
  | none=>.no
 | .ww k i j=>match hs[i]? with
  | some c=>match hs[j]? with
   | some d=>match Pm c with
    | some a=>match Pm d with
     | some b=>.vw k [] (some (a,b))
     | none=>.no
    | none=>.no
   | none=>.no
  | none=>.no
 | .vq k i f a b=>match hs[i]? with
  | some c=>match hs[a]? with
   | some d=>match hs[b]? with
    | some g=>match Pm c with
     | some n=>match Pm d with
      | some x=>match Pm g with
       | some y=>.vw k [(n,f)] (some (x,y))
       | none=>.no
      | none=>.no
     | none=>.no
    | none=>.no
   | none=>.no
  | none=>.no
 | .h i=>match hs[i]? with
  | some c=>.v c.1 c.2
  | none=>.no
 | .vw k=>.vw k [] none
 | .nil=>.nil
 | .p k off=>.p k off
 | .np=>.np
 | .no=>.no
 | .mh k=>.mh k
 | .md i=>match hs[i]? with
  | some ⟨.mp,xs⟩=>.md xs
  | _=>.no
def TS.inj (hs:List Ae):TS->S1
 | .one l=>.one (l.inj hs)
 | .ag ls=>.ag (ls.map (TL.inj hs))
 | .pl k off=>.pl k off
 | .fv f cs=>.fv f cs
 | .rp i off=>match hs[i]? with
  | some c=>.rp c.1 c.2 off
  | none=>.one .no
def Am6:Ae->Option Own
 | ⟨.sl true e r,xs⟩=>some ⟨e,r,xs⟩
 | _=>none
def PS:List TL->Nat
 | [.md _]=>0
 | []=>1
 | row=>row.length
def Tpl.injH (t:Tpl) (hs:List Ae):St where
 sl i:=match find t.slots i with
  | some s=>.s (s.inj hs)
  | none=>.no
 ms k:=(find t.mems k).map PS
 mc k off:=match find t.mems k with
  | some row=>match row[off]? with
   | some l=>l.inj hs
   | none=>.no
  | none=>.no
 ow k:=match find t.owns k with
  | some h=>match hs[h]? with
   | some c=>Am6 c
   | none=>none
  | none=>none
def Tpl.inj (t:Tpl) (x:t.D):St:=t.injH (split t.holes x)
structure Mt where
 ro:List (Nat×Nat):=[]
 rm:List (Nat×Nat):=[]
 nl:List Nat:=[]
 vs:List (Nat×Ae):=[]
def Jw (l:List (Nat×Nat)) (a b:Nat):Option (List (Nat×Nat)):=
 match find l a with
 | some c=>if c=b then some l else none
 | none=>some ((a,b)::l)
def TL.mt (holes:List Ty) (m:Mt):TL->Leaf->Option Mt
 | .h i,.v t x=>some { m with vs:=(i,⟨t,x⟩)::m.vs }
 | .h i,.nil=>match holes[i]? with
  | some (.sl false e r)=>some { m with vs:=(i,⟨.sl false e r,[]⟩)::m.vs }
  | _=>none
 | .vw k,.vw k' [] none=>match Jw m.ro k k' with
  | some l=>some { m with ro:=l }
  | none=>none
 | .vw k,.nil=>some { m with nl:=k::m.nl }
 | .vs k i f,.vw k' [(n,g)] none=>if f=g then match Jw m.ro k k' with
  | some l=>some { m with ro:=l,vs:=(i,⟨.int .i64,(n:Int)⟩)::m.vs }
  | none=>none
  else none
 | .ww k i j,.vw k' [] (some (a,b))=>match Jw m.ro k k' with
  | some l=>some { m with ro:=l,vs:=(i,⟨.int .i64,(a:Int)⟩)::(j,⟨.int .i64,(b:Int)⟩)::m.vs }
  | none=>none
 | .vq k i f x y,.vw k' [(n,g)] (some (a,b))=>if f=g then match Jw m.ro k k' with
  | some l=>some { m with ro:=l,vs:=(i,⟨.int .i64,(n:Int)⟩)::(x,⟨.int .i64,(a:Int)⟩)::(y,⟨.int .i64,(b:Int)⟩)::m.vs }
  | none=>none
  else none
 | .nil,.nil=>some m
 | .np,.np=>some m
 | .h i,.np=>match holes[i]? with
  | some (.pt t)=>some { m with vs:=(i,⟨.pt t,none⟩)::m.vs }
  | _=>none
 | .p k off,.p k' off'=>if off=off' then(match Jw m.rm k k' with
  | some l=>some { m with rm:=l }
  | none=>none)else none
 | .no,_=>some m
 | .mh k,.mh k'=>match Jw m.rm k k' with
  | some l=>some { m with rm:=l }
  | none=>none
 | .md i,.md xs=>some { m with vs:=(i,⟨.mp,xs⟩)::m.vs }
 | _,_=>none
def TL.mts (holes:List Ty):Mt->List TL->List Leaf->Option Mt
 | m,[],[]=>some m
 | m,t::ts,l::ls=>match t.mt holes m l with
  | some m'=>TL.mts holes m' ts ls
  | none=>none
 | _,_,_=>none
def TS.mt (holes:List Ty) (m:Mt):TS->SV->Option Mt
 | .one t,.s (.one l)=>t.mt holes m l
 | .ag ts,.s (.ag ls)=>TL.mts holes m ts ls
 | .pl k off,.s (.pl k' off')=>if off=off' then(match Jw m.rm k k' with
  | some l=>some { m with rm:=l }
  | none=>none)else none
 | .fv f cs,.s (.fv f' cs')=>if f=f'/\cs=cs'/\cs.all (λp=>find m.rm p.1 == some p.1)then some m else none
 | .rp i off,.s (.rp t x off')=>if off=off' then some { m with vs:=(i,⟨t,x⟩)::m.vs }else none
 | _,_=>none
def Pi (holes:List Ty) (S:St):List (Nat×TS)->Mt->Option Mt
 | [],m=>some m
 | (i,t)::l,m=>match t.mt holes m (S.sl i)with
  | some m'=>Pi holes S l m'
  | none=>none
def P1 (holes:List Ty) (S:St) (k:Nat):List TL->Nat->Mt->Option Mt
 | [],_,m=>some m
 | t::ts,c,m=>match t.mt holes m (S.mc k c)with
  | some m'=>P1 holes S k ts (c+1) m'
  | none=>none
def RE (holes:List Ty) (S:St):List (Nat×List TL)->Mt->Option Mt
 | [],m=>some m
 | (κ,row)::l,m=>match find m.rm κ with
  | some k=>if S.ms k=some (PS row)then match P1 holes S k row 0 m with
   | some m'=>RE holes S l m'
   | none=>none
   else none
  | none=>none
def RL (holes:List Ty) (S:St):List (Nat×Nat)->Mt->Option Mt
 | [],m=>some m
 | (κ,h)::l,m=>match find m.ro κ with
  | some k=>match S.ow k with
   | some o=>RL holes S l { m with vs:=(h,⟨.sl true o.e o.r,o.xs⟩)::m.vs }
   | none=>none
  | none=>if m.nl.contains κ then match holes[h]? with
   | some (.sl true e r)=>RL holes S l { m with vs:=(h,⟨.sl true e r,[]⟩)::m.vs }
   | _=>none
   else none
def tuple (vs:List (Nat×Ae)):(ts:List Ty)->Nat->Option (AW ts).D
 | [],_=>some ()
 | [t],i=>match find vs i with
  | some ⟨u,x⟩=>if h:u=t then some (h ▸ x)else none
  | none=>none
 | t::u::ts,i=>match find vs i with
  | some ⟨u',x⟩=>if h:u'=t then match tuple vs (u::ts) (i+1)with
   | some y=>some (h ▸ x,y)
   | none=>none
   else none
  | none=>none
def Tpl.mt (t:Tpl) (S:St):Option Mt:=
 match Pi t.holes S t.slots { rm:=t.mems.map λp=>(p.1,p.1) }with
 | some m=>match RE t.holes S t.mems m with
  | some m=>RL t.holes S t.owns m
  | none=>none
 | none=>none
def Mt.fine (t:Tpl) (m:Mt):Bool:=
 AO (m.vs.map (·.1)) && m.vs.all (λp=>decide (p.1 < t.holes.length)) && AO (m.ro.map (·.1)) && AO (m.ro.map (·.2)) && AO (m.rm.map (·.1)) && AO (m.rm.map (·.2)) &&
 m.nl.all (λk=>!(m.ro.map (·.1)).contains k && (find t.owns k).isSome) && m.ro.all (λp=>(find t.owns p.1).isSome) && m.rm.all (λp=>(find t.mems p.1).isSome) && m.rm.all (λp=>p.1 == p.2)
def Tpl.prj0 (t:Tpl) (S:St):Option t.D:=
 match t.mt S with
 | some m=>if m.fine t then tuple m.vs t.holes 0 else none
 | none=>none
def Tpl.prj (t:Tpl) (S:St):Option t.D:=t.prj0 (Aat (AaY S t.nw) t.fz)
inductive Ex where
 | n | x (id:Nat) | r
 deriving DecidableEq
abbrev Joins:=List (Ex×Tpl)
@[reducible] def Joins.D:Joins->Type
 | []=>Empty
 | [a]=>a.2.D
 | a::b::l=>a.2.D⊕Joins.D (b::l)
def Joins.prj:(J:Joins)->Ex->St->Option J.D
 | [],_,_=>none
 | [a],e,S=>if e=a.1 then a.2.prj S else none
 | a::b::l,e,S=>match (if e=a.1 then a.2.prj S else none)with
  | some x=>some (.inl x)
  | none=>match Joins.prj (b::l) e S with | some x=>some (.inr x) | none=>none
def Joins.inj:(J:Joins)->J.D->Tr (Ex×St)
 | [],x=>nomatch x
 | [a],x=>.ret (a.1,a.2.inj x)
 | a::b::l,s=>.alt a.2.D (Joins.D (b::l)) s (λx=>.ret (a.1,a.2.inj x)) (λy=>Joins.inj (b::l) y)
def Nb (J:Joins) (t:Tr (Ex×St)):Tr (Ex×St):=
 match J with
 | []=>t
 | a::l=>.get (Joins.D (a::l)) (t.bind λr=>Tr.opt (Joins.prj (a::l) r.1 r.2)).run (Joins.inj (a::l))
inductive Ann where
 | nil
 | seq (a b:Ann)
 | cond (J:Joins) (a b:Ann)
 | block (J:Joins) (a:Ann)
 | loop (t:Tpl) (J:Joins) (a:Ann)
 | reg (J:Joins)
 | both (J:Joins) (r a b y z:Ann)
 | mloop (t:Tpl) (a:Ann)
def SA (ops:Array Oper) (j:Nat):Option Nat:=(ops[j]?).bind (·.dst)
structure Rec where
 o:Oper
 ins:List SV
 out:Out
 lg:List Lg
def Sn (E:Env) (N:Nat) (o:Oper):Bool:=match o.dst with
 | some d=>decide (d < N) && !E.fx.contains d
 | none=>true
def AdW (E:Env) (N:Nat) (o:Oper) (S:St):Tr (Out×List Lg):=(Km E (Cu S) (o.dst.getD N) o.op).at S []
def YH:Out:=⟨.un,[],[]⟩
def AmY (o:Oper) (S:St) (r:Out×List Lg):Rec:=⟨o,o.op.operands.toList.map (Cu S),r.1,r.2⟩
def Akx (o:Oper):Rec:=⟨o,[],YH,[]⟩
def AaE (E:Env) (N:Nat) (o:Oper) (S:St):Tr (St×Rec):=(AdW E N o S).bind λr=>.ret (S.app o.dst r.1,AmY o S r)
def AaX (o:Oper) (S:St):Tr (St×Rec):=.ret (S.app o.dst YH,Akx o)
def YG (E:Env) (N:Nat) (ops:Array Oper) (o:Oper) (S:St):Tr (St×Rec):=
 if Sn E N o then match o.guard with
  | none=>AaE E N o S
  | some (j,want)=>match SA ops j with
   | some g=>match S.sl g with
    | .s (.one (.v .bool b))=>
     .br b (if want then AaE E N o (S.put g (.s (.one (.v .bool true))))else AaX o (S.put g (.s (.one (.v .bool true)))))
      (if want then AaX o (S.put g (.s (.one (.v .bool false))))else AaE E N o (S.put g (.s (.one (.v .bool false)))))
    | .un=>AaX o S
    | _=>.fail
   | none=>.fail
  else .fail
def WV (E:Env) (N:Nat) (ops:Array Oper):List Oper->St->Tr St
 | [],S=>.ret S
 | o::os,S=>(YG E N ops o S).bind λr=>WV E N ops os r.1
def Aa9 (E:Env) (N:Nat) (ops:Array Oper):List Oper->St->List Rec->Tr (St×List Rec)
 | [],S,l=>.ret (S,l.reverse)
 | o::os,S,l=>(YG E N ops o S).bind λr=>Aa9 E N ops os r.1 (r.2::l)
def Leaf.safe (c:List Kl):Leaf->Bool
 | .vw k st _=>c.all (λx=>x.okV k st)
 | .p k _=>c.all (λx=>x.okM k)
 | .mh k=>c.all (λx=>x.okM k)
 | _=>true
def S1.safe (c:List Kl):S1->Bool
 | .one l=>l.safe c
 | .ag ls=>ls.all (Leaf.safe c)
 | .pl k _=>c.all (λx=>x.okM k)
 | .el k st=>c.all (λx=>x.okE k st)
 | .rp ..=>true
 | .fv _ cs=>c.all (λx=>cs.all λp=>x.okM p.1)
def SV.safe (c:List Kl):SV->Bool
 | .s x=>x.safe c
 | .tu xs=>xs.all (S1.safe c)
 | .un=>true
 | .no=>true
def U.safe (c:List Kl):U->Bool
 | .mc _ _ l=>l.safe c
 | .ms _ row=>row.all (Leaf.safe c)
 | .ow ..=>true
def Lg.safe (c:List Kl):Lg->Bool
 | .c _ _ l=>l.safe c
 | _=>true
def U.hits:U->Lg->Bool
 | .ow k _,.o k'=>k == k'
 | .mc k off _,.c k' off' _=>k == k' && off == off'
 | .ms k _,.c k' _ _=>k == k'
 | .ms k _,.m k'=>k == k'
 | _,_=>false
def U.meets:U->U->Bool
 | .ow k _,.ow k' _=>k == k'
 | .mc k off _,.mc k' off' _=>k == k' && off == off'
 | .ms k _,.mc k' _ _=>k == k'
 | .mc k _ _,.ms k' _=>k == k'
 | .ms k _,.ms k' _=>k == k'
 | _,_=>false
def Leaf.whole:Leaf->Bool
 | .no=>false
 | _=>true
def S1.whole:S1->Bool
 | .one l=>l.whole
 | .ag ls=>ls.all Leaf.whole
 | _=>true
def SV.whole:SV->Bool
 | .s x=>x.whole
 | .tu xs=>xs.all S1.whole
 | .un=>true
 | .no=>false
def Lg.whole:Lg->Bool
 | .c _ _ l=>l.whole
 | _=>true
def Rec.past (a b:Rec):Bool:=
 (b.out.ks.isEmpty || (a.ins.all SV.whole && a.lg.all Lg.whole)) &&
 a.ins.all (SV.safe b.out.ks) && a.out.x.safe b.out.ks && a.lg.all (Lg.safe b.out.ks) && a.out.us.all (U.safe b.out.ks) &&
 a.lg.all (λl=>b.out.us.all λu=>!u.hits l)
def Rec.apart (a b:Rec):Bool:=
 a.past b && b.past a && a.out.us.all (λu=>b.out.us.all λu'=>!u.meets u')
def Mg (acc:List Nat) (o:Oper):Nat:=o.after.toList.foldl (λm e=>if Region.binds .any e then m ||| ((1 <<< e.on) ||| acc.getD e.on 0)else m) 0
def ahead:List Oper->List Nat->List Nat
 | [],acc=>acc
 | o::os,acc=>ahead os (acc++[Mg acc o])
def PD:List Oper->Nat->Bool
 | [],_=>true
 | o::os,n=>o.after.toList.all (λe=>!Region.binds .any e || decide (e.on < n)) && PD os (n+1)
def Jd (ops:Array Oper) (o:Oper):List Nat:=
 o.op.operands.toList.filterMap (fun | .tmp t=>some t | _=>none)++(match o.guard with | some (j,_)=>(SA ops j).toList | none=>[])
def Ja (ops:Array Oper) (a b:Oper):Bool:=
 (match a.dst with | some d=>!(Jd ops b).contains d && !(b.dst == some d) | none=>true) &&
 (match b.dst with | some d=>!(Jd ops a).contains d | none=>true)
def Jm (ops:Array Oper) (b:List Nat):List (Nat×Rec)->Bool
 | []=>true
 | (i,a)::l=>l.all (λp=>(b.getD p.1 0).testBit i || (Ja ops a.o p.2.o && a.apart p.2)) && Jm ops b l
def DV {β:Type}:List β->Nat->List (Nat×β)
 | [],_=>[]
 | x::l,n=>(n,x)::DV l (n+1)
def Ms (E:Env) (N:Nat) (ops:Array Oper) (draw:Bool) (S:St):Tr St:=
 if draw then(Aa9 E N ops ops.toList S []).bind λr=>if Jm ops (ahead ops.toList []) (DV r.2 0) && PD ops.toList 0 then .ret r.1 else .fail
 else WV E N ops ops.toList S
def Zk (E:Env) (N:Nat) (S:St):Option Oper->Tr (Nat×Nat×List (Int×Int))
 | some ⟨some it,.range ty x,_,_,_,none⟩=>if it < N/\E.fx.contains it=false then match E.ti ty,Cu S x with
  | .map,.s (.one (.mh k))=>if S.ms k=some 0 then match S.mc k 0 with
   | .md xs=>.ret (it,k,xs)
   | _=>.fail
   else .fail
  | _,_=>.fail
  else .fail
 | _=>.fail
def Uq (E:Env) (N it:Nat) (c:Operand):List Oper->Option (Nat×Nat)
 | [⟨some p,.next (.tmp i) false,_,_,_,none⟩,⟨some q,.extract (.tmp p') 0,_,_,_,none⟩]=>match c with
  | .tmp q'=>if(i=it/\q'=q/\p'=p/\p < N/\q < N/\p≠it/\q≠it)/\E.fx.contains p=false/\E.fx.contains q=false then some (p,q)else none
  | _=>none
 | _=>none
open Classical in
noncomputable def GW {α:Type} (e:Bool) (a b:Option α):Option α:=if e=true then(if a=b then b else none)else b
noncomputable def AJ:Env->Nat->Ann->Code->St->Tr (Ex×St)
 | E,N,_,.skip,S=>.ret (.n,S)
 | E,N,.reg J,.region _ ops draw,S=>Nb J ((Ms E N ops draw S).bind λS=>.ret (.n,S))
 | E,N,_,.region _ ops draw,S=>(Ms E N ops draw S).bind λS=>.ret (.n,S)
 | E,N,.seq x y,.seq a b,S=>(AJ E N x a S).bind λr=>match r.1 with
  | .n=>AJ E N y b r.2
  | e=>.ret (e,r.2)
 | E,N,.nil,.seq a b,S=>(AJ E N .nil a S).bind λr=>match r.1 with
  | .n=>AJ E N .nil b r.2
  | e=>.ret (e,r.2)
 | E,N,.cond J x y,.cond c a b,S=>match Cu S c with
  | .s (.one (.v .bool c))=>Nb J (.br c (AJ E N x a S) (AJ E N y b S))
  | .s (.one (.qn e))=>.get (Joins.D J) (GW e ((AJ E N x a S).bind λr=>Tr.opt (Joins.prj J r.1 r.2)).run ((AJ E N y b S).bind λr=>Tr.opt (Joins.prj J r.1 r.2)).run) (Joins.inj J)
  | _=>.fail
 | E,N,.nil,.cond c a b,S=>match Cu S c with
  | .s (.one (.v .bool c))=>.br c (AJ E N .nil a S) (AJ E N .nil b S)
  | _=>.fail
 | E,N,.both J xr xa xb y z,.seq (.seq r (.cond c a b)) d,S=>(AJ E N xr r S).bind λq=>match q.1 with
  | .n=>match Cu q.2 c with
   | .s (.one (.qn e))=>.get (Joins.D J) (GW e
     (((AJ E N xa a q.2).bind λp=>match p.1 with | .n=>AJ E N y d p.2 | e=>.ret (e,p.2)).bind λt=>Tr.opt (Joins.prj J t.1 t.2)).run
     (((AJ E N xb b q.2).bind λp=>match p.1 with | .n=>AJ E N z d p.2 | e=>.ret (e,p.2)).bind λt=>Tr.opt (Joins.prj J t.1 t.2)).run) (Joins.inj J)
   | _=>.fail
  | e=>.ret (e,q.2)
 | E,N,.block J x,.block id a,S=>Nb J ((AJ E N x a S).bind λr=>.ret (if r.1=.x id then .n else r.1,r.2))
 | E,N,.nil,.block id a,S=>(AJ E N .nil a S).bind λr=>.ret (if r.1=.x id then .n else r.1,r.2)
 | E,N,.loop t J x,.loop a,S=>match t.prj S with
  | some x0=>.get (Joins.D J) (Ab (λy:t.D=>((AJ E N x a (t.inj y)).bind λr=>match r.1 with
    | .n=>Tr.opt (match t.prj r.2 with | some z=>some (Sum.inl (β:=Joins.D J) z) | none=>none)
    | e=>Tr.opt (match J.prj e r.2 with | some z=>some (Sum.inr (α:=t.D) z) | none=>none)).run) x0) J.inj
  | none=>.fail
 | E,N,.mloop t y,.seq (.region _ rops false) (.block ib (.loop (.seq (.region _ nops false) (.seq (.cond cnd .skip (.exit id2)) d)))),S=>
  (WV E N rops rops.toList.dropLast S).bind λS1=>(Zk E N S1 rops.toList.getLast?).bind λq=>match Uq E N q.1 cnd nops.toList,t.prj ((S1.drop q.2.1).put q.1 .no)with
   | some pq,some x0=>if id2=ib then
     .get t.D (PK (λ(z:t.D) (e:Int×Int)=>((AJ { E with fx:=q.1::E.fx,en:=(q.1,e)::E.en } N y d (((t.inj z).put pq.1 .no).put pq.2 .no)).bind λr=>match r.1 with
      | .n=>Tr.opt (t.prj r.2)
      | _=>.fail).run) q.2.2 x0) λz=>.ret (.n,((t.inj z).put pq.1 .no).put pq.2 .no)
    else .fail
   | _,_=>.fail
 | E,N,_,.exit id,S=>.ret (.x id,S)
 | E,N,_,.ret,S=>.ret (.r,S)
 | _,_,_,_,_=>.fail
def blank:St:=⟨λ_=>.no,λ_=>none,λ_ _=>.no,λ_=>none⟩
def IZ:List S1->Nat->St->St
 | [],_,S=>S
 | x::xs,i,S=>IZ xs (i+1) (S.put i (.s x))
def Pw (N:Nat) (as:List A1) (rows:List (List Ae)):Option St:=
 match IV ((List.range rows.length).map λm=>(N+1+m,0)) (kd (N+2) 0) as,F5 ((List.range rows.length).map λm=>(N+1+m,0)) (kd (N+2) 512) ((List.range rows.length).map λm=>(N+1+m,0)) rows with
 | some vs,some rs=>if AO ((vs.2++rs.2).map (·.1)) && rows.all (λr=>!r.isEmpty)then some (IZ vs.1 0 ((blank.ups (HI (vs.2++rs.2))).ups (rs.1.map λp=>.ms p.1.1 p.2)))else none
 | _,_=>none
def OV (t:Ty):Leaf->Tr (Ae×List Nat)
 | .v u x=>.ret (⟨u,x⟩,[])
 | .nil=>match t with
  | .sl _ e r=>.ret (⟨.sl true e r,[]⟩,[])
  | _=>.fail
 | .vw k [] win=>(E6 k [] win).bind λo=>.ret (⟨.sl true o.e o.r,o.xs⟩,[k])
 | _=>.fail
def Su (N M:Nat) (t:Ty):Leaf->Tr (Ae×List Nat)
 | .p k off=>if N+1<=k/\k < N+1+M then .ret (⟨.lp,(k - (N+1),off)⟩,[])else .fail
 | .mh k=>if N+1<=k/\k < N+1+M then .ret (⟨.mh,k - N⟩,[])else .fail
 | .md xs=>.ret (⟨.mp,xs⟩,[])
 | l=>OV t l
def Hp:List Ty->List Leaf->Tr (List Ae×List Nat)
 | [],[]=>.ret ([],[])
 | t::ts,l::ls=>(OV t l).bind λx=>(Hp ts ls).bind λy=>.ret (x.1::y.1,x.2++y.2)
 | _,_=>.fail
def Vt (E:Env) (N M:Nat) (t:TypeId):SV->Tr (A1×List Nat)
 | .s (.one l)=>(OV ((((E.ti t).cells).getD []).headD .unit) l).bind λx=>.ret (.one x.1,x.2)
 | .s (.ag ls)=>(Hp (((E.ti t).cells).getD []) ls).bind λx=>.ret (.ag x.1,x.2)
 | .s (.pl k off)=>if N+1<=k/\k < N+1+M then .ret (.pl (k - (N+1)) off,[])else .fail
 | _=>.fail
def HY (E:Env) (N M:Nat) (S:St):List ResultVar->List TypeId->Tr (List A1×List Nat)
 | [],[]=>.ret ([],[])
 | .tmp s::rs,t::ts=>(Vt E N M t (S.sl s)).bind λx=>(HY E N M S rs ts).bind λy=>.ret (x.1::y.1,x.2++y.2)
 | .cell s t'::rs,t::ts=>match S.sl s,(E.ti t').vcells with
  | .s a,some cs=>if cs.isEmpty then .fail else(if(E.ti t').isAgg then(KK a cs.length 0).bind λls=>Tr.ret (SV.s (.ag ls))else(Hj a 0).bind VK).bind λv=>
   (Vt E N M t v).bind λx=>(HY E N M S rs ts).bind λy=>.ret (x.1::y.1,x.2++y.2)
  | _,_=>.fail
 | _,_=>.fail
def TH:List Ae->Nat
 | [⟨.mp,_⟩]=>0
 | r=>r.length
def Ph (N M:Nat) (k:Nat):List Ae->Nat->Tr (List Ae×List Nat)
 | [],_=>.ret ([],[])
 | r::rs,c=>.rdC k c λl=>(Su N M r.1 l).bind λx=>(Ph N M k rs (c+1)).bind λy=>.ret (x.1::y.1,x.2++y.2)
def OY (N M:Nat):List (List Ae)->Nat->Tr (List (List Ae)×List Nat)
 | [],_=>.ret ([],[])
 | r::rs,m=>.rdM (N+1+m) λn=>if n=some (TH r)then(Ph N M (N+1+m) r 0).bind λx=>(OY N M rs (m+1)).bind λy=>.ret (x.1::y.1,x.2++y.2)
  else .fail
def Afz (S:St) (p:Nat×Nat):Leaf:=match S.sl p.1 with
 | .s (.one l)=>if p.2=0 then l else .no
 | .s (.ag ls)=>ls.getD p.2 .no
 | _=>.no
def M1 (S:St):List (Nat×Nat)->Tr (List ((Nat×Nat)×Ae)×List Nat)
 | []=>.ret ([],[])
 | p::ps=>match Afz S p with
  | .vw k [] none=>(E6 k [] none).bind λo=>(M1 S ps).bind λy=>.ret ((p,⟨.sl true o.e o.r,o.xs⟩)::y.1,k::y.2)
  | _=>.fail
def ZM (E:Env) (N:Nat) (fn:Func) (rows:List (List Ae)) (ln:List (Nat×Nat)) (S:St):Tr Res:=
 (((HY E N rows.length S fn.results.toList fn.resultTypes.toList).bind λv=>(OY N rows.length rows 0).bind λr=>(M1 S ln).bind λt=>Tr.ret (v,r,t)).at S []).bind λp=>
  if AO (p.1.1.2++(p.1.2.1.2++p.1.2.2.2))then .ret ⟨p.1.1.1,p.1.2.1.1,p.1.2.2.1⟩else .fail
noncomputable def Aeg (E:Env) (fn:Func) (J:Joins) (ann:Ann) (ln:List (Nat×Nat)) (args:List A1) (rows:List (List Ae)):Tr Res:=
 match fn.body with
 | some c=>if(args.length=fn.params.size+fn.nfree/\args.length<=fn.ntmps)/\(E.en.isEmpty && ln.all (λp=>E.fx.contains p.1 && decide (p.1 < args.length)))=true then
  match Pw fn.ntmps args rows with
  | some S=>(Nb J ((AJ E fn.ntmps ann c S).bind λr=>.ret (match r.1 with | .n=>.r | e=>e,r.2))).bind λr=>match r.1 with
   | .x _=>.fail
   | _=>ZM E fn.ntmps fn rows ln r.2
  | none=>.fail
  else .fail
 | none=>.fail
end Go.V